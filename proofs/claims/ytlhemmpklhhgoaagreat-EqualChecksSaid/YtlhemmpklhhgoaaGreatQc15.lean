/-
  A PART OF THE PROOF. Conditions: none.
-/
import Derived.Shelf.Sort.Plain
import Derived.Shelf.Slices.In.SortNone
import Derived.Test.YtlhemmpklhhgoaaGreatQc14
set_option linter.unusedSimpArgs false
set_option linter.unusedVariables false
namespace Go.Proofs.YtlhemmpklhhgoaaGreat
section
theorem yq{σ:Type}(l:List Tm)(hl:l.length<=9223372036854775807)(g:Nat)(cp:List V)(base:Nat)(H:σ->Nat->aa)(step:σ->Tm->σ×Bool)(hc:∀r∈V.aO cp,r<base)(ok:σ->Prop)(aP:∀x∈l,∀s,ok s->(step s x).2=true->ok (step s x).1)
 (h:∀x∈l,∀s,ok s->rV Tryz.prog g (.d x.d::cp) base (H s) (H (step s x).1) (.d (.bool (step s x).2))) (s:σ) (my:ok s):
 rV Tryz.prog 169 [.d (.sl (l.map Tm.d)), .func (.func g) [] cp] base (H s) (H (aD step s l).1) (.d (.bool (aD step s l).2)):=by
 intro o nx hI K X hK
 have nk:∀r∈V.aO cp,r<nx:=fun r hr=>Nat.lt_of_lt_of_le (hc r hr) hI.le
 refine dV.aN mix KZ aK ?_
 rw[NZ]
 refine bX ?_
 refine aL (fun i:Nat×σ×(Nat->aa)×Nat=>⟨bc [.ab, .func (.func g) [] cp, .ab, .ab, .ab, .ab, .ab, .d (.sl (l.map Tm.d)), .d (.i l.length), .d (.i i.1)],i.2.2.1,i.2.2.2⟩)
  (fun i=>i.1<=l.length/\dR base (H i.2.1) i.2.2.1 i.2.2.2/\nx<=i.2.2.2/\(∀id,base<=id->id<nx->i.2.2.1 id=o id)/\aD step s l=aD step i.2.1 (l.drop i.1)/\ok i.2.1) (fun i=>l.length - i.1) (0,s,o,nx)
  ⟨Nat.zero_le _,hI,Nat.le_refl _,fun _ _ _=>rfl,rfl,my⟩ ?_ ?_
 ·exact LW
 rintro⟨k,s',o',nx'⟩ ⟨hk,GR,hn,cC,hf,rX⟩
 simp only at hk GR hn cC hf rX
 refine bX ?_
 refine ak (fun h1=> ?_) (fun h1=> ?_)
 ·simp at h1
  obtain⟨x,hx⟩:=aH h1
  have gv:=List.mem_of_getElem? hx
  have hd:l.drop k=x::l.drop (k+1):=by
   exact LQ
  refine Lw hx ?_
  have XH:=GR.le
  refine kO (h x gv s' rX _ _ (?_:dR base (H s') _ (nx'+7)) _ _ fun o2 n2 m1 m2 m3=> ?_)
  ·exact QK
  have FW:∀id,base<=id->id<nx->o2 id=o id:=fun id h2 h3=>by
   exact QV
  refine bX ?_
  refine ak (fun h2=> ?_) (fun h2=> ?_)
  ·refine bX ?_
   simp at h2
   have:aD step s l=((step s' x).1,false):=by rw[hf,hd,aD,if_neg (by rw[h2];exact Bool.false_ne_true)]
   rw[this]at hK
   exact hK _ _ af (m2.mono af) FW
  ·refine bX ?_
   simp at h2
   have:aD step s l=aD step (step s' x).1 (l.drop (k+1)):=by rw[hf,hd,aD,if_pos h2]
   refine ax (k+1,(step s' x).1,o2,n2) ⟨h1,m2,by dsimp only;omega,FW,this,aP x gv s' rX h2⟩ qH ?_
   dsimp only
   have Lg:∀r∈V.aO cp,r<n2:=fun r hr=>by have:=nk r hr;omega
   refine bM.bP _ af af m2.bZ (fun _ _=>rfl) ?_
   exact ec
 ·exact RB
theorem vX{α σ:Type}(step:σ->α->σ×Bool)(a b:List α):∀s,aD step s (a++b)=if(aD step s a).2=true then aD step (aD step s a).1 b else((aD step s a).1,false):=by
 induction a with
 |nil=>intro s;simp[aD]
 |cons x a ih=>
  intro s
  simp only[List.cons_append,aD]
  split
  ·exact ih _
  ·rename_i h;simp
theorem rY{α β σ:Type}(step:σ->β->σ×Bool)(f:α->List β)(l:List α):∀s,aD step s (l.flatMap f)=aD (fun s x=>aD step s (f x)) s l:=by
 induction l with
 |nil=>intro s;rfl
 |cons x l ih=>intro s;simp only[List.flatMap_cons,vX,aD,ih]
theorem wL{α σ:Type}{step:σ->α->σ×Bool}{ok:σ->Prop}:∀ (l:List α),(∀x∈l,∀s,ok s->(step s x).2=true->ok (step s x).1)->∀s,ok s->(aD step s l).2=true->ok (aD step s l).1
 |[],_,s,h,_=>h
 |x::l,aP,s,h,h2=>by
  simp only[aD]at h2|-
  split at h2
  ·rename_i hb
   rw[if_pos hb]
   exact wL l (fun y hy=>aP y lS) _ (aP x aK s h hb) h2
  ·cases h2
def WB(P:Program)(rZ:Nat)(args:List V)(base:Nat)(h h2:Nat->aa)(v:V):Prop:=
 ∀o nx,dR base h o nx->∀K X,Vo base h2 v o nx K->cV P rZ args o nx K X
section
variable {σ:Type}(base rZ:Nat)(H:σ->Nat->aa)(step:σ->Tm×Int->σ×Bool)(ok:σ->Prop)
theorem It:∀t:Tm,t.fits->∀d:Int,0<=d->d+t.mS<=1000000->(∀x∈pre t d,∀s,ok s->(step s x).2=true->ok (step s x).1)->(∀x∈pre t d,∀s,ok s->WB Tryz.prog rZ [.d x.1.d, .d (.i x.2)] base (H s) (H (step s x).1) (.d (.bool (step s x).2)))->rZ<base->
 ∀ (c:Nat) (o0:Nat->aa) (yb vb:Nat),base<=c->base<=yb->yb<c->base<=vb->vb<c->o0 yb= .row [.jc rZ]->o0 vb= .row [.func (.func 173) [] [.ptr yb 0, .ptr vb 0]]->
 ∀s,ok s->rV Tryz.prog 173 [.d t.d, .d (.i d), .ptr yb 0, .ptr vb 0] c (ext base (H s) o0) (ext base (H (aD step s (pre t d)).1) o0) (.d (.bool (aD step s (pre t d)).2)):=by
 refine Tm.fe fun t ih hf d hd0 hd aP hR Am c o0 yb vb hbc WC hy WD hv oy ov s my=> ?_
 have sZ:=(Tm.bA _).1 hf
 intro o nx hI K X hK
 have hle:=hI.le
 have Qf:o yb= .row [.jc rZ]:=by rw[hI.eq yb hy];unfold ext;rw[if_neg (by omega),oy]
 have Oq:o vb= .row [.func (.func 173) [] [.ptr yb 0, .ptr vb 0]]:=by rw[hI.eq vb hv];unfold ext;rw[if_neg (by omega),ov]
 have y1:yb≠nx:=af
 have y2:∀k,yb≠nx+k:=fun k=>af
 have y3:vb≠nx:=af
 have y4:∀k,vb≠nx+k:=fun k=>af
 refine dV.aN mix K4 aK ?_
 rw[N3]
 simp+contextual only[go_sem,Qf,Oq,y1,y2,y3,y4,Nat.add_assoc,Nat.left_eq_add,Nat.add_eq_left,Nat.add_left_cancel_iff]
 have qm:=kP t d
 have sR:∀k∈t.kids,∀x∈pre k (d+1),x∈pre t d:=fun k hk x hx=>by
  rw[qm];exact List.mem_cons_of_mem _ (List.mem_flatMap.2 ⟨k,hk,hx⟩)
 have hb:∀id,id<base->o id=H s id:=fun id aq=>by rw[hI.eq id (by omega)];unfold ext;rw[if_pos aq]
 have WE:dR base (H s) o nx:=⟨hI.bZ,af,hb⟩
 refine pS (hR (t,d) (by rw[qm];simp) s my _ _ ((WE.aM (i:=nx) (m:=nx+6) af af af rfl).aM (i:=nx+1) af af af rfl) _ _ fun o2 n2 m1 m2 m3=> ?_)
 have k0:o2 nx= .row t.row:=by rw[m3 nx (by omega) (by omega),ah _ _ _ _ (by omega),ag]
 have k1:o2 (nx+1)= .row [.d (.i d)]:=by rw[m3 (nx+1) (by omega) (by omega),ag]
 have hold:∀id,base<=id->id<nx->o2 id=o id:=fun id h1 h2=>by rw[m3 id h1 (by omega),ah _ _ _ _ (by omega),ah _ _ _ _ (by omega)]
 have DG:∀id,base<=id->id<c->o id=o0 id:=fun id h1 h2=>by rw[hI.eq id h2];unfold ext;rw[if_neg (by omega)]
 cases DK:(step s (t,d)).2 with
 |false=>
  refine iO DK ?_
  have B0:aD step s (pre t d)=((step s (t,d)).1,false):=by rw[qm,aD,if_neg (by rw[DK];exact Bool.false_ne_true)]
  rw[B0]at hK
  refine hK _ _ af ⟨m2.bZ.mono af,af,fun id aq=> ?_⟩ (fun id h1 h2=>hold id af h2)
  unfold ext
  split
  ·exact m2.eq id (by assumption)
  ·exact G7
 |true=>
  have B0:aD step s (pre t d)=aD (fun s k=>aD step s (pre k (d+1))) (step s (t,d)).1 t.kids:=by rw[qm,aD,if_pos DK,rY]
  simp+contextual only[go_sem,DK,k0,k1]
  have q0:o2 yb= .row [.jc rZ]:=by rw[hold yb WC (by omega),Qf]
  have q1:o2 vb= .row [.func (.func 173) [] [.ptr yb 0, .ptr vb 0]]:=by rw[hold vb WD (by omega),Oq]
  have m0:=m2.le
  refine bT (yq t.kids sZ.1 174 [.ptr vb 0, .ptr (nx+1) 0] n2 (fun s=>ext base (H s) o2) (fun s k=>aD step s (pre k (d+1))) ?_ ok ?_ ?_ (step s (t,d)).1 (aP (t,d) (by rw[qm];simp) s my DK) _ _ ?_ _ _ ?_)
  ·exact AZ
  ·exact Q4
  ·intro k hk s' iw o3 n3 WG K3 X3 hK3
   have l3:=WG.le
   have r0:o3 vb= .row [.func (.func 173) [] [.ptr yb 0, .ptr vb 0]]:=by rw[WG.eq vb (by omega)];unfold ext;rw[if_neg (by omega),q1]
   have r1:o3 (nx+1)= .row [.d (.i d)]:=by rw[WG.eq (nx+1) (by omega)];unfold ext;rw[if_neg (by omega),k1]
   have y5:vb≠n3:=af
   have y6:∀k,vb≠n3+k:=fun k=>af
   have y7:nx+1≠n3:=af
   have y8:∀k,nx+1≠n3+k:=fun k=>af
   have hh:=Tm.BF hk
   refine dV.aN mix K5 aK ?_
   rw[N4]
   simp+contextual only[go_sem,r0,r1,y5,y6,y7,y8]
   rw[wrap64 (n:=d+1) (by omega) (by omega)]
   refine bT (ih k hk (sZ.2 k hk) (d+1) af af (fun x hx=>aP x (sR k hk x hx)) (fun x hx=>hR x (sR k hk x hx)) Am n2 o2 yb vb af WC af WD af q0 q1 s' iw _ _ (WG.aM (i:=n3) (m:=n3+6) af af af rfl) _ _ fun o4 n4 p1 p2 p3=> ?_)
   refine bX ?_
   refine hK3 _ _ af (p2.mono af) (fun id h1 h2=> ?_)
   rw[p3 id h1 (by omega),ah _ _ _ _ (by omega)]
  ·exact(m2.mono af).ext af af
  ·intro o5 n5 p1 p2 p3
   refine bX ?_
   rw[<- B0]
   refine hK _ _ af ⟨p2.bZ.mono af,af,fun id aq=> ?_⟩ (fun id h1 h2=> ?_)
   ·rw[p2.eq id (by omega), <- B0]
    unfold ext
    split
    ·rfl
    ·exact G7
   ·rw[p2.eq id (by omega)]
    unfold ext
    rw[if_neg (by omega),hold id (by omega) h2]
theorem FX(t:Tm)(hf:t.fits)(hd:t.mS<=900000)(aP:∀x∈pre t 1,∀s,ok s->(step s x).2=true->ok (step s x).1)(hR:∀x∈pre t 1,∀s,ok s->WB Tryz.prog rZ [.d x.1.d, .d (.i x.2)] base (H s) (H (step s x).1) (.d (.bool (step s x).2)))(Am:rZ<base)(tb:Nat)(DZ:tb<base)(s:σ)(my:ok s)(cn:H s tb= .row t.row):
 rV Tryz.prog 172 [.jc rZ, .ptr tb 0] base (H s) (H (aD step s (pre t 1)).1) (.bC []):=by
 intro o nx hI K X hK
 have hle:=hI.le
 have ot:o tb= .row t.row:=by rw[hI.eq tb DZ,cn]
 have y1:tb≠nx:=af
 have y2:∀k,tb≠nx+k:=fun k=>af
 refine dV.aN mix K2 aK ?_
 rw[N2]
 simp+contextual only[go_sem,ot,y1,y2,Nat.add_assoc,Nat.left_eq_add,Nat.add_eq_left,Nat.add_left_cancel_iff]
 have Zl:dR base (H s) (aM (aM (aM o nx (.row [.jc rZ])) (nx+1) (.row [.d .bK])) (nx+1) (.row [.func (.func 173) [] [.ptr nx 0, .ptr (nx+1) 0]])) (nx+6):=by
  refine((hI.aM (i:=nx) (m:=nx+6) af af af ?_).aM (i:=nx+1) (m:=nx+6) af af af rfl).aM (i:=nx+1) af af af ?_
  ·simp[aa.refs,V.aO,V.refs];omega
  ·exact Hd
 refine bT (It base rZ H step ok t hf 1 af af aP hR Am (nx+6) _ nx (nx+1) af hle af af af ?_ ?_ s my _ _ (Zl.ext (Nat.le_refl _) af) _ _ ?_)
 ·exact iA
 ·exact iA
 intro o2 n2 m1 m2 m3
 refine bX ?_
 refine hK _ _ af ⟨m2.bZ,af,fun id aq=> ?_⟩ (fun id h1 h2=> ?_)
 ·rw[m2.eq id (by omega)];unfold ext;rw[if_pos aq]
 ·exact Js
end
theorem r8(t:Tm)(o:Nat->aa)(nx:Nat)(K X:V->(Nat->aa)->Nat->Prop)(h:K (.func (.func 172) [] [.ptr nx 0]) (aM o nx (.row t.row)) (nx+4)):dV Tryz.prog 159 [.d t.d] o nx K X:=by
 refine dV.aN mix KQ aK ?_
 rw[NT]
 refine bX ?_
 exact h
end
def Lh:Option iu->eM
 |none=> .normal
 |some .ret=> .ret
 |some (.exit j)=> .exit j
def sL{σ:Type}(J:σ->Option iu)(step:σ->Tm×Int->σ)(s:σ)(x:Tm×Int):σ×Bool:=(step s x,(J (step s x)).isNone)
theorem vY{σ:Type}(J:σ->Option iu)(step:σ->Tm×Int->σ):∀ (l:List (Tm×Int)) (s:σ),J s=none->(aD (sL J step) s l).2=(J (aD (sL J step) s l).1).isNone
 |[],s,h=>by simp[aD,h]
 |x::l,s,h=>by
  simp only[aD]
  split
  ·rename_i hb
   exact vY J step l _ (by simpa[sL]using hb)
  ·rename_i hb
   cases hj:J (step s x)with
   |none=>exact absurd (by simp[sL,hj]) hb
   |some j=>simp[sL,hj]
theorem kZ{σ:Type}(t:Tm)(hf:t.fits)(hd:t.mS<=900000){n bq:Nat}{gq:Operand}{ps:List Nat}{iR eL:IC}{Q:eM->S->Prop}{e:Nat->V}{o:Nat->aa}{nx tb:Nat}(env:List V)(he:kW e env 0)
 (Fm:ps.all (fun t=>decide (t<n))=true) (hl:ps.length=2) (hg:Good o nx) (hrefs:∀r∈V.aO env,r<nx) (ht:o tb= .row t.row)
 (G:σ->Nat->aa) (J:σ->Option iu) (step:σ->Tm×Int->σ) (ok:σ->Prop) (s0:σ) (my:ok s0) (Vq:J s0=none) (h0:∀id,id<nx->o id=G s0 id) (aP:∀x∈pre t 1,∀s,ok s->J s=none->J (step s x)=none->ok (step s x))
 (ri:∀L,gh Tryz.prog n env ps iR eL L->(∀st pd m,nx<=m->(L st pd).refs.all (fun r=>decide (r<m))=true)->∀x∈pre t 1,∀s,ok s->J s=none->∀o3 n3,dR nx (G s) o3 n3->nx<n3->o3 nx=L .ready none->∀K X,
  (∀e' o' n' st pd,n3<=n'->dR nx (G (step s x)) o' n'->o' nx=L st pd->(∀id,nx<id->id<n3->o' id=o3 id)->ja nx K X (Lh (J (step s x))) ⟨e',o',n'⟩)->
  jW Tryz.prog n n3 true iR (o6 Tryz.prog n n3 nx eL K X) ⟨nH (bc env) ps [.d x.1.d, .d (.i x.2)],o3,n3⟩)
 (iX:∀o' n',dR nx (G (aD (sL J step) s0 (pre t 1)).1) o' n'->oO Q (J (aD (sL J step) s0 (pre t 1)).1) ⟨e,o',n'⟩):
 xZ Tryz.prog n bq false gq ps iR eL Q ⟨e,o,nx⟩ (.func (.func 172) [] [.ptr tb 0]):=by
 refine FT env he (fun L hL=> ?_)
 have DZ:tb<nx:=hg.lt (by rw[ht];exact aa.noConfusion)
 let H:σ->Nat->aa:=fun s id=>if id<nx then G s id else if id=nx then(match J s with|none=>L .ready none|some j=>L .done (some j))else .no
 have DH:∀s id,id<nx->H s id=G s id:=fun s id h=>if_pos h
 have Iu:∀s,J s=none->H s nx=L .ready none:=fun s h=>by show(if nx<nx then _ else _)=_;rw[if_neg (by omega),if_pos rfl,h]
 have Ot:∀s j,J s=some j->H s nx=L .done (some j):=fun s j h=>by show(if nx<nx then _ else _)=_;rw[if_neg (by omega),if_pos rfl,h]
 have AW:∀st pd m,nx<=m->(L st pd).refs.all (fun r=>decide (r<m))=true:=fun st pd m hm=>by
  exact RR
 refine FX (nx+1) nx H (sL J step) (fun s=>ok s/\J s=none) t hf hd (fun x hx s h1 h2=> ?_) (fun x hx s h1=> ?_) af tb af s0 ⟨my,Vq⟩ (by rw[DH _ _ DZ, <- h0 _ DZ,ht]) _ _ ⟨?_,Nat.le_refl _,fun id aq=> ?_⟩ _ _ ?_
 ·have hj:J (step s x)=none:=by simpa[sL]using h2
  exact⟨aP x hx s h1.1 h1.2 hj,hj⟩
 ·intro o3 n3 hI K X hK
  have hle:=hI.le
  have Ou:o3 nx=L .ready none:=by rw[hI.eq nx (by omega),Iu s h1.2]
  refine yl hL mix Ou af Fm (by simp[hl]) ?_
  refine ri L hL AW x hx s h1.1 h1.2 o3 n3 ⟨hI.bZ,af,fun id aq=>by rw[hI.eq id (by omega),DH _ _ aq]⟩ af Ou K X (fun e' o' n' st pd k1 k2 k3 k4=> ?_)
  have key:∀st' pd' b,(J (step s x)).isNone=b->H (step s x) nx=L st' pd'->K (.d (.bool b)) (aM o' nx (L st' pd')) n':=fun st' pd' b hb hh=>by
   subst hb
   refine hK _ _ k1 ⟨k2.bZ.aM af (AW _ _ _ af),af,fun id aq=> ?_⟩ (fun id g1 g2=> ?_)
   ·by_cases sT:id=nx
    ·subst sT;rw[ag];exact hh.symm
    ·rw[ah _ _ _ _ sT]
     show o' id=H (step s x) id
     rw[DH _ _ (by omega)];exact k2.eq id af
   ·rw[ah _ _ _ _ (by omega)];exact k4 id af g2
  cases hj:J (step s x)with
  |none=>exact ur hL k3 (key _ _ _ tq (Iu _ hj))
  |some j=>
   cases j with
   |ret=>exact rW hL k3 (key _ _ _ tq (Ot _ _ hj))
   |exit j=>exact pT hL k3 (key _ _ _ tq (Ot _ _ hj))
 ·exact(hg.mono af).aM af (AW _ _ _ af)
 ·by_cases sT:id=nx
  ·subst sT;rw[ag,Iu _ Vq]
  ·exact Ri
 ·intro o' n' k1 k2 k3
  have hle:=k2.le
  generalize hsf:(aD (sL J step) s0 (pre t 1)).1=sf at*
  have kk:∀st pd,dR nx (G sf) (aM o' nx (L st pd)) n':=fun st pd=>⟨k2.bZ.aM af (AW _ _ _ af),af,fun id aq=>by rw[ah _ _ _ _ (by omega),k2.eq id (by omega),DH _ _ aq]⟩
  cases hj:J sf with
  |none=>
   refine⟨.ready,none,by rw[k2.eq nx (by omega),Iu _ hj],(fun h=>by cases h), ?_⟩
   have:=iX _ _ (kk .exhausted none)
   rwa [hj]at this
  |some j=>
   refine⟨.done,some j,by rw[k2.eq nx (by omega),Ot _ _ hj],(fun h=>by cases h), ?_⟩
   have:=iX _ _ (kk .exhausted (some j))
   rwa [hj]at this
theorem eN(n low high:Int):aY Tryz.prog 146 [.i n, .i low, .i high] (.ret [.bool (c6 n low high)]):=by
 refine aY.aN mix KK aK ?_
 rw[NO]
 refine bX ?_
 rfl
theorem An(s:aJ)(t:Tm)(h:t.op=1):aY Tryz.prog 194 [s.d,t.d] (.ret [.bool (aX s t)]):=by
 have hn:aX s t=(c6 t.n 0 19&&(t.kids.length:Int)==0):=by simp[aX,h,Bool.and_comm]
 refine aY.aN mix K8 aK ?_
 rw[N7]
 exact LX
theorem Dh(s:aJ)(t:Tm)(h:t.op=2):aY Tryz.prog 195 [s.d,t.d] (.ret [.bool (aX s t)]):=by
 have hn:aX s t=(c6 t.n (-1000000) 1000000&&(t.kids.length:Int)==0):=by simp[aX,h,Bool.and_comm]
 refine aY.aN mix K9 aK ?_
 rw[N8]
 exact LX
theorem Vr(s:aJ)(t:Tm)(h:t.op=8):aY Tryz.prog 199 [s.d,t.d] (.ret [.bool (aX s t)]):=by
 have hn:aX s t=(c6 t.n 0 19&&(t.kids.length:Int)==2):=by simp[aX,h,Bool.and_comm]
 refine aY.aN mix Ld aK ?_
 rw[Oc]
 exact LX
theorem Ov(s:aJ)(t:Tm)(h:t.op=6\/t.op=7\/t.op=9\/t.op=10\/t.op=11\/t.op=12\/t.op=13\/t.op=14\/t.op=15):aY Tryz.prog 200 [s.d,t.d] (.ret [.bool (aX s t)]):=by
 have hn:aX s t=(t.n==0&&(t.kids.length:Int)==2):=by
  rcases h with h|h|h|h|h|h|h|h|h<;>simp[aX,h,c6,Bool.and_comm]
 refine aY.aN mix Le aK ?_
 rw[Od]
 refine bX ?_
 rw[hn]
theorem Vt(s:aJ)(t:Tm)(hs:s.Fits)(h:t.op=3):aY Tryz.prog 196 [s.d,t.d] (.ret [.bool (aX s t)]):=by
 have hn:aX s t=(c6 t.n 0 (s.cons.length - 1)&&(t.kids.length:Int)==fw s.cons t.n):=by simp[aX,h]
 refine aY.aN mix La aK ?_
 rw[N9]
 refine bX ?_
 rw[wrap64 (by have:=hs.lc;omega) (by have:=hs.lc;omega)]
 refine bp (eN _ _ _) rfl ?_
 cases hI:c6 t.n 0 (s.cons.length - 1)with
 |false=>
  exact LV
 |true=>
  exact Xc
theorem Vu(s:aJ)(t:Tm)(hs:s.Fits)(h:t.op=4):aY Tryz.prog 197 [s.d,t.d] (.ret [.bool (aX s t)]):=by
 have hn:aX s t=(c6 t.n 0 (s.cA.length - 1)&&(t.kids.length:Int)==fw s.cA t.n):=by simp[aX,h]
 refine aY.aN mix Lb aK ?_
 rw[Oa]
 refine bX ?_
 rw[wrap64 (by have:=hs.lf;omega) (by have:=hs.lf;omega)]
 refine bp (eN _ _ _) rfl ?_
 cases hI:c6 t.n 0 (s.cA.length - 1)with
 |false=>
  exact LV
 |true=>
  exact Xc
theorem Ow(s:aJ)(t:Tm)(hs:s.Fits)(h:t.op=5):aY Tryz.prog 198 [s.d,t.d] (.ret [.bool (aX s t)]):=by
 have hn:aX s t=(c6 t.n 0 (s.cA.length - 1)&&decide ((t.kids.length:Int)<fw s.cA t.n)):=by simp[aX,h]
 refine aY.aN mix Lc aK ?_
 rw[Ob]
 refine bX ?_
 rw[wrap64 (by have:=hs.lf;omega) (by have:=hs.lf;omega)]
 refine bp (eN _ _ _) rfl ?_
 cases hI:c6 t.n 0 (s.cA.length - 1)with
 |false=>
  exact LV
 |true=>
  exact Xc
@[reducible] def rf (n:Nat):V:= .func (.func n) [] []
@[reducible] def Zm:List V:=[.d .bK,rf 194,rf 195,rf 196,rf 197,rf 198, .d .bK, .d .bK,rf 199, .d .bK, .d .bK, .d .bK, .d .bK, .d .bK, .d .bK, .d .bK]
@[reducible] def Ao:List V:=[.d .bK,rf 194,rf 195,rf 196,rf 197,rf 198,rf 200,rf 200,rf 199,rf 200,rf 200,rf 200,rf 200,rf 200,rf 200,rf 200]
def D3(k:Nat):List V:=Ao.take k++Zm.drop k
theorem funcOf{P:Program}{t:TypeId}(h:(match P.underlying t with|some (.func _ _ _)=>true|_=>false)=true):∃a b c,P.underlying t=some (.func a b c):=by
 split at h
 ·exact⟨_,_,_,by assumption⟩
 ·cases h
@[go_sem] theorem Zn (o:Nat->aa) (mi:Bool):DJ Tryz.prog o 209 mi (.d .bK) (.d .bK)=some (.d (.bool true)):=by
  exact RW
@[go_sem] theorem Zo (o:Nat->aa) (mi:Bool) (f:Fn) (x y:List V):DJ Tryz.prog o 209 mi (.func f x y) (.d .bK)=some (.d (.bool false)):=by
  exact RW
theorem Iv(base:Nat)(h:Nat->aa):rV Tryz.prog 187 [] base h h (.agg Ao):=by
 intro o nx hI K X hK
 have hle:=hI.le
 refine dV.aN mix K7 aK ?_
 rw[N6]
 simp+contextual only[go_sem,Nat.add_assoc,Nat.left_eq_add,Nat.add_eq_left,Nat.add_left_cancel_iff]
 refine aL (fun k:Nat=>⟨bc [.ptr nx 0, .ptr (nx+2) 0, .ab, .ab, .d (.i k)],aM (aM o nx (.row (List.replicate 16 (.d .bK)))) (nx+2) (.row (D3 k)),nx+5⟩)
  (fun k=>k<=16) (fun k=>16 - k) 0 (Nat.zero_le _) ?_ (fun k hk=> ?_)
 ·refine bM.bP _ af af ?_ (fun id aq=> ?_) ?_
  ·exact((hI.bZ.mono af).aM af rfl).aM af rfl
  ·rw[qA];rfl
  ·exact ec
 have hg:∀k,k<16->Good (aM (aM o nx (.row (List.replicate 16 (.d .bK)))) (nx+2) (.row (D3 (k+1)))) (nx+5):=fun k hk=>
  ((hI.bZ.mono af).aM af rfl).aM af (by
    rcases(by omega:k=0\/k=1\/k=2\/k=3\/k=4\/k=5\/k=6\/k=7\/k=8\/k=9\/k=10\/k=11\/k=12\/k=13\/k=14\/k=15)with rfl|rfl|rfl|rfl|rfl|rfl|rfl|rfl|rfl|rfl|rfl|rfl|rfl|rfl|rfl|rfl<;>rfl)
 by_cases Zp:k=16
 ·subst Zp
  refine Qt ?_
  refine hK _ _ ?_ ⟨?_, ?_,fun id aq=> ?_⟩ (fun id h1 h2=> ?_)
  rotate_left
  ·exact(((hI.bZ.mono af).aM af rfl).aM af rfl).aM af rfl
  ·omega
  ·(repeat(first|rfl|rw[ag]|rw[ah _ _ _ _ (by omega)]))
   exact hI.eq id aq
  ·exact iA
  ·omega
 ·have Vv:=hg k af
  obtain⟨k1,JN⟩:∃k1,k1=k+1:=⟨_,rfl⟩
  rw[<- JN]at Vv
  rcases(by omega:k=0\/k=1\/k=2\/k=3\/k=4\/k=5\/k=6\/k=7\/k=8\/k=9\/k=10\/k=11\/k=12\/k=13\/k=14\/k=15)with rfl|rfl|rfl|rfl|rfl|rfl|rfl|rfl|rfl|rfl|rfl|rfl|rfl|rfl|rfl|rfl
  all_goals
   refine Qt ?_
   refine ax k1 af af (bM.bP _ af af Vv (fun id aq=> ?_) ?_)
   all_goals subst JN
   ·first|rfl|(rw[qA];rfl)
   ·exact ec
def FY(n:Int):Nat:=if n=1 then 194 else if n=2 then 195 else if n=3 then 196 else if n=4 then 197 else if n=5 then 198 else if n=8 then 199 else 200
theorem Ox(s:aJ)(t:Tm)(hs:s.Fits)(h:c6 t.op 1 15=true):aY Tryz.prog (FY t.op) [s.d,t.d] (.ret [.bool (aX s t)])/\Ao[t.op.toNat]? =some (rf (FY t.op))/\0<=t.op/\t.op<16:=by
 simp[c6]at h
 rcases(by omega:t.op=1\/t.op=2\/t.op=3\/t.op=4\/t.op=5\/t.op=8\/(t.op=6\/t.op=7\/t.op=9\/t.op=10\/t.op=11\/t.op=12\/t.op=13\/t.op=14\/t.op=15))with h|h|h|h|h|h|h
 ·exact⟨by rw[h];exact An s t h,by rw[h];rfl,af,af⟩
 ·exact⟨by rw[h];exact Dh s t h,by rw[h];rfl,af,af⟩
 ·exact⟨by rw[h];exact Vt s t hs h,by rw[h];rfl,af,af⟩
 ·exact⟨by rw[h];exact Vu s t hs h,by rw[h];rfl,af,af⟩
 ·exact⟨by rw[h];exact Ow s t hs h,by rw[h];rfl,af,af⟩
 ·exact⟨by rw[h];exact Vr s t h,by rw[h];rfl,af,af⟩
 ·have hp:=Ov s t h
  rcases h with h|h|h|h|h|h|h|h|h<;>exact⟨by rw[h];exact hp,by rw[h];rfl,af,af⟩
def lN(s:aJ)(n:Int)(x:Tm×Int):Bool:=decide (40<n+1)||decide (12<x.2)|| !c6 x.1.op 1 15|| !aX s x.1
def e7(s:aJ)(n:Int×Bool)(x:Tm×Int):Int×Bool:=(n.1+1, !lN s n.1 x)
def fJ(n:Int×Bool):Option iu:=if n.2=true then none else some .ret
def jP(s:aJ)(t:Tm):Bool:=(aD (sL fJ (e7 s)) (0,true) (pre t 1)).2
theorem FZ(s:aJ)(hs:s.Fits)(t:Tm)(hf:t.fits)(hd:t.mS<=900000):aY Tryz.prog 171 [s.d,t.d] (.ret [.bool (jP s t)]):=by
 refine aY.aN mix K1 aK ?_
 rw[N1]
 refine bX ?_
 refine eF (Iv 3 _ _ _ (?_:dR 3 (aM (aM (aM (fun _=> .no) 0 (.row s.row)) 1 (.row t.row)) 2 (.row [.d (.bool false)])) _ 3) _ _ fun o2 n2 m1 m2 m3=> ?_)
 ·exact⟨dZ,Nat.le_refl _,fun _ _=>rfl⟩
 have p0:o2 0= .row s.row:=m2.eq 0 af
 have p1:o2 1= .row t.row:=m2.eq 1 af
 have p2:o2 2= .row [.d (.bool false)]:=m2.eq 2 af
 have e0:0≠n2:=af
 have e1:1≠n2:=af
 have e2:2≠n2:=af
 have e3:∀k,0≠n2+k:=fun k=>af
 have e4:∀k,1≠n2+k:=fun k=>af
 have e5:∀k,2≠n2+k:=fun k=>af
 simp+contextual only[go_sem,p0,p1,p2,e0,e1,e2,e3,e4,e5,Nat.add_assoc,Nat.left_eq_add,Nat.add_eq_left,Nat.add_left_cancel_iff]
 refine eF (r8 t _ _ _ _ ?_)
 refine bX ?_
 have hG0:∀n,Good (aM (aM (aM (aM (aM (aM o2 n2 (.row (List.replicate 16 (.d .bK)))) (n2+1) (.row [.d (.i 0)])) n2 (.row Ao)) (n2+1) (.row [.d (.i 0)])) (n2+5) (.row t.row)) (n2+1) (.row [.d (.i n)])) (n2+9):=fun n=>by
  have hg:=m2.bZ
  exact dZ
 refine kZ t hf hd [.ab, .ab, .ptr 0 0, .ab, .ptr 2 0, .ptr n2 0, .ptr (n2+1) 0] ?_ dU rfl ?_ AZ (ag _ _ _)
  (fun s=>aM (aM (aM (aM (aM (aM o2 n2 (.row (List.replicate 16 (.d .bK)))) (n2+1) (.row [.d (.i 0)])) n2 (.row Ao)) (n2+1) (.row [.d (.i 0)])) (n2+5) (.row t.row)) (n2+1) (.row [.d (.i s.1)]))
  fJ (e7 s) (fun s=>0<=s.1/\s.1<=40) (0,true) ⟨dU,dU⟩ rfl ?_ ?_ ?_ ?_
 ·exact G5
 ·have hg:=m2.bZ
  exact dZ
 ·intro id aq
  by_cases h:id=n2+1
  ·subst h;(repeat(first|rfl|rw[ag]|rw[ah _ _ _ _ (by omega)]))
  ·rw[ah _ _ _ _ h];rfl
 ·intro x hx s' h1 h2 h3
  have:lN s s'.1 x=false:=by simpa[fJ,e7]using h3
  simp[lN]at this
  simp only[e7]
  omega
 ·intro L hL AW x hx s' h1 h2 o3 n3 hI hn ho K X dx
  simp only[nH]
  have hg:=hI.bZ
  have q0:o3 0= .row s.row:=by
   rw[hI.eq 0 (by omega)];(repeat(first|rfl|rw[ag]|rw[ah _ _ _ _ (by omega)]))
   exact p0
  have q2:o3 2= .row [.d (.bool false)]:=by
   exact RG
  have q3:o3 n2= .row Ao:=by rw[hI.eq n2 (by omega)];(repeat(first|rfl|rw[ag]|rw[ah _ _ _ _ (by omega)]))
  have q4:o3 (n2+1)= .row [.d (.i s'.1)]:=by rw[hI.eq (n2+1) (by omega)];(repeat(first|rfl|rw[ag]|rw[ah _ _ _ _ (by omega)]))
  have fin:∀ (o':Nat->aa) (n':Nat),(∀id,id<n2+5+4->o' id=aM o3 (n2+1) (.row [.d (.i (s'.1+1))]) id)->Good o' n'->n3<=n'->dR (n2+5+4) (aM (aM (aM (aM (aM (aM o2 n2 (.row (List.replicate 16 (.d .bK)))) (n2+1) (.row [.d (.i 0)])) n2 (.row Ao)) (n2+1) (.row [.d (.i 0)])) (n2+5) (.row t.row)) (n2+1) (.row [.d (.i (e7 s s' x).1)])) o' n':=by
   intro o' n' k1 k2 k3
   refine⟨k2,af,fun id aq=> ?_⟩
   rw[k1 id aq]
   by_cases h:id=n2+1
   ·subst h;rw[ag,ag];rfl
   ·rw[ah _ _ _ _ h,ah _ _ _ _ h,hI.eq id aq,ah _ _ _ _ h]
  refine bX ?_
  refine nP hL (pd:=none) ?_ ?_
  ·(repeat(first|rfl|rw[ag]|rw[ah _ _ _ _ (by omega)]))
   exact ho
  cases c1:decide (40<s'.1+1)with
  |true=>
   have hJ:fJ (e7 s s' x)=some .ret:=by simp[fJ,e7,lN,c1]
   rw[hJ]at dx
   simp+contextual (disch:=first|omega|simp only[go_sem,false_implies]) only[go_sem,wrap64,if_pos,q0,q2,q3,q4,c1]
   exact W9
  |false=>
  cases c2:decide (12<x.2)with
  |true=>
   have hJ:fJ (e7 s s' x)=some .ret:=by simp[fJ,e7,lN,c2]
   rw[hJ]at dx
   refine Ci q0 q2 q3 q4 c1 c2 ?_
   exact W9
  |false=>
  cases c3:c6 x.1.op 1 15 with
  |false=>
   have hJ:fJ (e7 s s' x)=some .ret:=by simp[fJ,e7,lN,c3]
   rw[hJ]at dx
   refine Ci q0 q2 q3 q4 c1 c2 ?_
   refine bp (eN _ _ _) rfl ?_
   simp+contextual (disch:=first|omega|simp only[go_sem,false_implies]) only[go_sem,wrap64,if_pos,q0,q2,q3,q4,c1,c2,c3]
   exact W9
  |true=>
  obtain⟨r1,r2,r3,r4⟩:=Ox s x.1 hs c3
  refine Ci q0 q2 q3 q4 c1 c2 ?_
  refine bp (eN _ _ _) rfl ?_
  simp+contextual (disch:=first|omega|simp only[go_sem,false_implies]) only[go_sem,wrap64,if_pos,q0,q2,q3,q4,c1,c2,c3,r2,r3,r4,Nat.mul_one]
  refine bp r1 rfl ?_
  simp+contextual (disch:=first|omega|simp only[go_sem,false_implies]) only[go_sem,wrap64,if_pos,q0,q2,q3,q4,c1,c2,c3]
  refine bg (bG rfl) ?_
  cases c4:aX s x.1 with
  |false=>
   have hJ:fJ (e7 s s' x)=some .ret:=by simp[fJ,e7,lN,c4]
   rw[hJ]at dx
   simp+contextual (disch:=first|omega|simp only[go_sem,false_implies]) only[go_sem,wrap64,if_pos,q2,c4]
   refine dx _ _ _ .busy none af (fin _ _ (fun id aq=>LB) dZ af) iA (fun id h3 h4=>by(repeat(first|rfl|rw[ag]|rw[ah _ _ _ _ (by omega)])))
  |true=>
   have hJ:fJ (e7 s s' x)=none:=by simp[fJ,e7,lN,c1,c2,c3,c4]
   rw[hJ]at dx
   simp+contextual (disch:=first|omega|simp only[go_sem,false_implies]) only[go_sem,wrap64,if_pos,c4]
   refine dx _ _ _ .busy none af (fin _ _ (fun id aq=>LB) dZ af) iA (fun id h3 h4=>by(repeat(first|rfl|rw[ag]|rw[ah _ _ _ _ (by omega)])))
 ·intro o' n' hI
  have q2:o' 2= .row [.d (.bool false)]:=by
   exact RG
  rw[show jP s t=(fJ (aD (sL fJ (e7 s)) (0,true) (pre t 1)).1).isNone from vY _ _ _ _ rfl]
  generalize (aD (sL fJ (e7 s)) (0,true) (pre t 1)).1=sf at*
  cases hj:fJ sf with
  |none=>
   simp only[oO]
   refine ou q2 ?_
   rfl
  |some j=>
   have:j= .ret:=by
    unfold fJ at hj;split at hj
    ·cases hj
    ·injection hj with hj;exact hj.symm
   subst this
   simp only[oO]
   refine ou q2 ?_
   rfl
section
def enc{κ:Type}(kf:κ->D)(m:List (κ×D)):List (D×D):=m.map fun p=>(kf p.1,p.2)
def gA{κ:Type}[BEq κ](k:κ):List (κ×D)->Nat->Option (Nat×D)
 |[],_=>none
 |p::m,i=>if(k==p.1)=true then some (i,p.2)else gA k m (i+1)
def Di{κ:Type}[BEq κ](k:κ)(x:D)(m:List (κ×D)):List (κ×D):=match gA k m 0 with|some (i,_)=>m.set i (k,x)|none=>m++[(k,x)]
def Vw{κ:Type}[BEq κ](k:κ)(m:List (κ×D)):List (κ×D):=match gA k m 0 with|some (i,_)=>m.eraseIdx i|none=>m
def s8(d:D)(r:Option (Nat×D)):Option (Nat×D×D):=match r with|some (i,x)=>some (i,d,x)|none=>none
@[go_sem] theorem Qg (d:D) (i:Nat) (x:D):s8 d (some (i,x))=some (i,d,x):=rfl
@[go_sem] theorem Qh (d:D):s8 d none=none:=rfl
section
variable {P:Program}{kt:TypeId}
theorem Iw(h:bB P kt=some .int)(a b:Int):oo P 100 kt (.int .i64 a) (.int .i64 b)=some (a==b):=by simp[oo,h]
theorem Ix(h:bB P kt=some .str)(a b:List UInt8):oo P 100 kt (.str a) (.str b)=some (a==b):=by simp[oo,h]
@[go_sem] theorem B1 (h:bB P kt=some .int) (a:Int):lK P 100 kt (.int .i64 a)=true:=by simp[lK,h]
@[go_sem] theorem WH (h:bB P kt=some .str) (a:List UInt8):lK P 100 kt (.str a)=true:=by simp[lK,h]
theorem r9{κ:Type}[BEq κ][LawfulBEq κ](kf:κ->D)(he:∀a b,oo P 100 kt (kf a) (kf b)=some (a==b))(k:κ):∀ (m:List (κ×D)) (i:Nat),findD P kt (kf k) (enc kf m) i=some (s8 (kf k) (gA k m i))
 |[],_=>rfl
 |p::m,i=>by
  have ih:=r9 kf he k m (i+1)
  simp only[enc,List.map_cons,findD,he,gA]at ih|-
  by_cases h:k=p.1
  ·subst h;simp[s8]
  ·have:(k==p.1)=false:=by simpa using h
   simp only[this,Bool.false_eq_true,if_false];exact ih
@[go_sem] theorem yr (h:bB P kt=some .int) (k:Int) (m:List (Int×D)):findD P kt (.int .i64 k) (enc (.int .i64) m) 0=some (s8 (.int .i64 k) (gA k m 0)):=r9 (.int .i64) (Iw h) k m 0
@[go_sem] theorem Vx (h:bB P kt=some .str) (k:List UInt8) (m:List (List UInt8×D)):findD P kt (.str k) (enc .str m) 0=some (s8 (.str k) (gA k m 0)):=r9 .str (Ix h) k m 0
end
section
variable {κ:Type}(kf:κ->D)
theorem F0(m:List (κ×D))(k:κ)(x:D):enc kf m++[(kf k,x)]=enc kf (m++[(k,x)]):=by simp[enc]
theorem B2(m:List (κ×D))(i:Nat)(k:κ)(x:D):(enc kf m).set i (kf k,x)=enc kf (m.set i (k,x)):=by simp[enc,List.map_set]
theorem uu:∀ (m:List (κ×D)) (i:Nat),(enc kf m).eraseIdx i=enc kf (m.eraseIdx i)
 |[],i=>rfl
 |p::m,0=>rfl
 |p::m,i+1=>by
  have:=uu m i
  simp only[enc,List.map_cons,List.eraseIdx_cons_succ]at this|-
  rw[this]
theorem Iy(m:List (κ×D)):(((enc kf m).map (·.1)).zip ((enc kf m).map (·.2)))=enc kf m:=by
 induction m with
 |nil=>rfl
 |cons p m ih=>simp only[enc,List.map_cons,List.zip_cons_cons]at ih|-;rw[ih]
theorem Dj{K:V->List (Nat×aa)->Prop}{id:Nat}{m:List (κ×D)}(h0:m=[]->K (.bC [.d (.bool false)]) [])
 (h1:∀ (i:Nat) k x,m[i]? =some (k,x)->K (.bC [.d (.bool true), .d (kf k), .d x]) [(id, .oB (enc kf (m.eraseIdx i)) (some (kf k,x)))]):BA K id (enc kf m):=by
 refine⟨fun h=>h0 ?_,fun i k x h=> ?_⟩
 ·cases m with
  |nil=>rfl
  |cons p m=>simp[enc]at h
 ·simp only[enc,List.getElem?_map]at h
  cases hm:m[i]? with
  |none=>rw[hm]at h;cases h
  |some p=>
   rw[hm]at h
   simp at h
   obtain⟨rfl,rfl⟩:=h
   have:=h1 i p.1 p.2 (by rw[hm])
   rwa [<- uu]at this
end
theorem yu{κ:Type}[BEq κ][LawfulBEq κ]{k:κ}:∀ {m:List (κ×D)} {i j:Nat} {x:D},gA k m i=some (j,x)->i<=j/\m[j - i]? =some (k,x)
 |[],_,_,_,h=>by cases h
 |p::m,i,j,x,h=>by
  simp only[gA]at h
  split at h
  ·rename_i hk
   injection h with h;injection h with h1 h2
   subst h1;subst h2
   exact⟨Nat.le_refl _,by simp[(by simpa using hk:k=p.1)]⟩
  ·obtain⟨h1,h2⟩:=yu h
   refine⟨af, ?_⟩
   rw[show j - i=(j - (i+1))+1 by omega]
   simpa using h2
theorem uv{κ:Type}[BEq κ][LawfulBEq κ]{k:κ}:∀ {m:List (κ×D)} {i:Nat},gA k m i=none↔∀p∈m,p.1≠k
 |[],_=>by simp[gA]
 |p::m,i=>by
  simp only[gA]
  split
  ·rename_i hk
   simp[(by simpa using hk:k=p.1)]
  ·rename_i hk
   rw[uv]
   have:p.1≠k:=fun e=>hk (by simp[e])
   simp[this]
def nR(P:Program)(o:Nat->aa)(t:TypeId)(m k v:V):Option et:=
 match oH P t,du o k,du o v,lX o m with
 |some (kt,_),some kd,some vd,some (some (id,A9,Ba),l)=>if k.ids=[]/\lK P 100 kt kd=true/\iS kd=true/\v.ids.all (· !=id)=true then match findD P kt kd l 0 with
  |some (some (i,k',_))=>if k'.same kd=true then some (.bC [],cq o v.ids++[(id, .map A9 Ba (l.set i (kd,vd)))],id::v.ids)else none
  |some none=>some (.bC [],cq o v.ids++[(id, .map A9 Ba (l++[(kd,vd)]))],id::v.ids)
  |none=>none
  else none
 |_,_,_,_=>none
@[go_sem low] theorem uw (P:Program) (o:Nat->aa) (t:TypeId) (m v:V) (k:D):eg P o t m (.d k) v=nR P o t m (.d k) v:=by unfold eg nR;rfl
def sa(P:Program)(o:Nat->aa)(t:TypeId)(m k:V)(ok:Bool):Option et:=
 match oH P t,du o k,m4 o m with
 |some (kt,vt),some kd,some (rd,l)=>if k.ids=[]/\lK P 100 kt kd=true then match findD P kt kd l 0 with
  |some (some (_,_,x))=>some (if ok=true then .bC [.d x, .d (.bool true)]else .d x,[],rd)
  |some none=>match zeroV P vt with
   |some z=>some (if ok=true then .bC [z, .d (.bool false)]else z,[],rd)
   |none=>none
  |none=>none
  else none
 |_,_,_=>none
@[go_sem low] theorem lE (P:Program) (o:Nat->aa) (t:TypeId) (m:V) (k:D) (ok:Bool):gy P o t m (.d k) ok=sa P o t m (.d k) ok:=by unfold gy sa;rfl
attribute [go_sem] sa nR ly ko kp lY lZ kq m4 lX Xi lW iS D.same
end
theorem dec_lt{l:List UInt8}{i:Nat}{b:UInt8}(hb:l[i]? =some b)(h:b.toNat<128):Utf8.decode ⟨⟨l⟩⟩ i=(b.toNat,1):=by
 have e:(ByteArray.mk ⟨l⟩).get! i=b:=by
  show(Array.mk l)[i]! =b
  simp[hb]
 simp only[Utf8.decode,Nat.add_zero,e]
 rw[if_pos h]
theorem Oy{l:List UInt8}{i:Nat}{b:UInt8}(hb:l[i]? =some b)(h:128<=b.toNat):128<=(Utf8.decode ⟨⟨l⟩⟩ i).1:=by
 have e:(ByteArray.mk ⟨l⟩).get! i=b:=by
  show(Array.mk l)[i]! =b
  simp[hb]
 simp only[Utf8.decode,Nat.add_zero,e]
 rw[if_neg (by omega)]
 split
 ·split<;>simp_all[Utf8.runeError]
 ·split
  ·split
   ·rename_i h3;simp at h3;omega
   ·simp[Utf8.runeError]
  ·split
   ·split
    ·rename_i h3;simp at h3;omega
    ·simp[Utf8.runeError]
   ·simp[Utf8.runeError]
def Iz(r:Int):Bool:=decide (97<=r)&&decide (r<=122)||decide (65<=r)&&decide (r<=90)
theorem F1(b:UInt8):Iz b.toNat=letterF b:=by
 rw[Bool.eq_iff_iff]
 simp[Iz,letterF]
theorem Dk(s:List UInt8)(hs:s.length<=9223372036854775807):aY Tryz.prog 145 [.str s] (.ret [.bool (hY s)]):=by
 refine aY.aN mix KJ aK ?_
 rw[NN]
 refine wJ ?_
 refine aL (fun k:Nat=>⟨bc [.d (.str s), .ab, .ab, .ab, .ab, .ab, .ptr 2 0],aM (fun _=> .no) 2 (.uP s k),3⟩)
  (fun k=>k<=s.length/\(s.take k).all letterF=true) (fun k=>s.length - k) 0 ⟨Nat.zero_le _,aK⟩ (bM.bP _ af af (Good.nil.aM af rfl) (fun _ _=>rfl) ?_) (fun k hk=> ?_)
 ·exact ec
 by_cases h2:k<s.length
 ·obtain⟨b,hb⟩:=aH h2
  by_cases h3:b.toNat<128
  ·simp+contextual (disch:=first|omega|simp only[go_sem,false_implies]) only[go_sem,wrap64,if_pos,Nat.add_assoc,Nat.left_eq_add,Nat.add_eq_left,Nat.add_left_cancel_iff,h2,dec_lt hb h3]
   have hr:=F1 b
   simp only[Iz]at hr
   rw[hr]
   cases hl:letterF b with
   |true=>
    refine cQ ?_
    refine ax (k+1) ⟨h2,kX hb hk.2 hl⟩ af (bM.bP _ af af (Good.nil.aM af rfl) (fun _ _=>by rw[qA]) ?_)
    exact ec
   |false=>
    refine cQ ?_
    simp[hY,jq hb hl]
  ·have hr:letterF b=false:=by
    rw[<- F1];simp[Iz];omega
   have hd:=Oy hb af
   refine Lt h2 ?_
   have:(decide (97<=((Utf8.decode ⟨⟨s⟩⟩ k).1:Int))&&decide (((Utf8.decode ⟨⟨s⟩⟩ k).1:Int)<=122)||decide (65<=((Utf8.decode ⟨⟨s⟩⟩ k).1:Int))&&decide (((Utf8.decode ⟨⟨s⟩⟩ k).1:Int)<=90))=false:=by
    rw[Bool.eq_false_iff];intro h;simp at h;omega
   rw[this]
   refine cQ ?_
   simp[hY,jq hb hr]
 ·refine Lt h2 ?_
  refine aw (eN _ _ _) rfl ?_
  refine cQ ?_
  rw[hY,kY hk.2 (by omega),Bool.true_and]
theorem yw{σ:Type}(l:List jX)(hl:l.length<=9223372036854775807)(g:Nat)(cp:List V)(base:Nat)(H:σ->Nat->aa)(step:σ->jX->σ×Bool)(hc:∀r∈V.aO cp,r<base)(ok:σ->Prop)(aP:∀x∈l,∀s,ok s->(step s x).2=true->ok (step s x).1)
 (h:∀x∈l,∀s,ok s->rV Tryz.prog g (.d x.d::cp) base (H s) (H (step s x).1) (.d (.bool (step s x).2))) (s:σ) (my:ok s):
 rV Tryz.prog 147 [.d (.sl (l.map jX.d)), .func (.func g) [] cp] base (H s) (H (aD step s l).1) (.d (.bool (aD step s l).2)):=by
 intro o nx hI K X hK
 have nk:∀r∈V.aO cp,r<nx:=fun r hr=>Nat.lt_of_lt_of_le (hc r hr) hI.le
 refine dV.aN mix KL aK ?_
 rw[NP]
 refine bX ?_
 refine aL (fun i:Nat×σ×(Nat->aa)×Nat=>⟨bc [.ab, .func (.func g) [] cp, .ab, .ab, .ab, .ab, .ab, .d (.sl (l.map jX.d)), .d (.i l.length), .d (.i i.1)],i.2.2.1,i.2.2.2⟩)
  (fun i=>i.1<=l.length/\dR base (H i.2.1) i.2.2.1 i.2.2.2/\nx<=i.2.2.2/\(∀id,base<=id->id<nx->i.2.2.1 id=o id)/\aD step s l=aD step i.2.1 (l.drop i.1)/\ok i.2.1) (fun i=>l.length - i.1) (0,s,o,nx)
  ⟨Nat.zero_le _,hI,Nat.le_refl _,fun _ _ _=>rfl,rfl,my⟩ ?_ ?_
 ·exact LW
 rintro⟨k,s',o',nx'⟩ ⟨hk,GR,hn,cC,hf,rX⟩
 simp only at hk GR hn cC hf rX
 refine bX ?_
 refine ak (fun h1=> ?_) (fun h1=> ?_)
 ·simp at h1
  obtain⟨x,hx⟩:=aH h1
  have gv:=List.mem_of_getElem? hx
  have hd:l.drop k=x::l.drop (k+1):=by
   exact LQ
  refine Lw hx ?_
  have XH:=GR.le
  refine kO (h x gv s' rX _ _ (?_:dR base (H s') _ (nx'+7)) _ _ fun o2 n2 m1 m2 m3=> ?_)
  ·exact QK
  have FW:∀id,base<=id->id<nx->o2 id=o id:=fun id h2 h3=>by
   exact QV
  refine bX ?_
  refine ak (fun h2=> ?_) (fun h2=> ?_)
  ·refine bX ?_
   simp at h2
   have:aD step s l=((step s' x).1,false):=by rw[hf,hd,aD,if_neg (by rw[h2];exact Bool.false_ne_true)]
   rw[this]at hK
   exact hK _ _ af (m2.mono af) FW
  ·refine bX ?_
   simp at h2
   have:aD step s l=aD step (step s' x).1 (l.drop (k+1)):=by rw[hf,hd,aD,if_pos h2]
   refine ax (k+1,(step s' x).1,o2,n2) ⟨h1,m2,by dsimp only;omega,FW,this,aP x gv s' rX h2⟩ qH ?_
   dsimp only
   have Lg:∀r∈V.aO cp,r<n2:=fun r hr=>by have:=nk r hr;omega
   refine bM.bP _ af af m2.bZ (fun _ _=>rfl) ?_
   exact ec
 ·exact RB
def mJ(l:List (List UInt8)):List (List UInt8×D):=l.map fun s=>(s, .bool true)
theorem Dl(l:List (List UInt8))(s:List UInt8):mJ l++[(s, .bool true)]=mJ (l++[s]):=by simp[mJ]
theorem Dm{l:List (List UInt8)}{s:List UInt8}{i:Nat}{x:D}(h:gA s (mJ l) 0=some (i,x)):x= .bool true/\(mJ l).set i (s, .bool true)=mJ l/\l.any (· ==s)=true:=by
 obtain⟨_,h2⟩:=yu h
 rw[Nat.sub_zero]at h2
 simp only[mJ,List.getElem?_map]at h2
 cases hl:l[i]? with
 |none=>rw[hl]at h2;cases h2
 |some y=>
  rw[hl]at h2
  simp at h2
  obtain⟨rfl,rfl⟩:=h2
  refine⟨rfl, ?_, ?_⟩
  ·apply List.ext_getElem?
   intro j
   rw[List.getElem?_set]
   split
   ·rename_i e;subst e
    obtain⟨bQ,hy⟩:=List.getElem?_eq_some_iff.1 hl
    simp[mJ,bQ,hy]
   ·rfl
  ·exact List.any_eq_true.2 ⟨y,List.mem_of_getElem? hl,aK⟩
theorem Dn{l:List (List UInt8)}{s:List UInt8}(h:gA s (mJ l) 0=none):l.any (· ==s)=false:=by
 rw[uv]at h
 rw[List.any_eq_false]
 intro x hx hs
 have:=h (x, .bool true) (by simp[mJ];exact hx)
 simp at hs;exact this hs
def IA(bs:List (List UInt8))(x:jX):Bool:= !bs.any (· ==x.name)&&hY x.name&&c6 x.args 0 4
def fF(bs:List (List UInt8))(x:jX):List (List UInt8)×Bool:=(if bs.any (· ==x.name)=true then bs else bs++[x.name],IA bs x)
theorem Oz(x:jX)(hx:x.name.length<=9223372036854775807)(base mp id:Nat)(h:Nat->aa)(hmp:h mp= .row [.mp id])(h1:mp<base)(h2:id<base)(h3:id≠mp)(bs:List (List UInt8)):
 rV Tryz.prog 144 [.d x.d, .ptr mp 0] base (aM h id (.map 9 4 (enc .str (mJ bs)))) (aM h id (.map 9 4 (enc .str (mJ (fF bs x).1)))) (.d (.bool (fF bs x).2)):=by
 intro o nx hI K X hK
 have hle:=hI.le
 have hg:=hI.bZ
 have q0:o mp= .row [.mp id]:=by rw[hI.eq mp h1,ah _ _ _ _ (by omega),hmp]
 have q1:o id= .map 9 4 (enc .str (mJ bs)):=by rw[hI.eq id h2,ag]
 refine dV.aN mix KI aK ?_
 rw[NM]
 cases ha:gA x.name (mJ bs) 0 with
 |none=>
  have hn:=Dn ha
  have hs:fF bs x=(bs++[x.name],hY x.name&&c6 x.args 0 4):=by simp[fF,IA,hn]
  rw[hs]at hK
  refine D2 q0 q1 ha ?_
  refine aw (Dk _ hx) rfl ?_
  refine cQ ?_
  refine fu (eG [.bool (c6 x.args 0 4)] ?_ ?_)
  ·refine cQ ?_
   exact fun _=>eN _ _ _
  refine cQ ?_
  rw[F0,Dl]
  refine hK _ _ af ⟨dZ,af,fun j hj=> ?_⟩ (fun j g1 g2=>by(repeat(first|rfl|rw[ag]|rw[ah _ _ _ _ (by omega)])))
  ·by_cases e:j=id
   ·exact sO
   ·exact QU
 |some p=>
  obtain⟨i,y⟩:=p
  obtain⟨rfl,e1,hn⟩:=Dm ha
  have hs:fF bs x=(bs,false):=by simp[fF,IA,hn]
  rw[hs]at hK
  refine D2 q0 q1 ha ?_
  rw[B2,e1]
  refine hK _ _ af ⟨dZ,af,fun j hj=> ?_⟩ (fun j g1 g2=>by(repeat(first|rfl|rw[ag]|rw[ah _ _ _ _ (by omega)])))
  ·by_cases e:j=id
   ·exact sO
   ·exact QU
theorem mK:∀ (l:List jX) (bs:List (List UInt8)),match bN l bs with|some B=>aD fF bs l=(B,true)|none=>(aD fF bs l).2=false
 |[],bs=>rfl
 |x::l,bs=>by
  have ih:=mK l (bs++[x.name])
  simp only[bN,aD,fF,IA]
  by_cases h1:bs.any (· ==x.name)=true
  ·simp[h1]
  ·simp only[Bool.not_eq_true]at h1
   simp only[h1,Bool.false_eq_true,if_false,Bool.not_false,Bool.true_and]
   by_cases h2:(hY x.name&&c6 x.args 0 4)=true
   ·have h3: ¬ ((!hY x.name|| !c6 x.args 0 4)=true):=by simp at h2;simp[h2]
    rw[if_neg h3,if_pos h2]
    exact ih
   ·have h3:(!hY x.name|| !c6 x.args 0 4)=true:=by
     cases hn:hY x.name<;>simp_all
    rw[if_pos h3,if_neg h2]
def ke(ok:Bool):Int:=if ok=true then 0 else 2
@[reducible] def Dp (s:aJ) (bs:List (List UInt8)):Nat->aa:=aM (aM (aM (fun _=> .no) 0 (.row s.row)) 3 (.row [.mp 2])) 2 (.map 9 4 (enc .str (mJ bs)))
theorem sb(s:aJ)(hs:s.Fits):aY Tryz.prog 119 [s.d] (.ret [.i (ke (kQ s))]):=by
 refine aY.aN mix KA aK ?_
 rw[NH]
 refine wJ ?_
 refine aw (eN _ _ _) rfl ?_
 refine wJ ?_
 cases h1:(!c6 s.cons.length 2 12||decide (8<(s.cA.length:Int)))with
 |true=>
  have:kQ s=false:=by simp only[kQ,h1,if_true]
  refine ou h1 ?_
  simp[this,ke]
 |false=>
  have JQ:=mK s.cons []
  have Vy:∀ (l:List jX),(∀x∈l,x.name.length<=9223372036854775807)->∀x∈l,∀bs,True->rV Tryz.prog 144 (.d x.d::[.ptr 3 0]) 4 (Dp s bs) (Dp s (fF bs x).1) (.d (.bool (fF bs x).2)):=fun l hl x hx bs _=>
   Oz x (hl x hx) 4 3 2 (aM (aM (fun _=> .no) 0 (.row s.row)) 3 (.row [.mp 2])) (ag _ _ _) af af af bs
  simp[c6]at h1
  obtain⟨a,b,r,hc⟩:∃a b r,s.cons=a::b::r:=by
   match h:s.cons with
   |[]=>exact A4
   |[a]=>exact A4
   |a::b::r=>exact⟨a,b,r,rfl⟩
  have jD:(!c6 s.cons.length 2 12||decide (8<(s.cA.length:Int)))=false:=by simp[c6];omega
  have yp:kQ s=if(!j8 a fB|| !j8 b tB)=true then false else match bN s.cons []with
   |none=>false
   |some l=>(bN s.cA l).isSome:=by
   unfold kQ
   rw[if_neg (by rw[jD];exact Bool.false_ne_true),hc]
   dsimp only
   rfl
  refine ou jD ?_
  refine bT (yw s.cons hs.lc 144 [.ptr 3 0] 4 (Dp s) fF wM (fun _=>True) (fun _ _ _ _ _=>trivial) (Vy s.cons hs.nc) [] trivial _ _ ⟨?_,af,fun id aq=> ?_⟩ _ _ fun o2 n2 m1 m2 m3=> ?_)
  ·exact dZ
  ·rcases(by omega:id=0\/id=1\/id=2\/id=3)with rfl|rfl|rfl|rfl<;>rfl
  have p0:∀ {bs:List (List UInt8)} {o:Nat->aa} {n:Nat},dR 4 (Dp s bs) o n->o 0= .row s.row:=fun h=>h.eq 0 af
  have p3:∀ {bs:List (List UInt8)} {o:Nat->aa} {n:Nat},dR 4 (Dp s bs) o n->o 3= .row [.mp 2]:=fun h=>h.eq 3 af
  cases hn:bN s.cons []with
  |none=>
   rw[hn]at JQ
   simp only at JQ
   rw[JQ]
   refine wJ ?_
   rw[yp,hn]
   split<;>rfl
  |some B=>
   rw[hn]at JQ
   simp only at JQ
   rw[JQ]at m2|-
   simp+contextual (disch:=first|omega|simp only[go_sem,false_implies]) only[go_sem,wrap64,if_pos,Nat.add_assoc,Nat.left_eq_add,Nat.add_eq_left,Nat.add_left_cancel_iff,p0 m2]
   refine bT (yw s.cA hs.lf 144 [.ptr 3 0] 4 (Dp s) fF wM (fun _=>True) (fun _ _ _ _ _=>trivial) (Vy s.cA hs.nf) B trivial _ _ (m2.mono af) _ _ fun o4 n4 k1 k2 k3=> ?_)
   have GS:=mK s.cA B
   cases hf:bN s.cA B with
   |none=>
    rw[hf]at GS
    simp only at GS
    rw[GS]
    refine wJ ?_
    rw[yp,hn]
    simp only[hf]
    split<;>rfl
   |some C=>
    rw[hf]at GS
    simp only at GS
    rw[GS]at k2|-
    simp+contextual (disch:=first|omega|simp only[go_sem,false_implies]) only[go_sem,wrap64,if_pos,Nat.add_assoc,Nat.left_eq_add,Nat.add_eq_left,Nat.add_left_cancel_iff,p0 k2,hc]
    have Li:kQ s= !(!j8 a fB|| !j8 b tB):=by
     rw[yp,hn];simp only[hf]
     cases(!j8 a fB|| !j8 b tB)<;>rfl
    refine ak (fun h5=> ?_) (fun h5=> ?_)
    ·refine cQ ?_
     have DM:(!j8 a fB|| !j8 b tB)=true:=h5
     rw[Li,DM];rfl
    ·refine cQ ?_
     have DM:(!j8 a fB|| !j8 b tB)=false:=h5
     rw[Li,DM];rfl
def il(s:aJ)(l:List Tm):Bool:=kQ s&&l.all (jP s)
theorem ux{α:Type}(p:α->Bool):∀ (l:List α) (u:Unit),aD (fun _ x=>((),p x)) u l=((),l.all p)
 |[],_=>rfl
 |x::l,u=>by
  simp only[aD,List.all_cons,ux p l]
  cases p x<;>rfl
theorem Ap(l:List Tm)(hl:l.length<=9223372036854775807)(g:Nat)(cp:List V)(base:Nat)(h:Nat->aa)(p:Tm->Bool)(hc:∀r∈V.aO cp,r<base)
 (hp:∀x∈l,rV Tryz.prog g (.d x.d::cp) base h h (.d (.bool (p x)))):rV Tryz.prog 169 [.d (.sl (l.map Tm.d)), .func (.func g) [] cp] base h h (.d (.bool (l.all p))):=by
 have:=yq l hl g cp base (fun _:Unit=>h) (fun _ x=>((),p x)) hc (fun _=>True) (fun _ _ _ _ _=>trivial) (fun x hx _ _=>hp x hx) () trivial
 simpa only[ux]using this
structure Tm.Fin (t:Tm):Prop where
 fits:t.fits
 mS:t.mS<=900000
theorem F2(s:aJ)(hs:s.Fits)(t:Tm)(ht:t.Fin)(base sp:Nat)(h:Nat->aa)(JA:h sp= .row s.row)(hb:sp<base):rV Tryz.prog 170 [.d t.d, .ptr sp 0] base h h (.d (.bool (jP s t))):=by
 intro o nx hI K X hK
 have hle:=hI.le
 have hg:=hI.bZ
 have q0:o sp= .row s.row:=by rw[hI.eq sp hb,JA]
 refine dV.aN mix K0 aK ?_
 rw[N0]
 refine ou q0 ?_
 refine aw (FZ s hs t ht.fits ht.mS) rfl ?_
 refine cQ ?_
 exact hK _ _ af ⟨dZ,af,fun j hj=>by rw[ah _ _ _ _ (by omega),hI.eq j hj]⟩ (fun j g1 g2=>by(repeat(first|rfl|rw[ag]|rw[ah _ _ _ _ (by omega)])))
theorem IB(s:aJ)(hs:s.Fits)(l:List Tm)(hl:l.length<=9223372036854775807)(hf:∀t∈l,t.Fin):aY Tryz.prog 158 [s.d, .sl (l.map Tm.d)] (.ret [.bool (il s l)]):=by
 refine aY.aN mix KO aK ?_
 rw[NS]
 refine cQ ?_
 refine aw (sb s hs) rfl ?_
 cases h1:kQ s with
 |false=>
  refine Qv ?_
  simp[il,h1]
 |true=>
  refine Qv ?_
  refine bT (Ap l hl 170 [.ptr 0 0] 1 (aM (fun _=> .no) 0 (.row s.row)) (jP s) wM (fun x hx=>F2 s hs x (hf x hx) 1 0 _ (ag _ _ _) af) _ _ ⟨dZ,af,fun id aq=>rfl⟩ _ _ fun o2 n2 m1 m2 m3=> ?_)
  refine cQ ?_
  simp[il,h1]
def nS(x:Tm×Int):Bool:=decide (3<x.1.op)&&x.1.op !=5
def vJ(b:Bool):Option iu:=if b=true then none else some .ret
def la(t:Tm):Bool:=(aD (sL vJ (fun _ x=> !nS x)) true (pre t 1)).2
theorem Dq(t:Tm)(ht:t.Fin):aY Tryz.prog 160 [t.d] (.ret [.bool (la t)]):=by
 refine aY.aN mix KR aK ?_
 rw[NU]
 refine cQ ?_
 refine eF (r8 t _ _ _ _ ?_)
 refine cQ ?_
 refine kZ t ht.fits ht.mS [.ab, .ab, .ptr 1 0] ?_ dU rfl dZ wM (ag _ _ _)
  (fun _=>aM (aM (aM (fun _=> .no) 0 (.row t.row)) 1 (.row [.d (.bool false)])) 3 (.row t.row)) vJ (fun _ x=> !nS x) (fun _=>True) true trivial rfl (fun id aq=>rfl) (fun _ _ _ _ _ _=>trivial) ?_ ?_
 ·exact G5
 ·intro L hL AW x hx s' h1 h2 o3 n3 hI hn ho K X dx
  simp only[nH]
  have hg:=hI.bZ
  have q1:o3 1= .row [.d (.bool false)]:=hI.eq 1 af
  refine cQ ?_
  refine nP hL (pd:=none) ?_ ?_
  ·(repeat(first|rfl|rw[ag]|rw[ah _ _ _ _ (by omega)]))
   exact ho
  refine cQ ?_
  have hv:nS x=(decide (3<x.1.op)&&x.1.op !=5):=rfl
  rw[<- hv]
  cases hb:nS x with
  |true=>
   rw[hb]at dx
   refine ou q1 ?_
   refine dx _ _ _ .busy none af ⟨dZ,af,fun id aq=> ?_⟩ iA (fun id h3 h4=>by(repeat(first|rfl|rw[ag]|rw[ah _ _ _ _ (by omega)])))
   by_cases e:id=1
   ·exact sO
   ·rw[ah _ _ _ _ e];(repeat(first|rfl|rw[ag]|rw[ah _ _ _ _ (by omega)]))
    exact hI.eq id aq
  |false=>
   rw[hb]at dx
   refine cQ ?_
   refine dx _ _ _ .busy none af ⟨dZ,af,fun id aq=> ?_⟩ iA (fun id h3 h4=>by(repeat(first|rfl|rw[ag]|rw[ah _ _ _ _ (by omega)])))
   (repeat(first|rfl|rw[ag]|rw[ah _ _ _ _ (by omega)]))
   exact hI.eq id aq
 ·intro o' n' hI
  have q1:o' 1= .row [.d (.bool false)]:=hI.eq 1 af
  rw[show la t=(vJ (aD (sL vJ (fun _ x=> !nS x)) true (pre t 1)).1).isNone from vY _ _ _ _ rfl]
  generalize (aD (sL vJ (fun _ x=> !nS x)) true (pre t 1)).1=sf at*
  cases sf<;>(simp only[vJ,if_true,if_false,Bool.false_eq_true,oO];simp+contextual (disch:=first|omega|simp only[go_sem,false_implies]) only[go_sem,wrap64,if_pos,q1];rfl)
def Tm.yx (t:Tm):Int:=(pre t 1).length
structure Tm.Zq (t:Tm):Prop extends t.Fin where
 size:t.yx<=1000000
theorem Tm.Fin.yy {t k:Tm}(h:t.Fin)(hk:k∈t.kids):k.Fin:=⟨((Tm.bA _).1 h.fits).2 k hk,by have:=Tm.BF hk;have:=h.mS;omega⟩
theorem pU:∀ (t:Tm) (d d':Int),(pre t d).length=(pre t d').length:=by
 refine Tm.fe fun t ih d d'=> ?_
 rw[kP,kP]
 simp only[List.length_cons,List.length_flatMap]
 congr 2
 exact List.map_congr_left fun k hk=>ih k hk _ _
theorem Tm.uy {t k:Tm}(hk:k∈t.kids):k.yx+1<=t.yx:=by
 simp only[Tm.yx]
 rw[kP t,pU k 1 (1+1)]
 simp only[List.length_cons,List.length_flatMap]
 have:∀ (l:List Tm),k∈l->(pre k (1+1)).length<=(l.map fun k=>(pre k (1+1)).length).sum:=by
  intro l
  induction l with
  |nil=>intro h;cases h
  |cons x l ih=>
   intro h
   rcases List.mem_cons.1 h with rfl|h
   ·simp only[List.map_cons,List.sum_cons];omega
   ·have:=ih h;simp only[List.map_cons,List.sum_cons];omega
 have:=this _ hk
 omega
theorem Tm.Zq.yy {t k:Tm}(h:t.Zq)(hk:k∈t.kids):k.Zq:=⟨h.toFin.yy hk,by have:=Tm.uy hk;have:=h.size;omega⟩
def Tm.sz (t:Tm):Nat:=(pre t 1).length
def o8(l:List Tm):Nat:=(l.map Tm.sz).sum
theorem Tm.yz (t:Tm):t.yx=(t.sz:Int):=rfl
theorem Tm.lb (t:Tm):t.sz=1+o8 t.kids:=by
 unfold Tm.sz o8
 rw[kP,List.length_cons,List.length_flatMap,Nat.add_comm]
 congr 2
 exact List.map_congr_left fun k hk=>pU k _ _
theorem nT(k:Tm)(l:List Tm):o8 (k::l)=k.sz+o8 l:=by simp[o8]
theorem Tm.Aq (t:Tm):1<=t.sz:=by rw[Tm.lb];omega
theorem uz(k:Tm)(l:List Tm):Tm.jM (k::l)=Nat.max k.mS (Tm.jM l):=by simp[Tm.jM]
theorem vZ:∀ (l:List Tm) (n:Nat),Tm.jM l<=n↔∀k∈l,k.mS<=n
 |[],n=>by simp[Tm.jM]
 |x::l,n=>by
  rw[uz]
  simp only[List.mem_cons,forall_eq_or_imp, <- vZ l n]
  exact Nat.max_le
theorem Tm.F3 (t:Tm):t.mS=1+Tm.jM t.kids:=by cases t;simp[Tm.mS,Tm.kids]
theorem Dr:∀t:Tm,∀left depth:Int,fR t left depth=if(t.sz:Int)<=left/\(t.mS:Int)<=depth then left - t.sz else -1:=by
 refine Tm.fe fun t ih left depth=> ?_
 have hs:∀ (l:List Tm) (left d:Int),(∀k∈l,k∈t.kids)->0<=left->0<=d->bO l left d=if(o8 l:Int)<=left/\(Tm.jM l:Int)<=d then left - o8 l else -1:=by
  intro l
  induction l with
  |nil=>intro left d _ h1 h2;simp[bO,o8,Tm.jM,h1,h2]
  |cons k l Oh=>
   intro left d hk h1 h2
   simp only[bO,if_pos h1]
   rw[ih k (hk k (by simp))]
   have hm:(Tm.jM (k::l):Int)<=d↔(k.mS:Int)<=d/\(Tm.jM l:Int)<=d:=by
    have:= @Nat.max_le k.mS (Tm.jM l) d.toNat
    have e:Tm.jM (k::l)=max k.mS (Tm.jM l):=uz k l
    rw[e];omega
   simp only[nT,hm]
   by_cases hc:(k.sz:Int)<=left/\(k.mS:Int)<=d
   ·rw[if_pos hc,Oh _ _ (fun x hx=>hk x (by simp[hx])) (by omega) h2]
    by_cases qX:(o8 l:Int)<=left - k.sz/\(Tm.jM l:Int)<=d
    ·rw[if_pos qX,if_pos (by omega)];omega
    ·rw[if_neg qX,if_neg (by omega)]
   ·rw[if_neg hc,mH (by omega),if_neg (by omega)]
 rw[yo,Tm.lb,Tm.F3]
 by_cases h:left<1\/depth<1
 ·rw[if_pos h,if_neg (by omega)]
 ·rw[if_neg h,hs _ _ _ (fun _ h=>h) (by omega) (by omega)]
  by_cases hc:(o8 t.kids:Int)<=left - 1/\(Tm.jM t.kids:Int)<=depth - 1
  ·rw[if_pos hc,if_pos (by omega)];omega
  ·rw[if_neg hc,if_neg (by omega)]
theorem sc(t:Tm)(left depth:Int):0<=fR t left depth↔(t.sz:Int)<=left/\(t.mS:Int)<=depth:=by
 rw[Dr];split<;>omega
theorem Ar(t:Tm):fD t=true↔t.sz<=50/\t.mS<=14:=by
 simp only[fD,decide_eq_true_eq,sc];omega
theorem Ds:∀ (t:Tm) (d m:Int),(∀x∈pre t d,x.2<=m)↔d+t.mS - 1<=m:=by
 refine Tm.fe fun t ih d m=> ?_
 rw[kP,Tm.F3]
 simp only[List.mem_cons,forall_eq_or_imp,List.mem_flatMap]
 have h1:(∀x:Tm×Int,(∃k,k∈t.kids/\x∈pre k (d+1))->x.2<=m)↔∀k∈t.kids,d+1+k.mS - 1<=m:=by
  constructor
  ·intro h k hk
   exact(ih k hk _ _).1 fun x hx=>h x ⟨k,hk,hx⟩
  ·rintro h x ⟨k,hk,hx⟩
   exact(ih k hk _ _).2 (h k hk) x hx
 rw[h1]
 constructor
 ·rintro⟨h2,h3⟩
  have:=(vZ t.kids (m - d).toNat).2 fun k hk=>by have:=h3 k hk;omega
  omega
 ·intro h
  have:=(vZ t.kids (m - d).toNat).1 af
  exact⟨af,fun k hk=>by have:=this k hk;omega⟩
theorem B3(p:Tm->Bool):∀ (t:Tm) (d:Int),(pre t d).all (fun x=>p x.1)=(p t&&t.kids.all fun k=>(pre k (d+1)).all fun x=>p x.1):=by
 intro t d
 rw[kP,List.all_cons,List.all_flatMap]
theorem sd(s:aJ):∀ (t:Tm) (d:Int),fA s t=(pre t d).all fun x=>aX s x.1:=by
 refine Tm.fe fun t ih d=> ?_
 rw[B3 (aX s),jo]
 congr 1
 exact Jp
theorem As:∀ (t:Tm) (d:Int),ey t=(pre t d).all fun x=>(decide (1<=x.1.op)&&decide (x.1.op<=3))||x.1.op==5:=by
 refine Tm.fe fun t ih d=> ?_
 rw[B3 (fun t=>(decide (1<=t.op)&&decide (t.op<=3))||t.op==5),o7,Bool.and_comm]
 congr 1
 exact Jp
theorem yA{s:aJ}{t:Tm}(h:aX s t=true):c6 t.op 1 15=true:=by
 rw[show c6 t.op 1 15=true↔1<=t.op/\t.op<=15 by simp[c6]]
 by_cases h6:c6 t.op 6 15=true
 ·simp[c6]at h6;omega
 ·simp only[aX,if_neg h6]at h
  by_cases h1:t.op=1
  ·omega
  by_cases h2:t.op=2
  ·omega
  by_cases h3:t.op=3
  ·omega
  by_cases h4:t.op=4
  ·omega
  by_cases h5:t.op=5
  ·omega
  by_cases h8:t.op=8
  ·omega
  rw[if_neg h1,if_neg h2,if_neg h3,if_neg h4,if_neg h5,if_neg h8]at h
  cases h
def se(s:aJ)(x:Tm×Int):Bool:= !(decide (12<x.2)|| !c6 x.1.op 1 15|| !aX s x.1)
theorem pV(s:aJ):∀ (l:List (Tm×Int)) (n:Int) (b:Bool),(aD (sL fJ (e7 s)) (n,b) l).2=(decide (l=[]\/n+l.length<=40)&&l.all (se s))
 |[],n,b=>by simp[aD]
 |x::l,n,b=>by
  have e1:∀c,lN s n x=c->sL fJ (e7 s) (n,b) x=((n+1, !c), !c):=fun c hc=>by show((n+1, !lN s n x),(fJ (n+1, !lN s n x)).isNone)=_;rw[hc];cases c<;>rfl
  have hb:lN s n x=(decide (40<n+1)|| !se s x):=by simp[lN,se,Bool.or_assoc]
  rw[List.all_cons]
  cases hg:se s x with
  |false=>
   have e:lN s n x=true:=by rw[hb,hg];simp
   rw[aD,e1 _ e];simp
  |true=>
   by_cases h40:40<n+1
   ·have:decide (x::l=[]\/n+(x::l).length<=40)=false:=by simp;omega
    have e:lN s n x=true:=by rw[hb];simp[h40]
    rw[this,Bool.false_and,aD,e1 _ e];simp
   ·have e:lN s n x=false:=by rw[hb,hg];simp;omega
    rw[aD,e1 _ e]
    simp only[Bool.not_false,if_true,pV s l,Bool.true_and]
    congr 1
    cases l with
    |nil=>simp;omega
    |cons y l=>simp;omega
theorem si(s:aJ)(t:Tm):jP s t=hZ s t:=by
 rw[jP,pV,hZ,sd s t 1,Bool.eq_iff_iff]
 have hn:pre t 1≠[]:=by rw[kP];simp
 simp only[Bool.and_eq_true,decide_eq_true_eq,hn,false_or,sc,List.all_eq_true]
 have hd:=Ds t 1 12
 constructor
 ·rintro⟨h1,h2⟩
  have h3:∀x∈pre t 1,x.2<=12:=fun x hx=>by have:=h2 x hx;simp[se]at this;omega
  have:=hd.1 h3
  exact⟨⟨by unfold Tm.sz;omega,af⟩,fun x hx=>by have:=h2 x hx;simp[se]at this;exact this.2⟩
 ·rintro⟨⟨h1,h2⟩,h3⟩
  have h4:=hd.2 af
  refine⟨by unfold Tm.sz at h1;omega,fun x hx=> ?_⟩
  have h5:=h4 x hx
  have h6:=h3 x hx
  have h7:=yA h6
  simp[se,h6,h7];omega
theorem sj:∀ (l:List (Tm×Int)) (b:Bool),(aD (sL vJ (fun _ x=> !nS x)) b l).2=l.all fun x=> !nS x
 |[],b=>rfl
 |x::l,b=>by
  have e1:∀c,nS x=c->sL vJ (fun _ x=> !nS x) b x=(!c, !c):=fun c hc=>by show(!nS x,(vJ (!nS x)).isNone)=_;rw[hc];cases c<;>rfl
  rw[aD,List.all_cons]
  cases hv:nS x with
  |false=>rw[e1 _ hv];simp[sj l]
  |true=>rw[e1 _ hv];simp
theorem uA{s:aJ}{t:Tm}(h:hZ s t=true):la t=ey t:=by
 rw[la,sj,As t 1,Bool.eq_iff_iff]
 simp only[hZ,Bool.and_eq_true,sd s t 1,List.all_eq_true]at h
 simp only[List.all_eq_true]
 refine forall_congr' fun x=>forall_congr' fun hx=> ?_
 have:=yA (h.2 x hx)
 simp[c6]at this
 simp[nS]
 omega
theorem Au:∀a:Tm,ig a a=true:=by
 refine Tm.fe fun a ih=> ?_
 rw[nQ]
 have:fC a.kids a.kids=true:=(fE _ _ rfl).2 fun i x y hx hy=>by
  rw[hx]at hy;injection hy with hy;subst hy;exact ih x (List.mem_of_getElem? hx)
 simp[this]
theorem lF:∀a b:Tm,ig a b=true↔a=b:=by
 refine Tm.fe fun a ih b=>⟨fun h=> ?_,fun e=>e ▸ Au _⟩
 rw[nQ]at h
 simp only[Bool.and_eq_true,beq_iff_eq]at h
 obtain⟨⟨⟨h1,h2⟩,h3⟩,h4⟩:=h
 have h5:=(fE _ _ h3).1 h4
 have:a.kids=b.kids:=by
  apply List.ext_getElem?
  intro i
  cases hx:a.kids[i]? with
  |none=>simp at hx;symm;simp;omega
  |some x=>
   have hi:=(List.getElem?_eq_some_iff.1 hx).1
   obtain⟨y,hy⟩:=aH (l:=b.kids) (k:=i) af
   rw[hy,(ih x (List.mem_of_getElem? hx) y).1 (h5 i x y hx hy)]
 rw[<- Tm.eta a, <- Tm.eta b,h1,h2,this]
section
def Dt(l:List (D×D)):List (Int×D):=l.map fun p=>((match p.1 with| .int _ n=>n|_=>0),p.2)
def OA(l:List (D×D)):Bool:=l.all fun p=>match p.1 with| .int .i64 _=>true|_=>false
@[go_sem] theorem WI (m:List (Int×D)):Dt (enc (D.int .i64) m)=m:=by
  unfold Dt enc;rw[List.map_map];simp[Function.comp_def]
@[go_sem] theorem WJ (m:List (Int×D)):OA (enc (D.int .i64) m)=true:=by simp[OA,enc]
@[go_sem] theorem WK:OA []=true:=rfl
@[go_sem] theorem WL:Dt []=[]:=rfl
theorem v7:∀ {l:List (D×D)},OA l=true->enc (D.int .i64) (Dt l)=l
 |[],_=>rfl
 |(k,x)::l,h=>by
  simp only[OA,List.all_cons,Bool.and_eq_true]at h
  have ih:=v7 (l:=l) h.2
  obtain⟨n,h1⟩:∃n,k= .int .i64 n:=by
   have h1:=h.1
   split at h1
   ·exact⟨_,rfl⟩
   ·cases h1
  subst h1
  simp only[enc,Dt,List.map_cons]at ih|-
  rw[ih]
def lg(l:List Int):List (Int×D):=l.map fun n=>(n, .bool true)
@[go_sem] theorem Vz:lg []=[]:=rfl
def dk(l:List Int)(n:Int):List Int:=if l.contains n=true then l else l++[n]
theorem im{l:List Int}{n k:Int}:k∈dk l n↔k∈l\/k=n:=by
 unfold dk
 split
 ·rename_i h
  have:n∈l:=by simpa using h
  constructor
  ·exact .inl
  ·rintro(h|rfl)<;>assumption
 ·simp
theorem Av{l:List Int}(n:Int)(h:l.Nodup):(dk l n).Nodup:=by
 unfold dk
 split
 ·exact h
 ·rename_i hn
  have hn:n∉l:=by simpa using hn
  rw[List.nodup_append]
  exact⟨h,aK,fun a ha b hb=>by simp at hb;subst hb;intro e;subst e;exact hn ha⟩
theorem nU:∀ (l:List Int) (n:Int) (i:Nat),gA n (lg l) i=(l.findIdx? (· ==n)).map fun j=>(i+j,D.bool true)
 |[],n,i=>rfl
 |x::l,n,i=>by
  have ih:=nU l n (i+1)
  simp only[lg,List.map_cons,gA,List.findIdx?_cons]at ih|-
  by_cases h:n=x
  ·subst h;simp
  ·have h2: ¬x=n:=fun e=>h e.symm
   simp only[beq_iff_eq,h,h2,if_false,ih,Option.map_map,Function.comp_def]
   congr 1;funext j;congr 1;omega
@[go_sem] theorem Qi (l:List Int) (n:Int):Di n (.bool true) (lg l)=lg (dk l n):=by
  unfold Di dk
  rw[nU]
  cases h:l.findIdx? (· ==n)with
  |none=>
   have:l.contains n=false:=by
    rw[List.findIdx?_eq_none_iff]at h
    rw[Bool.eq_false_iff];intro hc
    have:=h n (by simpa using hc)
    simp at this
   simp only[Option.map_none,this,Bool.false_eq_true,if_false]
   simp[lg]
  |some j=>
   rw[List.findIdx?_eq_some_iff_getElem]at h
   obtain⟨hj,he,_⟩:=h
   have e:l[j]=n:=by simpa using he
   have:l.contains n=true:=by rw[List.contains_iff_mem, <- e];exact List.getElem_mem hj
   simp only[Option.map_some,this,if_true,Nat.zero_add]
   apply List.ext_getElem?
   intro k
   rw[List.getElem?_set]
   split
   ·rename_i hk;subst hk;simp[lg,hj,e]
   ·rfl
def VA(l:List Int)(n:Int):List Int:=match l.findIdx? (· ==n)with|some j=>l.eraseIdx j|none=>l
theorem jQ{α β:Type}(f:α->β):∀ (l:List α) (j:Nat),(l.map f).eraseIdx j=(l.eraseIdx j).map f
 |[],_=>rfl
 |_::_,0=>rfl
 |x::l,j+1=>by simp[jQ f l j]
@[go_sem] theorem Qj (l:List Int) (n:Int):Vw n (lg l)=lg (VA l n):=by
  unfold Vw VA
  rw[nU]
  cases h:l.findIdx? (· ==n)with
  |none=>simp
  |some j=>simp only[Option.map_some,Nat.zero_add];exact jQ _ _ _
section
variable {P:Program}{o:Nat->aa}{t:TypeId}{id:Nat}{n:Int}{v:V}
def o9(P:Program)(kt:TypeId):Bool:=match bB P kt with|some .int=>true|_=>false
theorem uB{kt:TypeId}(h:o9 P kt=true):bB P kt=some .int:=by
 unfold o9 at h;split at h
 ·assumption
 ·cases h
@[go_sem] theorem Qk {kt:TypeId} (h:bB P kt=some .int):o9 P kt=true:=by unfold o9;rw[h]
def OB(P:Program)(o:Nat->aa)(t:TypeId)(id:Nat)(n:Int)(v:V):Option et:=
 match oH P t,du o v,o id with
 |some (kt,_),some vd, .map A9 Ba l=>match o9 P kt&&OA l&&v.ids.all (· !=id)with
  |true=>some (.bC [],cq o v.ids++[(id, .map A9 Ba (enc (D.int .i64) (Di n vd (Dt l))))],id::v.ids)
  |false=>nR P o t (.mp id) (.d (.int .i64 n)) v
 |_,_,_=>nR P o t (.mp id) (.d (.int .i64 n)) v
@[go_sem high] theorem OC:eg P o t (.mp id) (.d (.int .i64 n)) v=OB P o t id n v:=by
  unfold OB
  split
  ·rename_i kt vt vd A9 Ba l h1 h2 h3
   split
   ·rename_i hc
    simp only[Bool.and_eq_true]at hc
    obtain⟨⟨c1,c2⟩,c3⟩:=hc
    have c4:=uB c1
    have c5:du o (.d (.int .i64 n))=some (.int .i64 n):=rfl
    have hl:=v7 c2
    unfold eg
    simp only[h1,c5,h2,lX,h3]
    rw[if_pos ⟨rfl,B1 c4 n,rfl,c3⟩]
    conv=>lhs;rw[<- hl]
    rw[yr c4]
    unfold Di
    cases gA n (Dt l) 0 with
    |none=>simp[s8,enc]
    |some p=>simp[s8,B2,D.same,lW]
   ·exact uw ..
  ·exact uw ..
attribute [go_sem] OB
def Ql(l:List (D×D)):Bool:=l.all fun p=>match p.2 with| .bool true=>true|_=>false
@[go_sem] theorem WM (l:List Int):Ql (enc (D.int .i64) (lg l))=true:=by simp[Ql,enc,lg]
@[go_sem] theorem WN:Ql []=true:=rfl
theorem B4:∀ {m:List (Int×D)},Ql (enc (D.int .i64) m)=true->lg (m.map (·.1))=m
 |[],_=>rfl
 |(k,x)::m,h=>by
  simp only[Ql,enc,List.map_cons,List.all_cons,Bool.and_eq_true]at h
  have ih:=B4 (m:=m) h.2
  have h1:x= .bool true:=by
   have h1:=h.1
   split at h1
   ·rfl
   ·cases h1
  simp only[lg,List.map_cons]at ih|-
  rw[ih,h1]
def F4(P:Program)(o:Nat->aa)(t:TypeId)(m:V)(n:Int)(ok:Bool):Option et:=
 match oH P t with
 |some (kt,vt)=>match zeroV P vt with
  |some (.d (.bool false))=>match m4 o m with
   |some (rd,l)=>match o9 P kt&&OA l&&Ql l with
    |true=>some (match ok with|true=> .bC [.d (.bool (((Dt l).map (·.1)).contains n)), .d (.bool (((Dt l).map (·.1)).contains n))]|false=> .d (.bool (((Dt l).map (·.1)).contains n)),[],rd)
    |false=>sa P o t m (.d (.int .i64 n)) ok
   |none=>sa P o t m (.d (.int .i64 n)) ok
  |_=>sa P o t m (.d (.int .i64 n)) ok
 |none=>sa P o t m (.d (.int .i64 n)) ok
@[go_sem] theorem F5 (l:List Int):((lg l).map (·.1))=l:=by simp[lg,Function.comp_def]
@[go_sem high] theorem VB {m:V} {ok:Bool}:gy P o t m (.d (.int .i64 n)) ok=F4 P o t m n ok:=by
  unfold F4
  split
  ·rename_i kt vt h1
   split
   ·rename_i hz
    split
    ·rename_i rd l h
     split
     ·rename_i hc
      simp only[Bool.and_eq_true]at hc
      have c4:=uB hc.1.1
      have hl:=v7 hc.1.2
      have hs:lg ((Dt l).map (·.1))=Dt l:=B4 (by rw[hl];exact hc.2)
      have c5:du o (.d (.int .i64 n))=some (.int .i64 n):=rfl
      unfold gy
      simp only[h1,c5,h]
      rw[if_pos ⟨rfl,B1 c4 n⟩]
      conv=>lhs;rw[<- hl]
      rw[yr c4, <- hs,nU,F5]
      generalize (Dt l).map (·.1)=l'
      cases hf:l'.findIdx? (· ==n)with
      |none=>
       have:l'.contains n=false:=by
        rw[List.findIdx?_eq_none_iff]at hf
        rw[Bool.eq_false_iff];intro hc
        have:=hf n (by simpa using hc)
        simp at this
       cases ok<;>simp only[Option.map_none,s8,hz,this,if_true,Bool.false_eq_true,if_false]
      |some j=>
       rw[List.findIdx?_eq_some_iff_getElem]at hf
       obtain⟨hj,he,_⟩:=hf
       have e:l'[j]=n:=by simpa using he
       have:l'.contains n=true:=by rw[List.contains_iff_mem, <- e];exact List.getElem_mem hj
       cases ok<;>simp only[Option.map_some,s8,this,if_true,Bool.false_eq_true,if_false]
     ·exact lE ..
    ·exact lE ..
   ·exact lE ..
  ·exact lE ..
attribute [go_sem] F4
end
attribute [go_sem] List.head?_cons
end
mutual
def fG(v:Int):Tm->Bool
 | .mk op n kids=>if op=1 then n==v else v8 v op n kids 0
def v8(v op n:Int):List Tm->Nat->Bool
 |[],_=>false
 |k::l,i=>(fG v k&& !(op==8&&i==1&&n==v))||v8 v op n l (i+1)
end
theorem pa(v:Int)(t:Tm):fG v t=if t.op=1 then t.n==v else v8 v t.op t.n t.kids 0:=by cases t;rfl
@[reducible] def Du (l:List Int):aa:= .map 3 4 (enc (D.int .i64) (lg l))
def lO:List Int->Int->List Int
 |[],n=>[n]
 |x::l,n=>if x<n then x::lO l n else if x=n then x::l else n::x::l
def mL(op n:Int)(i:Nat)(l out:List Int):List Int:=l.foldl (fun out v=>if(op !=8||(i:Int)!=1||v !=n)=true then lO out v else out) out
mutual
def c8:Tm->List Int
 | .mk op n kids=>if op=1 then [n]else jR op n kids 0 []
def jR(op n:Int):List Tm->Nat->List Int->List Int
 |[],_,out=>out
 |k::l,i,out=>jR op n l (i+1) (mL op n i (c8 k) out)
end
theorem nV(t:Tm):c8 t=if t.op=1 then [t.n]else jR t.op t.n t.kids 0 []:=by cases t;rfl
theorem sn:∀ (l:List Int) (n v:Int),v∈lO l n↔v∈l\/v=n
 |[],n,v=>by simp[lO]
 |x::l,n,v=>by
  simp only[lO]
  split
  ·simp only[List.mem_cons,sn l n v];constructor
   ·rintro(h|h|h)
    ·exact .inl (.inl h)
    ·exact .inl (.inr h)
    ·exact .inr h
   ·rintro((h|h)|h)
    ·exact .inl h
    ·exact .inr (.inl h)
    ·exact .inr (.inr h)
  ·split
   ·rename_i h;subst h;simp only[List.mem_cons];constructor
    ·exact .inl
    ·rintro(h|h)
     ·exact h
     ·exact .inl h
   ·simp only[List.mem_cons];constructor
    ·rintro(h|h)
     ·exact .inr h
     ·exact .inl h
    ·rintro(h|h)
     ·exact .inr h
     ·exact .inl h
abbrev Dv(l:List Int):Prop:=l.Pairwise (· <·)
theorem yB:∀ {l:List Int} (n:Int),Dv l->Dv (lO l n)
 |[],n,_=>by simp[lO]
 |x::l,n,h=>by
  have h1:=List.pairwise_cons.1 h
  simp only[lO]
  split
  ·rename_i hx
   refine List.pairwise_cons.2 ⟨fun y hy=> ?_,yB n h1.2⟩
   rcases(sn l n y).1 hy with hy|hy
   ·exact h1.1 y hy
   ·omega
  ·split
   ·exact h
   ·refine List.pairwise_cons.2 ⟨fun y hy=> ?_,h⟩
    rcases List.mem_cons.1 hy with hy|hy
    ·omega
    ·have:=h1.1 y hy;omega
theorem lG(op n:Int)(i:Nat):∀ (l out:List Int),Dv out->Dv (mL op n i l out)/\∀v,v∈mL op n i l out↔v∈out\/(v∈l/\ ¬ (op=8/\i=1/\n=v))
 |[],out,h=>⟨h,fun v=>by simp[mL]⟩
 |x::l,out,h=>by
  have hk:mL op n i (x::l) out=mL op n i l (if(op !=8||(i:Int)!=1||x !=n)=true then lO out x else out):=rfl
  rw[hk]
  by_cases hc:(op !=8||(i:Int)!=1||x !=n)=true
  ·rw[if_pos hc]
   have ih:=lG op n i l (lO out x) (yB x h)
   refine⟨ih.1,fun v=> ?_⟩
   rw[ih.2 v,sn,List.mem_cons]
   have qX: ¬ (op=8/\i=1/\n=x):=by
    rintro⟨h1,h2,h3⟩;subst h1;subst h2;subst h3;simp at hc
   constructor
   ·rintro((h|h)|h)
    ·exact .inl h
    ·subst h;exact .inr ⟨.inl rfl,qX⟩
    ·exact .inr ⟨.inr h.1,h.2⟩
   ·rintro(h|⟨h|h,h2⟩)
    ·exact .inl (.inl h)
    ·exact .inl (.inr h)
    ·exact .inr ⟨h,h2⟩
  ·rw[if_neg hc]
   have ih:=lG op n i l out h
   refine⟨ih.1,fun v=> ?_⟩
   rw[ih.2 v,List.mem_cons]
   have qX:op=8/\i=1/\n=x:=by simp at hc;exact⟨hc.1.1,af,hc.2.symm⟩
   constructor
   ·rintro(h|h)
    ·exact .inl h
    ·exact .inr ⟨.inr h.1,h.2⟩
   ·rintro(h|⟨h|h,h2⟩)
    ·exact .inl h
    ·subst h;exact absurd qX h2
    ·exact .inr ⟨h,h2⟩
theorem fH:∀t:Tm,Dv (c8 t)/\∀v,v∈c8 t↔fG v t=true:=by
 refine Tm.fe fun t ih=> ?_
 have hs:∀ (l:List Tm) (i:Nat) (out:List Int),(∀k∈l,k∈t.kids)->Dv out->Dv (jR t.op t.n l i out)/\∀v,v∈jR t.op t.n l i out↔v∈out\/v8 v t.op t.n l i=true:=by
  intro l
  induction l with
  |nil=>intro i out _ h;exact⟨h,fun v=>by simp[jR,v8]⟩
  |cons k l Oh=>
   intro i out hk h
   have h1:=ih k (hk k aK)
   have h2:=lG t.op t.n i (c8 k) out h
   have h3:=Oh (i+1) _ (fun x hx=>hk x pw) h2.1
   refine⟨h3.1,fun v=> ?_⟩
   show v∈jR t.op t.n l (i+1) (mL t.op t.n i (c8 k) out)↔_
   rw[h3.2 v,h2.2 v,h1.2 v,v8]
   simp only[Bool.or_eq_true,Bool.and_eq_true,Bool.not_eq_true',Bool.and_eq_false_iff,beq_eq_false_iff_ne,ne_eq,not_and]
   have:(∀ (_:t.op=8) (_:i=1), ¬t.n=v)↔((¬t.op=8\/ ¬i=1)\/ ¬t.n=v):=by
    constructor
    ·intro h
     by_cases c1:t.op=8
     ·by_cases c2:i=1
      ·exact .inr (h c1 c2)
      ·exact .inl (.inr c2)
     ·exact .inl (.inl c1)
    ·rintro((h|h)|h) c1 c2
     ·exact absurd c1 h
     ·exact absurd c2 h
     ·exact h
   rw[this]
   constructor
   ·rintro((h|h)|h)
    ·exact .inl h
    ·exact .inr (.inl h)
    ·exact .inr (.inr h)
   ·rintro(h|h|h)
    ·exact .inl (.inl h)
    ·exact .inl (.inr h)
    ·exact .inr h
 by_cases h1:t.op=1
 ·rw[nV,if_pos h1]
  refine⟨aK,fun v=> ?_⟩
  rw[pa,if_pos h1]
  simp only[List.mem_singleton,beq_iff_eq]
  exact eq_comm
 ·rw[nV,if_neg h1]
  have:=hs t.kids 0 [] (fun _ h=>h) aK
  refine⟨this.1,fun v=> ?_⟩
  rw[this.2 v,pa,if_neg h1]
  simp
theorem sq{α:Type}{l:List α}{i:Nat}{n:α}(h:l[i]? =some n):(n::l.eraseIdx i).Perm l:=by
 obtain⟨hi,e⟩:=List.getElem?_eq_some_iff.1 h
 have JA:l=l.take i++n::l.drop (i+1):=by rw[<- e,List.getElem_cons_drop,List.take_append_drop]
 rw[List.eraseIdx_eq_take_drop_succ]
 conv=>rhs;rw[JA]
 exact List.perm_middle.symm
end Go.Proofs.YtlhemmpklhhgoaaGreat
section
namespace Go.Proofs.YtlhemmpklhhgoaaGreat
open Go.Sort Go.RowKit
end Go.Proofs.YtlhemmpklhhgoaaGreat
end
section
namespace Go.Proofs.YtlhemmpklhhgoaaGreat
open Go.Shelf
end Go.Proofs.YtlhemmpklhhgoaaGreat
end
namespace Go.Proofs.YtlhemmpklhhgoaaGreat
end Go.Proofs.YtlhemmpklhhgoaaGreat
namespace Go.Proofs.YtlhemmpklhhgoaaGreat
section
section
variable {B:Nat->Prop}{w:World}
end
end
@[reducible] def mpD (m:List (Int×D)):D:= .mp ((enc (D.int .i64) m).map (·.1)) ((enc (D.int .i64) m).map (·.2))
theorem lH(m:List (Int×D)):(((enc (D.int .i64) m).map (·.1)).zip ((enc (D.int .i64) m).map (·.2)))=enc (D.int .i64) m:=Iy _ m
theorem Dw:∀ {l:List Int},Dv l->l.Nodup:=by
 intro l h
 exact List.Pairwise.imp (fun h=>af) h
theorem F6(a b:List Tm)(ha:a.length<=9223372036854775807)(hb:b.length<=9223372036854775807)(g:Nat)(h:∀x∈a,∀y∈b,aY Tryz.prog g [x.d,y.d] (.ret [.bool (ig x y)]))(o:Nat->aa)(nx:Nat)(hg:Good o nx)(K X:V->(Nat->aa)->Nat->Prop)
 (hK:∀o' nx',nx<=nx'->Good o' nx'->(∀j,j<nx->o' j=o j)->K (.d (.bool (a.length==b.length&&fC a b))) o' nx'):
 dV Tryz.prog 133 [.d (.sl (a.map Tm.d)), .d (.sl (b.map Tm.d)), .func (.func g) [] []] o nx K X:=by
 refine dV.aN mix KH aK ?_
 rw[NL]
 refine wJ ?_
 refine ak (fun h1=> ?_) (fun h1=> ?_)
 ·refine cQ ?_
  have:(a.length==b.length&&fC a b)=false:=by
   have:(a.length==b.length)=false:=by
    rw[Bool.eq_false_iff];intro h
    simp at h;simp[h]at h1
   rw[this];rfl
  rw[this]at hK
  exact hK _ _ af (hg.mono af) (fun _ _=>rfl)
 ·have hl:a.length=b.length:=by simp at h1;omega
  have EO:(a.length==b.length)=true:=by simpa using hl
  rw[EO,Bool.true_and]at hK
  refine wJ ?_
  refine aL (fun k:Nat=>⟨bc [.d (.sl (a.map Tm.d)), .d (.sl (b.map Tm.d)), .func (.func g) [] [], .ab, .ab, .ab, .ab, .ab, .ab, .ab, .ab, .ab, .ab, .ab, .ab, .d (.sl (a.map Tm.d)), .d (.i a.length), .d (.i k)],o,nx⟩)
   (fun k=>k<=a.length/\∀i,i<k->∀x y,a[i]? =some x->b[i]? =some y->ig x y=true) (fun k=>a.length - k) 0 ⟨Nat.zero_le _,fun i h=>af⟩ (bM.bP _ (Nat.le_refl _) af hg (fun _ _=>rfl) ?_) (fun k hk=> ?_)
  ·exact ec
  refine cQ ?_
  refine ak (fun h2=> ?_) (fun h2=> ?_)
  ·simp at h2
   obtain⟨x,hx⟩:=aH h2
   obtain⟨y,hy⟩:=aH (l:=b) (k:=k) af
   simp+contextual (disch:=first|omega|simp only[go_sem,false_implies]) only[go_sem,wrap64,if_pos,hx,hy,Nat.add_assoc,Nat.left_eq_add,Nat.add_eq_left,Nat.add_left_cancel_iff]
   refine aw (h x (List.mem_of_getElem? hx) y (List.mem_of_getElem? hy)) rfl ?_
   refine cQ ?_
   refine ak (fun h3=> ?_) (fun h3=> ?_)
   ·refine cQ ?_
    simp at h3
    have:fC a b=false:=by
     rw[Bool.eq_false_iff];intro h4
     have:=(fE _ _ hl).1 h4 k x y hx hy
     rw[h3]at this;cases this
    rw[this]at hK
    refine hK _ _ af ?_ (fun j hj=>by(repeat(first|rfl|rw[ag]|rw[ah _ _ _ _ (by omega)])))
    exact dZ
   ·refine cQ ?_
    simp at h3
    refine ax (k+1) ⟨h2,fun i hi u v hu hv=> ?_⟩ af (bM.bP _ (Nat.le_refl _) af hg (fun j hj=>by(repeat(first|rfl|rw[ag]|rw[ah _ _ _ _ (by omega)]))) ?_)
    ·by_cases e:i=k
     ·subst e
      rw[hx]at hu;rw[hy]at hv
      exact Rf
     ·exact hk.2 i af u v hu hv
    ·exact ec
  ·refine cQ ?_
   simp at h2
   have:fC a b=true:=(fE _ _ hl).2 fun i x y hx hy=>hk.2 i (by have:=(List.getElem?_eq_some_iff.1 hx).1;omega) x y hx hy
   rw[this]at hK
   exact hK _ _ af (hg.mono af) (fun _ _=>rfl)
def lk:List (Int×Int)->Int->Option Int
 |[],_=>none
 |p::m,v=>if p.1=v then some p.2 else lk m v
abbrev Keys(m:List (Int×Int)):Prop:=(m.map (·.1)).Nodup
def ints(m:List (Int×Int)):List (Int×D):=m.map fun p=>(p.1,D.i p.2)
def bW:List (Int×Tm)->Int->Option Tm
 |[],_=>none
 |p::l,v=>if p.1=v then some p.2 else bW l v
mutual
def Tm.wf:Tm->Prop
 | .mk op _ kids=>(op=1->kids=[])/\(op=8->kids.length=2)/\Tm.VC kids
def Tm.VC:List Tm->Prop
 |[]=>True
 |k::l=>k.wf/\Tm.VC l
end
theorem Tm.B5:∀l:List Tm,Tm.VC l↔∀k∈l,k.wf
 |[]=>by simp[Tm.VC]
 |k::l=>by simp[Tm.VC,Tm.B5 l]
theorem Tm.Aw (t:Tm):t.wf↔(t.op=1->t.kids=[])/\(t.op=8->t.kids.length=2)/\∀k∈t.kids,k.wf:=by cases t;simp[Tm.wf,Tm.B5,Tm.op,Tm.kids]
theorem OD{t:Tm}(h:t.kids.length=2):∃a b,t.kids=[a,b]:=by
 match hk:t.kids with
 |[a,b]=>exact⟨a,b,rfl⟩
 |[]=>rw[hk]at h;cases h
 |[_]=>rw[hk]at h;cases h
 |_::_::_::_=>rw[hk]at h;simp at h
theorem nW{b:List (Int×Tm)}{v:Int}:bW b v=none↔v∉b.map (·.1):=by
 induction b with
 |nil=>simp[bW]
 |cons p l ih=>
  simp only[bW,List.map_cons,List.mem_cons,not_or]
  split
  ·rename_i h;simp[h]
  ·rename_i h;rw[ih];exact⟨fun h2=>⟨fun e=>h e.symm,h2⟩,fun h2=>h2.2⟩
theorem dm{b:List (Int×Tm)}{v:Int}{x:Tm}(h:bW b v=some x):(v,x)∈b:=by
 induction b with
 |nil=>cases h
 |cons p l ih=>
  simp only[bW]at h
  split at h
  ·rename_i e;injection h with h;subst h;subst e;exact List.mem_cons_self ..
  ·exact List.mem_cons_of_mem _ (ih h)
theorem nX{b:List (Int×Tm)}(hb:(b.map (·.1)).Nodup){v:Int}{x:Tm}:bW b v=some x↔(v,x)∈b:=by
 refine⟨dm,fun h=> ?_⟩
 induction b with
 |nil=>cases h
 |cons p l ih=>
  rw[List.map_cons,List.nodup_cons]at hb
  simp only[bW]
  rcases List.mem_cons.1 h with e|h
  ·subst e;simp
  ·rw[if_neg (fun e=>hb.1 (by rw[e];exact List.mem_map.2 ⟨_,h,rfl⟩)),ih hb.2 h]
def yC(b:Bool)(x:Tm×Int):Bool:=b&&x.1.op !=1
def Lj(t:Tm):Bool:=(pre t 1).all fun x=>x.1.op !=1
theorem pW:∀ (l:List (Tm×Int)) (b:Bool),(aD (sL (fun _=>none) yC) b l).1=(b&&l.all fun x=>x.1.op !=1)
 |[],b=>by simp[aD]
 |x::l,b=>by
  have e1:sL (fun _=>(none:Option iu)) yC b x=(yC b x,true):=rfl
  rw[aD,e1]
  simp only[if_true]
  rw[pW l,yC,List.all_cons,Bool.and_assoc]
theorem Ax(s:aJ)(hs:s.Fits)(t:Tm)(ht:t.Fin):aY Tryz.prog 129 [s.d,t.d] (.ret [.bool (il s [t]&&la t), .bool (il s [t]&&la t&&Lj t), .i (ke (il s [t]))]):=by
 refine aY.aN mix KG aK ?_
 rw[NK]
 refine cQ ?_
 refine aw (IB s hs [t] aK (fun x hx=>by simp at hx;subst hx;exact ht)) rfl ?_
 cases h1:il s [t]with
 |false=>simp+contextual (disch:=first|omega|simp only[go_sem,false_implies]) only[go_sem,wrap64,if_pos,and_self];simp[ke]
 |true=>
  refine wJ ?_
  refine eF (r8 t _ _ _ _ ?_)
  refine wJ ?_
  refine kZ (σ:=Bool) t ht.fits ht.mS [.ab, .ab, .ab, .ptr 1 0, .ab, .ab, .ab, .ptr 10 0] ?_ dU rfl dZ wM (ag _ _ _)
   (fun b=>aM (aM (aM (aM (aM (fun _=> .no) 0 (.row s.row)) 1 (.row t.row)) 7 (.arr 0 33 3 [t.d])) 10 (.row [.d (.bool b)])) 13 (.row t.row)) (fun _=>none) yC (fun _=>True) true trivial rfl (fun id aq=> ?_) (fun _ _ _ _ _ _=>trivial) ?_ ?_
  ·exact G5
  ·rw[qA]
  ·intro L hL AW x hx s' h1 h2 o3 n3 hI hn ho K X dx
   simp only[nH]
   have hg:=hI.bZ
   have q1:o3 10= .row [.d (.bool s')]:=hI.eq 10 af
   refine cQ ?_
   refine nP hL (pd:=none) ?_ ?_
   ·(repeat(first|rfl|rw[ag]|rw[ah _ _ _ _ (by omega)]))
    exact ho
   refine ou q1 ?_
   refine dx _ _ _ .busy none af ⟨dZ,af,fun id aq=> ?_⟩ iA (fun id h3 h4=>by(repeat(first|rfl|rw[ag]|rw[ah _ _ _ _ (by omega)])))
   by_cases e:id=10
   ·exact sO
   ·rw[ah _ _ _ _ e];(repeat(first|rfl|rw[ag]|rw[ah _ _ _ _ (by omega)]))
    rw[hI.eq id aq]
    simp only[aC,e,if_false]
  ·intro o' n' hI
   have hf:=pW (pre t 1) true
   rw[Bool.true_and]at hf
   rw[hf]at hI
   have q0:o' 1= .row t.row:=hI.eq 1 af
   have q1:o' 10= .row [.d (.bool (Lj t))]:=hI.eq 10 af
   simp only[oO]
   simp+contextual (disch:=first|omega|simp only[go_sem,false_implies]) only[go_sem,wrap64,if_pos,q0,q1]
   refine aw (Dq t ht) rfl ?_
   cases hv:la t<;>(simp+contextual (disch:=first|omega|simp only[go_sem,false_implies]) only[go_sem,wrap64,if_pos,q0,q1];refine bg dU ?_;simp+contextual (disch:=first|omega|simp only[go_sem,false_implies]) only[go_sem,wrap64,if_pos,and_self];simp[ke])
end Go.Proofs.YtlhemmpklhhgoaaGreat
