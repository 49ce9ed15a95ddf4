/-
  A PART OF THE PROOF. Conditions: none.
-/
import Derived.Shelf.Sort.Plain
import Derived.Shelf.Slices.In.SortNone
import Derived.Test.YtlhemmpklhhgoaaGreatQn14
set_option linter.unusedSimpArgs false
set_option linter.unusedVariables false
namespace Go.Proofs.YtlhemmpklhhgoaaGreat
section
theorem DB{σ:Type}(l:List Tm)(hl:l.length<=9223372036854775807)(g:Nat)(bR:List V)(base:Nat)(H:σ->Nat->ab)(step:σ->Tm->σ×Bool)(hc:∀r∈V.aL bR,r<base)(ok:σ->Prop)(aY:∀x∈l,∀s,ok s->(step s x).2=true->ok (step s x).1)
 (h:∀x∈l,∀s,ok s->wJ Tryz.prog g (.d x.d::bR) base (H s) (H (step s x).1) (.d (.bool (step s x).2))) (s:σ) (nm:ok s):
 wJ Tryz.prog 169 [.d (.sl (l.map Tm.d)), .func (.func g) [] bR] base (H s) (H (aQ step s l).1) (.d (.bool (aQ step s l).2)):=by
 intro o nx hI K X hK
 have eE:∀r∈V.aL bR,r<nx:=fun r hr=>Nat.lt_of_lt_of_le (hc r hr) hI.le
 refine bQ.aG mix UH aE ?_
 rw[X0]
 refine cT ?_
 refine aD (fun i:Nat×σ×(Nat->ab)×Nat=>⟨aZ [.ad, .func (.func g) [] bR, .ad, .ad, .ad, .ad, .ad, .d (.sl (l.map Tm.d)), .d (.i l.length), .d (.i i.1)],i.2.2.1,i.2.2.2⟩)
  (fun i=>i.1<=l.length/\eX base (H i.2.1) i.2.2.1 i.2.2.2/\nx<=i.2.2.2/\(∀id,base<=id->id<nx->i.2.2.1 id=o id)/\aQ step s l=aQ step i.2.1 (l.drop i.1)/\ok i.2.1) (fun i=>l.length - i.1) (0,s,o,nx)
  ⟨Nat.zero_le _,hI,Nat.le_refl _,fun _ _ _=>rfl,rfl,nm⟩ ?_ ?_
 ·exact VX
 rintro⟨k,s',o',nx'⟩ ⟨hk,OV,hn,c9,hf,wO⟩
 simp only at hk OV hn c9 hf wO
 refine cT ?_
 refine ao (fun h1=> ?_) (fun h1=> ?_)
 ·simp at h1
  obtain⟨x,hx⟩:=aB h1
  have ck:=List.mem_of_getElem? hx
  have hd:l.drop k=x::l.drop (k+1):=by
   exact VS
  refine Vz hx ?_
  have hl0:=OV.le
  refine gK (h x ck s' wO _ _ (?_:eX base (H s') _ (nx'+7)) _ _ fun o2 n2 m1 m2 m3=> ?_)
  ·exact aaN
  have Np:∀id,base<=id->id<nx->o2 id=o id:=fun id h2 h3=>by
   exact aa1
  refine cT ?_
  refine ao (fun h2=> ?_) (fun h2=> ?_)
  ·refine cT ?_
   simp at h2
   have:aQ step s l=((step s' x).1,false):=by rw[hf,hd,aQ,if_neg (by rw[h2];exact Bool.false_ne_true)]
   rw[this]at hK
   exact hK _ _ af (m2.mono af) Np
  ·refine cT ?_
   simp at h2
   have:aQ step s l=aQ step (step s' x).1 (l.drop (k+1)):=by rw[hf,hd,aQ,if_pos h2]
   refine aj (k+1,(step s' x).1,o2,n2) ⟨h1,m2,by dsimp only;omega,Np,this,aY x ck s' wO h2⟩ lK ?_
   dsimp only
   have UZ:∀r∈V.aL bR,r<n2:=fun r hr=>by have:=eE r hr;omega
   refine bO.cc _ af af m2.cH (fun _ _=>rfl) ?_
   exact dW
 ·exact abF
theorem Bi{α σ:Type}(step:σ->α->σ×Bool)(a b:List α):∀s,aQ step s (a++b)=if(aQ step s a).2=true then aQ step (aQ step s a).1 b else((aQ step s a).1,false):=by
 induction a with
 |nil=>intro s;simp[aQ]
 |cons x a ih=>
  intro s
  simp only[List.cons_append,aQ]
  split
  ·exact ih _
  ·rename_i h;simp
theorem wP{α β σ:Type}(step:σ->β->σ×Bool)(f:α->List β)(l:List α):∀s,aQ step s (l.flatMap f)=aQ (fun s x=>aQ step s (f x)) s l:=by
 induction l with
 |nil=>intro s;rfl
 |cons x l ih=>intro s;simp only[List.flatMap_cons,Bi,aQ,ih]
theorem B1{α σ:Type}{step:σ->α->σ×Bool}{ok:σ->Prop}:∀ (l:List α),(∀x∈l,∀s,ok s->(step s x).2=true->ok (step s x).1)->∀s,ok s->(aQ step s l).2=true->ok (aQ step s l).1
 |[],_,s,h,_=>h
 |x::l,aY,s,h,h2=>by
  simp only[aQ]at h2|-
  split at h2
  ·rename_i hb
   rw[if_pos hb]
   exact B1 l (fun y hy=>aY y lh) _ (aY x aE s h hb) h2
  ·cases h2
def RoC(P:Program)(rJ:Nat)(args:List V)(base:Nat)(h h2:Nat->ab)(v:V):Prop:=
 ∀o nx,eX base h o nx->∀K X,StK base h2 v o nx K->dQ P rJ args o nx K X
section
variable {σ:Type}(base rJ:Nat)(H:σ->Nat->ab)(step:σ->Tm×Int->σ×Bool)(ok:σ->Prop)
theorem QQ:∀t:Tm,t.fits->∀d:Int,0<=d->d+t.mK<=1000000->(∀x∈pre t d,∀s,ok s->(step s x).2=true->ok (step s x).1)->(∀x∈pre t d,∀s,ok s->RoC Tryz.prog rJ [.d x.1.d, .d (.i x.2)] base (H s) (H (step s x).1) (.d (.bool (step s x).2)))->rJ<base->
 ∀ (c:Nat) (o0:Nat->ab) (yb vb:Nat),base<=c->base<=yb->yb<c->base<=vb->vb<c->o0 yb= .row [.kM rJ]->o0 vb= .row [.func (.func 173) [] [.ptr yb 0, .ptr vb 0]]->
 ∀s,ok s->wJ Tryz.prog 173 [.d t.d, .d (.i d), .ptr yb 0, .ptr vb 0] c (ext base (H s) o0) (ext base (H (aQ step s (pre t d)).1) o0) (.d (.bool (aQ step s (pre t d)).2)):=by
 refine Tm.eN fun t ih hf d hd0 hd aY hR DC c o0 yb vb hbc hy0 hy hv0 hv oy ov s nm=> ?_
 have xT:=(Tm.cm _).1 hf
 intro o nx hI K X hK
 have hle:=hI.le
 have oy':o yb= .row [.kM rJ]:=by rw[hI.eq yb hy];unfold ext;rw[if_neg (by omega),oy]
 have Yn:o vb= .row [.func (.func 173) [] [.ptr yb 0, .ptr vb 0]]:=by rw[hI.eq vb hv];unfold ext;rw[if_neg (by omega),ov]
 have y1:yb≠nx:=af
 have y2:∀k,yb≠nx+k:=fun k=>af
 have y3:vb≠nx:=af
 have y4:∀k,vb≠nx+k:=fun k=>af
 refine bQ.aG mix UL aE ?_
 rw[X5]
 simp+contextual only[go_sem,oy',Yn,y1,y2,y3,y4,Nat.add_assoc,Nat.left_eq_add,Nat.add_eq_left,Nat.add_left_cancel_iff]
 have qs:=nS t d
 have uu:∀k∈t.kids,∀x∈pre k (d+1),x∈pre t d:=fun k hk x hx=>by
  rw[qs];exact List.mem_cons_of_mem _ (List.mem_flatMap.2 ⟨k,hk,hx⟩)
 have hb:∀id,id<base->o id=H s id:=fun id ax=>by rw[hI.eq id (by omega)];unfold ext;rw[if_pos ax]
 have hIb:eX base (H s) o nx:=⟨hI.cH,af,hb⟩
 refine n6 (hR (t,d) (by rw[qs];simp) s nm _ _ ((hIb.ay (i:=nx) (m:=nx+6) af af af rfl).ay (i:=nx+1) af af af rfl) _ _ fun o2 n2 m1 m2 m3=> ?_)
 have k0:o2 nx= .row t.row:=by rw[m3 nx (by omega) (by omega),ae _ _ _ _ (by omega),aa]
 have k1:o2 (nx+1)= .row [.d (.i d)]:=by rw[m3 (nx+1) (by omega) (by omega),aa]
 have hold:∀id,base<=id->id<nx->o2 id=o id:=fun id h1 h2=>by rw[m3 id h1 (by omega),ae _ _ _ _ (by omega),ae _ _ _ _ (by omega)]
 have KG:∀id,base<=id->id<c->o id=o0 id:=fun id h1 h2=>by rw[hI.eq id h2];unfold ext;rw[if_neg (by omega)]
 cases G0:(step s (t,d)).2 with
 |false=>
  refine lg G0 ?_
  have BT:aQ step s (pre t d)=((step s (t,d)).1,false):=by rw[qs,aQ,if_neg (by rw[G0];exact Bool.false_ne_true)]
  rw[BT]at hK
  refine hK _ _ af ⟨m2.cH.mono af,af,fun id ax=> ?_⟩ (fun id h1 h2=>hold id af h2)
  unfold ext
  split
  ·exact m2.eq id (by assumption)
  ·exact Pv
 |true=>
  have BT:aQ step s (pre t d)=aQ (fun s k=>aQ step s (pre k (d+1))) (step s (t,d)).1 t.kids:=by rw[qs,aQ,if_pos G0,wP]
  simp+contextual only[go_sem,G0,k0,k1]
  have q0:o2 yb= .row [.kM rJ]:=by rw[hold yb hy0 (by omega),oy']
  have q1:o2 vb= .row [.func (.func 173) [] [.ptr yb 0, .ptr vb 0]]:=by rw[hold vb hv0 (by omega),Yn]
  have m0:=m2.le
  refine aU (DB t.kids xT.1 174 [.ptr vb 0, .ptr (nx+1) 0] n2 (fun s=>ext base (H s) o2) (fun s k=>aQ step s (pre k (d+1))) ?_ ok ?_ ?_ (step s (t,d)).1 (aY (t,d) (by rw[qs];simp) s nm G0) _ _ ?_ _ _ ?_)
  ·exact GM
  ·exact Sa
  ·intro k hk s' jU o3 n3 hI3 K3 X3 hK3
   have l3:=hI3.le
   have r0:o3 vb= .row [.func (.func 173) [] [.ptr yb 0, .ptr vb 0]]:=by rw[hI3.eq vb (by omega)];unfold ext;rw[if_neg (by omega),q1]
   have r1:o3 (nx+1)= .row [.d (.i d)]:=by rw[hI3.eq (nx+1) (by omega)];unfold ext;rw[if_neg (by omega),k1]
   have y5:vb≠n3:=af
   have y6:∀k,vb≠n3+k:=fun k=>af
   have y7:nx+1≠n3:=af
   have y8:∀k,nx+1≠n3+k:=fun k=>af
   have hh:=Tm.rB hk
   refine bQ.aG mix UM aE ?_
   rw[X6]
   simp+contextual only[go_sem,r0,r1,y5,y6,y7,y8]
   rw[wrap64 (n:=d+1) (by omega) (by omega)]
   refine aU (ih k hk (xT.2 k hk) (d+1) af af (fun x hx=>aY x (uu k hk x hx)) (fun x hx=>hR x (uu k hk x hx)) DC n2 o2 yb vb af hy0 af hv0 af q0 q1 s' jU _ _ (hI3.ay (i:=n3) (m:=n3+6) af af af rfl) _ _ fun o4 n4 p1 p2 p3=> ?_)
   refine cT ?_
   refine hK3 _ _ af (p2.mono af) (fun id h1 h2=> ?_)
   rw[p3 id h1 (by omega),ae _ _ _ _ (by omega)]
  ·exact(m2.mono af).ext af af
  ·intro o5 n5 p1 p2 p3
   refine cT ?_
   rw[<- BT]
   refine hK _ _ af ⟨p2.cH.mono af,af,fun id ax=> ?_⟩ (fun id h1 h2=> ?_)
   ·rw[p2.eq id (by omega), <- BT]
    unfold ext
    split
    ·rfl
    ·exact Pv
   ·rw[p2.eq id (by omega)]
    unfold ext
    rw[if_neg (by omega),hold id (by omega) h2]
theorem Nq(t:Tm)(hf:t.fits)(hd:t.mK<=900000)(aY:∀x∈pre t 1,∀s,ok s->(step s x).2=true->ok (step s x).1)(hR:∀x∈pre t 1,∀s,ok s->RoC Tryz.prog rJ [.d x.1.d, .d (.i x.2)] base (H s) (H (step s x).1) (.d (.bool (step s x).2)))(DC:rJ<base)(tb:Nat)(K2:tb<base)(s:σ)(nm:ok s)(da:H s tb= .row t.row):
 wJ Tryz.prog 172 [.kM rJ, .ptr tb 0] base (H s) (H (aQ step s (pre t 1)).1) (.bW []):=by
 intro o nx hI K X hK
 have hle:=hI.le
 have ot:o tb= .row t.row:=by rw[hI.eq tb K2,da]
 have y1:tb≠nx:=af
 have y2:∀k,tb≠nx+k:=fun k=>af
 refine bQ.aG mix UK aE ?_
 rw[X4]
 simp+contextual only[go_sem,ot,y1,y2,Nat.add_assoc,Nat.left_eq_add,Nat.add_eq_left,Nat.add_left_cancel_iff]
 have hI1:eX base (H s) (ay (ay (ay o nx (.row [.kM rJ])) (nx+1) (.row [.d .cF])) (nx+1) (.row [.func (.func 173) [] [.ptr nx 0, .ptr (nx+1) 0]])) (nx+6):=by
  refine((hI.ay (i:=nx) (m:=nx+6) af af af ?_).ay (i:=nx+1) (m:=nx+6) af af af rfl).ay (i:=nx+1) af af af ?_
  ·exact Ln
  ·exact ur
 refine aU (QQ base rJ H step ok t hf 1 af af aY hR DC (nx+6) _ nx (nx+1) af hle af af af ?_ ?_ s nm _ _ (hI1.ext (Nat.le_refl _) af) _ _ ?_)
 ·exact cg
 ·exact cg
 intro o2 n2 m1 m2 m3
 refine cT ?_
 refine hK _ _ af ⟨m2.cH,af,fun id ax=> ?_⟩ (fun id h1 h2=> ?_)
 ·rw[m2.eq id (by omega)];unfold ext;rw[if_pos ax]
 ·exact Ta
end
theorem wQ(t:Tm)(o:Nat->ab)(nx:Nat)(K X:V->(Nat->ab)->Nat->Prop)(h:K (.func (.func 172) [] [.ptr nx 0]) (ay o nx (.row t.row)) (nx+4)):bQ Tryz.prog 159 [.d t.d] o nx K X:=by
 refine bQ.aG mix UA aE ?_
 rw[XS]
 refine cT ?_
 exact h
end
def U0:Option ky->fS
 |none=> .normal
 |some .ret=> .ret
 |some (.exit j)=> .exit j
def xH{σ:Type}(J:σ->Option ky)(step:σ->Tm×Int->σ)(s:σ)(x:Tm×Int):σ×Bool:=(step s x,(J (step s x)).isNone)
theorem Bj{σ:Type}(J:σ->Option ky)(step:σ->Tm×Int->σ):∀ (l:List (Tm×Int)) (s:σ),J s=none->(aQ (xH J step) s l).2=(J (aQ (xH J step) s l).1).isNone
 |[],s,h=>by simp[aQ,h]
 |x::l,s,h=>by
  simp only[aQ]
  split
  ·rename_i hb
   exact Bj J step l _ (by simpa[xH]using hb)
  ·rename_i hb
   cases hj:J (step s x)with
   |none=>exact absurd (by simp[xH,hj]) hb
   |some j=>simp[xH,hj]
theorem og{σ:Type}(t:Tm)(hf:t.fits)(hd:t.mK<=900000){n bq:Nat}{gq:Operand}{ps:List Nat}{jV fG:IC}{Q:fS->S->Prop}{e:Nat->V}{o:Nat->ab}{nx tb:Nat}(env:List V)(he:nZ e env 0)
 (FG:ps.all (fun t=>decide (t<n))=true) (hl:ps.length=2) (hg:Good o nx) (hrefs:∀r∈V.aL env,r<nx) (ht:o tb= .row t.row)
 (G:σ->Nat->ab) (J:σ->Option ky) (step:σ->Tm×Int->σ) (ok:σ->Prop) (s0:σ) (nm:ok s0) (hJ0:J s0=none) (h0:∀id,id<nx->o id=G s0 id) (aY:∀x∈pre t 1,∀s,ok s->J s=none->J (step s x)=none->ok (step s x))
 (vS:∀L,jv Tryz.prog n env ps jV fG L->(∀st pd m,nx<=m->(L st pd).refs.all (fun r=>decide (r<m))=true)->∀x∈pre t 1,∀s,ok s->J s=none->∀o3 n3,eX nx (G s) o3 n3->nx<n3->o3 nx=L .ready none->∀K X,
  (∀e' o' n' st pd,n3<=n'->eX nx (G (step s x)) o' n'->o' nx=L st pd->(∀id,nx<id->id<n3->o' id=o3 id)->lH nx K X (U0 (J (step s x))) ⟨e',o',n'⟩)->
  ke Tryz.prog n n3 true jV (tc Tryz.prog n n3 nx fG K X) ⟨qk (aZ env) ps [.d x.1.d, .d (.i x.2)],o3,n3⟩)
 (jt:∀o' n',eX nx (G (aQ (xH J step) s0 (pre t 1)).1) o' n'->rk Q (J (aQ (xH J step) s0 (pre t 1)).1) ⟨e,o',n'⟩):
 uJ Tryz.prog n bq false gq ps jV fG Q ⟨e,o,nx⟩ (.func (.func 172) [] [.ptr tb 0]):=by
 refine FR env he (fun L hL=> ?_)
 have K2:tb<nx:=hg.lt (by rw[ht];exact ab.noConfusion)
 let H:σ->Nat->ab:=fun s id=>if id<nx then G s id else if id=nx then(match J s with|none=>L .ready none|some j=>L .done (some j))else .no
 have sB:∀s id,id<nx->H s id=G s id:=fun s id h=>if_pos h
 have FU:∀s,J s=none->H s nx=L .ready none:=fun s h=>by show(if nx<nx then _ else _)=_;rw[if_neg (by omega),if_pos rfl,h]
 have U1:∀s j,J s=some j->H s nx=L .done (some j):=fun s j h=>by show(if nx<nx then _ else _)=_;rw[if_neg (by omega),if_pos rfl,h]
 have yg:∀st pd m,nx<=m->(L st pd).refs.all (fun r=>decide (r<m))=true:=fun st pd m hm=>by
  exact SU
 refine Nq (nx+1) nx H (xH J step) (fun s=>ok s/\J s=none) t hf hd (fun x hx s h1 h2=> ?_) (fun x hx s h1=> ?_) af tb af s0 ⟨nm,hJ0⟩ (by rw[sB _ _ K2, <- h0 _ K2,ht]) _ _ ⟨?_,Nat.le_refl _,fun id ax=> ?_⟩ _ _ ?_
 ·have hj:J (step s x)=none:=by simpa[xH]using h2
  exact⟨aY x hx s h1.1 h1.2 hj,hj⟩
 ·intro o3 n3 hI K X hK
  have hle:=hI.le
  have O8:o3 nx=L .ready none:=by rw[hI.eq nx (by omega),FU s h1.2]
  refine wK hL mix O8 af FG (by simp[hl]) ?_
  refine vS L hL yg x hx s h1.1 h1.2 o3 n3 ⟨hI.cH,af,fun id ax=>by rw[hI.eq id (by omega),sB _ _ ax]⟩ af O8 K X (fun e' o' n' st pd k1 k2 k3 k4=> ?_)
  have key:∀st' pd' b,(J (step s x)).isNone=b->H (step s x) nx=L st' pd'->K (.d (.bool b)) (ay o' nx (L st' pd')) n':=fun st' pd' b hb hh=>by
   subst hb
   refine hK _ _ k1 ⟨k2.cH.ay af (yg _ _ _ af),af,fun id ax=> ?_⟩ (fun id g1 g2=> ?_)
   ·by_cases xM:id=nx
    ·subst xM;rw[aa];exact hh.symm
    ·rw[ae _ _ _ _ xM]
     show o' id=H (step s x) id
     rw[sB _ _ (by omega)];exact k2.eq id af
   ·rw[ae _ _ _ _ (by omega)];exact k4 id af g2
  cases hj:J (step s x)with
  |none=>exact tf hL k3 (key _ _ _ yx (FU _ hj))
  |some j=>
   cases j with
   |ret=>exact wL hL k3 (key _ _ _ yx (U1 _ _ hj))
   |exit j=>exact ud hL k3 (key _ _ _ yx (U1 _ _ hj))
 ·exact(hg.mono af).ay af (yg _ _ _ af)
 ·by_cases xM:id=nx
  ·subst xM;rw[aa,FU _ hJ0]
  ·exact Sw
 ·intro o' n' k1 k2 k3
  have hle:=k2.le
  generalize hsf:(aQ (xH J step) s0 (pre t 1)).1=sf at*
  have kk:∀st pd,eX nx (G sf) (ay o' nx (L st pd)) n':=fun st pd=>⟨k2.cH.ay af (yg _ _ _ af),af,fun id ax=>by rw[ae _ _ _ _ (by omega),k2.eq id (by omega),sB _ _ ax]⟩
  cases hj:J sf with
  |none=>
   refine⟨.ready,none,by rw[k2.eq nx (by omega),FU _ hj],(fun h=>by cases h), ?_⟩
   have:=jt _ _ (kk .exhausted none)
   rwa [hj]at this
  |some j=>
   refine⟨.done,some j,by rw[k2.eq nx (by omega),U1 _ _ hj],(fun h=>by cases h), ?_⟩
   have:=jt _ _ (kk .exhausted (some j))
   rwa [hj]at this
theorem gU(n low high:Int):aX Tryz.prog 146 [.i n, .i low, .i high] (.ret [.bool (dU n low high)]):=by
 refine aX.aG mix Uv aE ?_
 rw[XN]
 refine cT ?_
 rfl
theorem FV(s:aA)(t:Tm)(h:t.op=1):aX Tryz.prog 194 [s.d,t.d] (.ret [.bool (bF s t)]):=by
 have hn:bF s t=(dU t.n 0 19&&(t.kids.length:Int)==0):=by simp[bF,h,Bool.and_comm]
 refine aX.aG mix UP aE ?_
 rw[X9]
 exact VY
theorem J6(s:aA)(t:Tm)(h:t.op=2):aX Tryz.prog 195 [s.d,t.d] (.ret [.bool (bF s t)]):=by
 have hn:bF s t=(dU t.n (-1000000) 1000000&&(t.kids.length:Int)==0):=by simp[bF,h,Bool.and_comm]
 refine aX.aG mix UQ aE ?_
 rw[Ya]
 exact VY
theorem aeD(s:aA)(t:Tm)(h:t.op=8):aX Tryz.prog 199 [s.d,t.d] (.ret [.bool (bF s t)]):=by
 have hn:bF s t=(dU t.n 0 19&&(t.kids.length:Int)==2):=by simp[bF,h,Bool.and_comm]
 refine aX.aG mix UU aE ?_
 rw[Ye]
 exact VY
theorem Yo(s:aA)(t:Tm)(h:t.op=6\/t.op=7\/t.op=9\/t.op=10\/t.op=11\/t.op=12\/t.op=13\/t.op=14\/t.op=15):aX Tryz.prog 200 [s.d,t.d] (.ret [.bool (bF s t)]):=by
 have hn:bF s t=(t.n==0&&(t.kids.length:Int)==2):=by
  rcases h with h|h|h|h|h|h|h|h|h<;>simp[bF,h,dU,Bool.and_comm]
 refine aX.aG mix UW aE ?_
 rw[Yf]
 refine cT ?_
 rw[hn]
theorem aeE(s:aA)(t:Tm)(hs:s.Fits)(h:t.op=3):aX Tryz.prog 196 [s.d,t.d] (.ret [.bool (bF s t)]):=by
 have hn:bF s t=(dU t.n 0 (s.cons.length - 1)&&(t.kids.length:Int)==iS s.cons t.n):=by simp[bF,h]
 refine aX.aG mix UR aE ?_
 rw[Yb]
 refine cT ?_
 rw[wrap64 (by have:=hs.lc;omega) (by have:=hs.lc;omega)]
 refine a7 (gU _ _ _) rfl ?_
 cases hI:dU t.n 0 (s.cons.length - 1)with
 |false=>
  exact VW
 |true=>
  exact VP
theorem aeF(s:aA)(t:Tm)(hs:s.Fits)(h:t.op=4):aX Tryz.prog 197 [s.d,t.d] (.ret [.bool (bF s t)]):=by
 have hn:bF s t=(dU t.n 0 (s.b9.length - 1)&&(t.kids.length:Int)==iS s.b9 t.n):=by simp[bF,h]
 refine aX.aG mix US aE ?_
 rw[Yc]
 refine cT ?_
 rw[wrap64 (by have:=hs.lf;omega) (by have:=hs.lf;omega)]
 refine a7 (gU _ _ _) rfl ?_
 cases hI:dU t.n 0 (s.b9.length - 1)with
 |false=>
  exact VW
 |true=>
  exact VP
theorem Yp(s:aA)(t:Tm)(hs:s.Fits)(h:t.op=5):aX Tryz.prog 198 [s.d,t.d] (.ret [.bool (bF s t)]):=by
 have hn:bF s t=(dU t.n 0 (s.b9.length - 1)&&decide ((t.kids.length:Int)<iS s.b9 t.n)):=by simp[bF,h]
 refine aX.aG mix UT aE ?_
 rw[Yd]
 refine cT ?_
 rw[wrap64 (by have:=hs.lf;omega) (by have:=hs.lf;omega)]
 refine a7 (gU _ _ _) rfl ?_
 cases hI:dU t.n 0 (s.b9.length - 1)with
 |false=>
  exact VW
 |true=>
  exact VP
@[reducible] def rf (n:Nat):V:= .func (.func n) [] []
@[reducible] def ag0:List V:=[.d .cF,rf 194,rf 195,rf 196,rf 197,rf 198, .d .cF, .d .cF,rf 199, .d .cF, .d .cF, .d .cF, .d .cF, .d .cF, .d .cF, .d .cF]
@[reducible] def FW:List V:=[.d .cF,rf 194,rf 195,rf 196,rf 197,rf 198,rf 200,rf 200,rf 199,rf 200,rf 200,rf 200,rf 200,rf 200,rf 200,rf 200]
def Li(k:Nat):List V:=FW.take k++ag0.drop k
theorem funcOf{P:Program}{t:TypeId}(h:(match P.underlying t with|some (.func _ _ _)=>true|_=>false)=true):∃a b c,P.underlying t=some (.func a b c):=by
 split at h
 ·exact⟨_,_,_,by assumption⟩
 ·cases h
@[go_sem] theorem ag3 (o:Nat->ab) (nu:Bool):pn Tryz.prog o 209 nu (.d .cF) (.d .cF)=some (.d (.bool true)):=by
  exact S1
@[go_sem] theorem ag4 (o:Nat->ab) (nu:Bool) (f:Fn) (x y:List V):pn Tryz.prog o 209 nu (.func f x y) (.d .cF)=some (.d (.bool false)):=by
  exact S1
theorem QR(base:Nat)(h:Nat->ab):wJ Tryz.prog 187 [] base h h (.agg FW):=by
 intro o nx hI K X hK
 have hle:=hI.le
 refine bQ.aG mix UO aE ?_
 rw[X8]
 simp+contextual only[go_sem,Nat.add_assoc,Nat.left_eq_add,Nat.add_eq_left,Nat.add_left_cancel_iff]
 refine aD (fun k:Nat=>⟨aZ [.ptr nx 0, .ptr (nx+2) 0, .ad, .ad, .d (.i k)],ay (ay o nx (.row (List.replicate 16 (.d .cF)))) (nx+2) (.row (Li k)),nx+5⟩)
  (fun k=>k<=16) (fun k=>16 - k) 0 (Nat.zero_le _) ?_ (fun k hk=> ?_)
 ·refine bO.cc _ af af ?_ (fun id ax=> ?_) ?_
  ·exact((hI.cH.mono af).ay af rfl).ay af rfl
  ·rw[u5];rfl
  ·exact dW
 have hg:∀k,k<16->Good (ay (ay o nx (.row (List.replicate 16 (.d .cF)))) (nx+2) (.row (Li (k+1)))) (nx+5):=fun k hk=>
  ((hI.cH.mono af).ay af rfl).ay af (by
    rcases(by omega:k=0\/k=1\/k=2\/k=3\/k=4\/k=5\/k=6\/k=7\/k=8\/k=9\/k=10\/k=11\/k=12\/k=13\/k=14\/k=15)with rfl|rfl|rfl|rfl|rfl|rfl|rfl|rfl|rfl|rfl|rfl|rfl|rfl|rfl|rfl|rfl<;>rfl)
 by_cases ag5:k=16
 ·subst ag5
  refine aat ?_
  refine hK _ _ ?_ ⟨?_, ?_,fun id ax=> ?_⟩ (fun id h1 h2=> ?_)
  rotate_left
  ·exact(((hI.cH.mono af).ay af rfl).ay af rfl).ay af rfl
  ·omega
  ·(repeat(first|rfl|rw[aa]|rw[ae _ _ _ _ (by omega)]))
   exact hI.eq id ax
  ·exact cg
  ·omega
 ·have hgk:=hg k af
  obtain⟨k1,Mn⟩:∃k1,k1=k+1:=⟨_,rfl⟩
  rw[<- Mn]at hgk
  rcases(by omega:k=0\/k=1\/k=2\/k=3\/k=4\/k=5\/k=6\/k=7\/k=8\/k=9\/k=10\/k=11\/k=12\/k=13\/k=14\/k=15)with rfl|rfl|rfl|rfl|rfl|rfl|rfl|rfl|rfl|rfl|rfl|rfl|rfl|rfl|rfl|rfl
  all_goals
   refine aat ?_
   refine aj k1 af af (bO.cc _ af af hgk (fun id ax=> ?_) ?_)
   all_goals subst Mn
   ·first|rfl|(rw[u5];rfl)
   ·exact dW
def Nr(n:Int):Nat:=if n=1 then 194 else if n=2 then 195 else if n=3 then 196 else if n=4 then 197 else if n=5 then 198 else if n=8 then 199 else 200
theorem Yq(s:aA)(t:Tm)(hs:s.Fits)(h:dU t.op 1 15=true):aX Tryz.prog (Nr t.op) [s.d,t.d] (.ret [.bool (bF s t)])/\FW[t.op.toNat]? =some (rf (Nr t.op))/\0<=t.op/\t.op<16:=by
 simp[dU]at h
 rcases(by omega:t.op=1\/t.op=2\/t.op=3\/t.op=4\/t.op=5\/t.op=8\/(t.op=6\/t.op=7\/t.op=9\/t.op=10\/t.op=11\/t.op=12\/t.op=13\/t.op=14\/t.op=15))with h|h|h|h|h|h|h
 ·exact⟨by rw[h];exact FV s t h,by rw[h];rfl,af,af⟩
 ·exact⟨by rw[h];exact J6 s t h,by rw[h];rfl,af,af⟩
 ·exact⟨by rw[h];exact aeE s t hs h,by rw[h];rfl,af,af⟩
 ·exact⟨by rw[h];exact aeF s t hs h,by rw[h];rfl,af,af⟩
 ·exact⟨by rw[h];exact Yp s t hs h,by rw[h];rfl,af,af⟩
 ·exact⟨by rw[h];exact aeD s t h,by rw[h];rfl,af,af⟩
 ·have hp:=Yo s t h
  rcases h with h|h|h|h|h|h|h|h|h<;>exact⟨by rw[h];exact hp,by rw[h];rfl,af,af⟩
def pw(s:aA)(n:Int)(x:Tm×Int):Bool:=decide (40<n+1)||decide (12<x.2)|| !dU x.1.op 1 15|| !bF s x.1
def ik(s:aA)(n:Int×Bool)(x:Tm×Int):Int×Bool:=(n.1+1, !pw s n.1 x)
def fJ(n:Int×Bool):Option ky:=if n.2=true then none else some .ret
def mM(s:aA)(t:Tm):Bool:=(aQ (xH fJ (ik s)) (0,true) (pre t 1)).2
theorem Ns(s:aA)(hs:s.Fits)(t:Tm)(hf:t.fits)(hd:t.mK<=900000):aX Tryz.prog 171 [s.d,t.d] (.ret [.bool (mM s t)]):=by
 refine aX.aG mix UJ aE ?_
 rw[X2]
 refine cT ?_
 refine bM (QR 3 _ _ _ (?_:eX 3 (ay (ay (ay (fun _=> .no) 0 (.row s.row)) 1 (.row t.row)) 2 (.row [.d (.bool false)])) _ 3) _ _ fun o2 n2 m1 m2 m3=> ?_)
 ·exact⟨dt,Nat.le_refl _,fun _ _=>rfl⟩
 have p0:o2 0= .row s.row:=m2.eq 0 af
 have p1:o2 1= .row t.row:=m2.eq 1 af
 have p2:o2 2= .row [.d (.bool false)]:=m2.eq 2 af
 have e0:0≠n2:=af
 have e1:1≠n2:=af
 have e2:2≠n2:=af
 have e3:∀k,0≠n2+k:=fun k=>af
 have e4:∀k,1≠n2+k:=fun k=>af
 have e5:∀k,2≠n2+k:=fun k=>af
 simp+contextual only[go_sem,p0,p1,p2,e0,e1,e2,e3,e4,e5,Nat.add_assoc,Nat.left_eq_add,Nat.add_eq_left,Nat.add_left_cancel_iff]
 refine bM (wQ t _ _ _ _ ?_)
 refine cT ?_
 have hG0:∀n,Good (ay (ay (ay (ay (ay (ay o2 n2 (.row (List.replicate 16 (.d .cF)))) (n2+1) (.row [.d (.i 0)])) n2 (.row FW)) (n2+1) (.row [.d (.i 0)])) (n2+5) (.row t.row)) (n2+1) (.row [.d (.i n)])) (n2+9):=fun n=>by
  have hg:=m2.cH
  exact dt
 refine og t hf hd [.ad, .ad, .ptr 0 0, .ad, .ptr 2 0, .ptr n2 0, .ptr (n2+1) 0] ?_ bC rfl ?_ GM (aa _ _ _)
  (fun s=>ay (ay (ay (ay (ay (ay o2 n2 (.row (List.replicate 16 (.d .cF)))) (n2+1) (.row [.d (.i 0)])) n2 (.row FW)) (n2+1) (.row [.d (.i 0)])) (n2+5) (.row t.row)) (n2+1) (.row [.d (.i s.1)]))
  fJ (ik s) (fun s=>0<=s.1/\s.1<=40) (0,true) ⟨bC,bC⟩ rfl ?_ ?_ ?_ ?_
 ·exact Lk
 ·have hg:=m2.cH
  exact dt
 ·intro id ax
  by_cases h:id=n2+1
  ·exact Sg
  ·rw[ae _ _ _ _ h];rfl
 ·intro x hx s' h1 h2 h3
  have:pw s s'.1 x=false:=by simpa[fJ,ik]using h3
  simp[pw]at this
  simp only[ik]
  omega
 ·intro L hL yg x hx s' h1 h2 o3 n3 hI hn ho K X eL
  simp only[qk]
  have hg:=hI.cH
  have q0:o3 0= .row s.row:=by
   rw[hI.eq 0 (by omega)];(repeat(first|rfl|rw[aa]|rw[ae _ _ _ _ (by omega)]))
   exact p0
  have q2:o3 2= .row [.d (.bool false)]:=by
   exact SI
  have q3:o3 n2= .row FW:=by rw[hI.eq n2 (by omega)];(repeat(first|rfl|rw[aa]|rw[ae _ _ _ _ (by omega)]))
  have q4:o3 (n2+1)= .row [.d (.i s'.1)]:=by rw[hI.eq (n2+1) (by omega)];(repeat(first|rfl|rw[aa]|rw[ae _ _ _ _ (by omega)]))
  have fin:∀ (o':Nat->ab) (n':Nat),(∀id,id<n2+5+4->o' id=ay o3 (n2+1) (.row [.d (.i (s'.1+1))]) id)->Good o' n'->n3<=n'->eX (n2+5+4) (ay (ay (ay (ay (ay (ay o2 n2 (.row (List.replicate 16 (.d .cF)))) (n2+1) (.row [.d (.i 0)])) n2 (.row FW)) (n2+1) (.row [.d (.i 0)])) (n2+5) (.row t.row)) (n2+1) (.row [.d (.i (ik s s' x).1)])) o' n':=by
   intro o' n' k1 k2 k3
   refine⟨k2,af,fun id ax=> ?_⟩
   rw[k1 id ax]
   by_cases h:id=n2+1
   ·subst h;rw[aa,aa];rfl
   ·rw[ae _ _ _ _ h,ae _ _ _ _ h,hI.eq id ax,ae _ _ _ _ h]
  refine cT ?_
  refine n9 hL (pd:=none) ?_ ?_
  ·(repeat(first|rfl|rw[aa]|rw[ae _ _ _ _ (by omega)]))
   exact ho
  cases c1:decide (40<s'.1+1)with
  |true=>
   have hJ:fJ (ik s s' x)=some .ret:=by simp[fJ,ik,pw,c1]
   rw[hJ]at eL
   simp+contextual (disch:=first|omega|simp only[go_sem,false_implies]) only[go_sem,wrap64,if_pos,q0,q2,q3,q4,c1]
   exact zw4
  |false=>
  cases c2:decide (12<x.2)with
  |true=>
   have hJ:fJ (ik s s' x)=some .ret:=by simp[fJ,ik,pw,c2]
   rw[hJ]at eL
   refine BX q0 q2 q3 q4 c1 c2 ?_
   exact zw4
  |false=>
  cases c3:dU x.1.op 1 15 with
  |false=>
   have hJ:fJ (ik s s' x)=some .ret:=by simp[fJ,ik,pw,c3]
   rw[hJ]at eL
   refine BX q0 q2 q3 q4 c1 c2 ?_
   refine a7 (gU _ _ _) rfl ?_
   simp+contextual (disch:=first|omega|simp only[go_sem,false_implies]) only[go_sem,wrap64,if_pos,q0,q2,q3,q4,c1,c2,c3]
   exact zw4
  |true=>
  obtain⟨r1,r2,r3,r4⟩:=Yq s x.1 hs c3
  refine BX q0 q2 q3 q4 c1 c2 ?_
  refine a7 (gU _ _ _) rfl ?_
  simp+contextual (disch:=first|omega|simp only[go_sem,false_implies]) only[go_sem,wrap64,if_pos,q0,q2,q3,q4,c1,c2,c3,r2,r3,r4,Nat.mul_one]
  refine a7 r1 rfl ?_
  simp+contextual (disch:=first|omega|simp only[go_sem,false_implies]) only[go_sem,wrap64,if_pos,q0,q2,q3,q4,c1,c2,c3]
  refine aI (a8 rfl) ?_
  cases c4:bF s x.1 with
  |false=>
   have hJ:fJ (ik s s' x)=some .ret:=by simp[fJ,ik,pw,c4]
   rw[hJ]at eL
   simp+contextual (disch:=first|omega|simp only[go_sem,false_implies]) only[go_sem,wrap64,if_pos,q2,c4]
   refine eL _ _ _ .busy none af (fin _ _ (fun id ax=>VB) dt af) cg (fun id h3 h4=>by(repeat(first|rfl|rw[aa]|rw[ae _ _ _ _ (by omega)])))
  |true=>
   have hJ:fJ (ik s s' x)=none:=by simp[fJ,ik,pw,c1,c2,c3,c4]
   rw[hJ]at eL
   simp+contextual (disch:=first|omega|simp only[go_sem,false_implies]) only[go_sem,wrap64,if_pos,c4]
   refine eL _ _ _ .busy none af (fin _ _ (fun id ax=>VB) dt af) cg (fun id h3 h4=>by(repeat(first|rfl|rw[aa]|rw[ae _ _ _ _ (by omega)])))
 ·intro o' n' hI
  have q2:o' 2= .row [.d (.bool false)]:=by
   exact SI
  rw[show mM s t=(fJ (aQ (xH fJ (ik s)) (0,true) (pre t 1)).1).isNone from Bj _ _ _ _ rfl]
  generalize (aQ (xH fJ (ik s)) (0,true) (pre t 1)).1=sf at*
  cases hj:fJ sf with
  |none=>
   simp only[rk]
   refine oF q2 ?_
   rfl
  |some j=>
   have:j= .ret:=by
    unfold fJ at hj;split at hj
    ·cases hj
    ·injection hj with hj;exact hj.symm
   subst this
   simp only[rk]
   refine oF q2 ?_
   rfl
section
def enc{κ:Type}(kf:κ->D)(m:List (κ×D)):List (D×D):=m.map fun p=>(kf p.1,p.2)
def jF{κ:Type}[BEq κ](k:κ):List (κ×D)->Nat->Option (Nat×D)
 |[],_=>none
 |p::m,i=>if(k==p.1)=true then some (i,p.2)else jF k m (i+1)
def J7{κ:Type}[BEq κ](k:κ)(x:D)(m:List (κ×D)):List (κ×D):=match jF k m 0 with|some (i,_)=>m.set i (k,x)|none=>m++[(k,x)]
def aeG{κ:Type}[BEq κ](k:κ)(m:List (κ×D)):List (κ×D):=match jF k m 0 with|some (i,_)=>m.eraseIdx i|none=>m
def xY(d:D)(r:Option (Nat×D)):Option (Nat×D×D):=match r with|some (i,x)=>some (i,d,x)|none=>none
@[go_sem] theorem aab (d:D) (i:Nat) (x:D):xY d (some (i,x))=some (i,d,x):=rfl
@[go_sem] theorem aac (d:D):xY d none=none:=rfl
section
variable {P:Program}{kt:TypeId}
theorem QS(h:bP P kt=some .int)(a b:Int):pH P 100 kt (.int .i64 a) (.int .i64 b)=some (a==b):=by simp[pH,h]
theorem QU(h:bP P kt=some .str)(a b:List UInt8):pH P 100 kt (.str a) (.str b)=some (a==b):=by simp[pH,h]
@[go_sem] theorem HU (h:bP P kt=some .int) (a:Int):pt P 100 kt (.int .i64 a)=true:=by simp[pt,h]
@[go_sem] theorem afs (h:bP P kt=some .str) (a:List UInt8):pt P 100 kt (.str a)=true:=by simp[pt,h]
theorem wR{κ:Type}[BEq κ][LawfulBEq κ](kf:κ->D)(he:∀a b,pH P 100 kt (kf a) (kf b)=some (a==b))(k:κ):∀ (m:List (κ×D)) (i:Nat),findD P kt (kf k) (enc kf m) i=some (xY (kf k) (jF k m i))
 |[],_=>rfl
 |p::m,i=>by
  have ih:=wR kf he k m (i+1)
  simp only[enc,List.map_cons,findD,he,jF]at ih|-
  by_cases h:k=p.1
  ·subst h;simp[xY]
  ·have:(k==p.1)=false:=by simpa using h
   simp only[this,Bool.false_eq_true,if_false];exact ih
@[go_sem] theorem DD (h:bP P kt=some .int) (k:Int) (m:List (Int×D)):findD P kt (.int .i64 k) (enc (.int .i64) m) 0=some (xY (.int .i64 k) (jF k m 0)):=wR (.int .i64) (QS h) k m 0
@[go_sem] theorem aeH (h:bP P kt=some .str) (k:List UInt8) (m:List (List UInt8×D)):findD P kt (.str k) (enc .str m) 0=some (xY (.str k) (jF k m 0)):=wR .str (QU h) k m 0
end
section
variable {κ:Type}(kf:κ->D)
theorem Nu(m:List (κ×D))(k:κ)(x:D):enc kf m++[(kf k,x)]=enc kf (m++[(k,x)]):=by simp[enc]
theorem HV(m:List (κ×D))(i:Nat)(k:κ)(x:D):(enc kf m).set i (kf k,x)=enc kf (m.set i (k,x)):=by simp[enc,List.map_set]
theorem zI:∀ (m:List (κ×D)) (i:Nat),(enc kf m).eraseIdx i=enc kf (m.eraseIdx i)
 |[],i=>rfl
 |p::m,0=>rfl
 |p::m,i+1=>by
  have:=zI m i
  simp only[enc,List.map_cons,List.eraseIdx_cons_succ]at this|-
  rw[this]
theorem QV(m:List (κ×D)):(((enc kf m).map (·.1)).zip ((enc kf m).map (·.2)))=enc kf m:=by
 induction m with
 |nil=>rfl
 |cons p m ih=>simp only[enc,List.map_cons,List.zip_cons_cons]at ih|-;rw[ih]
theorem J8{K:V->List (Nat×ab)->Prop}{id:Nat}{m:List (κ×D)}(h0:m=[]->K (.bW [.d (.bool false)]) [])
 (h1:∀ (i:Nat) k x,m[i]? =some (k,x)->K (.bW [.d (.bool true), .d (kf k), .d x]) [(id, .sn (enc kf (m.eraseIdx i)) (some (kf k,x)))]):Hu K id (enc kf m):=by
 refine⟨fun h=>h0 ?_,fun i k x h=> ?_⟩
 ·cases m with
  |nil=>rfl
  |cons p m=>simp[enc]at h
 ·simp only[enc,List.getElem?_map]at h
  cases hm:m[i]? with
  |none=>rw[hm]at h;cases h
  |some p=>
   rw[hm]at h
   simp at h
   obtain⟨rfl,rfl⟩:=h
   have:=h1 i p.1 p.2 (by rw[hm])
   rwa [<- zI]at this
end
theorem DE{κ:Type}[BEq κ][LawfulBEq κ]{k:κ}:∀ {m:List (κ×D)} {i j:Nat} {x:D},jF k m i=some (j,x)->i<=j/\m[j - i]? =some (k,x)
 |[],_,_,_,h=>by cases h
 |p::m,i,j,x,h=>by
  simp only[jF]at h
  split at h
  ·rename_i hk
   injection h with h;injection h with h1 h2
   subst h1;subst h2
   exact⟨Nat.le_refl _,by simp[(by simpa using hk:k=p.1)]⟩
  ·obtain⟨h1,h2⟩:=DE h
   refine⟨af, ?_⟩
   rw[show j - i=(j - (i+1))+1 by omega]
   simpa using h2
theorem zJ{κ:Type}[BEq κ][LawfulBEq κ]{k:κ}:∀ {m:List (κ×D)} {i:Nat},jF k m i=none↔∀p∈m,p.1≠k
 |[],_=>by simp[jF]
 |p::m,i=>by
  simp only[jF]
  split
  ·rename_i hk
   simp[(by simpa using hk:k=p.1)]
  ·rename_i hk
   rw[zJ]
   have:p.1≠k:=fun e=>hk (by simp[e])
   simp[this]
def rK(P:Program)(o:Nat->ab)(t:TypeId)(m k v:V):Option gz:=
 match sK P t,dM o k,dM o v,pJ o m with
 |some (kt,_),some kd,some vd,some (some (id,G1,G2),l)=>if k.ids=[]/\pt P 100 kt kd=true/\lz kd=true/\v.ids.all (· !=id)=true then match findD P kt kd l 0 with
  |some (some (i,k',_))=>if k'.same kd=true then some (.bW [],bG o v.ids++[(id, .map G1 G2 (l.set i (kd,vd)))],id::v.ids)else none
  |some none=>some (.bW [],bG o v.ids++[(id, .map G1 G2 (l++[(kd,vd)]))],id::v.ids)
  |none=>none
  else none
 |_,_,_,_=>none
@[go_sem low] theorem zK (P:Program) (o:Nat->ab) (t:TypeId) (m v:V) (k:D):gu P o t m (.d k) v=rK P o t m (.d k) v:=by unfold gu rK;rfl
def wS(P:Program)(o:Nat->ab)(t:TypeId)(m k:V)(ok:Bool):Option gz:=
 match sK P t,dM o k,qQ o m with
 |some (kt,vt),some kd,some (rd,l)=>if k.ids=[]/\pt P 100 kt kd=true then match findD P kt kd l 0 with
  |some (some (_,_,x))=>some (if ok=true then .bW [.d x, .d (.bool true)]else .d x,[],rd)
  |some none=>match zeroV P vt with
   |some z=>some (if ok=true then .bW [z, .d (.bool false)]else z,[],rd)
   |none=>none
  |none=>none
  else none
 |_,_,_=>none
@[go_sem low] theorem oQ (P:Program) (o:Nat->ab) (t:TypeId) (m:V) (k:D) (ok:Bool):jE P o t m (.d k) ok=wS P o t m (.d k) ok:=by unfold jE wS;rfl
attribute [go_sem] wS rK oJ nv ny pK pL nz qQ pJ afK pI lz D.same
end
theorem dec_lt{l:List UInt8}{i:Nat}{b:UInt8}(hb:l[i]? =some b)(h:b.toNat<128):Utf8.decode ⟨⟨l⟩⟩ i=(b.toNat,1):=by
 have e:(ByteArray.mk ⟨l⟩).get! i=b:=by
  show(Array.mk l)[i]! =b
  simp[hb]
 simp only[Utf8.decode,Nat.add_zero,e]
 rw[if_pos h]
theorem Yr{l:List UInt8}{i:Nat}{b:UInt8}(hb:l[i]? =some b)(h:128<=b.toNat):128<=(Utf8.decode ⟨⟨l⟩⟩ i).1:=by
 have e:(ByteArray.mk ⟨l⟩).get! i=b:=by
  show(Array.mk l)[i]! =b
  simp[hb]
 simp only[Utf8.decode,Nat.add_zero,e]
 rw[if_neg (by omega)]
 split
 ·split<;>simp_all[Utf8.runeError]
 ·split
  ·split
   ·rename_i h3;simp at h3;omega
   ·simp[Utf8.runeError]
  ·split
   ·split
    ·rename_i h3;simp at h3;omega
    ·simp[Utf8.runeError]
   ·simp[Utf8.runeError]
def QW(r:Int):Bool:=decide (97<=r)&&decide (r<=122)||decide (65<=r)&&decide (r<=90)
theorem Nv(b:UInt8):QW b.toNat=letterF b:=by
 rw[Bool.eq_iff_iff]
 simp[QW,letterF]
theorem J9(s:List UInt8)(hs:s.length<=9223372036854775807):aX Tryz.prog 145 [.str s] (.ret [.bool (ki s)]):=by
 refine aX.aG mix Uu aE ?_
 rw[XM]
 refine fZ ?_
 refine aD (fun k:Nat=>⟨aZ [.d (.str s), .ad, .ad, .ad, .ad, .ad, .ptr 2 0],ay (fun _=> .no) 2 (.Am s k),3⟩)
  (fun k=>k<=s.length/\(s.take k).all letterF=true) (fun k=>s.length - k) 0 ⟨Nat.zero_le _,aE⟩ (bO.cc _ af af (Good.nil.ay af rfl) (fun _ _=>rfl) ?_) (fun k hk=> ?_)
 ·exact dW
 by_cases h2:k<s.length
 ·obtain⟨b,hb⟩:=aB h2
  by_cases h3:b.toNat<128
  ·simp+contextual (disch:=first|omega|simp only[go_sem,false_implies]) only[go_sem,wrap64,if_pos,Nat.add_assoc,Nat.left_eq_add,Nat.add_eq_left,Nat.add_left_cancel_iff,h2,dec_lt hb h3]
   have hr:=Nv b
   simp only[QW]at hr
   rw[hr]
   cases hl:letterF b with
   |true=>
    refine bY ?_
    refine aj (k+1) ⟨h2,od hb hk.2 hl⟩ af (bO.cc _ af af (Good.nil.ay af rfl) (fun _ _=>by rw[u5]) ?_)
    exact dW
   |false=>
    refine bY ?_
    simp[ki,l0 hb hl]
  ·have hr:letterF b=false:=by
    rw[<- Nv];simp[QW];omega
   have hd:=Yr hb af
   refine IQ h2 ?_
   have:(decide (97<=((Utf8.decode ⟨⟨s⟩⟩ k).1:Int))&&decide (((Utf8.decode ⟨⟨s⟩⟩ k).1:Int)<=122)||decide (65<=((Utf8.decode ⟨⟨s⟩⟩ k).1:Int))&&decide (((Utf8.decode ⟨⟨s⟩⟩ k).1:Int)<=90))=false:=by
    rw[Bool.eq_false_iff];intro h;simp at h;omega
   rw[this]
   refine bY ?_
   simp[ki,l0 hb hr]
 ·refine IQ h2 ?_
  refine ak (gU _ _ _) rfl ?_
  refine bY ?_
  rw[ki,oe hk.2 (by omega),Bool.true_and]
theorem DF{σ:Type}(l:List ei)(hl:l.length<=9223372036854775807)(g:Nat)(bR:List V)(base:Nat)(H:σ->Nat->ab)(step:σ->ei->σ×Bool)(hc:∀r∈V.aL bR,r<base)(ok:σ->Prop)(aY:∀x∈l,∀s,ok s->(step s x).2=true->ok (step s x).1)
 (h:∀x∈l,∀s,ok s->wJ Tryz.prog g (.d x.d::bR) base (H s) (H (step s x).1) (.d (.bool (step s x).2))) (s:σ) (nm:ok s):
 wJ Tryz.prog 147 [.d (.sl (l.map ei.d)), .func (.func g) [] bR] base (H s) (H (aQ step s l).1) (.d (.bool (aQ step s l).2)):=by
 intro o nx hI K X hK
 have eE:∀r∈V.aL bR,r<nx:=fun r hr=>Nat.lt_of_lt_of_le (hc r hr) hI.le
 refine bQ.aG mix Uw aE ?_
 rw[XO]
 refine cT ?_
 refine aD (fun i:Nat×σ×(Nat->ab)×Nat=>⟨aZ [.ad, .func (.func g) [] bR, .ad, .ad, .ad, .ad, .ad, .d (.sl (l.map ei.d)), .d (.i l.length), .d (.i i.1)],i.2.2.1,i.2.2.2⟩)
  (fun i=>i.1<=l.length/\eX base (H i.2.1) i.2.2.1 i.2.2.2/\nx<=i.2.2.2/\(∀id,base<=id->id<nx->i.2.2.1 id=o id)/\aQ step s l=aQ step i.2.1 (l.drop i.1)/\ok i.2.1) (fun i=>l.length - i.1) (0,s,o,nx)
  ⟨Nat.zero_le _,hI,Nat.le_refl _,fun _ _ _=>rfl,rfl,nm⟩ ?_ ?_
 ·exact VX
 rintro⟨k,s',o',nx'⟩ ⟨hk,OV,hn,c9,hf,wO⟩
 simp only at hk OV hn c9 hf wO
 refine cT ?_
 refine ao (fun h1=> ?_) (fun h1=> ?_)
 ·simp at h1
  obtain⟨x,hx⟩:=aB h1
  have ck:=List.mem_of_getElem? hx
  have hd:l.drop k=x::l.drop (k+1):=by
   exact VS
  refine Vz hx ?_
  have hl0:=OV.le
  refine gK (h x ck s' wO _ _ (?_:eX base (H s') _ (nx'+7)) _ _ fun o2 n2 m1 m2 m3=> ?_)
  ·exact aaN
  have Np:∀id,base<=id->id<nx->o2 id=o id:=fun id h2 h3=>by
   exact aa1
  refine cT ?_
  refine ao (fun h2=> ?_) (fun h2=> ?_)
  ·refine cT ?_
   simp at h2
   have:aQ step s l=((step s' x).1,false):=by rw[hf,hd,aQ,if_neg (by rw[h2];exact Bool.false_ne_true)]
   rw[this]at hK
   exact hK _ _ af (m2.mono af) Np
  ·refine cT ?_
   simp at h2
   have:aQ step s l=aQ step (step s' x).1 (l.drop (k+1)):=by rw[hf,hd,aQ,if_pos h2]
   refine aj (k+1,(step s' x).1,o2,n2) ⟨h1,m2,by dsimp only;omega,Np,this,aY x ck s' wO h2⟩ lK ?_
   dsimp only
   have UZ:∀r∈V.aL bR,r<n2:=fun r hr=>by have:=eE r hr;omega
   refine bO.cc _ af af m2.cH (fun _ _=>rfl) ?_
   exact dW
 ·exact abF
def qu(l:List (List UInt8)):List (List UInt8×D):=l.map fun s=>(s, .bool true)
theorem Ka(l:List (List UInt8))(s:List UInt8):qu l++[(s, .bool true)]=qu (l++[s]):=by simp[qu]
theorem Kc{l:List (List UInt8)}{s:List UInt8}{i:Nat}{x:D}(h:jF s (qu l) 0=some (i,x)):x= .bool true/\(qu l).set i (s, .bool true)=qu l/\l.any (· ==s)=true:=by
 obtain⟨_,h2⟩:=DE h
 rw[Nat.sub_zero]at h2
 simp only[qu,List.getElem?_map]at h2
 cases hl:l[i]? with
 |none=>rw[hl]at h2;cases h2
 |some y=>
  rw[hl]at h2
  simp at h2
  obtain⟨rfl,rfl⟩:=h2
  refine⟨rfl, ?_, ?_⟩
  ·apply List.ext_getElem?
   intro j
   rw[List.getElem?_set]
   split
   ·rename_i e;subst e
    obtain⟨cu,hy⟩:=List.getElem?_eq_some_iff.1 hl
    simp[qu,cu,hy]
   ·rfl
  ·exact List.any_eq_true.2 ⟨y,List.mem_of_getElem? hl,aE⟩
theorem Kd{l:List (List UInt8)}{s:List UInt8}(h:jF s (qu l) 0=none):l.any (· ==s)=false:=by
 rw[zJ]at h
 rw[List.any_eq_false]
 intro x hx hs
 have:=h (x, .bool true) (by simp[qu];exact hx)
 simp at hs;exact this hs
def QX(bs:List (List UInt8))(x:ei):Bool:= !bs.any (· ==x.name)&&ki x.name&&dU x.args 0 4
def iX(bs:List (List UInt8))(x:ei):List (List UInt8)×Bool:=(if bs.any (· ==x.name)=true then bs else bs++[x.name],QX bs x)
theorem Ys(x:ei)(hx:x.name.length<=9223372036854775807)(base mp id:Nat)(h:Nat->ab)(hmp:h mp= .row [.mp id])(h1:mp<base)(h2:id<base)(h3:id≠mp)(bs:List (List UInt8)):
 wJ Tryz.prog 144 [.d x.d, .ptr mp 0] base (ay h id (.map 9 4 (enc .str (qu bs)))) (ay h id (.map 9 4 (enc .str (qu (iX bs x).1)))) (.d (.bool (iX bs x).2)):=by
 intro o nx hI K X hK
 have hle:=hI.le
 have hg:=hI.cH
 have q0:o mp= .row [.mp id]:=by rw[hI.eq mp h1,ae _ _ _ _ (by omega),hmp]
 have q1:o id= .map 9 4 (enc .str (qu bs)):=by rw[hI.eq id h2,aa]
 refine bQ.aG mix Ut aE ?_
 rw[XL]
 cases ha:jF x.name (qu bs) 0 with
 |none=>
  have hn:=Kd ha
  have hs:iX bs x=(bs++[x.name],ki x.name&&dU x.args 0 4):=by simp[iX,QX,hn]
  rw[hs]at hK
  refine Lh q0 q1 ha ?_
  refine ak (J9 _ hx) rfl ?_
  refine bY ?_
  refine iR (gL [.bool (dU x.args 0 4)] ?_ ?_)
  ·refine bY ?_
   exact fun _=>gU _ _ _
  refine bY ?_
  rw[Nu,Ka]
  refine hK _ _ af ⟨dt,af,fun j hj=> ?_⟩ (fun j g1 g2=>by(repeat(first|rfl|rw[aa]|rw[ae _ _ _ _ (by omega)])))
  ·by_cases e:j=id
   ·exact vl
   ·exact aaY
 |some p=>
  obtain⟨i,y⟩:=p
  obtain⟨rfl,e1,hn⟩:=Kc ha
  have hs:iX bs x=(bs,false):=by simp[iX,QX,hn]
  rw[hs]at hK
  refine Lh q0 q1 ha ?_
  rw[HV,e1]
  refine hK _ _ af ⟨dt,af,fun j hj=> ?_⟩ (fun j g1 g2=>by(repeat(first|rfl|rw[aa]|rw[ae _ _ _ _ (by omega)])))
  ·by_cases e:j=id
   ·exact vl
   ·exact aaY
theorem qv:∀ (l:List ei) (bs:List (List UInt8)),match cI l bs with|some B=>aQ iX bs l=(B,true)|none=>(aQ iX bs l).2=false
 |[],bs=>rfl
 |x::l,bs=>by
  have ih:=qv l (bs++[x.name])
  simp only[cI,aQ,iX,QX]
  by_cases h1:bs.any (· ==x.name)=true
  ·simp[h1]
  ·simp only[Bool.not_eq_true]at h1
   simp only[h1,Bool.false_eq_true,if_false,Bool.not_false,Bool.true_and]
   by_cases h2:(ki x.name&&dU x.args 0 4)=true
   ·have h3: ¬ ((!ki x.name|| !dU x.args 0 4)=true):=by simp at h2;simp[h2]
    rw[if_neg h3,if_pos h2]
    exact ih
   ·have h3:(!ki x.name|| !dU x.args 0 4)=true:=by
     cases hn:ki x.name<;>simp_all
    rw[if_pos h3,if_neg h2]
def np(ok:Bool):Int:=if ok=true then 0 else 2
@[reducible] def Ke (s:aA) (bs:List (List UInt8)):Nat->ab:=ay (ay (ay (fun _=> .no) 0 (.row s.row)) 3 (.row [.mp 2])) 2 (.map 9 4 (enc .str (qu bs)))
theorem wT(s:aA)(hs:s.Fits):aX Tryz.prog 119 [s.d] (.ret [.i (np (ju s))]):=by
 refine aX.aG mix Ul aE ?_
 rw[XC]
 refine fZ ?_
 refine ak (gU _ _ _) rfl ?_
 refine fZ ?_
 cases h1:(!dU s.cons.length 2 12||decide (8<(s.b9.length:Int)))with
 |true=>
  have:ju s=false:=by simp only[ju,h1,if_true]
  refine oF h1 ?_
  simp[this,np]
 |false=>
  have KY:=qv s.cons []
  have Nw:∀ (l:List ei),(∀x∈l,x.name.length<=9223372036854775807)->∀x∈l,∀bs,True->wJ Tryz.prog 144 (.d x.d::[.ptr 3 0]) 4 (Ke s bs) (Ke s (iX bs x).1) (.d (.bool (iX bs x).2)):=fun l hl x hx bs _=>
   Ys x (hl x hx) 4 3 2 (ay (ay (fun _=> .no) 0 (.row s.row)) 3 (.row [.mp 2])) (aa _ _ _) af af af bs
  simp[dU]at h1
  obtain⟨a,b,r,hc⟩:∃a b r,s.cons=a::b::r:=by
   match h:s.cons with
   |[]=>exact GU
   |[a]=>exact GU
   |a::b::r=>exact⟨a,b,r,rfl⟩
  have eW:(!dU s.cons.length 2 12||decide (8<(s.b9.length:Int)))=false:=by simp[dU];omega
  have qq:ju s=if(!nh a fB|| !nh b tB)=true then false else match cI s.cons []with
   |none=>false
   |some l=>(cI s.b9 l).isSome:=by
   unfold ju
   rw[if_neg (by rw[eW];exact Bool.false_ne_true),hc]
   dsimp only
   rfl
  refine oF eW ?_
  refine aU (DF s.cons hs.lc 144 [.ptr 3 0] 4 (Ke s) iX yp (fun _=>True) (fun _ _ _ _ _=>trivial) (Nw s.cons hs.nc) [] trivial _ _ ⟨?_,af,fun id ax=> ?_⟩ _ _ fun o2 n2 m1 m2 m3=> ?_)
  ·exact dt
  ·rcases(by omega:id=0\/id=1\/id=2\/id=3)with rfl|rfl|rfl|rfl<;>rfl
  have p0:∀ {bs:List (List UInt8)} {o:Nat->ab} {n:Nat},eX 4 (Ke s bs) o n->o 0= .row s.row:=fun h=>h.eq 0 af
  have p3:∀ {bs:List (List UInt8)} {o:Nat->ab} {n:Nat},eX 4 (Ke s bs) o n->o 3= .row [.mp 2]:=fun h=>h.eq 3 af
  cases hn:cI s.cons []with
  |none=>
   rw[hn]at KY
   simp only at KY
   rw[KY]
   refine fZ ?_
   rw[qq,hn]
   split<;>rfl
  |some B=>
   rw[hn]at KY
   simp only at KY
   rw[KY]at m2|-
   simp+contextual (disch:=first|omega|simp only[go_sem,false_implies]) only[go_sem,wrap64,if_pos,Nat.add_assoc,Nat.left_eq_add,Nat.add_eq_left,Nat.add_left_cancel_iff,p0 m2]
   refine aU (DF s.b9 hs.lf 144 [.ptr 3 0] 4 (Ke s) iX yp (fun _=>True) (fun _ _ _ _ _=>trivial) (Nw s.b9 hs.nf) B trivial _ _ (m2.mono af) _ _ fun o4 n4 k1 k2 k3=> ?_)
   have KM:=qv s.b9 B
   cases hf:cI s.b9 B with
   |none=>
    rw[hf]at KM
    simp only at KM
    rw[KM]
    refine fZ ?_
    rw[qq,hn]
    simp only[hf]
    split<;>rfl
   |some C=>
    rw[hf]at KM
    simp only at KM
    rw[KM]at k2|-
    simp+contextual (disch:=first|omega|simp only[go_sem,false_implies]) only[go_sem,wrap64,if_pos,Nat.add_assoc,Nat.left_eq_add,Nat.add_eq_left,Nat.add_left_cancel_iff,p0 k2,hc]
    have U2:ju s= !(!nh a fB|| !nh b tB):=by
     rw[qq,hn];simp only[hf]
     cases(!nh a fB|| !nh b tB)<;>rfl
    refine ao (fun h5=> ?_) (fun h5=> ?_)
    ·refine bY ?_
     have uP:(!nh a fB|| !nh b tB)=true:=h5
     rw[U2,uP];rfl
    ·refine bY ?_
     have uP:(!nh a fB|| !nh b tB)=false:=h5
     rw[U2,uP];rfl
def jw(s:aA)(l:List Tm):Bool:=ju s&&l.all (mM s)
theorem zL{α:Type}(p:α->Bool):∀ (l:List α) (u:Unit),aQ (fun _ x=>((),p x)) u l=((),l.all p)
 |[],_=>rfl
 |x::l,u=>by
  simp only[aQ,List.all_cons,zL p l]
  cases p x<;>rfl
theorem FX(l:List Tm)(hl:l.length<=9223372036854775807)(g:Nat)(bR:List V)(base:Nat)(h:Nat->ab)(p:Tm->Bool)(hc:∀r∈V.aL bR,r<base)
 (hp:∀x∈l,wJ Tryz.prog g (.d x.d::bR) base h h (.d (.bool (p x)))):wJ Tryz.prog 169 [.d (.sl (l.map Tm.d)), .func (.func g) [] bR] base h h (.d (.bool (l.all p))):=by
 have:=DB l hl g bR base (fun _:Unit=>h) (fun _ x=>((),p x)) hc (fun _=>True) (fun _ _ _ _ _=>trivial) (fun x hx _ _=>hp x hx) () trivial
 simpa only[zL]using this
structure Tm.Fin (t:Tm):Prop where
 fits:t.fits
 mK:t.mK<=900000
theorem Nx(s:aA)(hs:s.Fits)(t:Tm)(ht:t.Fin)(base sp:Nat)(h:Nat->ab)(KL:h sp= .row s.row)(hb:sp<base):wJ Tryz.prog 170 [.d t.d, .ptr sp 0] base h h (.d (.bool (mM s t))):=by
 intro o nx hI K X hK
 have hle:=hI.le
 have hg:=hI.cH
 have q0:o sp= .row s.row:=by rw[hI.eq sp hb,KL]
 refine bQ.aG mix UI aE ?_
 rw[X1]
 refine oF q0 ?_
 refine ak (Ns s hs t ht.fits ht.mK) rfl ?_
 refine bY ?_
 exact hK _ _ af ⟨dt,af,fun j hj=>by rw[ae _ _ _ _ (by omega),hI.eq j hj]⟩ (fun j g1 g2=>by(repeat(first|rfl|rw[aa]|rw[ae _ _ _ _ (by omega)])))
theorem QY(s:aA)(hs:s.Fits)(l:List Tm)(hl:l.length<=9223372036854775807)(hf:∀t∈l,t.Fin):aX Tryz.prog 158 [s.d, .sl (l.map Tm.d)] (.ret [.bool (jw s l)]):=by
 refine aX.aG mix Uz aE ?_
 rw[XR]
 refine bY ?_
 refine ak (wT s hs) rfl ?_
 cases h1:ju s with
 |false=>
  refine aav ?_
  simp[jw,h1]
 |true=>
  refine aav ?_
  refine aU (FX l hl 170 [.ptr 0 0] 1 (ay (fun _=> .no) 0 (.row s.row)) (mM s) yp (fun x hx=>Nx s hs x (hf x hx) 1 0 _ (aa _ _ _) af) _ _ ⟨dt,af,fun id ax=>rfl⟩ _ _ fun o2 n2 m1 m2 m3=> ?_)
  refine bY ?_
  simp[jw,h1]
def rL(x:Tm×Int):Bool:=decide (3<x.1.op)&&x.1.op !=5
def vJ(b:Bool):Option ky:=if b=true then none else some .ret
def oh(t:Tm):Bool:=(aQ (xH vJ (fun _ x=> !rL x)) true (pre t 1)).2
theorem Kg(t:Tm)(ht:t.Fin):aX Tryz.prog 160 [t.d] (.ret [.bool (oh t)]):=by
 refine aX.aG mix UB aE ?_
 rw[XT]
 refine bY ?_
 refine bM (wQ t _ _ _ _ ?_)
 refine bY ?_
 refine og t ht.fits ht.mK [.ad, .ad, .ptr 1 0] ?_ bC rfl dt yp (aa _ _ _)
  (fun _=>ay (ay (ay (fun _=> .no) 0 (.row t.row)) 1 (.row [.d (.bool false)])) 3 (.row t.row)) vJ (fun _ x=> !rL x) (fun _=>True) true trivial rfl (fun id ax=>rfl) (fun _ _ _ _ _ _=>trivial) ?_ ?_
 ·exact Lk
 ·intro L hL yg x hx s' h1 h2 o3 n3 hI hn ho K X eL
  simp only[qk]
  have hg:=hI.cH
  have q1:o3 1= .row [.d (.bool false)]:=hI.eq 1 af
  refine bY ?_
  refine n9 hL (pd:=none) ?_ ?_
  ·(repeat(first|rfl|rw[aa]|rw[ae _ _ _ _ (by omega)]))
   exact ho
  refine bY ?_
  have hv:rL x=(decide (3<x.1.op)&&x.1.op !=5):=rfl
  rw[<- hv]
  cases hb:rL x with
  |true=>
   rw[hb]at eL
   refine oF q1 ?_
   refine eL _ _ _ .busy none af ⟨dt,af,fun id ax=> ?_⟩ cg (fun id h3 h4=>by(repeat(first|rfl|rw[aa]|rw[ae _ _ _ _ (by omega)])))
   by_cases e:id=1
   ·exact vl
   ·rw[ae _ _ _ _ e];(repeat(first|rfl|rw[aa]|rw[ae _ _ _ _ (by omega)]))
    exact hI.eq id ax
  |false=>
   rw[hb]at eL
   refine bY ?_
   refine eL _ _ _ .busy none af ⟨dt,af,fun id ax=> ?_⟩ cg (fun id h3 h4=>by(repeat(first|rfl|rw[aa]|rw[ae _ _ _ _ (by omega)])))
   (repeat(first|rfl|rw[aa]|rw[ae _ _ _ _ (by omega)]))
   exact hI.eq id ax
 ·intro o' n' hI
  have q1:o' 1= .row [.d (.bool false)]:=hI.eq 1 af
  rw[show oh t=(vJ (aQ (xH vJ (fun _ x=> !rL x)) true (pre t 1)).1).isNone from Bj _ _ _ _ rfl]
  generalize (aQ (xH vJ (fun _ x=> !rL x)) true (pre t 1)).1=sf at*
  cases sf<;>(simp only[vJ,if_true,if_false,Bool.false_eq_true,rk];simp+contextual (disch:=first|omega|simp only[go_sem,false_implies]) only[go_sem,wrap64,if_pos,q1];rfl)
def Tm.DG (t:Tm):Int:=(pre t 1).length
structure Tm.Cnt (t:Tm):Prop extends t.Fin where
 size:t.DG<=1000000
theorem Tm.Fin.kA {t k:Tm}(h:t.Fin)(hk:k∈t.kids):k.Fin:=⟨((Tm.cm _).1 h.fits).2 k hk,by have:=Tm.rB hk;have:=h.mK;omega⟩
theorem ue:∀ (t:Tm) (d d':Int),(pre t d).length=(pre t d').length:=by
 refine Tm.eN fun t ih d d'=> ?_
 rw[nS,nS]
 simp only[List.length_cons,List.length_flatMap]
 congr 2
 exact List.map_congr_left fun k hk=>ih k hk _ _
theorem Tm.zM {t k:Tm}(hk:k∈t.kids):k.DG+1<=t.DG:=by
 simp only[Tm.DG]
 rw[nS t,ue k 1 (1+1)]
 simp only[List.length_cons,List.length_flatMap]
 have:∀ (l:List Tm),k∈l->(pre k (1+1)).length<=(l.map fun k=>(pre k (1+1)).length).sum:=by
  intro l
  induction l with
  |nil=>intro h;cases h
  |cons x l ih=>
   intro h
   rcases List.mem_cons.1 h with rfl|h
   ·simp only[List.map_cons,List.sum_cons];omega
   ·have:=ih h;simp only[List.map_cons,List.sum_cons];omega
 have:=this _ hk
 omega
theorem Tm.Cnt.kA {t k:Tm}(h:t.Cnt)(hk:k∈t.kids):k.Cnt:=⟨h.toFin.kA hk,by have:=Tm.zM hk;have:=h.size;omega⟩
def Tm.sz (t:Tm):Nat:=(pre t 1).length
def sy(l:List Tm):Nat:=(l.map Tm.sz).sum
theorem Tm.DH (t:Tm):t.DG=(t.sz:Int):=rfl
theorem Tm.ko (t:Tm):t.sz=1+sy t.kids:=by
 unfold Tm.sz sy
 rw[nS,List.length_cons,List.length_flatMap,Nat.add_comm]
 congr 2
 exact List.map_congr_left fun k hk=>ue k _ _
theorem rM(k:Tm)(l:List Tm):sy (k::l)=k.sz+sy l:=by simp[sy]
theorem Tm.th (t:Tm):1<=t.sz:=by rw[Tm.ko];omega
theorem zN(k:Tm)(l:List Tm):Tm.jh (k::l)=Nat.max k.mK (Tm.jh l):=by simp[Tm.jh]
theorem oR:∀ (l:List Tm) (n:Nat),Tm.jh l<=n↔∀k∈l,k.mK<=n
 |[],n=>by simp[Tm.jh]
 |x::l,n=>by
  rw[zN]
  simp only[List.mem_cons,forall_eq_or_imp, <- oR l n]
  exact Nat.max_le
theorem Tm.qw (t:Tm):t.mK=1+Tm.jh t.kids:=by cases t;simp[Tm.mK,Tm.kids]
theorem Kh:∀t:Tm,∀left depth:Int,fP t left depth=if(t.sz:Int)<=left/\(t.mK:Int)<=depth then left - t.sz else -1:=by
 refine Tm.eN fun t ih left depth=> ?_
 have hs:∀ (l:List Tm) (left d:Int),(∀k∈l,k∈t.kids)->0<=left->0<=d->cJ l left d=if(sy l:Int)<=left/\(Tm.jh l:Int)<=d then left - sy l else -1:=by
  intro l
  induction l with
  |nil=>intro left d _ h1 h2;simp[cJ,sy,Tm.jh,h1,h2]
  |cons k l Yi=>
   intro left d hk h1 h2
   simp only[cJ,if_pos h1]
   rw[ih k (hk k (by simp))]
   have hm:(Tm.jh (k::l):Int)<=d↔(k.mK:Int)<=d/\(Tm.jh l:Int)<=d:=by
    have:= @Nat.max_le k.mK (Tm.jh l) d.toNat
    have e:Tm.jh (k::l)=max k.mK (Tm.jh l):=zN k l
    rw[e];omega
   simp only[rM,hm]
   by_cases hc:(k.sz:Int)<=left/\(k.mK:Int)<=d
   ·rw[if_pos hc,Yi _ _ (fun x hx=>hk x (by simp[hx])) (by omega) h2]
    by_cases sN:(sy l:Int)<=left - k.sz/\(Tm.jh l:Int)<=d
    ·rw[if_pos sN,if_pos (by omega)];omega
    ·rw[if_neg sN,if_neg (by omega)]
   ·rw[if_neg hc,qo (by omega),if_neg (by omega)]
 rw[DA,Tm.ko,Tm.qw]
 by_cases h:left<1\/depth<1
 ·rw[if_pos h,if_neg (by omega)]
 ·rw[if_neg h,hs _ _ _ (fun _ h=>h) (by omega) (by omega)]
  by_cases hc:(sy t.kids:Int)<=left - 1/\(Tm.jh t.kids:Int)<=depth - 1
  ·rw[if_pos hc,if_pos (by omega)];omega
  ·rw[if_neg hc,if_neg (by omega)]
theorem rN(t:Tm)(left depth:Int):0<=fP t left depth↔(t.sz:Int)<=left/\(t.mK:Int)<=depth:=by
 rw[Kh];split<;>omega
theorem FY(t:Tm):gA t=true↔t.sz<=50/\t.mK<=14:=by
 simp only[gA,decide_eq_true_eq,rN];omega
theorem Ki:∀ (t:Tm) (d m:Int),(∀x∈pre t d,x.2<=m)↔d+t.mK - 1<=m:=by
 refine Tm.eN fun t ih d m=> ?_
 rw[nS,Tm.qw]
 simp only[List.mem_cons,forall_eq_or_imp,List.mem_flatMap]
 have h1:(∀x:Tm×Int,(∃k,k∈t.kids/\x∈pre k (d+1))->x.2<=m)↔∀k∈t.kids,d+1+k.mK - 1<=m:=by
  constructor
  ·intro h k hk
   exact(ih k hk _ _).1 fun x hx=>h x ⟨k,hk,hx⟩
  ·rintro h x ⟨k,hk,hx⟩
   exact(ih k hk _ _).2 (h k hk) x hx
 rw[h1]
 constructor
 ·rintro⟨h2,h3⟩
  have:=(oR t.kids (m - d).toNat).2 fun k hk=>by have:=h3 k hk;omega
  omega
 ·intro h
  have:=(oR t.kids (m - d).toNat).1 af
  exact⟨af,fun k hk=>by have:=this k hk;omega⟩
theorem HW(p:Tm->Bool):∀ (t:Tm) (d:Int),(pre t d).all (fun x=>p x.1)=(p t&&t.kids.all fun k=>(pre k (d+1)).all fun x=>p x.1):=by
 intro t d
 rw[nS,List.all_cons,List.all_flatMap]
theorem wU(s:aA):∀ (t:Tm) (d:Int),iT s t=(pre t d).all fun x=>bF s x.1:=by
 refine Tm.eN fun t ih d=> ?_
 rw[HW (bF s),lZ]
 congr 1
 exact S5
theorem FZ:∀ (t:Tm) (d:Int),ft t=(pre t d).all fun x=>(decide (1<=x.1.op)&&decide (x.1.op<=3))||x.1.op==5:=by
 refine Tm.eN fun t ih d=> ?_
 rw[HW (fun t=>(decide (1<=t.op)&&decide (t.op<=3))||t.op==5),tg,Bool.and_comm]
 congr 1
 exact S5
theorem DI{s:aA}{t:Tm}(h:bF s t=true):dU t.op 1 15=true:=by
 rw[show dU t.op 1 15=true↔1<=t.op/\t.op<=15 by simp[dU]]
 by_cases h6:dU t.op 6 15=true
 ·simp[dU]at h6;omega
 ·simp only[bF,if_neg h6]at h
  by_cases h1:t.op=1
  ·omega
  by_cases h2:t.op=2
  ·omega
  by_cases h3:t.op=3
  ·omega
  by_cases h4:t.op=4
  ·omega
  by_cases h5:t.op=5
  ·omega
  by_cases h8:t.op=8
  ·omega
  rw[if_neg h1,if_neg h2,if_neg h3,if_neg h4,if_neg h5,if_neg h8]at h
  cases h
def wV(s:aA)(x:Tm×Int):Bool:= !(decide (12<x.2)|| !dU x.1.op 1 15|| !bF s x.1)
theorem uf(s:aA):∀ (l:List (Tm×Int)) (n:Int) (b:Bool),(aQ (xH fJ (ik s)) (n,b) l).2=(decide (l=[]\/n+l.length<=40)&&l.all (wV s))
 |[],n,b=>by simp[aQ]
 |x::l,n,b=>by
  have e1:∀c,pw s n x=c->xH fJ (ik s) (n,b) x=((n+1, !c), !c):=fun c hc=>by show((n+1, !pw s n x),(fJ (n+1, !pw s n x)).isNone)=_;rw[hc];cases c<;>rfl
  have hb:pw s n x=(decide (40<n+1)|| !wV s x):=by simp[pw,wV,Bool.or_assoc]
  rw[List.all_cons]
  cases hg:wV s x with
  |false=>
   have e:pw s n x=true:=by rw[hb,hg];simp
   rw[aQ,e1 _ e];simp
  |true=>
   by_cases h40:40<n+1
   ·have:decide (x::l=[]\/n+(x::l).length<=40)=false:=by simp;omega
    have e:pw s n x=true:=by rw[hb];simp[h40]
    rw[this,Bool.false_and,aQ,e1 _ e];simp
   ·have e:pw s n x=false:=by rw[hb,hg];simp;omega
    rw[aQ,e1 _ e]
    simp only[Bool.not_false,if_true,uf s l,Bool.true_and]
    congr 1
    cases l with
    |nil=>simp;omega
    |cons y l=>simp;omega
theorem qx(s:aA)(t:Tm):mM s t=gM s t:=by
 rw[mM,uf,gM,wU s t 1,Bool.eq_iff_iff]
 have hn:pre t 1≠[]:=by rw[nS];simp
 simp only[Bool.and_eq_true,decide_eq_true_eq,hn,false_or,rN,List.all_eq_true]
 have hd:=Ki t 1 12
 constructor
 ·rintro⟨h1,h2⟩
  have h3:∀x∈pre t 1,x.2<=12:=fun x hx=>by have:=h2 x hx;simp[wV]at this;omega
  have:=hd.1 h3
  exact⟨⟨by unfold Tm.sz;omega,af⟩,fun x hx=>by have:=h2 x hx;simp[wV]at this;exact this.2⟩
 ·rintro⟨⟨h1,h2⟩,h3⟩
  have h4:=hd.2 af
  refine⟨by unfold Tm.sz at h1;omega,fun x hx=> ?_⟩
  have h5:=h4 x hx
  have h6:=h3 x hx
  have h7:=DI h6
  simp[wV,h6,h7];omega
theorem wW:∀ (l:List (Tm×Int)) (b:Bool),(aQ (xH vJ (fun _ x=> !rL x)) b l).2=l.all fun x=> !rL x
 |[],b=>rfl
 |x::l,b=>by
  have e1:∀c,rL x=c->xH vJ (fun _ x=> !rL x) b x=(!c, !c):=fun c hc=>by show(!rL x,(vJ (!rL x)).isNone)=_;rw[hc];cases c<;>rfl
  rw[aQ,List.all_cons]
  cases hv:rL x with
  |false=>rw[e1 _ hv];simp[wW l]
  |true=>rw[e1 _ hv];simp
theorem oS{s:aA}{t:Tm}(h:gM s t=true):oh t=ft t:=by
 rw[oh,wW,FZ t 1,Bool.eq_iff_iff]
 simp only[gM,Bool.and_eq_true,wU s t 1,List.all_eq_true]at h
 simp only[List.all_eq_true]
 refine forall_congr' fun x=>forall_congr' fun hx=> ?_
 have:=DI (h.2 x hx)
 simp[dU]at this
 simp[rL]
 omega
theorem qy:∀a:Tm,hY a a=true:=by
 refine Tm.eN fun a ih=> ?_
 rw[rH]
 have:iU a.kids a.kids=true:=(iW _ _ rfl).2 fun i x y hx hy=>by
  rw[hx]at hy;injection hy with hy;subst hy;exact ih x (List.mem_of_getElem? hx)
 simp[this]
theorem dR:∀a b:Tm,hY a b=true↔a=b:=by
 refine Tm.eN fun a ih b=>⟨fun h=> ?_,fun e=>e ▸ qy _⟩
 rw[rH]at h
 simp only[Bool.and_eq_true,beq_iff_eq]at h
 obtain⟨⟨⟨h1,h2⟩,h3⟩,h4⟩:=h
 have h5:=(iW _ _ h3).1 h4
 have:a.kids=b.kids:=by
  apply List.ext_getElem?
  intro i
  cases hx:a.kids[i]? with
  |none=>simp at hx;symm;simp;omega
  |some x=>
   have hi:=(List.getElem?_eq_some_iff.1 hx).1
   obtain⟨y,hy⟩:=aB (l:=b.kids) (k:=i) af
   rw[hy,(ih x (List.mem_of_getElem? hx) y).1 (h5 i x y hx hy)]
 rw[<- Tm.eta a, <- Tm.eta b,h1,h2,this]
section
def Kj(l:List (D×D)):List (Int×D):=l.map fun p=>((match p.1 with| .int _ n=>n|_=>0),p.2)
def Yt(l:List (D×D)):Bool:=l.all fun p=>match p.1 with| .int .i64 _=>true|_=>false
@[go_sem] theorem aft (m:List (Int×D)):Kj (enc (D.int .i64) m)=m:=by
  unfold Kj enc;rw[List.map_map];simp[Function.comp_def]
@[go_sem] theorem afu (m:List (Int×D)):Yt (enc (D.int .i64) m)=true:=by simp[Yt,enc]
@[go_sem] theorem afv:Yt []=true:=rfl
@[go_sem] theorem afw:Kj []=[]:=rfl
theorem Bk:∀ {l:List (D×D)},Yt l=true->enc (D.int .i64) (Kj l)=l
 |[],_=>rfl
 |(k,x)::l,h=>by
  simp only[Yt,List.all_cons,Bool.and_eq_true]at h
  have ih:=Bk (l:=l) h.2
  obtain⟨n,h1⟩:∃n,k= .int .i64 n:=by
   have h1:=h.1
   split at h1
   ·exact⟨_,rfl⟩
   ·cases h1
  subst h1
  simp only[enc,Kj,List.map_cons]at ih|-
  rw[ih]
def oi(l:List Int):List (Int×D):=l.map fun n=>(n, .bool true)
@[go_sem] theorem aeI:oi []=[]:=rfl
def ew(l:List Int)(n:Int):List Int:=if l.contains n=true then l else l++[n]
theorem kp{l:List Int}{n k:Int}:k∈ew l n↔k∈l\/k=n:=by
 unfold ew
 split
 ·rename_i h
  have:n∈l:=by simpa using h
  constructor
  ·exact .inl
  ·rintro(h|rfl)<;>assumption
 ·simp
theorem F0{l:List Int}(n:Int)(h:l.Nodup):(ew l n).Nodup:=by
 unfold ew
 split
 ·exact h
 ·rename_i hn
  have hn:n∉l:=by simpa using hn
  rw[List.nodup_append]
  exact⟨h,aE,fun a ha b hb=>by simp at hb;subst hb;intro e;subst e;exact hn ha⟩
theorem rO:∀ (l:List Int) (n:Int) (i:Nat),jF n (oi l) i=(l.findIdx? (· ==n)).map fun j=>(i+j,D.bool true)
 |[],n,i=>rfl
 |x::l,n,i=>by
  have ih:=rO l n (i+1)
  simp only[oi,List.map_cons,jF,List.findIdx?_cons]at ih|-
  by_cases h:n=x
  ·subst h;simp
  ·have h2: ¬x=n:=fun e=>h e.symm
   simp only[beq_iff_eq,h,h2,if_false,ih,Option.map_map,Function.comp_def]
   congr 1;funext j;congr 1;omega
@[go_sem] theorem aad (l:List Int) (n:Int):J7 n (.bool true) (oi l)=oi (ew l n):=by
  unfold J7 ew
  rw[rO]
  cases h:l.findIdx? (· ==n)with
  |none=>
   have:l.contains n=false:=by
    rw[List.findIdx?_eq_none_iff]at h
    rw[Bool.eq_false_iff];intro hc
    have:=h n (by simpa using hc)
    simp at this
   simp only[Option.map_none,this,Bool.false_eq_true,if_false]
   simp[oi]
  |some j=>
   rw[List.findIdx?_eq_some_iff_getElem]at h
   obtain⟨hj,he,_⟩:=h
   have e:l[j]=n:=by simpa using he
   have:l.contains n=true:=by rw[List.contains_iff_mem, <- e];exact List.getElem_mem hj
   simp only[Option.map_some,this,if_true,Nat.zero_add]
   apply List.ext_getElem?
   intro k
   rw[List.getElem?_set]
   split
   ·rename_i hk;subst hk;simp[oi,hj,e]
   ·rfl
def aeJ(l:List Int)(n:Int):List Int:=match l.findIdx? (· ==n)with|some j=>l.eraseIdx j|none=>l
theorem mN{α β:Type}(f:α->β):∀ (l:List α) (j:Nat),(l.map f).eraseIdx j=(l.eraseIdx j).map f
 |[],_=>rfl
 |_::_,0=>rfl
 |x::l,j+1=>by simp[mN f l j]
@[go_sem] theorem aae (l:List Int) (n:Int):aeG n (oi l)=oi (aeJ l n):=by
  unfold aeG aeJ
  rw[rO]
  cases h:l.findIdx? (· ==n)with
  |none=>simp
  |some j=>simp only[Option.map_some,Nat.zero_add];exact mN _ _ _
section
variable {P:Program}{o:Nat->ab}{t:TypeId}{id:Nat}{n:Int}{v:V}
def tj(P:Program)(kt:TypeId):Bool:=match bP P kt with|some .int=>true|_=>false
theorem zO{kt:TypeId}(h:tj P kt=true):bP P kt=some .int:=by
 unfold tj at h;split at h
 ·assumption
 ·cases h
@[go_sem] theorem aaf {kt:TypeId} (h:bP P kt=some .int):tj P kt=true:=by unfold tj;rw[h]
def Yu(P:Program)(o:Nat->ab)(t:TypeId)(id:Nat)(n:Int)(v:V):Option gz:=
 match sK P t,dM o v,o id with
 |some (kt,_),some vd, .map G1 G2 l=>match tj P kt&&Yt l&&v.ids.all (· !=id)with
  |true=>some (.bW [],bG o v.ids++[(id, .map G1 G2 (enc (D.int .i64) (J7 n vd (Kj l))))],id::v.ids)
  |false=>rK P o t (.mp id) (.d (.int .i64 n)) v
 |_,_,_=>rK P o t (.mp id) (.d (.int .i64 n)) v
@[go_sem high] theorem Yv:gu P o t (.mp id) (.d (.int .i64 n)) v=Yu P o t id n v:=by
  unfold Yu
  split
  ·rename_i kt vt vd G1 G2 l h1 h2 h3
   split
   ·rename_i hc
    simp only[Bool.and_eq_true]at hc
    obtain⟨⟨c1,c2⟩,c3⟩:=hc
    have c4:=zO c1
    have c5:dM o (.d (.int .i64 n))=some (.int .i64 n):=rfl
    have hl:=Bk c2
    unfold gu
    simp only[h1,c5,h2,pJ,h3]
    rw[if_pos ⟨rfl,HU c4 n,rfl,c3⟩]
    conv=>lhs;rw[<- hl]
    rw[DD c4]
    unfold J7
    cases jF n (Kj l) 0 with
    |none=>simp[xY,enc]
    |some p=>simp[xY,HV,D.same,pI]
   ·exact zK ..
  ·exact zK ..
attribute [go_sem] Yu
def isS(l:List (D×D)):Bool:=l.all fun p=>match p.2 with| .bool true=>true|_=>false
@[go_sem] theorem afx (l:List Int):isS (enc (D.int .i64) (oi l))=true:=by simp[isS,enc,oi]
@[go_sem] theorem afy:isS []=true:=rfl
theorem HX:∀ {m:List (Int×D)},isS (enc (D.int .i64) m)=true->oi (m.map (·.1))=m
 |[],_=>rfl
 |(k,x)::m,h=>by
  simp only[isS,enc,List.map_cons,List.all_cons,Bool.and_eq_true]at h
  have ih:=HX (m:=m) h.2
  have h1:x= .bool true:=by
   have h1:=h.1
   split at h1
   ·rfl
   ·cases h1
  simp only[oi,List.map_cons]at ih|-
  rw[ih,h1]
def Ny(P:Program)(o:Nat->ab)(t:TypeId)(m:V)(n:Int)(ok:Bool):Option gz:=
 match sK P t with
 |some (kt,vt)=>match zeroV P vt with
  |some (.d (.bool false))=>match qQ o m with
   |some (rd,l)=>match tj P kt&&Yt l&&isS l with
    |true=>some (match ok with|true=> .bW [.d (.bool (((Kj l).map (·.1)).contains n)), .d (.bool (((Kj l).map (·.1)).contains n))]|false=> .d (.bool (((Kj l).map (·.1)).contains n)),[],rd)
    |false=>wS P o t m (.d (.int .i64 n)) ok
   |none=>wS P o t m (.d (.int .i64 n)) ok
  |_=>wS P o t m (.d (.int .i64 n)) ok
 |none=>wS P o t m (.d (.int .i64 n)) ok
@[go_sem] theorem Nz (l:List Int):((oi l).map (·.1))=l:=by simp[oi,Function.comp_def]
@[go_sem high] theorem aeK {m:V} {ok:Bool}:jE P o t m (.d (.int .i64 n)) ok=Ny P o t m n ok:=by
  unfold Ny
  split
  ·rename_i kt vt h1
   split
   ·rename_i hz
    split
    ·rename_i rd l h
     split
     ·rename_i hc
      simp only[Bool.and_eq_true]at hc
      have c4:=zO hc.1.1
      have hl:=Bk hc.1.2
      have hs:oi ((Kj l).map (·.1))=Kj l:=HX (by rw[hl];exact hc.2)
      have c5:dM o (.d (.int .i64 n))=some (.int .i64 n):=rfl
      unfold jE
      simp only[h1,c5,h]
      rw[if_pos ⟨rfl,HU c4 n⟩]
      conv=>lhs;rw[<- hl]
      rw[DD c4, <- hs,rO,Nz]
      generalize (Kj l).map (·.1)=l'
      cases hf:l'.findIdx? (· ==n)with
      |none=>
       have:l'.contains n=false:=by
        rw[List.findIdx?_eq_none_iff]at hf
        rw[Bool.eq_false_iff];intro hc
        have:=hf n (by simpa using hc)
        simp at this
       cases ok<;>simp only[Option.map_none,xY,hz,this,if_true,Bool.false_eq_true,if_false]
      |some j=>
       rw[List.findIdx?_eq_some_iff_getElem]at hf
       obtain⟨hj,he,_⟩:=hf
       have e:l'[j]=n:=by simpa using he
       have:l'.contains n=true:=by rw[List.contains_iff_mem, <- e];exact List.getElem_mem hj
       cases ok<;>simp only[Option.map_some,xY,this,if_true,Bool.false_eq_true,if_false]
     ·exact oQ ..
    ·exact oQ ..
   ·exact oQ ..
  ·exact oQ ..
attribute [go_sem] Ny
end
attribute [go_sem] List.head?_cons
end
mutual
def fX(v:Int):Tm->Bool
 | .mk op n kids=>if op=1 then n==v else Bl v op n kids 0
def Bl(v op n:Int):List Tm->Nat->Bool
 |[],_=>false
 |k::l,i=>(fX v k&& !(op==8&&i==1&&n==v))||Bl v op n l (i+1)
end
theorem tl(v:Int)(t:Tm):fX v t=if t.op=1 then t.n==v else Bl v t.op t.n t.kids 0:=by cases t;rfl
@[reducible] def Kk (l:List Int):ab:= .map 3 4 (enc (D.int .i64) (oi l))
def px:List Int->Int->List Int
 |[],n=>[n]
 |x::l,n=>if x<n then x::px l n else if x=n then x::l else n::x::l
def qz(op n:Int)(i:Nat)(l out:List Int):List Int:=l.foldl (fun out v=>if(op !=8||(i:Int)!=1||v !=n)=true then px out v else out) out
mutual
def cM:Tm->List Int
 | .mk op n kids=>if op=1 then [n]else mO op n kids 0 []
def mO(op n:Int):List Tm->Nat->List Int->List Int
 |[],_,out=>out
 |k::l,i,out=>mO op n l (i+1) (qz op n i (cM k) out)
end
theorem rP(t:Tm):cM t=if t.op=1 then [t.n]else mO t.op t.n t.kids 0 []:=by cases t;rfl
theorem wX:∀ (l:List Int) (n v:Int),v∈px l n↔v∈l\/v=n
 |[],n,v=>by simp[px]
 |x::l,n,v=>by
  simp only[px]
  split
  ·simp only[List.mem_cons,wX l n v];constructor
   ·rintro(h|h|h)
    ·exact .inl (.inl h)
    ·exact .inl (.inr h)
    ·exact .inr h
   ·rintro((h|h)|h)
    ·exact .inl h
    ·exact .inr (.inl h)
    ·exact .inr (.inr h)
  ·split
   ·rename_i h;subst h;simp only[List.mem_cons];constructor
    ·exact .inl
    ·rintro(h|h)
     ·exact h
     ·exact .inl h
   ·simp only[List.mem_cons];constructor
    ·rintro(h|h)
     ·exact .inr h
     ·exact .inl h
    ·rintro(h|h)
     ·exact .inr h
     ·exact .inl h
abbrev F1(l:List Int):Prop:=l.Pairwise (· <·)
theorem DJ:∀ {l:List Int} (n:Int),F1 l->F1 (px l n)
 |[],n,_=>by simp[px]
 |x::l,n,h=>by
  have h1:=List.pairwise_cons.1 h
  simp only[px]
  split
  ·rename_i hx
   refine List.pairwise_cons.2 ⟨fun y hy=> ?_,DJ n h1.2⟩
   rcases(wX l n y).1 hy with hy|hy
   ·exact h1.1 y hy
   ·omega
  ·split
   ·exact h
   ·refine List.pairwise_cons.2 ⟨fun y hy=> ?_,h⟩
    rcases List.mem_cons.1 hy with hy|hy
    ·omega
    ·have:=h1.1 y hy;omega
theorem oV(op n:Int)(i:Nat):∀ (l out:List Int),F1 out->F1 (qz op n i l out)/\∀v,v∈qz op n i l out↔v∈out\/(v∈l/\ ¬ (op=8/\i=1/\n=v))
 |[],out,h=>⟨h,fun v=>by simp[qz]⟩
 |x::l,out,h=>by
  have hk:qz op n i (x::l) out=qz op n i l (if(op !=8||(i:Int)!=1||x !=n)=true then px out x else out):=rfl
  rw[hk]
  by_cases hc:(op !=8||(i:Int)!=1||x !=n)=true
  ·rw[if_pos hc]
   have ih:=oV op n i l (px out x) (DJ x h)
   refine⟨ih.1,fun v=> ?_⟩
   rw[ih.2 v,wX,List.mem_cons]
   have sN: ¬ (op=8/\i=1/\n=x):=by
    rintro⟨h1,h2,h3⟩;subst h1;subst h2;subst h3;simp at hc
   constructor
   ·rintro((h|h)|h)
    ·exact .inl h
    ·subst h;exact .inr ⟨.inl rfl,sN⟩
    ·exact .inr ⟨.inr h.1,h.2⟩
   ·rintro(h|⟨h|h,h2⟩)
    ·exact .inl (.inl h)
    ·exact .inl (.inr h)
    ·exact .inr ⟨h,h2⟩
  ·rw[if_neg hc]
   have ih:=oV op n i l out h
   refine⟨ih.1,fun v=> ?_⟩
   rw[ih.2 v,List.mem_cons]
   have sN:op=8/\i=1/\n=x:=by simp at hc;exact⟨hc.1.1,af,hc.2.symm⟩
   constructor
   ·rintro(h|h)
    ·exact .inl h
    ·exact .inr ⟨.inr h.1,h.2⟩
   ·rintro(h|⟨h|h,h2⟩)
    ·exact .inl h
    ·subst h;exact absurd sN h2
    ·exact .inr ⟨h,h2⟩
theorem cQ:∀t:Tm,F1 (cM t)/\∀v,v∈cM t↔fX v t=true:=by
 refine Tm.eN fun t ih=> ?_
 have hs:∀ (l:List Tm) (i:Nat) (out:List Int),(∀k∈l,k∈t.kids)->F1 out->F1 (mO t.op t.n l i out)/\∀v,v∈mO t.op t.n l i out↔v∈out\/Bl v t.op t.n l i=true:=by
  intro l
  induction l with
  |nil=>intro i out _ h;exact⟨h,fun v=>by simp[mO,Bl]⟩
  |cons k l Yi=>
   intro i out hk h
   have h1:=ih k (hk k aE)
   have h2:=oV t.op t.n i (cM k) out h
   have h3:=Yi (i+1) _ (fun x hx=>hk x kI) h2.1
   refine⟨h3.1,fun v=> ?_⟩
   show v∈mO t.op t.n l (i+1) (qz t.op t.n i (cM k) out)↔_
   rw[h3.2 v,h2.2 v,h1.2 v,Bl]
   simp only[Bool.or_eq_true,Bool.and_eq_true,Bool.not_eq_true',Bool.and_eq_false_iff,beq_eq_false_iff_ne,ne_eq,not_and]
   have:(∀ (_:t.op=8) (_:i=1), ¬t.n=v)↔((¬t.op=8\/ ¬i=1)\/ ¬t.n=v):=by
    constructor
    ·intro h
     by_cases c1:t.op=8
     ·by_cases c2:i=1
      ·exact .inr (h c1 c2)
      ·exact .inl (.inr c2)
     ·exact .inl (.inl c1)
    ·rintro((h|h)|h) c1 c2
     ·exact absurd c1 h
     ·exact absurd c2 h
     ·exact h
   rw[this]
   constructor
   ·rintro((h|h)|h)
    ·exact .inl h
    ·exact .inr (.inl h)
    ·exact .inr (.inr h)
   ·rintro(h|h|h)
    ·exact .inl (.inl h)
    ·exact .inl (.inr h)
    ·exact .inr h
 by_cases h1:t.op=1
 ·rw[rP,if_pos h1]
  refine⟨aE,fun v=> ?_⟩
  rw[tl,if_pos h1]
  simp only[List.mem_singleton,beq_iff_eq]
  exact eq_comm
 ·rw[rP,if_neg h1]
  have:=hs t.kids 0 [] (fun _ h=>h) aE
  refine⟨this.1,fun v=> ?_⟩
  rw[this.2 v,tl,if_neg h1]
  simp
theorem NA:∀ {l l':List Int},F1 l->F1 l'->(∀v,v∈l↔v∈l')->l=l'
 |[],[],_,_,_=>rfl
 |[],y::l',_,_,h=>by have:=(h y).2 aE;cases this
 |x::l,[],_,_,h=>by have:=(h x).1 aE;cases this
 |x::l,y::l',h1,h2,h=>by
  have g1:=List.pairwise_cons.1 h1
  have g2:=List.pairwise_cons.1 h2
  have e:x=y:=by
   rcases List.mem_cons.1 ((h x).1 aE)with e|e
   ·exact e
   ·rcases List.mem_cons.1 ((h y).2 aE)with e2|e2
    ·exact e2.symm
    ·have:=g2.1 x e;have:=g1.1 y e2;omega
  subst e
  rw[NA g1.2 g2.2 fun v=> ?_]
  constructor
  ·intro hv
   rcases List.mem_cons.1 ((h v).1 (by simp[hv]))with e|e
   ·subst e;exact absurd (g1.1 v hv) af
   ·exact e
  ·intro hv
   rcases List.mem_cons.1 ((h v).2 (by simp[hv]))with e|e
   ·subst e;exact absurd (g2.1 v hv) af
   ·exact e
theorem qA{α:Type}{l:List α}{i:Nat}{n:α}(h:l[i]? =some n):(n::l.eraseIdx i).Perm l:=by
 obtain⟨hi,e⟩:=List.getElem?_eq_some_iff.1 h
 have KL:l=l.take i++n::l.drop (i+1):=by rw[<- e,List.getElem_cons_drop,List.take_append_drop]
 rw[List.eraseIdx_eq_take_drop_succ]
 conv=>rhs;rw[KL]
 exact List.perm_middle.symm
end Go.Proofs.YtlhemmpklhhgoaaGreat
section
namespace Go.Proofs.YtlhemmpklhhgoaaGreat
open Go.Sort Go.RowKit
def DK(P:Program)(g:FuncId):Prop:=∀ (eA off cap:Nat) (zs:List Int) (w:World),Holds (Value.int .i64) w eA off zs.toArray->eA<w.heap.size->zs.length<4611686018427387904->
    Calls P g #[.slice (some ⟨eA,off,none⟩) zs.length cap] w fun e w'=>
     e= .returned (.tuple #[])/\∃n os,w'=grow (putRow (Value.int .i64) (Sort.ahead w n) eA off (zs.mergeSort fun x y=>decide (x<=y)).toArray) os
def dc(l:List Int):List Int:=l.mergeSort fun x y=>decide (x<=y)
theorem HY{B:Nat->Prop}{w:World}:∀ (zs:List Int) (xs:List Value),eM B w 1 (zs.map (D.int .i64)) xs↔xs=zs.map (Value.int .i64):=by
 have hd:∀ (zs:List Int) (evs:List Value),D.aF B w (zs.map (D.int .i64)) evs↔evs=zs.map (Value.int .i64):=by
  intro zs
  induction zs with
  |nil=>intro evs;simp[D.aF]
  |cons z zs ih=>
   intro evs
   simp only[List.map_cons,D.aF]
   constructor
   ·rintro⟨v,vs,rfl,h1,h2⟩
    rw[(ih vs).1 h2]
    simp only[D.den]at h1
    rw[h1]
   ·intro h
    exact⟨_,_,h,rfl,(ih _).2 rfl⟩
 have hf:∀zs:List Int,(zs.map (Value.int .i64)).flatMap (·.cells.toList)=zs.map (Value.int .i64):=by
  intro zs
  induction zs with
  |nil=>rfl
  |cons z zs ih=>simp only[List.map_cons,List.flatMap_cons,ih];rfl
 intro zs xs
 constructor
 ·rintro⟨evs,h1,h2,h3⟩
  rw[h1,(hd zs evs).1 h3,hf]
 ·intro h
  subst h
  exact⟨_,(hf zs).symm,fun ev dw=>by
   obtain⟨z,_,rfl⟩:=List.mem_map.1 dw
   rfl,(hd zs _).2 rfl⟩
theorem NB{P:Program}{g:FuncId}(hE:Enters P g)(hS:DK P g){o:Nat->ab}{nx id ep:Nat}{ty:TypeId}{zs:List Int}(ho:o id= .arr ep ty 1 (zs.map (D.int .i64)))
 (hn:∀p cap w,Calls P g #[.slice p 0 cap] w fun e w'=>e= .returned (.tuple #[])/\w'=w)
 (hlen:zs.length<4611686018427387904) {K X:V->(Nat->ab)->Nat->Prop} (hK:K (.bW []) (ay o id (.arr ep ty 1 ((dc zs).map (D.int .i64)))) nx):bQ P g [.osl id ep] o nx K X:=by
 refine⟨hE,fun M φ w vals hH hd=> ?_⟩
 obtain⟨val,us,lN,⟨v0,v1,v2⟩,dY⟩:=hd
 have dY:us=[]:=dY
 subst dY
 have e9:val=φ id:=(v2 ep (by show(o id).cz=some ep;rw[ho];rfl)).2 rfl
 have Kl:vals=#[φ id]:=by rw[<- e9];exact Array.ext' (by simpa using lN)
 subst Kl
 have ML:=hH.ok id
 unfold aR at ML
 rw[show(hp o nx).o id= .arr ep ty 1 (zs.map (D.int .i64))from ho]at ML
 obtain⟨_,xs,dI,da⟩:=ML
 have OY:=(HY zs xs).1 da
 subst OY
 simp only[List.length_map]at dI
 obtain⟨hl,Wa|⟨b,cap,cur,eY,_,hg,eE,E3,hcs,aeL⟩⟩:=dI
 ·obtain⟨h1,h2⟩:=Wa
  have hz:zs=[]:=List.length_eq_zero_iff.1 h2
  subst hz
  rw[h1]
  refine(hn none 0 w).mono ?_
  rintro e w' ⟨rfl,rfl⟩
  have tR:ay o id (.arr ep ty 1 ((dc []).map (D.int .i64)))=o:=by
   funext j
   by_cases e:j=id
   ·subst e;rw[aa,ho,show dc []=[] by simp[dc]]
   ·exact GV
  rw[tR]at hK
  exact⟨φ,o,nx, .bW [],hH,Trans.refl _ _ _,⟨#[],rfl,rfl⟩,hK⟩
 ·rw[eY]
  have hb:b<w.heap.size:=(Array.getElem?_eq_some_iff.1 hg).1
  have aeM:∀j,j<zs.length->cur[j]? =some (.int .i64 zs[j]!):=by
   intro j hj
   have h1:(cur.toList.take (zs.length*1))[j]? =(zs.map (Value.int .i64))[j]? :=by rw[aeL]
   rw[List.getElem?_take_of_lt (by omega),List.getElem?_map,List.getElem?_eq_getElem hj]at h1
   simp only[Option.map_some]at h1
   rw[getElem!_pos zs j hj]
   simpa using h1
  refine(hS b 0 cap zs w (fun j hj=> ?_) hb hlen).mono ?_
  ·simp only[List.size_toArray]at hj
   refine⟨?_, ?_⟩
   ·unfold World.cell?
    simp only[hg,Option.isSome_none,Bool.false_eq_true,if_false,Nat.zero_add]
    rw[aeM j hj];simp
   ·unfold World.frozen?
    simp[hg]
  rintro e w' ⟨rfl,n,os,rfl⟩
  have FJ:(dc zs).length=zs.length:=List.length_mergeSort zs
  have HS:∀k,k<w.heap.size->(grow (putRow (Value.int .i64) (Sort.ahead w n) b 0 (dc zs).toArray) os).heap[k]? =(w.heap.modify b (onCells (putCells (Value.int .i64) 0 (dc zs).toArray)))[k]? :=by
   intro k hk
   unfold grow putRow mapBlock Sort.ahead
   simp only
   rw[Array.getElem?_append_left (by simpa using hk)]
  have Hl:eC (· =b) w (grow (putRow (Value.int .i64) (Sort.ahead w n) b 0 (dc zs).toArray) os):=by
   refine⟨rfl,rfl,rfl, ?_,fun k hk je=> ?_⟩
   ·unfold grow putRow mapBlock Sort.ahead;simp
   ·rw[HS k hk,Array.getElem?_modify,if_neg (fun e=>je e.symm)]
  have cY:((hp o nx).o id).live=true:=by show(o id).live=true;rw[ho];rfl
  have JO:eA (φ id)=some b:=by rw[eY];rfl
  have V9:(grow (putRow (Value.int .i64) (Sort.ahead w n) b 0 (dc zs).toArray) os).heap[b]? =some (.cells (putCells (Value.int .i64) 0 (dc zs).toArray cur) ty (0,0)):=by
   rw[HS b hb,Array.getElem?_modify,if_pos rfl,hg];rfl
  have fK:(hp o nx).put [(id, .arr ep ty 1 ((dc zs).map (D.int .i64)))]=hp (ay o id (.arr ep ty 1 ((dc zs).map (D.int .i64)))) nx:=by
   have dY:id<nx:=v1
   simp only[Hp.put,hp]
   congr 1
   funext j
   simp only[List.map_cons,List.map_nil,List.mem_singleton,eq_iff_iff]
   exact⟨fun h=>h.elim (fun h=>h) (fun e=>e ▸ dY), .inl⟩
  have vF:aR M φ ((hp o nx).put [(id, .arr ep ty 1 ((dc zs).map (D.int .i64)))]) (grow (putRow (Value.int .i64) (Sort.ahead w n) b 0 (dc zs).toArray) os) id:=by
   unfold aR
   rw[show((hp o nx).put [(id, .arr ep ty 1 ((dc zs).map (D.int .i64)))]).o id= .arr ep ty 1 ((dc zs).map (D.int .i64)) by simp]
   refine⟨bC,(dc zs).map (Value.int .i64), ?_,(HY _ _).2 rfl⟩
   simp only[List.length_map,FJ]
   refine⟨by simp[FJ], .inr ⟨b,cap,_,eY,Nat.zero_le _,V9,eE,E3, ?_, ?_⟩⟩
   ·unfold putCells;simpa using hcs
   ·apply List.ext_getElem?
    intro j
    by_cases hj:j<zs.length
    ·rw[List.getElem?_take_of_lt (by omega),List.getElem?_map,List.getElem?_eq_getElem (l:=dc zs) (by omega)]
     have Tk:j<cur.size:=af
     unfold putCells
     simp only[Array.getElem?_toList,Array.getElem?_mapIdx,Option.map_some]
     rw[Array.getElem?_eq_getElem Tk]
     simp only[Option.map_some,Nat.zero_le,true_and,Nat.zero_add,List.size_toArray,Nat.sub_zero]
     rw[if_pos (by omega)]
     rw[getElem!_pos _ j (by simp;omega)]
     simp
    ·rw[List.getElem?_eq_none (by rw[List.length_take,Nat.mul_one];exact Nat.le_trans (Nat.min_le_left _ _) (Nat.not_lt.1 hj)),List.getElem?_eq_none (by rw[List.length_map,FJ];exact Nat.not_lt.1 hj)]
  have U3:=iJ hH (id:=id) v1 cY JO Hl (.arr ep ty 1 ((dc zs).map (D.int .i64))) GF GF vF
  have T3:=fj (φ:=φ) (H:=hp o nx) (id:=id) v1 cY JO Hl (.arr ep ty 1 ((dc zs).map (D.int .i64))) GF GF
  rw[fK]at U3 T3
  exact⟨φ,_,nx, .bW [],U3,T3,⟨#[],rfl,rfl⟩,hK⟩
end Go.Proofs.YtlhemmpklhhgoaaGreat
end
