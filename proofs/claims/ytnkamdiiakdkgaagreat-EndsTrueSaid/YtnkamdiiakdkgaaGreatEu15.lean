/-
  A PART OF THE PROOF. Conditions: none.
-/
import Derived.Test.YtnkamdiiakdkgaaGreatEu14
set_option linter.unusedSimpArgs false
set_option linter.unusedVariables false
namespace Go.Proofs.YtnkamdiiakdkgaaGreat
section
theorem AR{σ:Type}(l:List Tm)(hl:l.length<=9223372036854775807)(g:Nat)(aV:List V)(base:Nat)(H:σ->Nat->ab)(step:σ->Tm->σ×Bool)(hc:∀r∈V.aL aV,r<base)(ok:σ->Prop)(aZ:∀x∈l,∀s,ok s->(step s x).2=true->ok (step s x).1)
 (h:∀x∈l,∀s,ok s->j7 Tryz.prog g (.d x.d::aV) base (H s) (H (step s x).1) (.d (.bool (step s x).2))) (s:σ) (jb:ok s):
 j7 Tryz.prog 171 [.d (.sl (l.map Tm.d)), .func (.func g) [] aV] base (H s) (H (aw step s l).1) (.d (.bool (aw step s l).2)):=by
 intro o nx hI K X hK
 have kp:∀r∈V.aL aV,r<nx:=fun r hr=>Nat.lt_of_lt_of_le (hc r hr) hI.le
 refine de.aH mix PV aI ?_
 rw[Tk]
 refine cj ?_
 refine aE (fun i:Nat×σ×(Nat->ab)×Nat=>⟨ba [.aa, .func (.func g) [] aV, .aa, .aa, .aa, .aa, .aa, .d (.sl (l.map Tm.d)), .d (.i l.length), .d (.i i.1)],i.2.2.1,i.2.2.2⟩)
  (fun i=>i.1<=l.length/\cI base (H i.2.1) i.2.2.1 i.2.2.2/\nx<=i.2.2.2/\(∀id,base<=id->id<nx->i.2.2.1 id=o id)/\aw step s l=aw step i.2.1 (l.drop i.1)/\ok i.2.1) (fun i=>l.length - i.1) (0,s,o,nx)
  ⟨Nat.zero_le _,hI,Nat.le_refl _,fun _ _ _=>rfl,rfl,jb⟩ ?_ ?_
 ·exact Lx
 rintro⟨k,s',o',nx'⟩ ⟨hk,uQ,hn,cO,hf,iS⟩
 simp only at hk uQ hn cO hf iS
 refine cj ?_
 refine aj (fun h1=> ?_) (fun h1=> ?_)
 ·simp at h1
  obtain⟨x,hx⟩:=az h1
  have eg:=List.mem_of_getElem? hx
  have hd:l.drop k=x::l.drop (k+1):=by
   exact WI
  refine Lk hx ?_
  have hl0:=uQ.le
  refine fG (h x eg s' iS _ _ (?_:cI base (H s') _ (nx'+7)) _ _ fun o2 n2 m1 m2 m3=> ?_)
  ·exact V8
  have Js:∀id,base<=id->id<nx->o2 id=o id:=fun id h2 h3=>by
   exact Wn
  refine cj ?_
  refine aj (fun h2=> ?_) (fun h2=> ?_)
  ·refine cj ?_
   simp at h2
   have:aw step s l=((step s' x).1,false):=by rw[hf,hd,aw,if_neg (by rw[h2];exact Bool.false_ne_true)]
   rw[this]at hK
   exact hK _ _ ah (m2.mono ah) Js
  ·refine cj ?_
   simp at h2
   have:aw step s l=aw step (step s' x).1 (l.drop (k+1)):=by rw[hf,hd,aw,if_pos h2]
   refine aq (k+1,(step s' x).1,o2,n2) ⟨h1,m2,by dsimp only;omega,Js,this,aZ x eg s' iS h2⟩ nb ?_
   dsimp only
   have Jt:∀r∈V.aL aV,r<n2:=fun r hr=>by have:=kp r hr;omega
   refine bC.bB _ ah ah m2.bD (fun _ _=>rfl) ?_
   exact cE
 ·exact W8
theorem yd{α σ:Type}(step:σ->α->σ×Bool)(a b:List α):∀s,aw step s (a++b)=if(aw step s a).2=true then aw step (aw step s a).1 b else((aw step s a).1,false):=by
 induction a with
 |nil=>intro s;simp[aw]
 |cons x a ih=>
  intro s
  simp only[List.cons_append,aw]
  split
  ·exact ih _
  ·rename_i h;simp
theorem tU{α β σ:Type}(step:σ->β->σ×Bool)(f:α->List β)(l:List α):∀s,aw step s (l.flatMap f)=aw (fun s x=>aw step s (f x)) s l:=by
 induction l with
 |nil=>intro s;rfl
 |cons x l ih=>intro s;simp only[List.flatMap_cons,yd,aw,ih]
theorem yW{α σ:Type}{step:σ->α->σ×Bool}{ok:σ->Prop}:∀ (l:List α),(∀x∈l,∀s,ok s->(step s x).2=true->ok (step s x).1)->∀s,ok s->(aw step s l).2=true->ok (aw step s l).1
 |[],_,s,h,_=>h
 |x::l,aZ,s,h,h2=>by
  simp only[aw]at h2|-
  split at h2
  ·rename_i hb
   rw[if_pos hb]
   exact yW l (fun y hy=>aZ y nH) _ (aZ x aI s h hb) h2
  ·cases h2
def VC(P:Program)(mC:Nat)(args:List V)(base:Nat)(h h2:Nat->ab)(v:V):Prop:=
 ∀o nx,cI base h o nx->∀K X,StK base h2 v o nx K->dq P mC args o nx K X
section
variable {σ:Type}(base mC:Nat)(H:σ->Nat->ab)(step:σ->Tm×Int->σ×Bool)(ok:σ->Prop)
theorem MK:∀t:Tm,t.fits->∀d:Int,0<=d->d+t.mm<=1000000->(∀x∈pre t d,∀s,ok s->(step s x).2=true->ok (step s x).1)->(∀x∈pre t d,∀s,ok s->VC Tryz.prog mC [.d x.1.d, .d (.i x.2)] base (H s) (H (step s x).1) (.d (.bool (step s x).2)))->mC<base->
 ∀ (c:Nat) (o0:Nat->ab) (yb vb:Nat),base<=c->base<=yb->yb<c->base<=vb->vb<c->o0 yb= .row [.iD mC]->o0 vb= .row [.func (.func 175) [] [.ptr yb 0, .ptr vb 0]]->
 ∀s,ok s->j7 Tryz.prog 175 [.d t.d, .d (.i d), .ptr yb 0, .ptr vb 0] c (ext base (H s) o0) (ext base (H (aw step s (pre t d)).1) o0) (.d (.bool (aw step s (pre t d)).2)):=by
 refine Tm.cl fun t ih hf d hd0 hd aZ hR tV c o0 yb vb VD Le hy Lf hv oy ov s jb=> ?_
 have lK:=(Tm.aX _).1 hf
 intro o nx hI K X hK
 have hle:=hI.le
 have ML:o yb= .row [.iD mC]:=by rw[hI.eq yb hy];unfold ext;rw[if_neg (by omega),oy]
 have MM:o vb= .row [.func (.func 175) [] [.ptr yb 0, .ptr vb 0]]:=by rw[hI.eq vb hv];unfold ext;rw[if_neg (by omega),ov]
 have y1:yb≠nx:=ah
 have y2:∀k,yb≠nx+k:=fun k=>ah
 have y3:vb≠nx:=ah
 have y4:∀k,vb≠nx+k:=fun k=>ah
 refine de.aH mix PZ aI ?_
 rw[Tp]
 simp+contextual only[go_sem,ML,MM,y1,y2,y3,y4,Nat.add_assoc,Nat.left_eq_add,Nat.add_eq_left,Nat.add_left_cancel_iff]
 have rK:=je t d
 have jt:∀k∈t.kids,∀x∈pre k (d+1),x∈pre t d:=fun k hk x hx=>by
  exact NU
 have hb:∀id,id<base->o id=H s id:=fun id au=>by rw[hI.eq id (by omega)];unfold ext;rw[if_pos au]
 have hIb:cI base (H s) o nx:=⟨hI.bD,ah,hb⟩
 refine mA (hR (t,d) y0 s jb _ _ ((hIb.aF (i:=nx) (m:=nx+6) ah ah ah rfl).aF (i:=nx+1) ah ah ah rfl) _ _ fun o2 n2 m1 m2 m3=> ?_)
 have k0:o2 nx= .row t.row:=by rw[m3 nx (by omega) (by omega),ai _ _ _ _ (by omega),ae]
 have k1:o2 (nx+1)= .row [.d (.i d)]:=by rw[m3 (nx+1) (by omega) (by omega),ae]
 have hold:∀id,base<=id->id<nx->o2 id=o id:=fun id h1 h2=>by rw[m3 id h1 (by omega),ai _ _ _ _ (by omega),ai _ _ _ _ (by omega)]
 have BU:∀id,base<=id->id<c->o id=o0 id:=fun id h1 h2=>by rw[hI.eq id h2];unfold ext;rw[if_neg (by omega)]
 cases AS:(step s (t,d)).2 with
 |false=>
  refine js AS ?_
  have wy:aw step s (pre t d)=((step s (t,d)).1,false):=by rw[rK,aw,if_neg (by rw[AS];exact Bool.false_ne_true)]
  rw[wy]at hK
  refine hK _ _ ah ⟨m2.bD.mono ah,ah,fun id au=> ?_⟩ (fun id h1 h2=>hold id ah h2)
  unfold ext
  split
  ·exact m2.eq id ox
  ·exact Hf
 |true=>
  have wy:aw step s (pre t d)=aw (fun s k=>aw step s (pre k (d+1))) (step s (t,d)).1 t.kids:=by rw[rK,aw,if_pos AS,tU]
  simp+contextual only[go_sem,AS,k0,k1]
  have q0:o2 yb= .row [.iD mC]:=by rw[hold yb Le (by omega),ML]
  have q1:o2 vb= .row [.func (.func 175) [] [.ptr yb 0, .ptr vb 0]]:=by rw[hold vb Lf (by omega),MM]
  have m0:=m2.le
  refine bA (AR t.kids lK.1 176 [.ptr vb 0, .ptr (nx+1) 0] n2 (fun s=>ext base (H s) o2) (fun s k=>aw step s (pre k (d+1))) ?_ ok ?_ ?_ (step s (t,d)).1 (aZ (t,d) y0 s jb AS) _ _ ?_ _ _ ?_)
  ·simp[V.aL,V.refs];omega
  ·exact Wt
  ·intro k hk s' ju o3 n3 hI3 K3 X3 hK3
   have l3:=hI3.le
   have r0:o3 vb= .row [.func (.func 175) [] [.ptr yb 0, .ptr vb 0]]:=by rw[hI3.eq vb (by omega)];unfold ext;rw[if_neg (by omega),q1]
   have r1:o3 (nx+1)= .row [.d (.i d)]:=by rw[hI3.eq (nx+1) (by omega)];unfold ext;rw[if_neg (by omega),k1]
   have y5:vb≠n3:=ah
   have y6:∀k,vb≠n3+k:=fun k=>ah
   have y7:nx+1≠n3:=ah
   have y8:∀k,nx+1≠n3+k:=fun k=>ah
   have hh:=Tm.pg hk
   refine de.aH mix P5 aI ?_
   rw[Tq]
   simp+contextual only[go_sem,r0,r1,y5,y6,y7,y8]
   rw[wrap64 (n:=d+1) (by omega) (by omega)]
   refine bA (ih k hk (lK.2 k hk) (d+1) ah ah (fun x hx=>aZ x (jt k hk x hx)) (fun x hx=>hR x (jt k hk x hx)) tV n2 o2 yb vb ah Le ah Lf ah q0 q1 s' ju _ _ (hI3.aF (i:=n3) (m:=n3+6) ah ah ah rfl) _ _ fun o4 n4 p1 p2 p3=> ?_)
   refine cj ?_
   refine hK3 _ _ ah (p2.mono ah) (fun id h1 h2=> ?_)
   rw[p3 id h1 (by omega),ai _ _ _ _ (by omega)]
  ·exact(m2.mono ah).ext ah ah
  ·intro o5 n5 p1 p2 p3
   refine cj ?_
   rw[<- wy]
   refine hK _ _ ah ⟨p2.bD.mono ah,ah,fun id au=> ?_⟩ (fun id h1 h2=> ?_)
   ·rw[p2.eq id (by omega), <- wy]
    unfold ext
    split
    ·rfl
    ·exact Hf
   ·exact Og
theorem Ju(t:Tm)(hf:t.fits)(hd:t.mm<=900000)(aZ:∀x∈pre t 1,∀s,ok s->(step s x).2=true->ok (step s x).1)(hR:∀x∈pre t 1,∀s,ok s->VC Tryz.prog mC [.d x.1.d, .d (.i x.2)] base (H s) (H (step s x).1) (.d (.bool (step s x).2)))(tV:mC<base)(tb:Nat)(BX:tb<base)(s:σ)(jb:ok s)(bJ:H s tb= .row t.row):
 j7 Tryz.prog 174 [.iD mC, .ptr tb 0] base (H s) (H (aw step s (pre t 1)).1) (.bS []):=by
 intro o nx hI K X hK
 have hle:=hI.le
 have ot:o tb= .row t.row:=by rw[hI.eq tb BX,bJ]
 have y1:tb≠nx:=ah
 have y2:∀k,tb≠nx+k:=fun k=>ah
 refine de.aH mix PY aI ?_
 rw[To]
 refine QK ot y1 y2 ?_
 have hI1:cI base (H s) (aF (aF (aF o nx (.row [.iD mC])) (nx+1) (.row [.d .bY])) (nx+1) (.row [.func (.func 175) [] [.ptr nx 0, .ptr (nx+1) 0]])) (nx+6):=by
  refine((hI.aF (i:=nx) (m:=nx+6) ah ah ah ?_).aF (i:=nx+1) (m:=nx+6) ah ah ah rfl).aF (i:=nx+1) ah ah ah ?_
  ·exact Ht
  ·exact pX
 refine bA (MK base mC H step ok t hf 1 ah ah aZ hR tV (nx+6) _ nx (nx+1) ah hle ah ah ah ?_ ?_ s jb _ _ (hI1.ext (Nat.le_refl _) ah) _ _ ?_)
 ·exact eY
 ·exact eY
 intro o2 n2 m1 m2 m3
 refine cj ?_
 refine hK _ _ ah ⟨m2.bD,ah,fun id au=> ?_⟩ (fun id h1 h2=> ?_)
 ·exact Hg
 ·exact Rj
end
theorem AU(t:Tm)(o:Nat->ab)(nx:Nat)(K X:V->(Nat->ab)->Nat->Prop)(h:K (.func (.func 174) [] [.ptr nx 0]) (aF o nx (.row t.row)) (nx+4)):de Tryz.prog 160 [.d t.d] o nx K X:=by
 refine de.aH mix PR aI ?_
 rw[Tg]
 refine cj ?_
 exact h
end
def Jv:Option jo->eS
 |none=> .normal
 |some .ret=> .ret
 |some (.exit j)=> .exit j
def wz{σ:Type}(J:σ->Option jo)(step:σ->Tm×Int->σ)(s:σ)(x:Tm×Int):σ×Bool:=(step s x,(J (step s x)).isNone)
theorem ye{σ:Type}(J:σ->Option jo)(step:σ->Tm×Int->σ):∀ (l:List (Tm×Int)) (s:σ),J s=none->(aw (wz J step) s l).2=(J (aw (wz J step) s l).1).isNone
 |[],s,h=>by simp[aw,h]
 |x::l,s,h=>by
  simp only[aw]
  split
  ·rename_i hb
   exact ye J step l _ (by simpa[wz]using hb)
  ·rename_i hb
   cases hj:J (step s x)with
   |none=>exact absurd (by simp[wz,hj]) hb
   |some j=>simp[wz,hj]
theorem rr{σ:Type}(t:Tm)(hf:t.fits)(hd:t.mm<=900000){n bq:Nat}{gq:Operand}{ps:List Nat}{iT eF:IC}{Q:eS->S->Prop}{e:Nat->V}{o:Nat->ab}{nx tb:Nat}(env:List V)(he:lA e env 0)
 (uO:ps.all (fun t=>decide (t<n))=true) (hl:ps.length=2) (hg:Good o nx) (hrefs:∀r∈V.aL env,r<nx) (ht:o tb= .row t.row)
 (G:σ->Nat->ab) (J:σ->Option jo) (step:σ->Tm×Int->σ) (ok:σ->Prop) (s0:σ) (jb:ok s0) (UC:J s0=none) (h0:∀id,id<nx->o id=G s0 id) (aZ:∀x∈pre t 1,∀s,ok s->J s=none->J (step s x)=none->ok (step s x))
 (nV:∀L,gM Tryz.prog n env ps iT eF L->(∀st pd m,nx<=m->(L st pd).refs.all (fun r=>decide (r<m))=true)->∀x∈pre t 1,∀s,ok s->J s=none->∀o3 n3,cI nx (G s) o3 n3->nx<n3->o3 nx=L .ready none->∀K X,
  (∀e' o' n' st pd,n3<=n'->cI nx (G (step s x)) o' n'->o' nx=L st pd->(∀id,nx<id->id<n3->o' id=o3 id)->jh nx K X (Jv (J (step s x))) ⟨e',o',n'⟩)->
  kL Tryz.prog n n3 true iT (n6 Tryz.prog n n3 nx eF K X) ⟨mh (ba env) ps [.d x.1.d, .d (.i x.2)],o3,n3⟩)
 (iF:∀o' n',cI nx (G (aw (wz J step) s0 (pre t 1)).1) o' n'->nU Q (J (aw (wz J step) s0 (pre t 1)).1) ⟨e,o',n'⟩):
 xU Tryz.prog n bq false gq ps iT eF Q ⟨e,o,nx⟩ (.func (.func 174) [] [.ptr tb 0]):=by
 refine CU env he (fun L hL=> ?_)
 have BX:tb<nx:=hg.lt HI
 let H:σ->Nat->ab:=fun s id=>if id<nx then G s id else if id=nx then(match J s with|none=>L .ready none|some j=>L .done (some j))else .no
 have Fc:∀s id,id<nx->H s id=G s id:=fun s id h=>if_pos h
 have K6:∀s,J s=none->H s nx=L .ready none:=fun s h=>by show(if nx<nx then _ else _)=_;rw[if_neg (by omega),if_pos rfl,h]
 have QU:∀s j,J s=some j->H s nx=L .done (some j):=fun s j h=>by show(if nx<nx then _ else _)=_;rw[if_neg (by omega),if_pos rfl,h]
 have vj:∀st pd m,nx<=m->(L st pd).refs.all (fun r=>decide (r<m))=true:=fun st pd m hm=>by
  exact Rf
 refine Ju (nx+1) nx H (wz J step) (fun s=>ok s/\J s=none) t hf hd (fun x hx s h1 h2=> ?_) (fun x hx s h1=> ?_) ah tb ah s0 ⟨jb,UC⟩ HG _ _ ⟨?_,Nat.le_refl _,fun id au=> ?_⟩ _ _ ?_
 ·have hj:J (step s x)=none:=by simpa[wz]using h2
  exact⟨aZ x hx s h1.1 h1.2 hj,hj⟩
 ·intro o3 n3 hI K X hK
  have hle:=hI.le
  have G5:o3 nx=L .ready none:=by rw[hI.eq nx (by omega),K6 s h1.2]
  refine tS hL mix G5 ah uO (by simp[hl]) ?_
  refine nV L hL vj x hx s h1.1 h1.2 o3 n3 ⟨hI.bD,ah,fun id au=>by rw[hI.eq id (by omega),Fc _ _ au]⟩ ah G5 K X (fun e' o' n' st pd k1 k2 k3 k4=> ?_)
  have key:∀st' pd' b,(J (step s x)).isNone=b->H (step s x) nx=L st' pd'->K (.d (.bool b)) (aF o' nx (L st' pd')) n':=fun st' pd' b hb hh=>by
   subst hb
   refine hK _ _ k1 ⟨k2.bD.aF ah (vj _ _ _ ah),ah,fun id au=> ?_⟩ (fun id g1 g2=> ?_)
   ·by_cases sH:id=nx
    ·exact Hu
    ·rw[ai _ _ _ _ sH]
     show o' id=H (step s x) id
     exact Hl
   ·exact Q0
  cases hj:J (step s x)with
  |none=>exact QX
  |some j=>
   cases j with
   |ret=>exact QV
   |exit j=>exact QT
 ·exact QW
 ·by_cases sH:id=nx
  ·exact Hz
  ·exact QS
 ·intro o' n' k1 k2 k3
  have hle:=k2.le
  generalize hsf:(aw (wz J step) s0 (pre t 1)).1=sf at*
  have kk:∀st pd,cI nx (G sf) (aF o' nx (L st pd)) n':=fun st pd=>⟨k2.bD.aF ah (vj _ _ _ ah),ah,fun id au=>by rw[ai _ _ _ _ (by omega),k2.eq id (by omega),Fc _ _ au]⟩
  cases hj:J sf with
  |none=>
   refine⟨.ready,none,by rw[k2.eq nx (by omega),K6 _ hj],(fun h=>by cases h), ?_⟩
   have:=iF _ _ (kk .exhausted none)
   rwa [hj]at this
  |some j=>
   refine⟨.done,some j,by rw[k2.eq nx (by omega),QU _ _ hj],(fun h=>by cases h), ?_⟩
   have:=iF _ _ (kk .exhausted (some j))
   rwa [hj]at this
theorem fO(n low high:Int):aW Tryz.prog 127 [.i n, .i low, .i high] (.ret [.bool (dP n low high)]):=by
 refine aW.aH mix PB aI ?_
 rw[S1]
 refine cj ?_
 rfl
theorem CX(s:aS)(t:Tm)(h:t.op=1):aW Tryz.prog 182 [s.d,t.d] (.ret [.bool (a7 s t)]):=by
 have hn:a7 s t=(dP t.n 0 19&&(t.kids.length:Int)==0):=by simp[a7,h,Bool.and_comm]
 refine aW.aH mix Qa aI ?_
 rw[Tw]
 exact Ri
theorem Gc(s:aS)(t:Tm)(h:t.op=2):aW Tryz.prog 183 [s.d,t.d] (.ret [.bool (a7 s t)]):=by
 have hn:a7 s t=(dP t.n (-1000000) 1000000&&(t.kids.length:Int)==0):=by simp[a7,h,Bool.and_comm]
 refine aW.aH mix Qb aI ?_
 rw[Tx]
 exact Ri
theorem aas(s:aS)(t:Tm)(h:t.op=8):aW Tryz.prog 187 [s.d,t.d] (.ret [.bool (a7 s t)]):=by
 have hn:a7 s t=(dP t.n 0 19&&(t.kids.length:Int)==2):=by simp[a7,h,Bool.and_comm]
 refine aW.aH mix Qf aI ?_
 rw[TC]
 exact Ri
theorem TJ(s:aS)(t:Tm)(h:t.op=6\/t.op=7\/t.op=9\/t.op=10\/t.op=11\/t.op=12\/t.op=13\/t.op=14\/t.op=15):aW Tryz.prog 188 [s.d,t.d] (.ret [.bool (a7 s t)]):=by
 have hn:a7 s t=(t.n==0&&(t.kids.length:Int)==2):=by
  rcases h with h|h|h|h|h|h|h|h|h<;>simp[a7,h,dP,Bool.and_comm]
 refine aW.aH mix Qg aI ?_
 rw[TD]
 refine cj ?_
 rw[hn]
theorem aat(s:aS)(t:Tm)(hs:s.Fits)(h:t.op=3):aW Tryz.prog 184 [s.d,t.d] (.ret [.bool (a7 s t)]):=by
 have hn:a7 s t=(dP t.n 0 (s.cons.length - 1)&&(t.kids.length:Int)==fj s.cons t.n):=by simp[a7,h]
 refine aW.aH mix Qc aI ?_
 rw[Ty]
 refine cj ?_
 rw[wrap64 (by have:=hs.lc;omega) (by have:=hs.lc;omega)]
 refine aQ (fO _ _ _) rfl ?_
 cases hI:dP t.n 0 (s.cons.length - 1)with
 |false=>
  exact Re
 |true=>
  exact Q7
theorem aau(s:aS)(t:Tm)(hs:s.Fits)(h:t.op=4):aW Tryz.prog 185 [s.d,t.d] (.ret [.bool (a7 s t)]):=by
 have hn:a7 s t=(dP t.n 0 (s.bH.length - 1)&&(t.kids.length:Int)==fj s.bH t.n):=by simp[a7,h]
 refine aW.aH mix Qd aI ?_
 rw[Tz]
 refine cj ?_
 rw[wrap64 (by have:=hs.lf;omega) (by have:=hs.lf;omega)]
 refine aQ (fO _ _ _) rfl ?_
 cases hI:dP t.n 0 (s.bH.length - 1)with
 |false=>
  exact Re
 |true=>
  exact Q7
theorem TK(s:aS)(t:Tm)(hs:s.Fits)(h:t.op=5):aW Tryz.prog 186 [s.d,t.d] (.ret [.bool (a7 s t)]):=by
 have hn:a7 s t=(dP t.n 0 (s.bH.length - 1)&&decide ((t.kids.length:Int)<fj s.bH t.n)):=by simp[a7,h]
 refine aW.aH mix Qe aI ?_
 rw[TA]
 refine cj ?_
 rw[wrap64 (by have:=hs.lf;omega) (by have:=hs.lf;omega)]
 refine aQ (fO _ _ _) rfl ?_
 cases hI:dP t.n 0 (s.bH.length - 1)with
 |false=>
  exact Re
 |true=>
  exact Q7
@[reducible] def rf (n:Nat):V:= .func (.func n) [] []
@[reducible] def acV:List V:=[.d .bY,rf 182,rf 183,rf 184,rf 185,rf 186, .d .bY, .d .bY,rf 187, .d .bY, .d .bY, .d .bY, .d .bY, .d .bY, .d .bY, .d .bY]
@[reducible] def CY:List V:=[.d .bY,rf 182,rf 183,rf 184,rf 185,rf 186,rf 188,rf 188,rf 187,rf 188,rf 188,rf 188,rf 188,rf 188,rf 188,rf 188]
def Ha(k:Nat):List V:=CY.take k++acV.drop k
theorem funcOf{P:Program}{t:TypeId}(h:(match P.underlying t with|some (.func _ _ _)=>true|_=>false)=true):∃a b c,P.underlying t=some (.func a b c):=by
 split at h
 ·exact⟨_,_,_,by assumption⟩
 ·cases h
@[go_sem] theorem acW (o:Nat->ab) (nM:Bool):vu Tryz.prog o 214 nM (.d .bY) (.d .bY)=some (.d (.bool true)):=by
  exact Oi
@[go_sem] theorem acX (o:Nat->ab) (nM:Bool) (f:Fn) (x y:List V):vu Tryz.prog o 214 nM (.func f x y) (.d .bY)=some (.d (.bool false)):=by
  exact Oi
theorem MN(base:Nat)(h:Nat->ab):j7 Tryz.prog 181 [] base h h (.agg CY):=by
 intro o nx hI K X hK
 have hle:=hI.le
 refine de.aH mix P9 aI ?_
 rw[Tv]
 simp+contextual only[go_sem,Nat.add_assoc,Nat.left_eq_add,Nat.add_eq_left,Nat.add_left_cancel_iff]
 refine aE (fun k:Nat=>⟨ba [.ptr nx 0, .ptr (nx+2) 0, .aa, .aa, .d (.i k)],aF (aF o nx (.row (List.replicate 16 (.d .bY)))) (nx+2) (.row (Ha k)),nx+5⟩)
  (fun k=>k<=16) (fun k=>16 - k) 0 (Nat.zero_le _) ?_ (fun k hk=> ?_)
 ·refine bC.bB _ ah ah ?_ (fun id au=> ?_) ?_
  ·exact((hI.bD.mono ah).aF ah rfl).aF ah rfl
  ·rw[fZ];rfl
  ·exact cE
 have hg:∀k,k<16->Good (aF (aF o nx (.row (List.replicate 16 (.d .bY)))) (nx+2) (.row (Ha (k+1)))) (nx+5):=fun k hk=>
  ((hI.bD.mono ah).aF ah rfl).aF ah (by
    rcases(by omega:k=0\/k=1\/k=2\/k=3\/k=4\/k=5\/k=6\/k=7\/k=8\/k=9\/k=10\/k=11\/k=12\/k=13\/k=14\/k=15)with rfl|rfl|rfl|rfl|rfl|rfl|rfl|rfl|rfl|rfl|rfl|rfl|rfl|rfl|rfl|rfl<;>rfl)
 by_cases acY:k=16
 ·subst acY
  refine VU ?_
  refine hK _ _ ?_ ⟨?_, ?_,fun id au=> ?_⟩ (fun id h1 h2=> ?_)
  rotate_left
  ·exact(((hI.bD.mono ah).aF ah rfl).aF ah rfl).aF ah rfl
  ·omega
  ·(repeat(first|rfl|rw[ae]|rw[ai _ _ _ _ (by omega)]))
   exact hI.eq id au
  ·exact eY
  ·omega
 ·have hgk:=hg k ah
  obtain⟨k1,Co⟩:∃k1,k1=k+1:=⟨_,rfl⟩
  rw[<- Co]at hgk
  rcases(by omega:k=0\/k=1\/k=2\/k=3\/k=4\/k=5\/k=6\/k=7\/k=8\/k=9\/k=10\/k=11\/k=12\/k=13\/k=14\/k=15)with rfl|rfl|rfl|rfl|rfl|rfl|rfl|rfl|rfl|rfl|rfl|rfl|rfl|rfl|rfl|rfl
  all_goals
   refine VU ?_
   refine aq k1 ah ah (bC.bB _ ah ah hgk (fun id au=> ?_) ?_)
   all_goals subst Co
   ·first|rfl|(rw[fZ];rfl)
   ·exact cE
def Jw(n:Int):Nat:=if n=1 then 182 else if n=2 then 183 else if n=3 then 184 else if n=4 then 185 else if n=5 then 186 else if n=8 then 187 else 188
theorem TL(s:aS)(t:Tm)(hs:s.Fits)(h:dP t.op 1 15=true):aW Tryz.prog (Jw t.op) [s.d,t.d] (.ret [.bool (a7 s t)])/\CY[t.op.toNat]? =some (rf (Jw t.op))/\0<=t.op/\t.op<16:=by
 simp[dP]at h
 rcases(by omega:t.op=1\/t.op=2\/t.op=3\/t.op=4\/t.op=5\/t.op=8\/(t.op=6\/t.op=7\/t.op=9\/t.op=10\/t.op=11\/t.op=12\/t.op=13\/t.op=14\/t.op=15))with h|h|h|h|h|h|h
 ·exact⟨by rw[h];exact CX s t h,by rw[h];rfl,ah,ah⟩
 ·exact⟨by rw[h];exact Gc s t h,by rw[h];rfl,ah,ah⟩
 ·exact⟨by rw[h];exact aat s t hs h,by rw[h];rfl,ah,ah⟩
 ·exact⟨by rw[h];exact aau s t hs h,by rw[h];rfl,ah,ah⟩
 ·exact⟨by rw[h];exact TK s t hs h,by rw[h];rfl,ah,ah⟩
 ·exact⟨by rw[h];exact aas s t h,by rw[h];rfl,ah,ah⟩
 ·have hp:=TJ s t h
  rcases h with h|h|h|h|h|h|h|h|h<;>exact⟨by rw[h];exact hp,by rw[h];rfl,ah,ah⟩
def nn(s:aS)(n:Int)(x:Tm×Int):Bool:=decide (40<n+1)||decide (12<x.2)|| !dP x.1.op 1 15|| !a7 s x.1
def gh(s:aS)(n:Int×Bool)(x:Tm×Int):Int×Bool:=(n.1+1, !nn s n.1 x)
def fJ(n:Int×Bool):Option jo:=if n.2=true then none else some .ret
def lh(s:aS)(t:Tm):Bool:=(aw (wz fJ (gh s)) (0,true) (pre t 1)).2
theorem Jx(s:aS)(hs:s.Fits)(t:Tm)(hf:t.fits)(hd:t.mm<=900000):aW Tryz.prog 173 [s.d,t.d] (.ret [.bool (lh s t)]):=by
 refine aW.aH mix PX aI ?_
 rw[Tn]
 refine cj ?_
 refine fF (MN 3 _ _ _ (?_:cI 3 (aF (aF (aF (fun _=> .no) 0 (.row s.row)) 1 (.row t.row)) 2 (.row [.d (.bool false)])) _ 3) _ _ fun o2 n2 m1 m2 m3=> ?_)
 ·exact⟨eL,Nat.le_refl _,fun _ _=>rfl⟩
 have p0:o2 0= .row s.row:=m2.eq 0 ah
 have p1:o2 1= .row t.row:=m2.eq 1 ah
 have p2:o2 2= .row [.d (.bool false)]:=m2.eq 2 ah
 have e0:0≠n2:=ah
 have e1:1≠n2:=ah
 have e2:2≠n2:=ah
 have e3:∀k,0≠n2+k:=fun k=>ah
 have e4:∀k,1≠n2+k:=fun k=>ah
 have e5:∀k,2≠n2+k:=fun k=>ah
 simp+contextual only[go_sem,p0,p1,p2,e0,e1,e2,e3,e4,e5,Nat.add_assoc,Nat.left_eq_add,Nat.add_eq_left,Nat.add_left_cancel_iff]
 refine fF (AU t _ _ _ _ ?_)
 refine cj ?_
 have hG0:∀n,Good (aF (aF (aF (aF (aF (aF o2 n2 (.row (List.replicate 16 (.d .bY)))) (n2+1) (.row [.d (.i 0)])) n2 (.row CY)) (n2+1) (.row [.d (.i 0)])) (n2+5) (.row t.row)) (n2+1) (.row [.d (.i n)])) (n2+9):=fun n=>by
  have hg:=m2.bD
  exact eL
 refine rr t hf hd [.aa, .aa, .ptr 0 0, .aa, .ptr 2 0, .ptr n2 0, .ptr (n2+1) 0] ?_ cG rfl ?_ (by simp[V.aL,V.refs];omega) (ae _ _ _)
  (fun s=>aF (aF (aF (aF (aF (aF o2 n2 (.row (List.replicate 16 (.d .bY)))) (n2+1) (.row [.d (.i 0)])) n2 (.row CY)) (n2+1) (.row [.d (.i 0)])) (n2+5) (.row t.row)) (n2+1) (.row [.d (.i s.1)]))
  fJ (gh s) (fun s=>0<=s.1/\s.1<=40) (0,true) ⟨cG,cG⟩ rfl ?_ ?_ ?_ ?_
 ·exact E7
 ·have hg:=m2.bD
  exact eL
 ·intro id au
  by_cases h:id=n2+1
  ·subst h;(repeat(first|rfl|rw[ae]|rw[ai _ _ _ _ (by omega)]))
  ·rw[ai _ _ _ _ h];rfl
 ·intro x hx s' h1 h2 h3
  have:nn s s'.1 x=false:=by simpa[fJ,gh]using h3
  simp[nn]at this
  simp only[gh]
  omega
 ·intro L hL vj x hx s' h1 h2 o3 n3 hI hn ho K X cw
  simp only[mh]
  have hg:=hI.bD
  have q0:o3 0= .row s.row:=by
   rw[hI.eq 0 (by omega)];(repeat(first|rfl|rw[ae]|rw[ai _ _ _ _ (by omega)]))
   exact p0
  have q2:o3 2= .row [.d (.bool false)]:=by
   exact Xd
  have q3:o3 n2= .row CY:=by rw[hI.eq n2 (by omega)];(repeat(first|rfl|rw[ae]|rw[ai _ _ _ _ (by omega)]))
  have q4:o3 (n2+1)= .row [.d (.i s'.1)]:=by rw[hI.eq (n2+1) (by omega)];(repeat(first|rfl|rw[ae]|rw[ai _ _ _ _ (by omega)]))
  have fin:∀ (o':Nat->ab) (n':Nat),(∀id,id<n2+5+4->o' id=aF o3 (n2+1) (.row [.d (.i (s'.1+1))]) id)->Good o' n'->n3<=n'->cI (n2+5+4) (aF (aF (aF (aF (aF (aF o2 n2 (.row (List.replicate 16 (.d .bY)))) (n2+1) (.row [.d (.i 0)])) n2 (.row CY)) (n2+1) (.row [.d (.i 0)])) (n2+5) (.row t.row)) (n2+1) (.row [.d (.i (gh s s' x).1)])) o' n':=by
   intro o' n' k1 k2 k3
   refine⟨k2,ah,fun id au=> ?_⟩
   rw[k1 id au]
   by_cases h:id=n2+1
   ·subst h;rw[ae,ae];rfl
   ·rw[ai _ _ _ _ h,ai _ _ _ _ h,hI.eq id au,ai _ _ _ _ h]
  refine cj ?_
  refine kB hL (pd:=none) ?_ ?_
  ·(repeat(first|rfl|rw[ae]|rw[ai _ _ _ _ (by omega)]))
   exact ho
  cases c1:decide (40<s'.1+1)with
  |true=>
   have hJ:fJ (gh s s' x)=some .ret:=by simp[fJ,gh,nn,c1]
   rw[hJ]at cw
   simp+contextual (disch:=first|omega|simp only[go_sem,false_implies]) only[go_sem,wrap64,if_pos,q0,q2,q3,q4,c1]
   exact zw4
  |false=>
  cases c2:decide (12<x.2)with
  |true=>
   have hJ:fJ (gh s s' x)=some .ret:=by simp[fJ,gh,nn,c2]
   rw[hJ]at cw
   simp+contextual (disch:=first|omega|simp only[go_sem,false_implies]) only[go_sem,wrap64,if_pos,q0,q2,q3,q4,c1,c2]
   exact zw4
  |false=>
  cases c3:dP x.1.op 1 15 with
  |false=>
   have hJ:fJ (gh s s' x)=some .ret:=by simp[fJ,gh,nn,c3]
   rw[hJ]at cw
   simp+contextual (disch:=first|omega|simp only[go_sem,false_implies]) only[go_sem,wrap64,if_pos,q0,q2,q3,q4,c1,c2]
   refine aQ (fO _ _ _) rfl ?_
   simp+contextual (disch:=first|omega|simp only[go_sem,false_implies]) only[go_sem,wrap64,if_pos,q0,q2,q3,q4,c1,c2,c3]
   exact zw4
  |true=>
  obtain⟨r1,r2,r3,r4⟩:=TL s x.1 hs c3
  simp+contextual (disch:=first|omega|simp only[go_sem,false_implies]) only[go_sem,wrap64,if_pos,q0,q2,q3,q4,c1,c2]
  refine aQ (fO _ _ _) rfl ?_
  simp+contextual (disch:=first|omega|simp only[go_sem,false_implies]) only[go_sem,wrap64,if_pos,q0,q2,q3,q4,c1,c2,c3,r2,r3,r4,Nat.mul_one]
  refine aQ r1 rfl ?_
  simp+contextual (disch:=first|omega|simp only[go_sem,false_implies]) only[go_sem,wrap64,if_pos,q0,q2,q3,q4,c1,c2,c3]
  refine aN (aR rfl) ?_
  cases c4:a7 s x.1 with
  |false=>
   have hJ:fJ (gh s s' x)=some .ret:=by simp[fJ,gh,nn,c4]
   rw[hJ]at cw
   simp+contextual (disch:=first|omega|simp only[go_sem,false_implies]) only[go_sem,wrap64,if_pos,q2,c4]
   refine cw _ _ _ .busy none ah (fin _ _ (fun id au=>UB) eL ah) eY (fun id h3 h4=>by(repeat(first|rfl|rw[ae]|rw[ai _ _ _ _ (by omega)])))
  |true=>
   have hJ:fJ (gh s s' x)=none:=by simp[fJ,gh,nn,c1,c2,c3,c4]
   rw[hJ]at cw
   simp+contextual (disch:=first|omega|simp only[go_sem,false_implies]) only[go_sem,wrap64,if_pos,c4]
   refine cw _ _ _ .busy none ah (fin _ _ (fun id au=>UB) eL ah) eY (fun id h3 h4=>by(repeat(first|rfl|rw[ae]|rw[ai _ _ _ _ (by omega)])))
 ·intro o' n' hI
  have q2:o' 2= .row [.d (.bool false)]:=by
   exact Xd
  rw[show lh s t=(fJ (aw (wz fJ (gh s)) (0,true) (pre t 1)).1).isNone from ye _ _ _ _ rfl]
  generalize (aw (wz fJ (gh s)) (0,true) (pre t 1)).1=sf at*
  cases hj:fJ sf with
  |none=>
   simp only[nU]
   refine gk q2 ?_
   rfl
  |some j=>
   have:j= .ret:=by
    unfold fJ at hj;split at hj
    ·cases hj
    ·injection hj with hj;exact hj.symm
   subst this
   simp only[nU]
   refine gk q2 ?_
   rfl
section
def enc{κ:Type}(kf:κ->D)(m:List (κ×D)):List (D×D):=m.map fun p=>(kf p.1,p.2)
def fm{κ:Type}[BEq κ](k:κ):List (κ×D)->Nat->Option (Nat×D)
 |[],_=>none
 |p::m,i=>if(k==p.1)=true then some (i,p.2)else fm k m (i+1)
def u9{κ:Type}[BEq κ](k:κ)(x:D)(m:List (κ×D)):List (κ×D):=match fm k m 0 with|some (i,_)=>m.set i (k,x)|none=>m++[(k,x)]
def aav{κ:Type}[BEq κ](k:κ)(m:List (κ×D)):List (κ×D):=match fm k m 0 with|some (i,_)=>m.eraseIdx i|none=>m
def va(d:D)(r:Option (Nat×D)):Option (Nat×D×D):=match r with|some (i,x)=>some (i,d,x)|none=>none
@[go_sem] theorem VE (d:D) (i:Nat) (x:D):va d (some (i,x))=some (i,d,x):=rfl
@[go_sem] theorem VF (d:D):va d none=none:=rfl
section
variable {P:Program}{kt:TypeId}
theorem MO(h:bP P kt=some .int)(a b:Int):pT P 100 kt (.int .i64 a) (.int .i64 b)=some (a==b):=by simp[pT,h]
theorem MP(h:bP P kt=some .str)(a b:List UInt8):pT P 100 kt (.str a) (.str b)=some (a==b):=by simp[pT,h]
@[go_sem] theorem Ep (h:bP P kt=some .int) (a:Int):nh P 100 kt (.int .i64 a)=true:=by simp[nh,h]
@[go_sem] theorem aa0 (h:bP P kt=some .str) (a:List UInt8):nh P 100 kt (.str a)=true:=by simp[nh,h]
theorem tW{κ:Type}[BEq κ][LawfulBEq κ](kf:κ->D)(he:∀a b,pT P 100 kt (kf a) (kf b)=some (a==b))(k:κ):∀ (m:List (κ×D)) (i:Nat),findD P kt (kf k) (enc kf m) i=some (va (kf k) (fm k m i))
 |[],_=>rfl
 |p::m,i=>by
  have ih:=tW kf he k m (i+1)
  simp only[enc,List.map_cons,findD,he,fm]at ih|-
  by_cases h:k=p.1
  ·subst h;simp[va]
  ·have:(k==p.1)=false:=by simpa using h
   simp only[this,Bool.false_eq_true,if_false];exact ih
@[go_sem] theorem AV (h:bP P kt=some .int) (k:Int) (m:List (Int×D)):findD P kt (.int .i64 k) (enc (.int .i64) m) 0=some (va (.int .i64 k) (fm k m 0)):=tW (.int .i64) (MO h) k m 0
@[go_sem] theorem aaw (h:bP P kt=some .str) (k:List UInt8) (m:List (List UInt8×D)):findD P kt (.str k) (enc .str m) 0=some (va (.str k) (fm k m 0)):=tW .str (MP h) k m 0
end
section
variable {κ:Type}(kf:κ->D)
theorem Jy(m:List (κ×D))(k:κ)(x:D):enc kf m++[(kf k,x)]=enc kf (m++[(k,x)]):=by simp[enc]
theorem Er(m:List (κ×D))(i:Nat)(k:κ)(x:D):(enc kf m).set i (kf k,x)=enc kf (m.set i (k,x)):=by simp[enc,List.map_set]
theorem wA:∀ (m:List (κ×D)) (i:Nat),(enc kf m).eraseIdx i=enc kf (m.eraseIdx i)
 |[],i=>rfl
 |p::m,0=>rfl
 |p::m,i+1=>by
  have:=wA m i
  simp only[enc,List.map_cons,List.eraseIdx_cons_succ]at this|-
  rw[this]
theorem MQ(m:List (κ×D)):(((enc kf m).map (·.1)).zip ((enc kf m).map (·.2)))=enc kf m:=by
 induction m with
 |nil=>rfl
 |cons p m ih=>simp only[enc,List.map_cons,List.zip_cons_cons]at ih|-;rw[ih]
theorem Gd{K:V->List (Nat×ab)->Prop}{id:Nat}{m:List (κ×D)}(h0:m=[]->K (.bS [.d (.bool false)]) [])
 (h1:∀ (i:Nat) k x,m[i]? =some (k,x)->K (.bS [.d (.bool true), .d (kf k), .d x]) [(id, .nI (enc kf (m.eraseIdx i)) (some (kf k,x)))]):D1 K id (enc kf m):=by
 refine⟨fun h=>h0 ?_,fun i k x h=> ?_⟩
 ·cases m with
  |nil=>rfl
  |cons p m=>simp[enc]at h
 ·simp only[enc,List.getElem?_map]at h
  cases hm:m[i]? with
  |none=>rw[hm]at h;cases h
  |some p=>
   rw[hm]at h
   simp at h
   obtain⟨rfl,rfl⟩:=h
   have:=h1 i p.1 p.2 (by rw[hm])
   rwa [<- wA]at this
end
theorem AW{κ:Type}[BEq κ][LawfulBEq κ]{k:κ}:∀ {m:List (κ×D)} {i j:Nat} {x:D},fm k m i=some (j,x)->i<=j/\m[j - i]? =some (k,x)
 |[],_,_,_,h=>by cases h
 |p::m,i,j,x,h=>by
  simp only[fm]at h
  split at h
  ·rename_i hk
   injection h with h;injection h with h1 h2
   subst h1;subst h2
   exact⟨Nat.le_refl _,by simp[(by simpa using hk:k=p.1)]⟩
  ·obtain⟨h1,h2⟩:=AW h
   refine⟨ah, ?_⟩
   rw[show j - i=(j - (i+1))+1 by omega]
   simpa using h2
theorem wB{κ:Type}[BEq κ][LawfulBEq κ]{k:κ}:∀ {m:List (κ×D)} {i:Nat},fm k m i=none↔∀p∈m,p.1≠k
 |[],_=>by simp[fm]
 |p::m,i=>by
  simp only[fm]
  split
  ·rename_i hk
   simp[(by simpa using hk:k=p.1)]
  ·rename_i hk
   rw[wB]
   have:p.1≠k:=fun e=>hk (by simp[e])
   simp[this]
def pv(P:Program)(o:Nat->ab)(t:TypeId)(m k v:V):Option ff:=
 match qf P t,dA o k,dA o v,ny o m with
 |some (kt,_),some kd,some vd,some (some (id,Dx,Dy),l)=>if k.ids=[]/\nh P 100 kt kd=true/\jP kd=true/\v.ids.all (· !=id)=true then match findD P kt kd l 0 with
  |some (some (i,k',_))=>if k'.same kd=true then some (.bS [],cc o v.ids++[(id, .map Dx Dy (l.set i (kd,vd)))],id::v.ids)else none
  |some none=>some (.bS [],cc o v.ids++[(id, .map Dx Dy (l++[(kd,vd)]))],id::v.ids)
  |none=>none
  else none
 |_,_,_,_=>none
@[go_sem low] theorem wC (P:Program) (o:Nat->ab) (t:TypeId) (m v:V) (k:D):eW P o t m (.d k) v=pv P o t m (.d k) v:=by unfold eW pv;rfl
def tX(P:Program)(o:Nat->ab)(t:TypeId)(m k:V)(ok:Bool):Option ff:=
 match qf P t,dA o k,oG o m with
 |some (kt,vt),some kd,some (rd,l)=>if k.ids=[]/\nh P 100 kt kd=true then match findD P kt kd l 0 with
  |some (some (_,_,x))=>some (if ok=true then .bS [.d x, .d (.bool true)]else .d x,[],rd)
  |some none=>match zeroV P vt with
   |some z=>some (if ok=true then .bS [z, .d (.bool false)]else z,[],rd)
   |none=>none
  |none=>none
  else none
 |_,_,_=>none
@[go_sem low] theorem m4 (P:Program) (o:Nat->ab) (t:TypeId) (m:V) (k:D) (ok:Bool):gQ P o t m (.d k) ok=tX P o t m (.d k) ok:=by unfold gQ tX;rfl
attribute [go_sem] tX pv mS lR lS nz nA lT oG ny abh nw jP D.same
end
theorem dec_lt{l:List UInt8}{i:Nat}{b:UInt8}(hb:l[i]? =some b)(h:b.toNat<128):Utf8.decode ⟨⟨l⟩⟩ i=(b.toNat,1):=by
 have e:(ByteArray.mk ⟨l⟩).get! i=b:=by
  show(Array.mk l)[i]! =b
  simp[hb]
 simp only[Utf8.decode,Nat.add_zero,e]
 rw[if_pos h]
theorem TM{l:List UInt8}{i:Nat}{b:UInt8}(hb:l[i]? =some b)(h:128<=b.toNat):128<=(Utf8.decode ⟨⟨l⟩⟩ i).1:=by
 have e:(ByteArray.mk ⟨l⟩).get! i=b:=by
  show(Array.mk l)[i]! =b
  simp[hb]
 simp only[Utf8.decode,Nat.add_zero,e]
 rw[if_neg (by omega)]
 split
 ·split<;>simp_all[Utf8.runeError]
 ·split
  ·split
   ·rename_i h3;simp at h3;omega
   ·simp[Utf8.runeError]
  ·split
   ·split
    ·rename_i h3;simp at h3;omega
    ·simp[Utf8.runeError]
   ·simp[Utf8.runeError]
def MR(r:Int):Bool:=decide (97<=r)&&decide (r<=122)||decide (65<=r)&&decide (r<=90)
theorem Jz(b:UInt8):MR b.toNat=letterF b:=by
 rw[Bool.eq_iff_iff]
 simp[MR,letterF]
theorem Ge(s:List UInt8)(hs:s.length<=9223372036854775807):aW Tryz.prog 126 [.str s] (.ret [.bool (jf s)]):=by
 refine aW.aH mix PA aI ?_
 rw[S0]
 refine qP ?_
 refine aE (fun k:Nat=>⟨ba [.d (.str s), .aa, .aa, .aa, .aa, .aa, .ptr 2 0],aF (fun _=> .no) 2 (.xb s k),3⟩)
  (fun k=>k<=s.length/\(s.take k).all letterF=true) (fun k=>s.length - k) 0 ⟨Nat.zero_le _,aI⟩ (bC.bB _ ah ah (Good.nil.aF ah rfl) (fun _ _=>rfl) ?_) (fun k hk=> ?_)
 ·exact cE
 by_cases h2:k<s.length
 ·obtain⟨b,hb⟩:=az h2
  by_cases h3:b.toNat<128
  ·simp+contextual (disch:=first|omega|simp only[go_sem,false_implies]) only[go_sem,wrap64,if_pos,Nat.add_assoc,Nat.left_eq_add,Nat.add_eq_left,Nat.add_left_cancel_iff,h2,dec_lt hb h3]
   have hr:=Jz b
   simp only[MR]at hr
   rw[hr]
   cases hl:letterF b with
   |true=>
    refine br ?_
    refine aq (k+1) ⟨h2,eh hb hk.2 hl⟩ ah (bC.bB _ ah ah (Good.nil.aF ah rfl) (fun _ _=>by rw[fZ]) ?_)
    exact cE
   |false=>
    refine br ?_
    simp[jf,cf hb hl]
  ·have hr:letterF b=false:=by
    rw[<- Jz];simp[MR];omega
   have hd:=TM hb ah
   refine Lj h2 ?_
   have:(decide (97<=((Utf8.decode ⟨⟨s⟩⟩ k).1:Int))&&decide (((Utf8.decode ⟨⟨s⟩⟩ k).1:Int)<=122)||decide (65<=((Utf8.decode ⟨⟨s⟩⟩ k).1:Int))&&decide (((Utf8.decode ⟨⟨s⟩⟩ k).1:Int)<=90))=false:=by
    rw[Bool.eq_false_iff];intro h;simp at h;omega
   rw[this]
   refine br ?_
   simp[jf,cf hb hr]
 ·refine Lj h2 ?_
  refine aB (fO _ _ _) rfl ?_
  refine br ?_
  rw[jf,dK hk.2 (by omega),Bool.true_and]
theorem AX{σ:Type}(l:List iu)(hl:l.length<=9223372036854775807)(g:Nat)(aV:List V)(base:Nat)(H:σ->Nat->ab)(step:σ->iu->σ×Bool)(hc:∀r∈V.aL aV,r<base)(ok:σ->Prop)(aZ:∀x∈l,∀s,ok s->(step s x).2=true->ok (step s x).1)
 (h:∀x∈l,∀s,ok s->j7 Tryz.prog g (.d x.d::aV) base (H s) (H (step s x).1) (.d (.bool (step s x).2))) (s:σ) (jb:ok s):
 j7 Tryz.prog 128 [.d (.sl (l.map iu.d)), .func (.func g) [] aV] base (H s) (H (aw step s l).1) (.d (.bool (aw step s l).2)):=by
 intro o nx hI K X hK
 have kp:∀r∈V.aL aV,r<nx:=fun r hr=>Nat.lt_of_lt_of_le (hc r hr) hI.le
 refine de.aH mix PC aI ?_
 rw[S2]
 refine cj ?_
 refine aE (fun i:Nat×σ×(Nat->ab)×Nat=>⟨ba [.aa, .func (.func g) [] aV, .aa, .aa, .aa, .aa, .aa, .d (.sl (l.map iu.d)), .d (.i l.length), .d (.i i.1)],i.2.2.1,i.2.2.2⟩)
  (fun i=>i.1<=l.length/\cI base (H i.2.1) i.2.2.1 i.2.2.2/\nx<=i.2.2.2/\(∀id,base<=id->id<nx->i.2.2.1 id=o id)/\aw step s l=aw step i.2.1 (l.drop i.1)/\ok i.2.1) (fun i=>l.length - i.1) (0,s,o,nx)
  ⟨Nat.zero_le _,hI,Nat.le_refl _,fun _ _ _=>rfl,rfl,jb⟩ ?_ ?_
 ·exact Lx
 rintro⟨k,s',o',nx'⟩ ⟨hk,uQ,hn,cO,hf,iS⟩
 simp only at hk uQ hn cO hf iS
 refine cj ?_
 refine aj (fun h1=> ?_) (fun h1=> ?_)
 ·simp at h1
  obtain⟨x,hx⟩:=az h1
  have eg:=List.mem_of_getElem? hx
  have hd:l.drop k=x::l.drop (k+1):=by
   exact WI
  refine Lk hx ?_
  have hl0:=uQ.le
  refine fG (h x eg s' iS _ _ (?_:cI base (H s') _ (nx'+7)) _ _ fun o2 n2 m1 m2 m3=> ?_)
  ·exact V8
  have Js:∀id,base<=id->id<nx->o2 id=o id:=fun id h2 h3=>by
   exact Wn
  refine cj ?_
  refine aj (fun h2=> ?_) (fun h2=> ?_)
  ·refine cj ?_
   simp at h2
   have:aw step s l=((step s' x).1,false):=by rw[hf,hd,aw,if_neg (by rw[h2];exact Bool.false_ne_true)]
   rw[this]at hK
   exact hK _ _ ah (m2.mono ah) Js
  ·refine cj ?_
   simp at h2
   have:aw step s l=aw step (step s' x).1 (l.drop (k+1)):=by rw[hf,hd,aw,if_pos h2]
   refine aq (k+1,(step s' x).1,o2,n2) ⟨h1,m2,by dsimp only;omega,Js,this,aZ x eg s' iS h2⟩ nb ?_
   dsimp only
   have Jt:∀r∈V.aL aV,r<n2:=fun r hr=>by have:=kp r hr;omega
   refine bC.bB _ ah ah m2.bD (fun _ _=>rfl) ?_
   exact cE
 ·exact W8
def n9(l:List (List UInt8)):List (List UInt8×D):=l.map fun s=>(s, .bool true)
theorem Gf(l:List (List UInt8))(s:List UInt8):n9 l++[(s, .bool true)]=n9 (l++[s]):=by simp[n9]
theorem Gg{l:List (List UInt8)}{s:List UInt8}{i:Nat}{x:D}(h:fm s (n9 l) 0=some (i,x)):x= .bool true/\(n9 l).set i (s, .bool true)=n9 l/\l.any (· ==s)=true:=by
 obtain⟨_,h2⟩:=AW h
 rw[Nat.sub_zero]at h2
 simp only[n9,List.getElem?_map]at h2
 cases hl:l[i]? with
 |none=>rw[hl]at h2;cases h2
 |some y=>
  rw[hl]at h2
  simp at h2
  obtain⟨rfl,rfl⟩:=h2
  refine⟨rfl, ?_, ?_⟩
  ·apply List.ext_getElem?
   intro j
   rw[List.getElem?_set]
   split
   ·rename_i e;subst e
    obtain⟨b8,hy⟩:=List.getElem?_eq_some_iff.1 hl
    simp[n9,b8,hy]
   ·rfl
  ·exact List.any_eq_true.2 ⟨y,List.mem_of_getElem? hl,aI⟩
theorem Gh{l:List (List UInt8)}{s:List UInt8}(h:fm s (n9 l) 0=none):l.any (· ==s)=false:=by
 rw[wB]at h
 rw[List.any_eq_false]
 intro x hx hs
 have:=h (x, .bool true) (by simp[n9];exact hx)
 simp at hs;exact this hs
def MT(bs:List (List UInt8))(x:iu):Bool:= !bs.any (· ==x.name)&&jf x.name&&dP x.args 0 4
def gO(bs:List (List UInt8))(x:iu):List (List UInt8)×Bool:=(if bs.any (· ==x.name)=true then bs else bs++[x.name],MT bs x)
theorem TN(x:iu)(hx:x.name.length<=9223372036854775807)(base mp id:Nat)(h:Nat->ab)(hmp:h mp= .row [.mp id])(h1:mp<base)(h2:id<base)(h3:id≠mp)(bs:List (List UInt8)):
 j7 Tryz.prog 125 [.d x.d, .ptr mp 0] base (aF h id (.map 9 4 (enc .str (n9 bs)))) (aF h id (.map 9 4 (enc .str (n9 (gO bs x).1)))) (.d (.bool (gO bs x).2)):=by
 intro o nx hI K X hK
 have hle:=hI.le
 have hg:=hI.bD
 have q0:o mp= .row [.mp id]:=by rw[hI.eq mp h1,ai _ _ _ _ (by omega),hmp]
 have q1:o id= .map 9 4 (enc .str (n9 bs)):=by rw[hI.eq id h2,ae]
 refine de.aH mix Pz aI ?_
 rw[SZ]
 cases ha:fm x.name (n9 bs) 0 with
 |none=>
  have hn:=Gh ha
  have hs:gO bs x=(bs++[x.name],jf x.name&&dP x.args 0 4):=by simp[gO,MT,hn]
  rw[hs]at hK
  refine BQ q0 q1 ha ?_
  refine aB (Ge _ hx) rfl ?_
  refine br ?_
  refine fi (ew [.bool (dP x.args 0 4)] ?_ ?_)
  ·refine br ?_
   exact fun _=>fO _ _ _
  refine br ?_
  rw[Jy,Gf]
  refine hK _ _ ah ⟨eL,ah,fun j hj=> ?_⟩ (fun j g1 g2=>by(repeat(first|rfl|rw[ae]|rw[ai _ _ _ _ (by omega)])))
  ·by_cases e:j=id
   ·exact E9
   ·exact Wm
 |some p=>
  obtain⟨i,y⟩:=p
  obtain⟨rfl,e1,hn⟩:=Gg ha
  have hs:gO bs x=(bs,false):=by simp[gO,MT,hn]
  rw[hs]at hK
  refine BQ q0 q1 ha ?_
  rw[Er,e1]
  refine hK _ _ ah ⟨eL,ah,fun j hj=> ?_⟩ (fun j g1 g2=>by(repeat(first|rfl|rw[ae]|rw[ai _ _ _ _ (by omega)])))
  ·by_cases e:j=id
   ·exact E9
   ·exact Wm
theorem od:∀ (l:List iu) (bs:List (List UInt8)),match bR l bs with|some B=>aw gO bs l=(B,true)|none=>(aw gO bs l).2=false
 |[],bs=>rfl
 |x::l,bs=>by
  have ih:=od l (bs++[x.name])
  simp only[bR,aw,gO,MT]
  by_cases h1:bs.any (· ==x.name)=true
  ·simp[h1]
  ·simp only[Bool.not_eq_true]at h1
   simp only[h1,Bool.false_eq_true,if_false,Bool.not_false,Bool.true_and]
   by_cases h2:(jf x.name&&dP x.args 0 4)=true
   ·have h3: ¬ ((!jf x.name|| !dP x.args 0 4)=true):=by simp at h2;simp[h2]
    rw[if_neg h3,if_pos h2]
    exact ih
   ·have h3:(!jf x.name|| !dP x.args 0 4)=true:=by
     cases hn:jf x.name<;>simp_all
    rw[if_pos h3,if_neg h2]
def nq(ok:Bool):Int:=if ok=true then 0 else 2
@[reducible] def Gi (s:aS) (bs:List (List UInt8)):Nat->ab:=aF (aF (aF (fun _=> .no) 0 (.row s.row)) 3 (.row [.mp 2])) 2 (.map 9 4 (enc .str (n9 bs)))
theorem tY(s:aS)(hs:s.Fits):aW Tryz.prog 97 [s.d] (.ret [.i (nq (iG s))]):=by
 refine aW.aH mix Y1 aI ?_
 rw[c97]
 refine qP ?_
 refine aB (fO _ _ _) rfl ?_
 refine qP ?_
 cases h1:(!dP s.cons.length 2 12||decide (8<(s.bH.length:Int)))with
 |true=>
  have:iG s=false:=by simp only[iG,h1,if_true]
  refine gk h1 ?_
  simp[this,nq]
 |false=>
  have Lb:=od s.cons []
  have aax:∀ (l:List iu),(∀x∈l,x.name.length<=9223372036854775807)->∀x∈l,∀bs,True->j7 Tryz.prog 125 (.d x.d::[.ptr 3 0]) 4 (Gi s bs) (Gi s (gO bs x).1) (.d (.bool (gO bs x).2)):=fun l hl x hx bs _=>
   TN x (hl x hx) 4 3 2 (aF (aF (fun _=> .no) 0 (.row s.row)) 3 (.row [.mp 2])) (ae _ _ _) ah ah ah bs
  simp[dP]at h1
  obtain⟨a,b,r,hc⟩:∃a b r,s.cons=a::b::r:=by
   match h:s.cons with
   |[]=>exact Ds
   |[a]=>exact Ds
   |a::b::r=>exact⟨a,b,r,rfl⟩
  have jq:(!dP s.cons.length 2 12||decide (8<(s.bH.length:Int)))=false:=by simp[dP];omega
  have Gb:iG s=if(!lG a fB|| !lG b tB)=true then false else match bR s.cons []with
   |none=>false
   |some l=>(bR s.bH l).isSome:=by
   unfold iG
   rw[if_neg (by rw[jq];exact Bool.false_ne_true),hc]
   dsimp only
   rfl
  refine gk jq ?_
  refine bA (AX s.cons hs.lc 125 [.ptr 3 0] 4 (Gi s) gO oq (fun _=>True) (fun _ _ _ _ _=>trivial) (aax s.cons hs.nc) [] trivial _ _ ⟨?_,ah,fun id au=> ?_⟩ _ _ fun o2 n2 m1 m2 m3=> ?_)
  ·exact eL
  ·rcases(by omega:id=0\/id=1\/id=2\/id=3)with rfl|rfl|rfl|rfl<;>rfl
  have p0:∀ {bs:List (List UInt8)} {o:Nat->ab} {n:Nat},cI 4 (Gi s bs) o n->o 0= .row s.row:=fun h=>h.eq 0 ah
  have p3:∀ {bs:List (List UInt8)} {o:Nat->ab} {n:Nat},cI 4 (Gi s bs) o n->o 3= .row [.mp 2]:=fun h=>h.eq 3 ah
  cases hn:bR s.cons []with
  |none=>
   rw[hn]at Lb
   simp only at Lb
   rw[Lb]
   refine qP ?_
   rw[Gb,hn]
   split<;>rfl
  |some B=>
   rw[hn]at Lb
   simp only at Lb
   rw[Lb]at m2|-
   simp+contextual (disch:=first|omega|simp only[go_sem,false_implies]) only[go_sem,wrap64,if_pos,Nat.add_assoc,Nat.left_eq_add,Nat.add_eq_left,Nat.add_left_cancel_iff,p0 m2]
   refine bA (AX s.bH hs.lf 125 [.ptr 3 0] 4 (Gi s) gO oq (fun _=>True) (fun _ _ _ _ _=>trivial) (aax s.bH hs.nf) B trivial _ _ (m2.mono ah) _ _ fun o4 n4 k1 k2 k3=> ?_)
   have HX:=od s.bH B
   cases hf:bR s.bH B with
   |none=>
    rw[hf]at HX
    simp only at HX
    rw[HX]
    refine qP ?_
    rw[Gb,hn]
    simp only[hf]
    split<;>rfl
   |some C=>
    rw[hf]at HX
    simp only at HX
    rw[HX]at k2|-
    simp+contextual (disch:=first|omega|simp only[go_sem,false_implies]) only[go_sem,wrap64,if_pos,Nat.add_assoc,Nat.left_eq_add,Nat.add_eq_left,Nat.add_left_cancel_iff,p0 k2,hc]
    have Qj:iG s= !(!lG a fB|| !lG b tB):=by
     rw[Gb,hn];simp only[hf]
     cases(!lG a fB|| !lG b tB)<;>rfl
    refine aj (fun h5=> ?_) (fun h5=> ?_)
    ·refine br ?_
     have nJ:(!lG a fB|| !lG b tB)=true:=h5
     rw[Qj,nJ];rfl
    ·refine br ?_
     have nJ:(!lG a fB|| !lG b tB)=false:=h5
     rw[Qj,nJ];rfl
def eQ(s:aS)(l:List Tm):Bool:=iG s&&l.all (lh s)
theorem pZ{α:Type}(p:α->Bool):∀ (l:List α) (u:Unit),aw (fun _ x=>((),p x)) u l=((),l.all p)
 |[],_=>rfl
 |x::l,u=>by
  simp only[aw,List.all_cons,pZ p l]
  cases p x<;>rfl
theorem CZ(l:List Tm)(hl:l.length<=9223372036854775807)(g:Nat)(aV:List V)(base:Nat)(h:Nat->ab)(p:Tm->Bool)(hc:∀r∈V.aL aV,r<base)
 (hp:∀x∈l,j7 Tryz.prog g (.d x.d::aV) base h h (.d (.bool (p x)))):j7 Tryz.prog 171 [.d (.sl (l.map Tm.d)), .func (.func g) [] aV] base h h (.d (.bool (l.all p))):=by
 have:=AR l hl g aV base (fun _:Unit=>h) (fun _ x=>((),p x)) hc (fun _=>True) (fun _ _ _ _ _=>trivial) (fun x hx _ _=>hp x hx) () trivial
 exact HD
structure Tm.Fin (t:Tm):Prop where
 fits:t.fits
 mm:t.mm<=900000
theorem JA(s:aS)(hs:s.Fits)(t:Tm)(ht:t.Fin)(base sp:Nat)(h:Nat->ab)(G0:h sp= .row s.row)(hb:sp<base):j7 Tryz.prog 172 [.d t.d, .ptr sp 0] base h h (.d (.bool (lh s t))):=by
 intro o nx hI K X hK
 have hle:=hI.le
 have hg:=hI.bD
 have q0:o sp= .row s.row:=by rw[hI.eq sp hb,G0]
 refine de.aH mix PW aI ?_
 rw[Tl]
 refine gk q0 ?_
 refine aB (Jx s hs t ht.fits ht.mm) rfl ?_
 exact WR
theorem Es(s:aS)(hs:s.Fits)(l:List Tm)(hl:l.length<=9223372036854775807)(hf:∀t∈l,t.Fin):aW Tryz.prog 159 [s.d, .sl (l.map Tm.d)] (.ret [.bool (eQ s l)]):=by
 refine aW.aH mix PQ aI ?_
 rw[Tf]
 refine br ?_
 refine aB (tY s hs) rfl ?_
 cases h1:iG s with
 |false=>
  refine BP ?_
  simp[eQ,h1]
 |true=>
  refine BP ?_
  refine bA (CZ l hl 172 [.ptr 0 0] 1 (aF (fun _=> .no) 0 (.row s.row)) (lh s) oq (fun x hx=>JA s hs x (hf x hx) 1 0 _ (ae _ _ _) ah) _ _ ⟨eL,ah,fun id au=>rfl⟩ _ _ fun o2 n2 m1 m2 m3=> ?_)
  refine br ?_
  simp[eQ,h1]
theorem MU(s:aS)(hs:s.Fits)(t:Tm)(ht:t.Fin):aW Tryz.prog 134 [s.d,t.d] (.ret [.i (nq (eQ s [t]))]):=by
 refine aW.aH mix PI aI ?_
 rw[S8]
 refine br ?_
 refine aB (Es s hs [t] aI (fun x hx=>by simp at hx;subst hx;exact ht)) rfl ?_
 cases h1:eQ s [t]with
 |false=>exact Hd
 |true=>exact Hd
def Tm.AY (t:Tm):Int:=(pre t 1).length
structure Tm.C0 (t:Tm):Prop extends t.Fin where
 size:t.AY<=1000000
theorem Tm.Fin.wD {t k:Tm}(h:t.Fin)(hk:k∈t.kids):k.Fin:=⟨((Tm.aX _).1 h.fits).2 k hk,by have:=Tm.pg hk;have:=h.mm;omega⟩
theorem rv:∀ (t:Tm) (d d':Int),(pre t d).length=(pre t d').length:=by
 refine Tm.cl fun t ih d d'=> ?_
 rw[je,je]
 simp only[List.length_cons,List.length_flatMap]
 congr 2
 exact List.map_congr_left fun k hk=>ih k hk _ _
theorem Tm.wE {t k:Tm}(hk:k∈t.kids):k.AY+1<=t.AY:=by
 simp only[Tm.AY]
 rw[je t,rv k 1 (1+1)]
 simp only[List.length_cons,List.length_flatMap]
 have:∀ (l:List Tm),k∈l->(pre k (1+1)).length<=(l.map fun k=>(pre k (1+1)).length).sum:=by
  intro l
  induction l with
  |nil=>intro h;cases h
  |cons x l ih=>
   intro h
   rcases List.mem_cons.1 h with rfl|h
   ·simp only[List.map_cons,List.sum_cons];omega
   ·have:=ih h;simp only[List.map_cons,List.sum_cons];omega
 have:=this _ hk
 omega
theorem Tm.C0.wD {t k:Tm}(h:t.C0)(hk:k∈t.kids):k.C0:=⟨h.toFin.wD hk,by have:=Tm.wE hk;have:=h.size;omega⟩
def Tm.sz (t:Tm):Nat:=(pre t 1).length
def eC(l:List Tm):Nat:=(l.map Tm.sz).sum
theorem Tm.kC (t:Tm):t.AY=(t.sz:Int):=rfl
theorem Tm.gv (t:Tm):t.sz=1+eC t.kids:=by
 unfold Tm.sz eC
 rw[je,List.length_cons,List.length_flatMap,Nat.add_comm]
 congr 2
 exact List.map_congr_left fun k hk=>rv k _ _
theorem Tm.AZ (op n:Int)(l:List Tm):(Tm.mk op n l).sz=1+eC l:=Tm.gv _
theorem ez(k:Tm)(l:List Tm):eC (k::l)=k.sz+eC l:=by simp[eC]
theorem Tm.TO (t:Tm):1<=t.sz:=by rw[Tm.gv];omega
theorem wF(k:Tm)(l:List Tm):Tm.lb (k::l)=Nat.max k.mm (Tm.lb l):=by simp[Tm.lb]
theorem sy:∀ (l:List Tm) (n:Nat),Tm.lb l<=n↔∀k∈l,k.mm<=n
 |[],n=>by simp[Tm.lb]
 |x::l,n=>by
  rw[wF]
  simp only[List.mem_cons,forall_eq_or_imp, <- sy l n]
  exact Nat.max_le
theorem Tm.C1 (t:Tm):t.mm=1+Tm.lb t.kids:=by cases t;simp[Tm.mm,Tm.kids]
theorem Gj:∀t:Tm,∀left depth:Int,gZ t left depth=if(t.sz:Int)<=left/\(t.mm:Int)<=depth then left - t.sz else -1:=by
 refine Tm.cl fun t ih left depth=> ?_
 have hs:∀ (l:List Tm) (left d:Int),(∀k∈l,k∈t.kids)->0<=left->0<=d->b9 l left d=if(eC l:Int)<=left/\(Tm.lb l:Int)<=d then left - eC l else -1:=by
  intro l
  induction l with
  |nil=>intro left d _ h1 h2;simp[b9,eC,Tm.lb,h1,h2]
  |cons k l tT=>
   intro left d hk h1 h2
   simp only[b9,if_pos h1]
   rw[ih k (hk k (by simp))]
   have hm:(Tm.lb (k::l):Int)<=d↔(k.mm:Int)<=d/\(Tm.lb l:Int)<=d:=by
    have:= @Nat.max_le k.mm (Tm.lb l) d.toNat
    have e:Tm.lb (k::l)=max k.mm (Tm.lb l):=wF k l
    rw[e];omega
   simp only[ez,hm]
   by_cases hc:(k.sz:Int)<=left/\(k.mm:Int)<=d
   ·rw[if_pos hc,tT _ _ (fun x hx=>hk x (by simp[hx])) (by omega) h2]
    by_cases sV:(eC l:Int)<=left - k.sz/\(Tm.lb l:Int)<=d
    ·rw[if_pos sV,if_pos (by omega)];omega
    ·rw[if_neg sV,if_neg (by omega)]
   ·rw[if_neg hc,n7 (by omega),if_neg (by omega)]
 rw[AQ,Tm.gv,Tm.C1]
 by_cases h:left<1\/depth<1
 ·rw[if_pos h,if_neg (by omega)]
 ·rw[if_neg h,hs _ _ _ (fun _ h=>h) (by omega) (by omega)]
  by_cases hc:(eC t.kids:Int)<=left - 1/\(Tm.lb t.kids:Int)<=depth - 1
  ·rw[if_pos hc,if_pos (by omega)];omega
  ·rw[if_neg hc,if_neg (by omega)]
theorem mE(t:Tm)(left depth:Int):0<=gZ t left depth↔(t.sz:Int)<=left/\(t.mm:Int)<=depth:=by
 rw[Gj];split<;>omega
theorem tZ(t:Tm):jg t=true↔t.sz<=50/\t.mm<=14:=by
 simp only[jg,decide_eq_true_eq,mE];omega
theorem Gk:∀ (t:Tm) (d m:Int),(∀x∈pre t d,x.2<=m)↔d+t.mm - 1<=m:=by
 refine Tm.cl fun t ih d m=> ?_
 rw[je,Tm.C1]
 simp only[List.mem_cons,forall_eq_or_imp,List.mem_flatMap]
 have h1:(∀x:Tm×Int,(∃k,k∈t.kids/\x∈pre k (d+1))->x.2<=m)↔∀k∈t.kids,d+1+k.mm - 1<=m:=by
  constructor
  ·intro h k hk
   exact(ih k hk _ _).1 fun x hx=>h x ⟨k,hk,hx⟩
  ·rintro h x ⟨k,hk,hx⟩
   exact(ih k hk _ _).2 (h k hk) x hx
 rw[h1]
 constructor
 ·rintro⟨h2,h3⟩
  have:=(sy t.kids (m - d).toNat).2 fun k hk=>by have:=h3 k hk;omega
  omega
 ·intro h
  have:=(sy t.kids (m - d).toNat).1 ah
  exact⟨ah,fun k hk=>by have:=this k hk;omega⟩
theorem Et(p:Tm->Bool):∀ (t:Tm) (d:Int),(pre t d).all (fun x=>p x.1)=(p t&&t.kids.all fun k=>(pre k (d+1)).all fun x=>p x.1):=by
 intro t d
 rw[je,List.all_cons,List.all_flatMap]
theorem ua(s:aS):∀ (t:Tm) (d:Int),fW s t=(pre t d).all fun x=>a7 s x.1:=by
 refine Tm.cl fun t ih d=> ?_
 rw[Et (a7 s),iO]
 congr 1
 exact On
theorem JB{s:aS}{t:Tm}(h:a7 s t=true):dP t.op 1 15=true:=by
 rw[show dP t.op 1 15=true↔1<=t.op/\t.op<=15 by simp[dP]]
 by_cases h6:dP t.op 6 15=true
 ·simp[dP]at h6;omega
 ·simp only[a7,if_neg h6]at h
  by_cases h1:t.op=1
  ·omega
  by_cases h2:t.op=2
  ·omega
  by_cases h3:t.op=3
  ·omega
  by_cases h4:t.op=4
  ·omega
  by_cases h5:t.op=5
  ·omega
  by_cases h8:t.op=8
  ·omega
  rw[if_neg h1,if_neg h2,if_neg h3,if_neg h4,if_neg h5,if_neg h8]at h
  cases h
def ub(s:aS)(x:Tm×Int):Bool:= !(decide (12<x.2)|| !dP x.1.op 1 15|| !a7 s x.1)
theorem ry(s:aS):∀ (l:List (Tm×Int)) (n:Int) (b:Bool),(aw (wz fJ (gh s)) (n,b) l).2=(decide (l=[]\/n+l.length<=40)&&l.all (ub s))
 |[],n,b=>by simp[aw]
 |x::l,n,b=>by
  have e1:∀c,nn s n x=c->wz fJ (gh s) (n,b) x=((n+1, !c), !c):=fun c hc=>by show((n+1, !nn s n x),(fJ (n+1, !nn s n x)).isNone)=_;rw[hc];cases c<;>rfl
  have hb:nn s n x=(decide (40<n+1)|| !ub s x):=by simp[nn,ub,Bool.or_assoc]
  rw[List.all_cons]
  cases hg:ub s x with
  |false=>
   have e:nn s n x=true:=by rw[hb,hg];simp
   rw[aw,e1 _ e];simp
  |true=>
   by_cases h40:40<n+1
   ·have:decide (x::l=[]\/n+(x::l).length<=40)=false:=by simp;omega
    have e:nn s n x=true:=by rw[hb];simp[h40]
    rw[this,Bool.false_and,aw,e1 _ e];simp
   ·have e:nn s n x=false:=by rw[hb,hg];simp;omega
    rw[aw,e1 _ e]
    simp only[Bool.not_false,if_true,ry s l,Bool.true_and]
    congr 1
    cases l with
    |nil=>simp;omega
    |cons y l=>simp;omega
theorem C2(s:aS)(t:Tm):lh s t=cN s t:=by
 rw[lh,ry,cN,ua s t 1,Bool.eq_iff_iff]
 have hn:pre t 1≠[]:=by rw[je];simp
 simp only[Bool.and_eq_true,decide_eq_true_eq,hn,false_or,mE,List.all_eq_true]
 have hd:=Gk t 1 12
 constructor
 ·rintro⟨h1,h2⟩
  have h3:∀x∈pre t 1,x.2<=12:=fun x hx=>by have:=h2 x hx;simp[ub]at this;omega
  have:=hd.1 h3
  exact⟨⟨by unfold Tm.sz;omega,ah⟩,fun x hx=>by have:=h2 x hx;simp[ub]at this;exact this.2⟩
 ·rintro⟨⟨h1,h2⟩,h3⟩
  have h4:=hd.2 ah
  refine⟨by unfold Tm.sz at h1;omega,fun x hx=> ?_⟩
  have h5:=h4 x hx
  have h6:=h3 x hx
  have h7:=JB h6
  simp[ub,h6,h7];omega
theorem C3:∀a:Tm,eV a a=true:=by
 refine Tm.cl fun a ih=> ?_
 rw[pt]
 have:gI a.kids a.kids=true:=(gN _ _ rfl).2 fun i x y hx hy=>by
  rw[hx]at hy;injection hy with hy;subst hy;exact ih x (List.mem_of_getElem? hx)
 simp[this]
theorem kD:∀a b:Tm,eV a b=true↔a=b:=by
 refine Tm.cl fun a ih b=>⟨fun h=> ?_,fun e=>e ▸ C3 _⟩
 rw[pt]at h
 simp only[Bool.and_eq_true,beq_iff_eq]at h
 obtain⟨⟨⟨h1,h2⟩,h3⟩,h4⟩:=h
 have h5:=(gN _ _ h3).1 h4
 have:a.kids=b.kids:=by
  apply List.ext_getElem?
  intro i
  cases hx:a.kids[i]? with
  |none=>simp at hx;symm;simp;omega
  |some x=>
   have hi:=(List.getElem?_eq_some_iff.1 hx).1
   obtain⟨y,hy⟩:=az (l:=b.kids) (k:=i) ah
   rw[hy,(ih x (List.mem_of_getElem? hx) y).1 (h5 i x y hx hy)]
 rw[<- Tm.eta a, <- Tm.eta b,h1,h2,this]
def pnF(s:aS)(t:Tm):Bool:=
 let k:Int:=t.kids.length
 if t.op=16 then t.n==0&&k==0
 else if t.op=1 then dP t.n 0 199&&k==0
 else if t.op=2 then dP t.n (-1000000) 1000000&&k==0
 else if t.op=3 then dP t.n 0 (s.cons.length - 1)&&k==fj s.cons t.n
 else if t.op=5 then dP t.n 0 (s.bH.length - 1)&&decide (k<fj s.bH t.n)
 else false
mutual
def Gl(s:aS):Tm->Bool
 | .mk op n kids=>Eu s kids&&pnF s (.mk op n kids)
def Eu(s:aS):List Tm->Bool
 |[]=>true
 |k::l=>Gl s k&&Eu s l
end
theorem wG(s:aS):∀l:List Tm,Eu s l=l.all (Gl s)
 |[]=>rfl
 |k::l=>by rw[Eu,wG s l];rfl
theorem MV(s:aS)(t:Tm):Gl s t=(t.kids.all (Gl s)&&pnF s t):=by cases t;rw[Gl,wG];rfl
def Pn(s:aS)(t:Tm):Prop:=Gl s t=true
theorem JC{s:aS}{t:Tm}:Pn s t↔pnF s t=true/\∀k∈t.kids,Pn s k:=by
 unfold Pn;rw[MV,Bool.and_eq_true,List.all_eq_true];exact and_comm
theorem Pn.wD {s:aS}{t k:Tm}(h:Pn s t)(hk:k∈t.kids):Pn s k:=(JC.1 h).2 k hk
theorem MW{s:aS}{t:Tm}(h:pnF s t=true)(h1:t.op=16\/t.op=1\/t.op=2):t.kids=[]/\(t.op=16->t.n=0):=by
 unfold pnF at h
 rcases h1 with h1|h1|h1
 ·simp[h1]at h;exact⟨h.2,fun _=>h.1⟩
 ·simp[h1]at h;exact⟨h.2,fun e=>ah⟩
 ·simp[h1]at h;exact⟨h.2,fun e=>ah⟩
theorem Pn.bare {s:aS}{t:Tm}(h:Pn s t)(h1:t.op=16\/t.op=1\/t.op=2):t.kids=[]:=(MW (JC.1 h).1 h1).1
def vc{σ:Type}(step:σ->Tm->σ×Bool):σ->List Tm->Int->Int
 |_,[],_=> -1
 |s,x::l,k=>if(step s x).2=true then vc step (step s x).1 l (k+1)else k
theorem Ev{σ:Type}(step:σ->Tm->σ×Bool):∀ (l:List Tm) (s:σ) (k:Int),0<=k->(0<=vc step s l k↔(aw step s l).2=false)
 |[],_,_,_=>by simp[vc,aw]
 |x::l,s,k,hk=>by
  have ih:=Ev step l (step s x).1 (k+1) ah
  by_cases h:(step s x).2=true
  ·simp only[vc,aw,h,if_true];exact ih
  ·simp[vc,aw,h,hk]
theorem TP{σ:Type}(l:List Tm)(hl:l.length<=9223372036854775807)(g:Nat)(aV:List V)(base:Nat)(H:σ->Nat->ab)(step:σ->Tm->σ×Bool)(hc:∀r∈V.aL aV,r<base)(ok:σ->Prop)(aZ:∀x∈l,∀s,ok s->(step s x).2=true->ok (step s x).1)
 (h:∀x∈l,∀s,ok s->j7 Tryz.prog g (.d x.d::aV) base (H s) (H (step s x).1) (.d (.bool (!(step s x).2)))) (s:σ) (jb:ok s):
 j7 Tryz.prog 150 [.d (.sl (l.map Tm.d)), .func (.func g) [] aV] base (H s) (H (aw step s l).1) (.d (.i (vc step s l 0))):=by
 intro o nx hI K X hK
 have kp:∀r∈V.aL aV,r<nx:=fun r hr=>Nat.lt_of_lt_of_le (hc r hr) hI.le
 refine de.aH mix PN aI ?_
 rw[Td]
 refine cj ?_
 refine aE (fun i:Nat×σ×(Nat->ab)×Nat=>⟨ba [.d (.sl (l.map Tm.d)), .func (.func g) [] aV, .aa, .aa, .aa, .aa, .aa, .d (.i l.length), .d (.i i.1)],i.2.2.1,i.2.2.2⟩)
  (fun i=>i.1<=l.length/\cI base (H i.2.1) i.2.2.1 i.2.2.2/\nx<=i.2.2.2/\(∀id,base<=id->id<nx->i.2.2.1 id=o id)/\aw step s l=aw step i.2.1 (l.drop i.1)/\ok i.2.1/\vc step s l 0=vc step i.2.1 (l.drop i.1) i.1) (fun i=>l.length - i.1) (0,s,o,nx)
  ⟨Nat.zero_le _,hI,Nat.le_refl _,fun _ _ _=>rfl,rfl,jb,rfl⟩ ?_ ?_
 ·exact Lx
 rintro⟨k,s',o',nx'⟩ ⟨hk,uQ,hn,cO,hf,iS,y9⟩
 simp only at hk uQ hn cO hf iS y9
 refine cj ?_
 refine aj (fun h1=> ?_) (fun h1=> ?_)
 ·simp at h1
  obtain⟨x,hx⟩:=az h1
  have eg:=List.mem_of_getElem? hx
  have hd:l.drop k=x::l.drop (k+1):=by
   exact WI
  rw[hd]at hf y9
  simp only[aw,vc]at hf y9
  refine Lk hx ?_
  refine fG (h x eg s' iS _ _ (uQ.mono ah) _ _ fun o2 n2 m1 m2 m3=> ?_)
  cases hb:(step s' x).2 with
  |true=>
   rw[hb]at hf y9
   simp only[if_true]at hf y9
   refine br ?_
   have Jt:∀r∈V.aL aV,r<n2+1+1:=fun r hr=>by have:=kp r hr;omega
   exact zw6
  |false=>
   exact W7
 ·exact N5
theorem rz{σ:Type}(l:List Tm)(hl:l.length<=9223372036854775807)(g:Nat)(aV:List V)(base:Nat)(H:σ->Nat->ab)(step:σ->Tm->σ×Bool)(hc:∀r∈V.aL aV,r<base)(ok:σ->Prop)(aZ:∀x∈l,∀s,ok s->(step s x).2=true->ok (step s x).1)
 (h:∀x∈l,∀s,ok s->j7 Tryz.prog g (.d x.d::aV) base (H s) (H (step s x).1) (.d (.bool (!(step s x).2)))) (s:σ) (jb:ok s):
 j7 Tryz.prog 106 [.d (.sl (l.map Tm.d)), .func (.func g) [] aV] base (H s) (H (aw step s l).1) (.d (.bool (!(aw step s l).2))):=by
 intro o nx hI K X hK
 have kp:∀r∈V.aL aV,r<nx:=fun r hr=>Nat.lt_of_lt_of_le (hc r hr) hI.le
 refine de.aH mix Px aI ?_
 rw[SX]
 refine qP ?_
 refine bA (TP l hl g aV base H step hc ok aZ h s jb _ _ ?_ _ _ fun o2 n2 m1 m2 m3=> ?_)
 ·exact hI.mono ah
 refine qP ?_
 have e:decide (0<=vc step s l 0)= !(aw step s l).2:=by
  have:=Ev step l s 0 ah
  exact Ol
 rw[e]
 exact Wz
section
theorem aay{x:Tm}{g:Nat}{aV:List V}{base c bx:Nat}{h h2 O:Nat->ab}{r:Bool}(hS:j7 Tryz.prog g (.d x.d::aV) base h h2 (.d (.bool r)))(hb:base<=bx)(VD:bx<c)(hO:O bx= .row [.func (.func g) [] aV])(hc:∀r∈V.aL aV,r<base):
 j7 Tryz.prog 161 [.d x.d, .ptr bx 0] c (ext base h O) (ext base h2 O) (.d (.bool (!r))):=by
 intro o nx hI K X hK
 have hle:=hI.le
 have kp:∀r∈V.aL aV,r<nx:=fun r hr=>by have:=hc r hr;omega
 have ho:o bx= .row [.func (.func g) [] aV]:=by
  rw[hI.eq bx VD];unfold ext;rw[if_neg (by omega),hO]
 have y1:∀k,bx≠nx+k:=fun k=>ah
 have y2:bx≠nx:=ah
 refine de.aH mix PS aI ?_
 rw[Th]
 refine QG ho y1 y2 ?_
 refine fG ((hS.ext (by omega:base<=c) O) _ _ ?_ _ _ fun o2 n2 m1 m2 m3=> ?_)
 ·exact hI.aF ah ah ah rfl
 refine qP ?_
 exact Wb
theorem wH{σ:Type}(l:List Tm)(hl:l.length<=9223372036854775807)(g:Nat)(aV:List V)(base:Nat)(H:σ->Nat->ab)(step:σ->Tm->σ×Bool)(hc:∀r∈V.aL aV,r<base)(ok:σ->Prop)(aZ:∀x∈l,∀s,ok s->(step s x).2=true->ok (step s x).1)
 (h:∀x∈l,∀s,ok s->j7 Tryz.prog g (.d x.d::aV) base (H s) (H (step s x).1) (.d (.bool (step s x).2))) (s:σ) (jb:ok s):
 j7 Tryz.prog 133 [.d (.sl (l.map Tm.d)), .func (.func g) [] aV] base (H s) (H (aw step s l).1) (.d (.bool (aw step s l).2)):=by
 intro o nx hI K X hK
 have hle:=hI.le
 have kp:∀r∈V.aL aV,r<nx:=fun r hr=>Nat.lt_of_lt_of_le (hc r hr) hI.le
 refine de.aH mix PH aI ?_
 rw[S7]
 refine qP ?_
 refine bA (rz l hl 161 [.ptr nx 0] (nx+1) (fun s=>ext base (H s) (aF o nx (.row [.func (.func g) [] aV]))) step oq ok aZ (fun x hx s hs=>aay (h x hx s hs) hle ah (ae _ _ _) hc) s jb _ _ ?_ _ _ fun o2 n2 m1 m2 m3=> ?_)
 ·have hr:(ab.row [V.func (.func g) [] aV]).refs.all (fun r=>decide (r<nx+4))=true:=by
   rw[List.all_eq_true]
   intro r hr
   have h1:r∈V.aL aV:=by simpa[ab.refs,V.aL,V.refs]using hr
   have:=kp r h1
   simp;omega
  exact NN
 refine qP ?_
 refine hK _ _ ah ⟨(m2.mono ah).bD,by have:=m2.le;omega,fun id au=> ?_⟩ fun id i1 i2=> ?_
 ·exact Hg
 ·exact Wq
mutual
def fM:Tm->List Tm
 | .mk op n kids=> .mk op n kids::MX kids
def MX:List Tm->List Tm
 |[]=>[]
 |k::l=>fM k++MX l
end
theorem wI:∀l:List Tm,MX l=l.flatMap fM
 |[]=>rfl
 |k::l=>by rw[MX,wI l];rfl
theorem lj(t:Tm):fM t=t::t.kids.flatMap fM:=by cases t;rw[fM,wI];rfl
section
variable {σ:Type}(base mC:Nat)(H:σ->Nat->ab)(step:σ->Tm->σ×Bool)(ok:σ->Prop)
theorem JD:∀t:Tm,t.fits->(∀x∈fM t,∀s,ok s->(step s x).2=true->ok (step s x).1)->(∀x∈fM t,∀s,ok s->VC Tryz.prog mC [.d x.d] base (H s) (H (step s x).1) (.d (.bool (step s x).2)))->mC<base->
 ∀ (c:Nat) (o0:Nat->ab) (yb vb:Nat),base<=c->base<=yb->yb<c->base<=vb->vb<c->o0 yb= .row [.iD mC]->o0 vb= .row [.func (.func 178) [] [.ptr yb 0, .ptr vb 0]]->
 ∀s,ok s->j7 Tryz.prog 178 [.d t.d, .ptr yb 0, .ptr vb 0] c (ext base (H s) o0) (ext base (H (aw step s (fM t)).1) o0) (.d (.bool (aw step s (fM t)).2)):=by
 refine Tm.cl fun t ih hf aZ hR tV c o0 yb vb VD Le hy Lf hv oy ov s jb=> ?_
 have lK:=(Tm.aX _).1 hf
 intro o nx hI K X hK
 have hle:=hI.le
 have ML:o yb= .row [.iD mC]:=by rw[hI.eq yb hy];unfold ext;rw[if_neg (by omega),oy]
 have MM:o vb= .row [.func (.func 178) [] [.ptr yb 0, .ptr vb 0]]:=by rw[hI.eq vb hv];unfold ext;rw[if_neg (by omega),ov]
 have y1:yb≠nx:=ah
 have y2:∀k,yb≠nx+k:=fun k=>ah
 have y3:vb≠nx:=ah
 have y4:∀k,vb≠nx+k:=fun k=>ah
 refine de.aH mix P7 aI ?_
 rw[Tt]
 simp+contextual only[go_sem,ML,MM,y1,y2,y3,y4,Nat.add_assoc,Nat.left_eq_add,Nat.add_eq_left,Nat.add_left_cancel_iff]
 have rK:=lj t
 have jt:∀k∈t.kids,∀x∈fM k,x∈fM t:=fun k hk x hx=>by
  exact NU
 have hb:∀id,id<base->o id=H s id:=fun id au=>by rw[hI.eq id (by omega)];unfold ext;rw[if_pos au]
 have hIb:cI base (H s) o nx:=⟨hI.bD,ah,hb⟩
 refine mA (hR t y0 s jb _ _ (hIb.aF (i:=nx) (m:=nx+4) ah ah ah rfl) _ _ fun o2 n2 m1 m2 m3=> ?_)
 have k0:o2 nx= .row t.row:=by rw[m3 nx (by omega) (by omega),ae]
 have hold:∀id,base<=id->id<nx->o2 id=o id:=fun id h1 h2=>by rw[m3 id h1 (by omega),ai _ _ _ _ (by omega)]
 have BU:∀id,base<=id->id<c->o id=o0 id:=fun id h1 h2=>by rw[hI.eq id h2];unfold ext;rw[if_neg (by omega)]
 cases AS:(step s t).2 with
 |false=>
  refine js AS ?_
  have wy:aw step s (fM t)=((step s t).1,false):=by rw[rK,aw,if_neg (by rw[AS];exact Bool.false_ne_true)]
  rw[wy]at hK
  refine hK _ _ ah ⟨m2.bD.mono ah,ah,fun id au=> ?_⟩ (fun id h1 h2=>hold id ah h2)
  unfold ext
  split
  ·exact m2.eq id ox
  ·exact Hf
 |true=>
  have wy:aw step s (fM t)=aw (fun s k=>aw step s (fM k)) (step s t).1 t.kids:=by rw[rK,aw,if_pos AS,tU]
  have q0:o2 yb= .row [.iD mC]:=by rw[hold yb Le (by omega),ML]
  have q1:o2 vb= .row [.func (.func 178) [] [.ptr yb 0, .ptr vb 0]]:=by rw[hold vb Lf (by omega),MM]
  simp+contextual only[go_sem,AS,k0,q1]
  have m0:=m2.le
  refine bA (wH t.kids lK.1 178 [.ptr yb 0, .ptr vb 0] n2 (fun s=>ext base (H s) o2) (fun s k=>aw step s (fM k)) ?_ ok ?_ ?_ (step s t).1 (aZ t y0 s jb AS) _ _ ?_ _ _ ?_)
  ·simp[V.aL,V.refs];omega
  ·exact Wt
  ·intro k hk s' ju
   exact ih k hk (lK.2 k hk) (fun x hx=>aZ x (jt k hk x hx)) (fun x hx=>hR x (jt k hk x hx)) tV n2 o2 yb vb ah Le ah Lf ah q0 q1 s' ju
  ·exact(m2.mono ah).ext ah ah
  ·intro o5 n5 p1 p2 p3
   refine cj ?_
   rw[<- wy]
   refine hK _ _ ah ⟨p2.bD.mono ah,ah,fun id au=> ?_⟩ (fun id h1 h2=> ?_)
   ·rw[p2.eq id (by omega), <- wy]
    unfold ext
    split
    ·rfl
    ·exact Hf
   ·exact Og
theorem Gm(t:Tm)(hf:t.fits)(aZ:∀x∈fM t,∀s,ok s->(step s x).2=true->ok (step s x).1)(hR:∀x∈fM t,∀s,ok s->VC Tryz.prog mC [.d x.d] base (H s) (H (step s x).1) (.d (.bool (step s x).2)))(tV:mC<base)(tb:Nat)(BX:tb<base)(s:σ)(jb:ok s)(bJ:H s tb= .row t.row):
 j7 Tryz.prog 177 [.iD mC, .ptr tb 0] base (H s) (H (aw step s (fM t)).1) (.bS []):=by
 intro o nx hI K X hK
 have hle:=hI.le
 have ot:o tb= .row t.row:=by rw[hI.eq tb BX,bJ]
 have y1:tb≠nx:=ah
 have y2:∀k,tb≠nx+k:=fun k=>ah
 refine de.aH mix P6 aI ?_
 rw[Ts]
 refine QK ot y1 y2 ?_
 have hI1:cI base (H s) (aF (aF (aF o nx (.row [.iD mC])) (nx+1) (.row [.d .bY])) (nx+1) (.row [.func (.func 178) [] [.ptr nx 0, .ptr (nx+1) 0]])) (nx+6):=by
  refine((hI.aF (i:=nx) (m:=nx+6) ah ah ah ?_).aF (i:=nx+1) (m:=nx+6) ah ah ah rfl).aF (i:=nx+1) ah ah ah ?_
  ·exact Ht
  ·exact pX
 refine bA (JD base mC H step ok t hf aZ hR tV (nx+6) _ nx (nx+1) ah hle ah ah ah ?_ ?_ s jb _ _ (hI1.ext (Nat.le_refl _) ah) _ _ ?_)
 ·exact eY
 ·exact eY
 intro o2 n2 m1 m2 m3
 refine cj ?_
 refine hK _ _ ah ⟨m2.bD,ah,fun id au=> ?_⟩ (fun id h1 h2=> ?_)
 ·exact Hg
 ·exact Rj
end
theorem wJ(t:Tm)(o:Nat->ab)(nx:Nat)(K X:V->(Nat->ab)->Nat->Prop)(h:K (.func (.func 177) [] [.ptr nx 0]) (aF o nx (.row t.row)) (nx+4)):de Tryz.prog 162 [.d t.d] o nx K X:=by
 refine de.aH mix PT aI ?_
 rw[Ti]
 refine cj ?_
 exact h
def yf{σ:Type}(J:σ->Option jo)(step:σ->Tm->σ)(s:σ)(x:Tm):σ×Bool:=(step s x,(J (step s x)).isNone)
theorem pw{σ:Type}(t:Tm)(hf:t.fits){n bq:Nat}{gq:Operand}{ps:List Nat}{iT eF:IC}{Q:eS->S->Prop}{e:Nat->V}{o:Nat->ab}{nx tb:Nat}(env:List V)(he:lA e env 0)
 (uO:ps.all (fun t=>decide (t<n))=true) (hl:ps.length=1) (hg:Good o nx) (hrefs:∀r∈V.aL env,r<nx) (ht:o tb= .row t.row)
 (G:σ->Nat->ab) (J:σ->Option jo) (step:σ->Tm->σ) (ok:σ->Prop) (s0:σ) (jb:ok s0) (UC:J s0=none) (h0:∀id,id<nx->o id=G s0 id) (aZ:∀x∈fM t,∀s,ok s->J s=none->J (step s x)=none->ok (step s x))
 (nV:∀L,gM Tryz.prog n env ps iT eF L->(∀st pd m,nx<=m->(L st pd).refs.all (fun r=>decide (r<m))=true)->∀x∈fM t,∀s,ok s->J s=none->∀o3 n3,cI nx (G s) o3 n3->nx<n3->o3 nx=L .ready none->∀K X,
  (∀e' o' n' st pd,n3<=n'->cI nx (G (step s x)) o' n'->o' nx=L st pd->(∀id,nx<id->id<n3->o' id=o3 id)->jh nx K X (Jv (J (step s x))) ⟨e',o',n'⟩)->
  kL Tryz.prog n n3 true iT (n6 Tryz.prog n n3 nx eF K X) ⟨mh (ba env) ps [.d x.d],o3,n3⟩)
 (iF:∀o' n',cI nx (G (aw (yf J step) s0 (fM t)).1) o' n'->nU Q (J (aw (yf J step) s0 (fM t)).1) ⟨e,o',n'⟩):
 xU Tryz.prog n bq false gq ps iT eF Q ⟨e,o,nx⟩ (.func (.func 177) [] [.ptr tb 0]):=by
 refine CU env he (fun L hL=> ?_)
 have BX:tb<nx:=hg.lt HI
 let H:σ->Nat->ab:=fun s id=>if id<nx then G s id else if id=nx then(match J s with|none=>L .ready none|some j=>L .done (some j))else .no
 have Fc:∀s id,id<nx->H s id=G s id:=fun s id h=>if_pos h
 have K6:∀s,J s=none->H s nx=L .ready none:=fun s h=>by show(if nx<nx then _ else _)=_;rw[if_neg (by omega),if_pos rfl,h]
 have QU:∀s j,J s=some j->H s nx=L .done (some j):=fun s j h=>by show(if nx<nx then _ else _)=_;rw[if_neg (by omega),if_pos rfl,h]
 have vj:∀st pd m,nx<=m->(L st pd).refs.all (fun r=>decide (r<m))=true:=fun st pd m hm=>by
  exact Rf
 refine Gm (nx+1) nx H (yf J step) (fun s=>ok s/\J s=none) t hf (fun x hx s h1 h2=> ?_) (fun x hx s h1=> ?_) ah tb ah s0 ⟨jb,UC⟩ HG _ _ ⟨?_,Nat.le_refl _,fun id au=> ?_⟩ _ _ ?_
 ·have hj:J (step s x)=none:=by simpa[yf]using h2
  exact⟨aZ x hx s h1.1 h1.2 hj,hj⟩
 ·intro o3 n3 hI K X hK
  have hle:=hI.le
  have G5:o3 nx=L .ready none:=by rw[hI.eq nx (by omega),K6 s h1.2]
  refine tS hL mix G5 ah uO (by simp[hl]) ?_
  refine nV L hL vj x hx s h1.1 h1.2 o3 n3 ⟨hI.bD,ah,fun id au=>by rw[hI.eq id (by omega),Fc _ _ au]⟩ ah G5 K X (fun e' o' n' st pd k1 k2 k3 k4=> ?_)
  have key:∀st' pd' b,(J (step s x)).isNone=b->H (step s x) nx=L st' pd'->K (.d (.bool b)) (aF o' nx (L st' pd')) n':=fun st' pd' b hb hh=>by
   subst hb
   refine hK _ _ k1 ⟨k2.bD.aF ah (vj _ _ _ ah),ah,fun id au=> ?_⟩ (fun id g1 g2=> ?_)
   ·by_cases sH:id=nx
    ·exact Hu
    ·rw[ai _ _ _ _ sH]
     show o' id=H (step s x) id
     exact Hl
   ·exact Q0
  cases hj:J (step s x)with
  |none=>exact QX
  |some j=>
   cases j with
   |ret=>exact QV
   |exit j=>exact QT
 ·exact QW
 ·by_cases sH:id=nx
  ·exact Hz
  ·exact QS
 ·intro o' n' k1 k2 k3
  have hle:=k2.le
  generalize hsf:(aw (yf J step) s0 (fM t)).1=sf at*
  have kk:∀st pd,cI nx (G sf) (aF o' nx (L st pd)) n':=fun st pd=>⟨k2.bD.aF ah (vj _ _ _ ah),ah,fun id au=>by rw[ai _ _ _ _ (by omega),k2.eq id (by omega),Fc _ _ au]⟩
  cases hj:J sf with
  |none=>
   refine⟨.ready,none,by rw[k2.eq nx (by omega),K6 _ hj],(fun h=>by cases h), ?_⟩
   have:=iF _ _ (kk .exhausted none)
   rwa [hj]at this
  |some j=>
   refine⟨.done,some j,by rw[k2.eq nx (by omega),QU _ _ hj],(fun h=>by cases h), ?_⟩
   have:=iF _ _ (kk .exhausted (some j))
   rwa [hj]at this
end
section
def Gn(l:List (D×D)):List (Int×D):=l.map fun p=>((match p.1 with| .int _ n=>n|_=>0),p.2)
def TQ(l:List (D×D)):Bool:=l.all fun p=>match p.1 with| .int .i64 _=>true|_=>false
@[go_sem] theorem aa1 (m:List (Int×D)):Gn (enc (D.int .i64) m)=m:=by
  unfold Gn enc;rw[List.map_map];simp[Function.comp_def]
@[go_sem] theorem aa2 (m:List (Int×D)):TQ (enc (D.int .i64) m)=true:=by simp[TQ,enc]
@[go_sem] theorem aa3:TQ []=true:=rfl
@[go_sem] theorem aa4:Gn []=[]:=rfl
theorem yg:∀ {l:List (D×D)},TQ l=true->enc (D.int .i64) (Gn l)=l
 |[],_=>rfl
 |(k,x)::l,h=>by
  simp only[TQ,List.all_cons,Bool.and_eq_true]at h
  have ih:=yg (l:=l) h.2
  obtain⟨n,h1⟩:∃n,k= .int .i64 n:=by
   have h1:=h.1
   split at h1
   ·exact⟨_,rfl⟩
   ·cases h1
  subst h1
  simp only[enc,Gn,List.map_cons]at ih|-
  rw[ih]
def mF(l:List Int):List (Int×D):=l.map fun n=>(n, .bool true)
@[go_sem] theorem aaz:mF []=[]:=rfl
def rX(l:List Int)(n:Int):List Int:=if l.contains n=true then l else l++[n]
theorem mG{l:List Int}{n k:Int}:k∈rX l n↔k∈l\/k=n:=by
 unfold rX
 split
 ·rename_i h
  have:n∈l:=by simpa using h
  constructor
  ·exact .inl
  ·rintro(h|rfl)<;>assumption
 ·simp
theorem px:∀ (l:List Int) (n:Int) (i:Nat),fm n (mF l) i=(l.findIdx? (· ==n)).map fun j=>(i+j,D.bool true)
 |[],n,i=>rfl
 |x::l,n,i=>by
  have ih:=px l n (i+1)
  simp only[mF,List.map_cons,fm,List.findIdx?_cons]at ih|-
  by_cases h:n=x
  ·subst h;simp
  ·have h2: ¬x=n:=fun e=>h e.symm
   simp only[beq_iff_eq,h,h2,if_false,ih,Option.map_map,Function.comp_def]
   congr 1;funext j;congr 1;omega
@[go_sem] theorem VG (l:List Int) (n:Int):u9 n (.bool true) (mF l)=mF (rX l n):=by
  unfold u9 rX
  rw[px]
  cases h:l.findIdx? (· ==n)with
  |none=>
   have:l.contains n=false:=by
    rw[List.findIdx?_eq_none_iff]at h
    rw[Bool.eq_false_iff];intro hc
    have:=h n (by simpa using hc)
    simp at this
   simp only[Option.map_none,this,Bool.false_eq_true,if_false]
   simp[mF]
  |some j=>
   rw[List.findIdx?_eq_some_iff_getElem]at h
   obtain⟨hj,he,_⟩:=h
   have e:l[j]=n:=by simpa using he
   have:l.contains n=true:=by rw[List.contains_iff_mem, <- e];exact List.getElem_mem hj
   simp only[Option.map_some,this,if_true,Nat.zero_add]
   apply List.ext_getElem?
   intro k
   rw[List.getElem?_set]
   split
   ·rename_i hk;subst hk;simp[mF,hj,e]
   ·rfl
def aaA(l:List Int)(n:Int):List Int:=match l.findIdx? (· ==n)with|some j=>l.eraseIdx j|none=>l
theorem ll{α β:Type}(f:α->β):∀ (l:List α) (j:Nat),(l.map f).eraseIdx j=(l.eraseIdx j).map f
 |[],_=>rfl
 |_::_,0=>rfl
 |x::l,j+1=>by simp[ll f l j]
@[go_sem] theorem VH (l:List Int) (n:Int):aav n (mF l)=mF (aaA l n):=by
  unfold aav aaA
  rw[px]
  cases h:l.findIdx? (· ==n)with
  |none=>simp
  |some j=>simp only[Option.map_some,Nat.zero_add];exact ll _ _ _
section
variable {P:Program}{o:Nat->ab}{t:TypeId}{id:Nat}{n:Int}{v:V}
def qA(P:Program)(kt:TypeId):Bool:=match bP P kt with|some .int=>true|_=>false
theorem wK{kt:TypeId}(h:qA P kt=true):bP P kt=some .int:=by
 unfold qA at h;split at h
 ·assumption
 ·cases h
@[go_sem] theorem VI {kt:TypeId} (h:bP P kt=some .int):qA P kt=true:=by unfold qA;rw[h]
def TR(P:Program)(o:Nat->ab)(t:TypeId)(id:Nat)(n:Int)(v:V):Option ff:=
 match qf P t,dA o v,o id with
 |some (kt,_),some vd, .map Dx Dy l=>match qA P kt&&TQ l&&v.ids.all (· !=id)with
  |true=>some (.bS [],cc o v.ids++[(id, .map Dx Dy (enc (D.int .i64) (u9 n vd (Gn l))))],id::v.ids)
  |false=>pv P o t (.mp id) (.d (.int .i64 n)) v
 |_,_,_=>pv P o t (.mp id) (.d (.int .i64 n)) v
@[go_sem high] theorem TS:eW P o t (.mp id) (.d (.int .i64 n)) v=TR P o t id n v:=by
  unfold TR
  split
  ·rename_i kt vt vd Dx Dy l h1 h2 h3
   split
   ·rename_i hc
    simp only[Bool.and_eq_true]at hc
    obtain⟨⟨c1,c2⟩,c3⟩:=hc
    have c4:=wK c1
    have c5:dA o (.d (.int .i64 n))=some (.int .i64 n):=rfl
    have hl:=yg c2
    unfold eW
    simp only[h1,c5,h2,ny,h3]
    rw[if_pos ⟨rfl,Ep c4 n,rfl,c3⟩]
    conv=>lhs;rw[<- hl]
    rw[AV c4]
    unfold u9
    cases fm n (Gn l) 0 with
    |none=>simp[va,enc]
    |some p=>simp[va,Er,D.same,nw]
   ·exact wC ..
  ·exact wC ..
attribute [go_sem] TR
def VJ(l:List (D×D)):Bool:=l.all fun p=>match p.2 with| .bool true=>true|_=>false
@[go_sem] theorem aa5 (l:List Int):VJ (enc (D.int .i64) (mF l))=true:=by simp[VJ,enc,mF]
@[go_sem] theorem aa6:VJ []=true:=rfl
theorem Ew:∀ {m:List (Int×D)},VJ (enc (D.int .i64) m)=true->mF (m.map (·.1))=m
 |[],_=>rfl
 |(k,x)::m,h=>by
  simp only[VJ,enc,List.map_cons,List.all_cons,Bool.and_eq_true]at h
  have ih:=Ew (m:=m) h.2
  have h1:x= .bool true:=by
   have h1:=h.1
   split at h1
   ·rfl
   ·cases h1
  simp only[mF,List.map_cons]at ih|-
  rw[ih,h1]
def JE(P:Program)(o:Nat->ab)(t:TypeId)(m:V)(n:Int)(ok:Bool):Option ff:=
 match qf P t with
 |some (kt,vt)=>match zeroV P vt with
  |some (.d (.bool false))=>match oG o m with
   |some (rd,l)=>match qA P kt&&TQ l&&VJ l with
    |true=>some (match ok with|true=> .bS [.d (.bool (((Gn l).map (·.1)).contains n)), .d (.bool (((Gn l).map (·.1)).contains n))]|false=> .d (.bool (((Gn l).map (·.1)).contains n)),[],rd)
    |false=>tX P o t m (.d (.int .i64 n)) ok
   |none=>tX P o t m (.d (.int .i64 n)) ok
  |_=>tX P o t m (.d (.int .i64 n)) ok
 |none=>tX P o t m (.d (.int .i64 n)) ok
@[go_sem] theorem JF (l:List Int):((mF l).map (·.1))=l:=by simp[mF,Function.comp_def]
@[go_sem high] theorem aaB {m:V} {ok:Bool}:gQ P o t m (.d (.int .i64 n)) ok=JE P o t m n ok:=by
  unfold JE
  split
  ·rename_i kt vt h1
   split
   ·rename_i hz
    split
    ·rename_i rd l h
     split
     ·rename_i hc
      simp only[Bool.and_eq_true]at hc
      have c4:=wK hc.1.1
      have hl:=yg hc.1.2
      have hs:mF ((Gn l).map (·.1))=Gn l:=Ew (by rw[hl];exact hc.2)
      have c5:dA o (.d (.int .i64 n))=some (.int .i64 n):=rfl
      unfold gQ
      simp only[h1,c5,h]
      rw[if_pos ⟨rfl,Ep c4 n⟩]
      conv=>lhs;rw[<- hl]
      rw[AV c4, <- hs,px,JF]
      generalize (Gn l).map (·.1)=l'
      cases hf:l'.findIdx? (· ==n)with
      |none=>
       have:l'.contains n=false:=by
        rw[List.findIdx?_eq_none_iff]at hf
        rw[Bool.eq_false_iff];intro hc
        have:=hf n (by simpa using hc)
        simp at this
       cases ok<;>simp only[Option.map_none,va,hz,this,if_true,Bool.false_eq_true,if_false]
      |some j=>
       rw[List.findIdx?_eq_some_iff_getElem]at hf
       obtain⟨hj,he,_⟩:=hf
       have e:l'[j]=n:=by simpa using he
       have:l'.contains n=true:=by rw[List.contains_iff_mem, <- e];exact List.getElem_mem hj
       cases ok<;>simp only[Option.map_some,va,this,if_true,Bool.false_eq_true,if_false]
     ·exact m4 ..
    ·exact m4 ..
   ·exact m4 ..
  ·exact m4 ..
attribute [go_sem] JE
end
attribute [go_sem] List.head?_cons
end
theorem TT{o:Nat->ab}{nx:Nat}{Δ:List (Nat×ab)}(h:∀x∈Δ,x.1<nx):(hp o nx).put Δ=hp (put o Δ) nx:=by
 simp only[Hp.put,hp]
 congr 1
 funext j
 simp only[List.mem_map,eq_iff_iff]
 exact⟨fun h2=>h2.elim (fun h=>h) fun⟨x,hx,e⟩=>e ▸ h x hx, .inl⟩
end Go.Proofs.YtnkamdiiakdkgaaGreat
