/-
  A PART OF THE PROOF. Conditions: none.
-/
import Derived.Test.YtnkamdiiakdkgaaGreatEa14
set_option linter.unusedSimpArgs false
set_option linter.unusedVariables false
namespace Go.Proofs.YtnkamdiiakdkgaaGreat
section
theorem Af{σ:Type}(l:List Tm)(hl:l.length<=9223372036854775807)(g:Nat)(aV:List V)(base:Nat)(H:σ->Nat->ab)(step:σ->Tm->σ×Bool)(hc:∀r∈V.aJ aV,r<base)(ok:σ->Prop)(aU:∀x∈l,∀s,ok s->(step s x).2=true->ok (step s x).1)
 (h:∀x∈l,∀s,ok s->jP Tryz.prog g (.d x.d::aV) base (H s) (H (step s x).1) (.d (.bool (step s x).2))) (s:σ) (iT:ok s):
 jP Tryz.prog 171 [.d (.sl (l.map Tm.d)), .func (.func g) [] aV] base (H s) (H (aq step s l).1) (.d (.bool (aq step s l).2)):=by
 intro o nx hI K X hK
 have jX:∀r∈V.aJ aV,r<nx:=fun r hr=>Nat.lt_of_lt_of_le (hc r hr) hI.le
 refine cZ.aG mix Oy aK ?_
 rw[RZ]
 refine ck ?_
 refine aC (fun i:Nat×σ×(Nat->ab)×Nat=>⟨aW [.aa, .func (.func g) [] aV, .aa, .aa, .aa, .aa, .aa, .d (.sl (l.map Tm.d)), .d (.i l.length), .d (.i i.1)],i.2.2.1,i.2.2.2⟩)
  (fun i=>i.1<=l.length/\cF base (H i.2.1) i.2.2.1 i.2.2.2/\nx<=i.2.2.2/\(∀id,base<=id->id<nx->i.2.2.1 id=o id)/\aq step s l=aq step i.2.1 (l.drop i.1)/\ok i.2.1) (fun i=>l.length - i.1) (0,s,o,nx)
  ⟨Nat.zero_le _,hI,Nat.le_refl _,fun _ _ _=>rfl,rfl,iT⟩ ?_ ?_
 ·exact J7
 rintro⟨k,s',o',nx'⟩ ⟨hk,uh,hn,cJ,hf,iJ⟩
 simp only at hk uh hn cJ hf iJ
 refine ck ?_
 refine ai (fun h1=> ?_) (fun h1=> ?_)
 ·simp at h1
  obtain⟨x,hx⟩:=aB h1
  have eC:=List.mem_of_getElem? hx
  have hd:l.drop k=x::l.drop (k+1):=by
   exact Ve
  refine JT hx ?_
  have hl0:=uh.le
  refine fi (h x eC s' iJ _ _ (?_:cF base (H s') _ (nx'+7)) _ _ fun o2 n2 m1 m2 m3=> ?_)
  ·exact UI
  have Is:∀id,base<=id->id<nx->o2 id=o id:=fun id h2 h3=>by
   exact UX
  refine ck ?_
  refine ai (fun h2=> ?_) (fun h2=> ?_)
  ·refine ck ?_
   simp at h2
   have:aq step s l=((step s' x).1,false):=by rw[hf,hd,aq,if_neg (by rw[h2];exact Bool.false_ne_true)]
   rw[this]at hK
   exact hK _ _ ag (m2.mono ag) Is
  ·refine ck ?_
   simp at h2
   have:aq step s l=aq step (step s' x).1 (l.drop (k+1)):=by rw[hf,hd,aq,if_pos h2]
   refine aj (k+1,(step s' x).1,o2,n2) ⟨h1,m2,by dsimp only;omega,Is,this,aU x eC s' iJ h2⟩ nQ ?_
   dsimp only
   have It:∀r∈V.aJ aV,r<n2:=fun r hr=>by have:=jX r hr;omega
   refine bf.bC _ ag ag m2.bB (fun _ _=>rfl) ?_
   exact cN
 ·exact VC
theorem xA{α σ:Type}(step:σ->α->σ×Bool)(a b:List α):∀s,aq step s (a++b)=if(aq step s a).2=true then aq step (aq step s a).1 b else((aq step s a).1,false):=by
 induction a with
 |nil=>intro s;simp[aq]
 |cons x a ih=>
  intro s
  simp only[List.cons_append,aq]
  split
  ·exact ih _
  ·rename_i h;simp
theorem tn{α β σ:Type}(step:σ->β->σ×Bool)(f:α->List β)(l:List α):∀s,aq step s (l.flatMap f)=aq (fun s x=>aq step s (f x)) s l:=by
 induction l with
 |nil=>intro s;rfl
 |cons x l ih=>intro s;simp only[List.flatMap_cons,xA,aq,ih]
theorem yi{α σ:Type}{step:σ->α->σ×Bool}{ok:σ->Prop}:∀ (l:List α),(∀x∈l,∀s,ok s->(step s x).2=true->ok (step s x).1)->∀s,ok s->(aq step s l).2=true->ok (aq step s l).1
 |[],_,s,h,_=>h
 |x::l,aU,s,h,h2=>by
  simp only[aq]at h2|-
  split at h2
  ·rename_i hb
   rw[if_pos hb]
   exact yi l (fun y hy=>aU y rY) _ (aU x aK s h hb) h2
  ·cases h2
def T9(P:Program)(mf:Nat)(args:List V)(base:Nat)(h h2:Nat->ab)(v:V):Prop:=
 ∀o nx,cF base h o nx->∀K X,YZ base h2 v o nx K->dc P mf args o nx K X
section
variable {σ:Type}(base mf:Nat)(H:σ->Nat->ab)(step:σ->Tm×Int->σ×Bool)(ok:σ->Prop)
theorem Lt:∀t:Tm,t.fits->∀d:Int,0<=d->d+t.la<=1000000->(∀x∈pre t d,∀s,ok s->(step s x).2=true->ok (step s x).1)->(∀x∈pre t d,∀s,ok s->T9 Tryz.prog mf [.d x.1.d, .d (.i x.2)] base (H s) (H (step s x).1) (.d (.bool (step s x).2)))->mf<base->
 ∀ (c:Nat) (o0:Nat->ab) (yb vb:Nat),base<=c->base<=yb->yb<c->base<=vb->vb<c->o0 yb= .row [.ir mf]->o0 vb= .row [.func (.func 175) [] [.ptr yb 0, .ptr vb 0]]->
 ∀s,ok s->jP Tryz.prog 175 [.d t.d, .d (.i d), .ptr yb 0, .ptr vb 0] c (ext base (H s) o0) (ext base (H (aq step s (pre t d)).1) o0) (.d (.bool (aq step s (pre t d)).2)):=by
 refine Tm.dy fun t ih hf d hd0 hd aU hR tp c o0 yb vb Ua JN hy JO hv oy ov s iT=> ?_
 have jG:=(Tm.bg _).1 hf
 intro o nx hI K X hK
 have hle:=hI.le
 have Lu:o yb= .row [.ir mf]:=by rw[hI.eq yb hy];unfold ext;rw[if_neg (by omega),oy]
 have Lv:o vb= .row [.func (.func 175) [] [.ptr yb 0, .ptr vb 0]]:=by rw[hI.eq vb hv];unfold ext;rw[if_neg (by omega),ov]
 have y1:yb≠nx:=ag
 have y2:∀k,yb≠nx+k:=fun k=>ag
 have y3:vb≠nx:=ag
 have y4:∀k,vb≠nx+k:=fun k=>ag
 refine cZ.aG mix OC aK ?_
 rw[R3]
 simp+contextual only[go_sem,Lu,Lv,y1,y2,y3,y4,Nat.add_assoc,Nat.left_eq_add,Nat.add_eq_left,Nat.add_left_cancel_iff]
 have ra:=iX t d
 have jk:∀k∈t.kids,∀x∈pre k (d+1),x∈pre t d:=fun k hk x hx=>by
  exact Mu
 have hb:∀id,id<base->o id=H s id:=fun id au=>by rw[hI.eq id (by omega)];unfold ext;rw[if_pos au]
 have Y1:cF base (H s) o nx:=⟨hI.bB,ag,hb⟩
 refine me (hR (t,d) ym s iT _ _ ((Y1.aA (i:=nx) (m:=nx+6) ag ag ag rfl).aA (i:=nx+1) ag ag ag rfl) _ _ fun o2 n2 m1 m2 m3=> ?_)
 have k0:o2 nx= .row t.row:=by rw[m3 nx (by omega) (by omega),af _ _ _ _ (by omega),ad]
 have k1:o2 (nx+1)= .row [.d (.i d)]:=by rw[m3 (nx+1) (by omega) (by omega),ad]
 have hold:∀id,base<=id->id<nx->o2 id=o id:=fun id h1 h2=>by rw[m3 id h1 (by omega),af _ _ _ _ (by omega),af _ _ _ _ (by omega)]
 have Be:∀id,base<=id->id<c->o id=o0 id:=fun id h1 h2=>by rw[hI.eq id h2];unfold ext;rw[if_neg (by omega)]
 cases Ag:(step s (t,d)).2 with
 |false=>
  refine jj Ag ?_
  have vK:aq step s (pre t d)=((step s (t,d)).1,false):=by rw[ra,aq,if_neg (by rw[Ag];exact Bool.false_ne_true)]
  rw[vK]at hK
  refine hK _ _ ag ⟨m2.bB.mono ag,ag,fun id au=> ?_⟩ (fun id h1 h2=>hold id ag h2)
  unfold ext
  split
  ·exact m2.eq id nS
  ·exact Gh
 |true=>
  have vK:aq step s (pre t d)=aq (fun s k=>aq step s (pre k (d+1))) (step s (t,d)).1 t.kids:=by rw[ra,aq,if_pos Ag,tn]
  simp+contextual only[go_sem,Ag,k0,k1]
  have q0:o2 yb= .row [.ir mf]:=by rw[hold yb JN (by omega),Lu]
  have q1:o2 vb= .row [.func (.func 175) [] [.ptr yb 0, .ptr vb 0]]:=by rw[hold vb JO (by omega),Lv]
  have m0:=m2.le
  refine br (Af t.kids jG.1 176 [.ptr vb 0, .ptr (nx+1) 0] n2 (fun s=>ext base (H s) o2) (fun s k=>aq step s (pre k (d+1))) ?_ ok ?_ ?_ (step s (t,d)).1 (aU (t,d) ym s iT Ag) _ _ ?_ _ _ ?_)
  ·simp[V.aJ,V.refs];omega
  ·exact U4
  ·intro k hk s' jl o3 n3 Z6 K3 X3 hK3
   have l3:=Z6.le
   have r0:o3 vb= .row [.func (.func 175) [] [.ptr yb 0, .ptr vb 0]]:=by rw[Z6.eq vb (by omega)];unfold ext;rw[if_neg (by omega),q1]
   have r1:o3 (nx+1)= .row [.d (.i d)]:=by rw[Z6.eq (nx+1) (by omega)];unfold ext;rw[if_neg (by omega),k1]
   have y5:vb≠n3:=ag
   have y6:∀k,vb≠n3+k:=fun k=>ag
   have y7:nx+1≠n3:=ag
   have y8:∀k,nx+1≠n3+k:=fun k=>ag
   have hh:=Tm.mG hk
   refine cZ.aG mix OD aK ?_
   rw[R4]
   simp+contextual only[go_sem,r0,r1,y5,y6,y7,y8]
   rw[wrap64 (n:=d+1) (by omega) (by omega)]
   refine br (ih k hk (jG.2 k hk) (d+1) ag ag (fun x hx=>aU x (jk k hk x hx)) (fun x hx=>hR x (jk k hk x hx)) tp n2 o2 yb vb ag JN ag JO ag q0 q1 s' jl _ _ (Z6.aA (i:=n3) (m:=n3+6) ag ag ag rfl) _ _ fun o4 n4 p1 p2 p3=> ?_)
   refine ck ?_
   refine hK3 _ _ ag (p2.mono ag) (fun id h1 h2=> ?_)
   rw[p3 id h1 (by omega),af _ _ _ _ (by omega)]
  ·exact(m2.mono ag).ext ag ag
  ·intro o5 n5 p1 p2 p3
   refine ck ?_
   rw[<- vK]
   refine hK _ _ ag ⟨p2.bB.mono ag,ag,fun id au=> ?_⟩ (fun id h1 h2=> ?_)
   ·rw[p2.eq id (by omega), <- vK]
    unfold ext
    split
    ·rfl
    ·exact Gh
   ·exact MR
theorem Iu(t:Tm)(hf:t.fits)(hd:t.la<=900000)(aU:∀x∈pre t 1,∀s,ok s->(step s x).2=true->ok (step s x).1)(hR:∀x∈pre t 1,∀s,ok s->T9 Tryz.prog mf [.d x.1.d, .d (.i x.2)] base (H s) (H (step s x).1) (.d (.bool (step s x).2)))(tp:mf<base)(tb:Nat)(Bh:tb<base)(s:σ)(iT:ok s)(bG:H s tb= .row t.row):
 jP Tryz.prog 174 [.ir mf, .ptr tb 0] base (H s) (H (aq step s (pre t 1)).1) (.bP []):=by
 intro o nx hI K X hK
 have hle:=hI.le
 have ot:o tb= .row t.row:=by rw[hI.eq tb Bh,bG]
 have y1:tb≠nx:=ag
 have y2:∀k,tb≠nx+k:=fun k=>ag
 refine cZ.aG mix OB aK ?_
 rw[R2]
 refine Pf ot y1 y2 ?_
 have Y2:cF base (H s) (aA (aA (aA o nx (.row [.ir mf])) (nx+1) (.row [.d .bV])) (nx+1) (.row [.func (.func 175) [] [.ptr nx 0, .ptr (nx+1) 0]])) (nx+6):=by
  refine((hI.aA (i:=nx) (m:=nx+6) ag ag ag ?_).aA (i:=nx+1) (m:=nx+6) ag ag ag rfl).aA (i:=nx+1) ag ag ag ?_
  ·exact Gv
  ·exact lA
 refine br (Lt base mf H step ok t hf 1 ag ag aU hR tp (nx+6) _ nx (nx+1) ag hle ag ag ag ?_ ?_ s iT _ _ (Y2.ext (Nat.le_refl _) ag) _ _ ?_)
 ·exact eO
 ·exact eO
 intro o2 n2 m1 m2 m3
 refine ck ?_
 refine hK _ _ ag ⟨m2.bB,ag,fun id au=> ?_⟩ (fun id h1 h2=> ?_)
 ·exact Gi
 ·exact PS
end
theorem Ah(t:Tm)(o:Nat->ab)(nx:Nat)(K X:V->(Nat->ab)->Nat->Prop)(h:K (.func (.func 174) [] [.ptr nx 0]) (aA o nx (.row t.row)) (nx+4)):cZ Tryz.prog 160 [.d t.d] o nx K X:=by
 refine cZ.aG mix Ou aK ?_
 rw[RV]
 refine ck ?_
 exact h
end
def Iv:Option jh->eK
 |none=> .normal
 |some .ret=> .ret
 |some (.exit j)=> .exit j
def vL{σ:Type}(J:σ->Option jh)(step:σ->Tm×Int->σ)(s:σ)(x:Tm×Int):σ×Bool:=(step s x,(J (step s x)).isNone)
theorem xB{σ:Type}(J:σ->Option jh)(step:σ->Tm×Int->σ):∀ (l:List (Tm×Int)) (s:σ),J s=none->(aq (vL J step) s l).2=(J (aq (vL J step) s l).1).isNone
 |[],s,h=>by simp[aq,h]
 |x::l,s,h=>by
  simp only[aq]
  split
  ·rename_i hb
   exact xB J step l _ (by simpa[vL]using hb)
  ·rename_i hb
   cases hj:J (step s x)with
   |none=>exact absurd (by simp[vL,hj]) hb
   |some j=>simp[vL,hj]
theorem qP{σ:Type}(t:Tm)(hf:t.fits)(hd:t.la<=900000){n bq:Nat}{gq:Operand}{ps:List Nat}{iL eI:IC}{Q:eK->S->Prop}{e:Nat->V}{o:Nat->ab}{nx tb:Nat}(env:List V)(he:lg e env 0)
 (mH:ps.all (fun t=>decide (t<n))=true) (hl:ps.length=2) (hg:Good o nx) (hrefs:∀r∈V.aJ env,r<nx) (ht:o tb= .row t.row)
 (G:σ->Nat->ab) (J:σ->Option jh) (step:σ->Tm×Int->σ) (ok:σ->Prop) (s0:σ) (iT:ok s0) (S9:J s0=none) (h0:∀id,id<nx->o id=G s0 id) (aU:∀x∈pre t 1,∀s,ok s->J s=none->J (step s x)=none->ok (step s x))
 (nC:∀L,gx Tryz.prog n env ps iL eI L->(∀st pd m,nx<=m->(L st pd).refs.all (fun r=>decide (r<m))=true)->∀x∈pre t 1,∀s,ok s->J s=none->∀o3 n3,cF nx (G s) o3 n3->nx<n3->o3 nx=L .ready none->∀K X,
  (∀e' o' n' st pd,n3<=n'->cF nx (G (step s x)) o' n'->o' nx=L st pd->(∀id,nx<id->id<n3->o' id=o3 id)->ja nx K X (Iv (J (step s x))) ⟨e',o',n'⟩)->
  kN Tryz.prog n n3 true iL (nH Tryz.prog n n3 nx eI K X) ⟨lZ (aW env) ps [.d x.1.d, .d (.i x.2)],o3,n3⟩)
 (iV:∀o' n',cF nx (G (aq (vL J step) s0 (pre t 1)).1) o' n'->nB Q (J (aq (vL J step) s0 (pre t 1)).1) ⟨e,o',n'⟩):
 xi Tryz.prog n bq false gq ps iL eI Q ⟨e,o,nx⟩ (.func (.func 174) [] [.ptr tb 0]):=by
 refine Cb env he (fun L hL=> ?_)
 have Bh:tb<nx:=hg.lt GK
 let H:σ->Nat->ab:=fun s id=>if id<nx then G s id else if id=nx then(match J s with|none=>L .ready none|some j=>L .done (some j))else .no
 have Eg:∀s id,id<nx->H s id=G s id:=fun s id h=>if_pos h
 have JG:∀s,J s=none->H s nx=L .ready none:=fun s h=>by show(if nx<nx then _ else _)=_;rw[if_neg (by omega),if_pos rfl,h]
 have Pv:∀s j,J s=some j->H s nx=L .done (some j):=fun s j h=>by show(if nx<nx then _ else _)=_;rw[if_neg (by omega),if_pos rfl,h]
 have uL:∀st pd m,nx<=m->(L st pd).refs.all (fun r=>decide (r<m))=true:=fun st pd m hm=>by
  exact PN
 refine Iu (nx+1) nx H (vL J step) (fun s=>ok s/\J s=none) t hf hd (fun x hx s h1 h2=> ?_) (fun x hx s h1=> ?_) ag tb ag s0 ⟨iT,S9⟩ GI _ _ ⟨?_,Nat.le_refl _,fun id au=> ?_⟩ _ _ ?_
 ·have hj:J (step s x)=none:=by simpa[vL]using h2
  exact⟨aU x hx s h1.1 h1.2 hj,hj⟩
 ·intro o3 n3 hI K X hK
  have hle:=hI.le
  have F6:o3 nx=L .ready none:=by rw[hI.eq nx (by omega),JG s h1.2]
  refine tj hL mix F6 ag mH (by simp[hl]) ?_
  refine nC L hL uL x hx s h1.1 h1.2 o3 n3 ⟨hI.bB,ag,fun id au=>by rw[hI.eq id (by omega),Eg _ _ au]⟩ ag F6 K X (fun e' o' n' st pd k1 k2 k3 k4=> ?_)
  have key:∀st' pd' b,(J (step s x)).isNone=b->H (step s x) nx=L st' pd'->K (.d (.bool b)) (aA o' nx (L st' pd')) n':=fun st' pd' b hb hh=>by
   subst hb
   refine hK _ _ k1 ⟨k2.bB.aA ag (uL _ _ _ ag),ag,fun id au=> ?_⟩ (fun id g1 g2=> ?_)
   ·by_cases rW:id=nx
    ·exact Gw
    ·rw[af _ _ _ _ rW]
     show o' id=H (step s x) id
     exact Gn
   ·exact PB
  cases hj:J (step s x)with
  |none=>exact Py
  |some j=>
   cases j with
   |ret=>exact Pw
   |exit j=>exact Pu
 ·exact Px
 ·by_cases rW:id=nx
  ·exact GA
  ·exact Pt
 ·intro o' n' k1 k2 k3
  have hle:=k2.le
  generalize hsf:(aq (vL J step) s0 (pre t 1)).1=sf at*
  have kk:∀st pd,cF nx (G sf) (aA o' nx (L st pd)) n':=fun st pd=>⟨k2.bB.aA ag (uL _ _ _ ag),ag,fun id au=>by rw[af _ _ _ _ (by omega),k2.eq id (by omega),Eg _ _ au]⟩
  cases hj:J sf with
  |none=>
   refine⟨.ready,none,by rw[k2.eq nx (by omega),JG _ hj],(fun h=>by cases h), ?_⟩
   have:=iV _ _ (kk .exhausted none)
   rwa [hj]at this
  |some j=>
   refine⟨.done,some j,by rw[k2.eq nx (by omega),Pv _ _ hj],(fun h=>by cases h), ?_⟩
   have:=iV _ _ (kk .exhausted (some j))
   rwa [hj]at this
theorem ft(n low high:Int):aR Tryz.prog 127 [.i n, .i low, .i high] (.ret [.bool (dQ n low high)]):=by
 refine aR.aG mix Ob aK ?_
 rw[RF]
 refine ck ?_
 rfl
theorem Cd(s:bE)(t:Tm)(h:t.op=1):aR Tryz.prog 182 [s.d,t.d] (.ret [.bool (bd s t)]):=by
 have hn:bd s t=(dQ t.n 0 19&&(t.kids.length:Int)==0):=by simp[bd,h,Bool.and_comm]
 refine aR.aG mix OJ aK ?_
 rw[R9]
 exact PR
theorem Fe(s:bE)(t:Tm)(h:t.op=2):aR Tryz.prog 183 [s.d,t.d] (.ret [.bool (bd s t)]):=by
 have hn:bd s t=(dQ t.n (-1000000) 1000000&&(t.kids.length:Int)==0):=by simp[bd,h,Bool.and_comm]
 refine aR.aG mix OK aK ?_
 rw[Sa]
 exact PR
theorem Y3(s:bE)(t:Tm)(h:t.op=8):aR Tryz.prog 187 [s.d,t.d] (.ret [.bool (bd s t)]):=by
 have hn:bd s t=(dQ t.n 0 19&&(t.kids.length:Int)==2):=by simp[bd,h,Bool.and_comm]
 refine aR.aG mix OO aK ?_
 rw[Se]
 exact PR
theorem Sl(s:bE)(t:Tm)(h:t.op=6\/t.op=7\/t.op=9\/t.op=10\/t.op=11\/t.op=12\/t.op=13\/t.op=14\/t.op=15):aR Tryz.prog 188 [s.d,t.d] (.ret [.bool (bd s t)]):=by
 have hn:bd s t=(t.n==0&&(t.kids.length:Int)==2):=by
  rcases h with h|h|h|h|h|h|h|h|h<;>simp[bd,h,dQ,Bool.and_comm]
 refine aR.aG mix OP aK ?_
 rw[Sf]
 refine ck ?_
 rw[hn]
theorem Y4(s:bE)(t:Tm)(hs:s.Fits)(h:t.op=3):aR Tryz.prog 184 [s.d,t.d] (.ret [.bool (bd s t)]):=by
 have hn:bd s t=(dQ t.n 0 (s.cons.length - 1)&&(t.kids.length:Int)==eU s.cons t.n):=by simp[bd,h]
 refine aR.aG mix OL aK ?_
 rw[Sb]
 refine ck ?_
 rw[wrap64 (by have:=hs.lc;omega) (by have:=hs.lc;omega)]
 refine aQ (ft _ _ _) rfl ?_
 cases hI:dQ t.n 0 (s.cons.length - 1)with
 |false=>
  exact PM
 |true=>
  exact PG
theorem Y5(s:bE)(t:Tm)(hs:s.Fits)(h:t.op=4):aR Tryz.prog 185 [s.d,t.d] (.ret [.bool (bd s t)]):=by
 have hn:bd s t=(dQ t.n 0 (s.bu.length - 1)&&(t.kids.length:Int)==eU s.bu t.n):=by simp[bd,h]
 refine aR.aG mix OM aK ?_
 rw[Sc]
 refine ck ?_
 rw[wrap64 (by have:=hs.lf;omega) (by have:=hs.lf;omega)]
 refine aQ (ft _ _ _) rfl ?_
 cases hI:dQ t.n 0 (s.bu.length - 1)with
 |false=>
  exact PM
 |true=>
  exact PG
theorem Sm(s:bE)(t:Tm)(hs:s.Fits)(h:t.op=5):aR Tryz.prog 186 [s.d,t.d] (.ret [.bool (bd s t)]):=by
 have hn:bd s t=(dQ t.n 0 (s.bu.length - 1)&&decide ((t.kids.length:Int)<eU s.bu t.n)):=by simp[bd,h]
 refine aR.aG mix ON aK ?_
 rw[Sd]
 refine ck ?_
 rw[wrap64 (by have:=hs.lf;omega) (by have:=hs.lf;omega)]
 refine aQ (ft _ _ _) rfl ?_
 cases hI:dQ t.n 0 (s.bu.length - 1)with
 |false=>
  exact PM
 |true=>
  exact PG
@[reducible] def rf (n:Nat):V:= .func (.func n) [] []
@[reducible] def abO:List V:=[.d .bV,rf 182,rf 183,rf 184,rf 185,rf 186, .d .bV, .d .bV,rf 187, .d .bV, .d .bV, .d .bV, .d .bV, .d .bV, .d .bV, .d .bV]
@[reducible] def Ce:List V:=[.d .bV,rf 182,rf 183,rf 184,rf 185,rf 186,rf 188,rf 188,rf 187,rf 188,rf 188,rf 188,rf 188,rf 188,rf 188,rf 188]
def F9(k:Nat):List V:=Ce.take k++abO.drop k
theorem funcOf{P:Program}{t:TypeId}(h:(match P.underlying t with|some (.func _ _ _)=>true|_=>false)=true):∃a b c,P.underlying t=some (.func a b c):=by
 split at h
 ·exact⟨_,_,_,by assumption⟩
 ·cases h
@[go_sem] theorem abP (o:Nat->ab) (mS:Bool):ua Tryz.prog o 214 mS (.d .bV) (.d .bV)=some (.d (.bool true)):=by
  exact MT
@[go_sem] theorem abQ (o:Nat->ab) (mS:Bool) (f:Fn) (x y:List V):ua Tryz.prog o 214 mS (.func f x y) (.d .bV)=some (.d (.bool false)):=by
  exact MT
theorem Lw(base:Nat)(h:Nat->ab):jP Tryz.prog 181 [] base h h (.agg Ce):=by
 intro o nx hI K X hK
 have hle:=hI.le
 refine cZ.aG mix OI aK ?_
 rw[R8]
 simp+contextual only[go_sem,Nat.add_assoc,Nat.left_eq_add,Nat.add_eq_left,Nat.add_left_cancel_iff]
 refine aC (fun k:Nat=>⟨aW [.ptr nx 0, .ptr (nx+2) 0, .aa, .aa, .d (.i k)],aA (aA o nx (.row (List.replicate 16 (.d .bV)))) (nx+2) (.row (F9 k)),nx+5⟩)
  (fun k=>k<=16) (fun k=>16 - k) 0 (Nat.zero_le _) ?_ (fun k hk=> ?_)
 ·refine bf.bC _ ag ag ?_ (fun id au=> ?_) ?_
  ·exact((hI.bB.mono ag).aA ag rfl).aA ag rfl
  ·rw[fI];rfl
  ·exact cN
 have hg:∀k,k<16->Good (aA (aA o nx (.row (List.replicate 16 (.d .bV)))) (nx+2) (.row (F9 (k+1)))) (nx+5):=fun k hk=>
  ((hI.bB.mono ag).aA ag rfl).aA ag (by
    rcases(by omega:k=0\/k=1\/k=2\/k=3\/k=4\/k=5\/k=6\/k=7\/k=8\/k=9\/k=10\/k=11\/k=12\/k=13\/k=14\/k=15)with rfl|rfl|rfl|rfl|rfl|rfl|rfl|rfl|rfl|rfl|rfl|rfl|rfl|rfl|rfl|rfl<;>rfl)
 by_cases abR:k=16
 ·subst abR
  refine Us ?_
  refine hK _ _ ?_ ⟨?_, ?_,fun id au=> ?_⟩ (fun id h1 h2=> ?_)
  rotate_left
  ·exact(((hI.bB.mono ag).aA ag rfl).aA ag rfl).aA ag rfl
  ·omega
  ·(repeat(first|rfl|rw[ad]|rw[af _ _ _ _ (by omega)]))
   exact hI.eq id au
  ·exact eO
  ·omega
 ·have hgk:=hg k ag
  obtain⟨k1,V6⟩:∃k1,k1=k+1:=⟨_,rfl⟩
  rw[<- V6]at hgk
  rcases(by omega:k=0\/k=1\/k=2\/k=3\/k=4\/k=5\/k=6\/k=7\/k=8\/k=9\/k=10\/k=11\/k=12\/k=13\/k=14\/k=15)with rfl|rfl|rfl|rfl|rfl|rfl|rfl|rfl|rfl|rfl|rfl|rfl|rfl|rfl|rfl|rfl
  all_goals
   refine Us ?_
   refine aj k1 ag ag (bf.bC _ ag ag hgk (fun id au=> ?_) ?_)
   all_goals subst V6
   ·first|rfl|(rw[fI];rfl)
   ·exact cN
def Iw(n:Int):Nat:=if n=1 then 182 else if n=2 then 183 else if n=3 then 184 else if n=4 then 185 else if n=5 then 186 else if n=8 then 187 else 188
theorem Sn(s:bE)(t:Tm)(hs:s.Fits)(h:dQ t.op 1 15=true):aR Tryz.prog (Iw t.op) [s.d,t.d] (.ret [.bool (bd s t)])/\Ce[t.op.toNat]? =some (rf (Iw t.op))/\0<=t.op/\t.op<16:=by
 simp[dQ]at h
 rcases(by omega:t.op=1\/t.op=2\/t.op=3\/t.op=4\/t.op=5\/t.op=8\/(t.op=6\/t.op=7\/t.op=9\/t.op=10\/t.op=11\/t.op=12\/t.op=13\/t.op=14\/t.op=15))with h|h|h|h|h|h|h
 ·exact⟨by rw[h];exact Cd s t h,by rw[h];rfl,ag,ag⟩
 ·exact⟨by rw[h];exact Fe s t h,by rw[h];rfl,ag,ag⟩
 ·exact⟨by rw[h];exact Y4 s t hs h,by rw[h];rfl,ag,ag⟩
 ·exact⟨by rw[h];exact Y5 s t hs h,by rw[h];rfl,ag,ag⟩
 ·exact⟨by rw[h];exact Sm s t hs h,by rw[h];rfl,ag,ag⟩
 ·exact⟨by rw[h];exact Y3 s t h,by rw[h];rfl,ag,ag⟩
 ·have hp:=Sl s t h
  rcases h with h|h|h|h|h|h|h|h|h<;>exact⟨by rw[h];exact hp,by rw[h];rfl,ag,ag⟩
def mX(s:bE)(n:Int)(x:Tm×Int):Bool:=decide (40<n+1)||decide (12<x.2)|| !dQ x.1.op 1 15|| !bd s x.1
def fK(s:bE)(n:Int×Bool)(x:Tm×Int):Int×Bool:=(n.1+1, !mX s n.1 x)
def fJ(n:Int×Bool):Option jh:=if n.2=true then none else some .ret
def kR(s:bE)(t:Tm):Bool:=(aq (vL fJ (fK s)) (0,true) (pre t 1)).2
theorem Ix(s:bE)(hs:s.Fits)(t:Tm)(hf:t.fits)(hd:t.la<=900000):aR Tryz.prog 173 [s.d,t.d] (.ret [.bool (kR s t)]):=by
 refine aR.aG mix OA aK ?_
 rw[R1]
 refine ck ?_
 refine fh (Lw 3 _ _ _ (?_:cF 3 (aA (aA (aA (fun _=> .no) 0 (.row s.row)) 1 (.row t.row)) 2 (.row [.d (.bool false)])) _ 3) _ _ fun o2 n2 m1 m2 m3=> ?_)
 ·exact⟨eH,Nat.le_refl _,fun _ _=>rfl⟩
 have p0:o2 0= .row s.row:=m2.eq 0 ag
 have p1:o2 1= .row t.row:=m2.eq 1 ag
 have p2:o2 2= .row [.d (.bool false)]:=m2.eq 2 ag
 have e0:0≠n2:=ag
 have e1:1≠n2:=ag
 have e2:2≠n2:=ag
 have e3:∀k,0≠n2+k:=fun k=>ag
 have e4:∀k,1≠n2+k:=fun k=>ag
 have e5:∀k,2≠n2+k:=fun k=>ag
 simp+contextual only[go_sem,p0,p1,p2,e0,e1,e2,e3,e4,e5,Nat.add_assoc,Nat.left_eq_add,Nat.add_eq_left,Nat.add_left_cancel_iff]
 refine fh (Ah t _ _ _ _ ?_)
 refine ck ?_
 have hG0:∀n,Good (aA (aA (aA (aA (aA (aA o2 n2 (.row (List.replicate 16 (.d .bV)))) (n2+1) (.row [.d (.i 0)])) n2 (.row Ce)) (n2+1) (.row [.d (.i 0)])) (n2+5) (.row t.row)) (n2+1) (.row [.d (.i n)])) (n2+9):=fun n=>by
  have hg:=m2.bB
  exact eH
 refine qP t hf hd [.aa, .aa, .ptr 0 0, .aa, .ptr 2 0, .ptr n2 0, .ptr (n2+1) 0] ?_ cl rfl ?_ (by simp[V.aJ,V.refs];omega) (ad _ _ _)
  (fun s=>aA (aA (aA (aA (aA (aA o2 n2 (.row (List.replicate 16 (.d .bV)))) (n2+1) (.row [.d (.i 0)])) n2 (.row Ce)) (n2+1) (.row [.d (.i 0)])) (n2+5) (.row t.row)) (n2+1) (.row [.d (.i s.1)]))
  fJ (fK s) (fun s=>0<=s.1/\s.1<=40) (0,true) ⟨cl,cl⟩ rfl ?_ ?_ ?_ ?_
 ·exact Eb
 ·have hg:=m2.bB
  exact eH
 ·intro id au
  by_cases h:id=n2+1
  ·subst h;(repeat(first|rfl|rw[ad]|rw[af _ _ _ _ (by omega)]))
  ·rw[af _ _ _ _ h];rfl
 ·intro x hx s' h1 h2 h3
  have:mX s s'.1 x=false:=by simpa[fJ,fK]using h3
  simp[mX]at this
  simp only[fK]
  omega
 ·intro L hL uL x hx s' h1 h2 o3 n3 hI hn ho K X cm
  simp only[lZ]
  have hg:=hI.bB
  have q0:o3 0= .row s.row:=by
   rw[hI.eq 0 (by omega)];(repeat(first|rfl|rw[ad]|rw[af _ _ _ _ (by omega)]))
   exact p0
  have q2:o3 2= .row [.d (.bool false)]:=by
   exact VH
  have q3:o3 n2= .row Ce:=by rw[hI.eq n2 (by omega)];(repeat(first|rfl|rw[ad]|rw[af _ _ _ _ (by omega)]))
  have q4:o3 (n2+1)= .row [.d (.i s'.1)]:=by rw[hI.eq (n2+1) (by omega)];(repeat(first|rfl|rw[ad]|rw[af _ _ _ _ (by omega)]))
  have fin:∀ (o':Nat->ab) (n':Nat),(∀id,id<n2+5+4->o' id=aA o3 (n2+1) (.row [.d (.i (s'.1+1))]) id)->Good o' n'->n3<=n'->cF (n2+5+4) (aA (aA (aA (aA (aA (aA o2 n2 (.row (List.replicate 16 (.d .bV)))) (n2+1) (.row [.d (.i 0)])) n2 (.row Ce)) (n2+1) (.row [.d (.i 0)])) (n2+5) (.row t.row)) (n2+1) (.row [.d (.i (fK s s' x).1)])) o' n':=by
   intro o' n' k1 k2 k3
   refine⟨k2,ag,fun id au=> ?_⟩
   rw[k1 id au]
   by_cases h:id=n2+1
   ·subst h;rw[ad,ad];rfl
   ·rw[af _ _ _ _ h,af _ _ _ _ h,hI.eq id au,af _ _ _ _ h]
  refine ck ?_
  refine kb hL (pd:=none) ?_ ?_
  ·(repeat(first|rfl|rw[ad]|rw[af _ _ _ _ (by omega)]))
   exact ho
  cases c1:decide (40<s'.1+1)with
  |true=>
   have hJ:fJ (fK s s' x)=some .ret:=by simp[fJ,fK,mX,c1]
   rw[hJ]at cm
   simp+contextual (disch:=first|omega|simp only[go_sem,false_implies]) only[go_sem,wrap64,if_pos,q0,q2,q3,q4,c1]
   exact zw4
  |false=>
  cases c2:decide (12<x.2)with
  |true=>
   have hJ:fJ (fK s s' x)=some .ret:=by simp[fJ,fK,mX,c2]
   rw[hJ]at cm
   simp+contextual (disch:=first|omega|simp only[go_sem,false_implies]) only[go_sem,wrap64,if_pos,q0,q2,q3,q4,c1,c2]
   exact zw4
  |false=>
  cases c3:dQ x.1.op 1 15 with
  |false=>
   have hJ:fJ (fK s s' x)=some .ret:=by simp[fJ,fK,mX,c3]
   rw[hJ]at cm
   simp+contextual (disch:=first|omega|simp only[go_sem,false_implies]) only[go_sem,wrap64,if_pos,q0,q2,q3,q4,c1,c2]
   refine aQ (ft _ _ _) rfl ?_
   simp+contextual (disch:=first|omega|simp only[go_sem,false_implies]) only[go_sem,wrap64,if_pos,q0,q2,q3,q4,c1,c2,c3]
   exact zw4
  |true=>
  obtain⟨r1,r2,r3,r4⟩:=Sn s x.1 hs c3
  simp+contextual (disch:=first|omega|simp only[go_sem,false_implies]) only[go_sem,wrap64,if_pos,q0,q2,q3,q4,c1,c2]
  refine aQ (ft _ _ _) rfl ?_
  simp+contextual (disch:=first|omega|simp only[go_sem,false_implies]) only[go_sem,wrap64,if_pos,q0,q2,q3,q4,c1,c2,c3,r2,r3,r4,Nat.mul_one]
  refine aQ r1 rfl ?_
  simp+contextual (disch:=first|omega|simp only[go_sem,false_implies]) only[go_sem,wrap64,if_pos,q0,q2,q3,q4,c1,c2,c3]
  refine aO (aP rfl) ?_
  cases c4:bd s x.1 with
  |false=>
   have hJ:fJ (fK s s' x)=some .ret:=by simp[fJ,fK,mX,c4]
   rw[hJ]at cm
   simp+contextual (disch:=first|omega|simp only[go_sem,false_implies]) only[go_sem,wrap64,if_pos,q2,c4]
   refine cm _ _ _ .busy none ag (fin _ _ (fun id au=>S8) eH ag) eO (fun id h3 h4=>by(repeat(first|rfl|rw[ad]|rw[af _ _ _ _ (by omega)])))
  |true=>
   have hJ:fJ (fK s s' x)=none:=by simp[fJ,fK,mX,c1,c2,c3,c4]
   rw[hJ]at cm
   simp+contextual (disch:=first|omega|simp only[go_sem,false_implies]) only[go_sem,wrap64,if_pos,c4]
   refine cm _ _ _ .busy none ag (fin _ _ (fun id au=>S8) eH ag) eO (fun id h3 h4=>by(repeat(first|rfl|rw[ad]|rw[af _ _ _ _ (by omega)])))
 ·intro o' n' hI
  have q2:o' 2= .row [.d (.bool false)]:=by
   exact VH
  rw[show kR s t=(fJ (aq (vL fJ (fK s)) (0,true) (pre t 1)).1).isNone from xB _ _ _ _ rfl]
  generalize (aq (vL fJ (fK s)) (0,true) (pre t 1)).1=sf at*
  cases hj:fJ sf with
  |none=>
   simp only[nB]
   refine gD q2 ?_
   rfl
  |some j=>
   have:j= .ret:=by
    unfold fJ at hj;split at hj
    ·cases hj
    ·injection hj with hj;exact hj.symm
   subst this
   simp only[nB]
   refine gD q2 ?_
   rfl
section
def enc{κ:Type}(kf:κ->D)(m:List (κ×D)):List (D×D):=m.map fun p=>(kf p.1,p.2)
def eV{κ:Type}[BEq κ](k:κ):List (κ×D)->Nat->Option (Nat×D)
 |[],_=>none
 |p::m,i=>if(k==p.1)=true then some (i,p.2)else eV k m (i+1)
def uC{κ:Type}[BEq κ](k:κ)(x:D)(m:List (κ×D)):List (κ×D):=match eV k m 0 with|some (i,_)=>m.set i (k,x)|none=>m++[(k,x)]
def Y6{κ:Type}[BEq κ](k:κ)(m:List (κ×D)):List (κ×D):=match eV k m 0 with|some (i,_)=>m.eraseIdx i|none=>m
def uD(d:D)(r:Option (Nat×D)):Option (Nat×D×D):=match r with|some (i,x)=>some (i,d,x)|none=>none
@[go_sem] theorem Ub (d:D) (i:Nat) (x:D):uD d (some (i,x))=some (i,d,x):=rfl
@[go_sem] theorem Uc (d:D):uD d none=none:=rfl
section
variable {P:Program}{kt:TypeId}
theorem Lx(h:bF P kt=some .int)(a b:Int):nN P 100 kt (.int .i64 a) (.int .i64 b)=some (a==b):=by simp[nN,h]
theorem Ly(h:bF P kt=some .str)(a b:List UInt8):nN P 100 kt (.str a) (.str b)=some (a==b):=by simp[nN,h]
@[go_sem] theorem DD (h:bF P kt=some .int) (a:Int):mT P 100 kt (.int .i64 a)=true:=by simp[mT,h]
@[go_sem] theorem Z7 (h:bF P kt=some .str) (a:List UInt8):mT P 100 kt (.str a)=true:=by simp[mT,h]
theorem tq{κ:Type}[BEq κ][LawfulBEq κ](kf:κ->D)(he:∀a b,nN P 100 kt (kf a) (kf b)=some (a==b))(k:κ):∀ (m:List (κ×D)) (i:Nat),findD P kt (kf k) (enc kf m) i=some (uD (kf k) (eV k m i))
 |[],_=>rfl
 |p::m,i=>by
  have ih:=tq kf he k m (i+1)
  simp only[enc,List.map_cons,findD,he,eV]at ih|-
  by_cases h:k=p.1
  ·subst h;simp[uD]
  ·have:(k==p.1)=false:=by simpa using h
   simp only[this,Bool.false_eq_true,if_false];exact ih
@[go_sem] theorem Ai (h:bF P kt=some .int) (k:Int) (m:List (Int×D)):findD P kt (.int .i64 k) (enc (.int .i64) m) 0=some (uD (.int .i64 k) (eV k m 0)):=tq (.int .i64) (Lx h) k m 0
@[go_sem] theorem Y7 (h:bF P kt=some .str) (k:List UInt8) (m:List (List UInt8×D)):findD P kt (.str k) (enc .str m) 0=some (uD (.str k) (eV k m 0)):=tq .str (Ly h) k m 0
end
section
variable {κ:Type}(kf:κ->D)
theorem Iy(m:List (κ×D))(k:κ)(x:D):enc kf m++[(kf k,x)]=enc kf (m++[(k,x)]):=by simp[enc]
theorem DE(m:List (κ×D))(i:Nat)(k:κ)(x:D):(enc kf m).set i (kf k,x)=enc kf (m.set i (k,x)):=by simp[enc,List.map_set]
theorem vM:∀ (m:List (κ×D)) (i:Nat),(enc kf m).eraseIdx i=enc kf (m.eraseIdx i)
 |[],i=>rfl
 |p::m,0=>rfl
 |p::m,i+1=>by
  have:=vM m i
  simp only[enc,List.map_cons,List.eraseIdx_cons_succ]at this|-
  rw[this]
theorem Lz(m:List (κ×D)):(((enc kf m).map (·.1)).zip ((enc kf m).map (·.2)))=enc kf m:=by
 induction m with
 |nil=>rfl
 |cons p m ih=>simp only[enc,List.map_cons,List.zip_cons_cons]at ih|-;rw[ih]
theorem Ff{K:V->List (Nat×ab)->Prop}{id:Nat}{m:List (κ×D)}(h0:m=[]->K (.bP [.d (.bool false)]) [])
 (h1:∀ (i:Nat) k x,m[i]? =some (k,x)->K (.bP [.d (.bool true), .d (kf k), .d x]) [(id, .np (enc kf (m.eraseIdx i)) (some (kf k,x)))]):Df K id (enc kf m):=by
 refine⟨fun h=>h0 ?_,fun i k x h=> ?_⟩
 ·cases m with
  |nil=>rfl
  |cons p m=>simp[enc]at h
 ·simp only[enc,List.getElem?_map]at h
  cases hm:m[i]? with
  |none=>rw[hm]at h;cases h
  |some p=>
   rw[hm]at h
   simp at h
   obtain⟨rfl,rfl⟩:=h
   have:=h1 i p.1 p.2 (by rw[hm])
   rwa [<- vM]at this
end
theorem Aj{κ:Type}[BEq κ][LawfulBEq κ]{k:κ}:∀ {m:List (κ×D)} {i j:Nat} {x:D},eV k m i=some (j,x)->i<=j/\m[j - i]? =some (k,x)
 |[],_,_,_,h=>by cases h
 |p::m,i,j,x,h=>by
  simp only[eV]at h
  split at h
  ·rename_i hk
   injection h with h;injection h with h1 h2
   subst h1;subst h2
   exact⟨Nat.le_refl _,by simp[(by simpa using hk:k=p.1)]⟩
  ·obtain⟨h1,h2⟩:=Aj h
   refine⟨ag, ?_⟩
   rw[show j - i=(j - (i+1))+1 by omega]
   simpa using h2
theorem vN{κ:Type}[BEq κ][LawfulBEq κ]{k:κ}:∀ {m:List (κ×D)} {i:Nat},eV k m i=none↔∀p∈m,p.1≠k
 |[],_=>by simp[eV]
 |p::m,i=>by
  simp only[eV]
  split
  ·rename_i hk
   simp[(by simpa using hk:k=p.1)]
  ·rename_i hk
   rw[vN]
   have:p.1≠k:=fun e=>hk (by simp[e])
   simp[this]
def oR(P:Program)(o:Nat->ab)(t:TypeId)(m k v:V):Option eR:=
 match pM P t,dp o k,dp o v,m9 o m with
 |some (kt,_),some kd,some vd,some (some (id,CN,CO),l)=>if k.ids=[]/\mT P 100 kt kd=true/\jF kd=true/\v.ids.all (· !=id)=true then match findD P kt kd l 0 with
  |some (some (i,k',_))=>if k'.same kd=true then some (.bP [],bZ o v.ids++[(id, .map CN CO (l.set i (kd,vd)))],id::v.ids)else none
  |some none=>some (.bP [],bZ o v.ids++[(id, .map CN CO (l++[(kd,vd)]))],id::v.ids)
  |none=>none
  else none
 |_,_,_,_=>none
@[go_sem low] theorem vO (P:Program) (o:Nat->ab) (t:TypeId) (m v:V) (k:D):eJ P o t m (.d k) v=oR P o t m (.d k) v:=by unfold eJ oR;rfl
def tt(P:Program)(o:Nat->ab)(t:TypeId)(m k:V)(ok:Bool):Option eR:=
 match pM P t,dp o k,n6 o m with
 |some (kt,vt),some kd,some (rd,l)=>if k.ids=[]/\mT P 100 kt kd=true then match findD P kt kd l 0 with
  |some (some (_,_,x))=>some (if ok=true then .bP [.d x, .d (.bool true)]else .d x,[],rd)
  |some none=>match zeroV P vt with
   |some z=>some (if ok=true then .bP [z, .d (.bool false)]else z,[],rd)
   |none=>none
  |none=>none
  else none
 |_,_,_=>none
@[go_sem low] theorem mJ (P:Program) (o:Nat->ab) (t:TypeId) (m:V) (k:D) (ok:Bool):gB P o t m (.d k) ok=tt P o t m (.d k) ok:=by unfold gB tt;rfl
attribute [go_sem] tt oR mz lE lF na nb lG n6 m9 aap m8 jF D.same
end
theorem dec_lt{l:List UInt8}{i:Nat}{b:UInt8}(hb:l[i]? =some b)(h:b.toNat<128):Utf8.decode ⟨⟨l⟩⟩ i=(b.toNat,1):=by
 have e:(ByteArray.mk ⟨l⟩).get! i=b:=by
  show(Array.mk l)[i]! =b
  simp[hb]
 simp only[Utf8.decode,Nat.add_zero,e]
 rw[if_pos h]
theorem Sq{l:List UInt8}{i:Nat}{b:UInt8}(hb:l[i]? =some b)(h:128<=b.toNat):128<=(Utf8.decode ⟨⟨l⟩⟩ i).1:=by
 have e:(ByteArray.mk ⟨l⟩).get! i=b:=by
  show(Array.mk l)[i]! =b
  simp[hb]
 simp only[Utf8.decode,Nat.add_zero,e]
 rw[if_neg (by omega)]
 split
 ·split<;>simp_all[Utf8.runeError]
 ·split
  ·split
   ·rename_i h3;simp at h3;omega
   ·simp[Utf8.runeError]
  ·split
   ·split
    ·rename_i h3;simp at h3;omega
    ·simp[Utf8.runeError]
   ·simp[Utf8.runeError]
def LA(r:Int):Bool:=decide (97<=r)&&decide (r<=122)||decide (65<=r)&&decide (r<=90)
theorem Iz(b:UInt8):LA b.toNat=letterF b:=by
 rw[Bool.eq_iff_iff]
 simp[LA,letterF]
theorem Fg(s:List UInt8)(hs:s.length<=9223372036854775807):aR Tryz.prog 126 [.str s] (.ret [.bool (iY s)]):=by
 refine aR.aG mix Oa aK ?_
 rw[RE]
 refine qo ?_
 refine aC (fun k:Nat=>⟨aW [.d (.str s), .aa, .aa, .aa, .aa, .aa, .ptr 2 0],aA (fun _=> .no) 2 (.wx s k),3⟩)
  (fun k=>k<=s.length/\(s.take k).all letterF=true) (fun k=>s.length - k) 0 ⟨Nat.zero_le _,aK⟩ (bf.bC _ ag ag (Good.nil.aA ag rfl) (fun _ _=>rfl) ?_) (fun k hk=> ?_)
 ·exact cN
 by_cases h2:k<s.length
 ·obtain⟨b,hb⟩:=aB h2
  by_cases h3:b.toNat<128
  ·simp+contextual (disch:=first|omega|simp only[go_sem,false_implies]) only[go_sem,wrap64,if_pos,Nat.add_assoc,Nat.left_eq_add,Nat.add_eq_left,Nat.add_left_cancel_iff,h2,dec_lt hb h3]
   have hr:=Iz b
   simp only[LA]at hr
   rw[hr]
   cases hl:letterF b with
   |true=>
    refine bc ?_
    refine aj (k+1) ⟨h2,eD hb hk.2 hl⟩ ag (bf.bC _ ag ag (Good.nil.aA ag rfl) (fun _ _=>by rw[fI]) ?_)
    exact cN
   |false=>
    refine bc ?_
    simp[iY,cj hb hl]
  ·have hr:letterF b=false:=by
    rw[<- Iz];simp[LA];omega
   have hd:=Sq hb ag
   refine JR h2 ?_
   have:(decide (97<=((Utf8.decode ⟨⟨s⟩⟩ k).1:Int))&&decide (((Utf8.decode ⟨⟨s⟩⟩ k).1:Int)<=122)||decide (65<=((Utf8.decode ⟨⟨s⟩⟩ k).1:Int))&&decide (((Utf8.decode ⟨⟨s⟩⟩ k).1:Int)<=90))=false:=by
    rw[Bool.eq_false_iff];intro h;simp at h;omega
   rw[this]
   refine bc ?_
   simp[iY,cj hb hr]
 ·refine JR h2 ?_
  refine aD (ft _ _ _) rfl ?_
  refine bc ?_
  rw[iY,dY hk.2 (by omega),Bool.true_and]
theorem Ak{σ:Type}(l:List il)(hl:l.length<=9223372036854775807)(g:Nat)(aV:List V)(base:Nat)(H:σ->Nat->ab)(step:σ->il->σ×Bool)(hc:∀r∈V.aJ aV,r<base)(ok:σ->Prop)(aU:∀x∈l,∀s,ok s->(step s x).2=true->ok (step s x).1)
 (h:∀x∈l,∀s,ok s->jP Tryz.prog g (.d x.d::aV) base (H s) (H (step s x).1) (.d (.bool (step s x).2))) (s:σ) (iT:ok s):
 jP Tryz.prog 128 [.d (.sl (l.map il.d)), .func (.func g) [] aV] base (H s) (H (aq step s l).1) (.d (.bool (aq step s l).2)):=by
 intro o nx hI K X hK
 have jX:∀r∈V.aJ aV,r<nx:=fun r hr=>Nat.lt_of_lt_of_le (hc r hr) hI.le
 refine cZ.aG mix Oc aK ?_
 rw[RG]
 refine ck ?_
 refine aC (fun i:Nat×σ×(Nat->ab)×Nat=>⟨aW [.aa, .func (.func g) [] aV, .aa, .aa, .aa, .aa, .aa, .d (.sl (l.map il.d)), .d (.i l.length), .d (.i i.1)],i.2.2.1,i.2.2.2⟩)
  (fun i=>i.1<=l.length/\cF base (H i.2.1) i.2.2.1 i.2.2.2/\nx<=i.2.2.2/\(∀id,base<=id->id<nx->i.2.2.1 id=o id)/\aq step s l=aq step i.2.1 (l.drop i.1)/\ok i.2.1) (fun i=>l.length - i.1) (0,s,o,nx)
  ⟨Nat.zero_le _,hI,Nat.le_refl _,fun _ _ _=>rfl,rfl,iT⟩ ?_ ?_
 ·exact J7
 rintro⟨k,s',o',nx'⟩ ⟨hk,uh,hn,cJ,hf,iJ⟩
 simp only at hk uh hn cJ hf iJ
 refine ck ?_
 refine ai (fun h1=> ?_) (fun h1=> ?_)
 ·simp at h1
  obtain⟨x,hx⟩:=aB h1
  have eC:=List.mem_of_getElem? hx
  have hd:l.drop k=x::l.drop (k+1):=by
   exact Ve
  refine JT hx ?_
  have hl0:=uh.le
  refine fi (h x eC s' iJ _ _ (?_:cF base (H s') _ (nx'+7)) _ _ fun o2 n2 m1 m2 m3=> ?_)
  ·exact UI
  have Is:∀id,base<=id->id<nx->o2 id=o id:=fun id h2 h3=>by
   exact UX
  refine ck ?_
  refine ai (fun h2=> ?_) (fun h2=> ?_)
  ·refine ck ?_
   simp at h2
   have:aq step s l=((step s' x).1,false):=by rw[hf,hd,aq,if_neg (by rw[h2];exact Bool.false_ne_true)]
   rw[this]at hK
   exact hK _ _ ag (m2.mono ag) Is
  ·refine ck ?_
   simp at h2
   have:aq step s l=aq step (step s' x).1 (l.drop (k+1)):=by rw[hf,hd,aq,if_pos h2]
   refine aj (k+1,(step s' x).1,o2,n2) ⟨h1,m2,by dsimp only;omega,Is,this,aU x eC s' iJ h2⟩ nQ ?_
   dsimp only
   have It:∀r∈V.aJ aV,r<n2:=fun r hr=>by have:=jX r hr;omega
   refine bf.bC _ ag ag m2.bB (fun _ _=>rfl) ?_
   exact cN
 ·exact VC
def nJ(l:List (List UInt8)):List (List UInt8×D):=l.map fun s=>(s, .bool true)
theorem Fh(l:List (List UInt8))(s:List UInt8):nJ l++[(s, .bool true)]=nJ (l++[s]):=by simp[nJ]
theorem Fi{l:List (List UInt8)}{s:List UInt8}{i:Nat}{x:D}(h:eV s (nJ l) 0=some (i,x)):x= .bool true/\(nJ l).set i (s, .bool true)=nJ l/\l.any (· ==s)=true:=by
 obtain⟨_,h2⟩:=Aj h
 rw[Nat.sub_zero]at h2
 simp only[nJ,List.getElem?_map]at h2
 cases hl:l[i]? with
 |none=>rw[hl]at h2;cases h2
 |some y=>
  rw[hl]at h2
  simp at h2
  obtain⟨rfl,rfl⟩:=h2
  refine⟨rfl, ?_, ?_⟩
  ·apply List.ext_getElem?
   intro j
   rw[List.getElem?_set]
   split
   ·rename_i e;subst e
    obtain⟨cc,hy⟩:=List.getElem?_eq_some_iff.1 hl
    simp[nJ,cc,hy]
   ·rfl
  ·exact List.any_eq_true.2 ⟨y,List.mem_of_getElem? hl,aK⟩
theorem Fj{l:List (List UInt8)}{s:List UInt8}(h:eV s (nJ l) 0=none):l.any (· ==s)=false:=by
 rw[vN]at h
 rw[List.any_eq_false]
 intro x hx hs
 have:=h (x, .bool true) (by simp[nJ];exact hx)
 simp at hs;exact this hs
def LB(bs:List (List UInt8))(x:il):Bool:= !bs.any (· ==x.name)&&iY x.name&&dQ x.args 0 4
def gy(bs:List (List UInt8))(x:il):List (List UInt8)×Bool:=(if bs.any (· ==x.name)=true then bs else bs++[x.name],LB bs x)
theorem Sr(x:il)(hx:x.name.length<=9223372036854775807)(base mp id:Nat)(h:Nat->ab)(hmp:h mp= .row [.mp id])(h1:mp<base)(h2:id<base)(h3:id≠mp)(bs:List (List UInt8)):
 jP Tryz.prog 125 [.d x.d, .ptr mp 0] base (aA h id (.map 9 4 (enc .str (nJ bs)))) (aA h id (.map 9 4 (enc .str (nJ (gy bs x).1)))) (.d (.bool (gy bs x).2)):=by
 intro o nx hI K X hK
 have hle:=hI.le
 have hg:=hI.bB
 have q0:o mp= .row [.mp id]:=by rw[hI.eq mp h1,af _ _ _ _ (by omega),hmp]
 have q1:o id= .map 9 4 (enc .str (nJ bs)):=by rw[hI.eq id h2,ad]
 refine cZ.aG mix N9 aK ?_
 rw[RD]
 cases ha:eV x.name (nJ bs) 0 with
 |none=>
  have hn:=Fj ha
  have hs:gy bs x=(bs++[x.name],iY x.name&&dQ x.args 0 4):=by simp[gy,LB,hn]
  rw[hs]at hK
  refine Ba q0 q1 ha ?_
  refine aD (Fg _ hx) rfl ?_
  refine bc ?_
  refine eT (dX [.bool (dQ x.args 0 4)] ?_ ?_)
  ·refine bc ?_
   exact fun _=>ft _ _ _
  refine bc ?_
  rw[Iy,Fh]
  refine hK _ _ ag ⟨eH,ag,fun j hj=> ?_⟩ (fun j g1 g2=>by(repeat(first|rfl|rw[ad]|rw[af _ _ _ _ (by omega)])))
  ·by_cases e:j=id
   ·exact Ed
   ·exact UW
 |some p=>
  obtain⟨i,y⟩:=p
  obtain⟨rfl,e1,hn⟩:=Fi ha
  have hs:gy bs x=(bs,false):=by simp[gy,LB,hn]
  rw[hs]at hK
  refine Ba q0 q1 ha ?_
  rw[DE,e1]
  refine hK _ _ ag ⟨eH,ag,fun j hj=> ?_⟩ (fun j g1 g2=>by(repeat(first|rfl|rw[ad]|rw[af _ _ _ _ (by omega)])))
  ·by_cases e:j=id
   ·exact Ed
   ·exact UW
theorem nK:∀ (l:List il) (bs:List (List UInt8)),match bN l bs with|some B=>aq gy bs l=(B,true)|none=>(aq gy bs l).2=false
 |[],bs=>rfl
 |x::l,bs=>by
  have ih:=nK l (bs++[x.name])
  simp only[bN,aq,gy,LB]
  by_cases h1:bs.any (· ==x.name)=true
  ·simp[h1]
  ·simp only[Bool.not_eq_true]at h1
   simp only[h1,Bool.false_eq_true,if_false,Bool.not_false,Bool.true_and]
   by_cases h2:(iY x.name&&dQ x.args 0 4)=true
   ·have h3: ¬ ((!iY x.name|| !dQ x.args 0 4)=true):=by simp at h2;simp[h2]
    rw[if_neg h3,if_pos h2]
    exact ih
   ·have h3:(!iY x.name|| !dQ x.args 0 4)=true:=by
     cases hn:iY x.name<;>simp_all
    rw[if_pos h3,if_neg h2]
def m4(ok:Bool):Int:=if ok=true then 0 else 2
@[reducible] def Fk (s:bE) (bs:List (List UInt8)):Nat->ab:=aA (aA (aA (fun _=> .no) 0 (.row s.row)) 3 (.row [.mp 2])) 2 (.map 9 4 (enc .str (nJ bs)))
theorem tu(s:bE)(hs:s.Fits):aR Tryz.prog 97 [s.d] (.ret [.i (m4 (iw s))]):=by
 refine aR.aG mix Xu aK ?_
 rw[c97]
 refine qo ?_
 refine aD (ft _ _ _) rfl ?_
 refine qo ?_
 cases h1:(!dQ s.cons.length 2 12||decide (8<(s.bu.length:Int)))with
 |true=>
  have:iw s=false:=by simp only[iw,h1,if_true]
  refine gD h1 ?_
  simp[this,m4]
 |false=>
  have Nl:=nK s.cons []
  have Y8:∀ (l:List il),(∀x∈l,x.name.length<=9223372036854775807)->∀x∈l,∀bs,True->jP Tryz.prog 125 (.d x.d::[.ptr 3 0]) 4 (Fk s bs) (Fk s (gy bs x).1) (.d (.bool (gy bs x).2)):=fun l hl x hx bs _=>
   Sr x (hl x hx) 4 3 2 (aA (aA (fun _=> .no) 0 (.row s.row)) 3 (.row [.mp 2])) (ad _ _ _) ag ag ag bs
  simp[dQ]at h1
  obtain⟨a,b,r,hc⟩:∃a b r,s.cons=a::b::r:=by
   match h:s.cons with
   |[]=>exact CJ
   |[a]=>exact CJ
   |a::b::r=>exact⟨a,b,r,rfl⟩
  have om:(!dQ s.cons.length 2 12||decide (8<(s.bu.length:Int)))=false:=by simp[dQ];omega
  have Fc:iw s=if(!lq a fB|| !lq b tB)=true then false else match bN s.cons []with
   |none=>false
   |some l=>(bN s.bu l).isSome:=by
   unfold iw
   rw[if_neg (by rw[om];exact Bool.false_ne_true),hc]
   dsimp only
   rfl
  refine gD om ?_
  refine br (Ak s.cons hs.lc 125 [.ptr 3 0] 4 (Fk s) gy nP (fun _=>True) (fun _ _ _ _ _=>trivial) (Y8 s.cons hs.nc) [] trivial _ _ ⟨?_,ag,fun id au=> ?_⟩ _ _ fun o2 n2 m1 m2 m3=> ?_)
  ·exact eH
  ·rcases(by omega:id=0\/id=1\/id=2\/id=3)with rfl|rfl|rfl|rfl<;>rfl
  have p0:∀ {bs:List (List UInt8)} {o:Nat->ab} {n:Nat},cF 4 (Fk s bs) o n->o 0= .row s.row:=fun h=>h.eq 0 ag
  have p3:∀ {bs:List (List UInt8)} {o:Nat->ab} {n:Nat},cF 4 (Fk s bs) o n->o 3= .row [.mp 2]:=fun h=>h.eq 3 ag
  cases hn:bN s.cons []with
  |none=>
   rw[hn]at Nl
   simp only at Nl
   rw[Nl]
   refine qo ?_
   rw[Fc,hn]
   split<;>rfl
  |some B=>
   rw[hn]at Nl
   simp only at Nl
   rw[Nl]at m2|-
   simp+contextual (disch:=first|omega|simp only[go_sem,false_implies]) only[go_sem,wrap64,if_pos,Nat.add_assoc,Nat.left_eq_add,Nat.add_eq_left,Nat.add_left_cancel_iff,p0 m2]
   refine br (Ak s.bu hs.lf 125 [.ptr 3 0] 4 (Fk s) gy nP (fun _=>True) (fun _ _ _ _ _=>trivial) (Y8 s.bu hs.nf) B trivial _ _ (m2.mono ag) _ _ fun o4 n4 k1 k2 k3=> ?_)
   have GZ:=nK s.bu B
   cases hf:bN s.bu B with
   |none=>
    rw[hf]at GZ
    simp only at GZ
    rw[GZ]
    refine qo ?_
    rw[Fc,hn]
    simp only[hf]
    split<;>rfl
   |some C=>
    rw[hf]at GZ
    simp only at GZ
    rw[GZ]at k2|-
    simp+contextual (disch:=first|omega|simp only[go_sem,false_implies]) only[go_sem,wrap64,if_pos,Nat.add_assoc,Nat.left_eq_add,Nat.add_eq_left,Nat.add_left_cancel_iff,p0 k2,hc]
    have OR:iw s= !(!lq a fB|| !lq b tB):=by
     rw[Fc,hn];simp only[hf]
     cases(!lq a fB|| !lq b tB)<;>rfl
    refine ai (fun h5=> ?_) (fun h5=> ?_)
    ·refine bc ?_
     have ub:(!lq a fB|| !lq b tB)=true:=h5
     rw[OR,ub];rfl
    ·refine bc ?_
     have ub:(!lq a fB|| !lq b tB)=false:=h5
     rw[OR,ub];rfl
def eB(s:bE)(l:List Tm):Bool:=iw s&&l.all (kR s)
theorem pA{α:Type}(p:α->Bool):∀ (l:List α) (u:Unit),aq (fun _ x=>((),p x)) u l=((),l.all p)
 |[],_=>rfl
 |x::l,u=>by
  simp only[aq,List.all_cons,pA p l]
  cases p x<;>rfl
theorem Cf(l:List Tm)(hl:l.length<=9223372036854775807)(g:Nat)(aV:List V)(base:Nat)(h:Nat->ab)(p:Tm->Bool)(hc:∀r∈V.aJ aV,r<base)
 (hp:∀x∈l,jP Tryz.prog g (.d x.d::aV) base h h (.d (.bool (p x)))):jP Tryz.prog 171 [.d (.sl (l.map Tm.d)), .func (.func g) [] aV] base h h (.d (.bool (l.all p))):=by
 have:=Af l hl g aV base (fun _:Unit=>h) (fun _ x=>((),p x)) hc (fun _=>True) (fun _ _ _ _ _=>trivial) (fun x hx _ _=>hp x hx) () trivial
 exact GG
structure Tm.Fin (t:Tm):Prop where
 fits:t.fits
 la:t.la<=900000
theorem IA(s:bE)(hs:s.Fits)(t:Tm)(ht:t.Fin)(base sp:Nat)(h:Nat->ab)(x7:h sp= .row s.row)(hb:sp<base):jP Tryz.prog 172 [.d t.d, .ptr sp 0] base h h (.d (.bool (kR s t))):=by
 intro o nx hI K X hK
 have hle:=hI.le
 have hg:=hI.bB
 have q0:o sp= .row s.row:=by rw[hI.eq sp hb,x7]
 refine cZ.aG mix Oz aK ?_
 rw[R0]
 refine gD q0 ?_
 refine aD (Ix s hs t ht.fits ht.la) rfl ?_
 exact Vl
theorem DF(s:bE)(hs:s.Fits)(l:List Tm)(hl:l.length<=9223372036854775807)(hf:∀t∈l,t.Fin):aR Tryz.prog 159 [s.d, .sl (l.map Tm.d)] (.ret [.bool (eB s l)]):=by
 refine aR.aG mix Ot aK ?_
 rw[RU]
 refine bc ?_
 refine aD (tu s hs) rfl ?_
 cases h1:iw s with
 |false=>
  refine A9 ?_
  simp[eB,h1]
 |true=>
  refine A9 ?_
  refine br (Cf l hl 172 [.ptr 0 0] 1 (aA (fun _=> .no) 0 (.row s.row)) (kR s) nP (fun x hx=>IA s hs x (hf x hx) 1 0 _ (ad _ _ _) ag) _ _ ⟨eH,ag,fun id au=>rfl⟩ _ _ fun o2 n2 m1 m2 m3=> ?_)
  refine bc ?_
  simp[eB,h1]
theorem LC(s:bE)(hs:s.Fits)(t:Tm)(ht:t.Fin):aR Tryz.prog 134 [s.d,t.d] (.ret [.i (m4 (eB s [t]))]):=by
 refine aR.aG mix Oi aK ?_
 rw[RM]
 refine bc ?_
 refine aD (DF s hs [t] aK (fun x hx=>by simp at hx;subst hx;exact ht)) rfl ?_
 cases h1:eB s [t]with
 |false=>exact Gf
 |true=>exact Gf
def Tm.Al (t:Tm):Int:=(pre t 1).length
structure Tm.Cg (t:Tm):Prop extends t.Fin where
 size:t.Al<=1000000
theorem Tm.Fin.Y9 {t k:Tm}(h:t.Fin)(hk:k∈t.kids):k.Fin:=⟨((Tm.bg _).1 h.fits).2 k hk,by have:=Tm.mG hk;have:=h.la;omega⟩
theorem qQ:∀ (t:Tm) (d d':Int),(pre t d).length=(pre t d').length:=by
 refine Tm.dy fun t ih d d'=> ?_
 rw[iX,iX]
 simp only[List.length_cons,List.length_flatMap]
 congr 2
 exact List.map_congr_left fun k hk=>ih k hk _ _
theorem Tm.Fl {t k:Tm}(hk:k∈t.kids):k.Al+1<=t.Al:=by
 simp only[Tm.Al]
 rw[iX t,qQ k 1 (1+1)]
 simp only[List.length_cons,List.length_flatMap]
 have:∀ (l:List Tm),k∈l->(pre k (1+1)).length<=(l.map fun k=>(pre k (1+1)).length).sum:=by
  intro l
  induction l with
  |nil=>intro h;cases h
  |cons x l ih=>
   intro h
   rcases List.mem_cons.1 h with rfl|h
   ·simp only[List.map_cons,List.sum_cons];omega
   ·have:=ih h;simp only[List.map_cons,List.sum_cons];omega
 have:=this _ hk
 omega
theorem Tm.Cg.Y9 {t k:Tm}(h:t.Cg)(hk:k∈t.kids):k.Cg:=⟨h.toFin.Y9 hk,by have:=Tm.Fl hk;have:=h.size;omega⟩
def Tm.sz (t:Tm):Nat:=(pre t 1).length
def fO(l:List Tm):Nat:=(l.map Tm.sz).sum
theorem Tm.oS (t:Tm):t.Al=(t.sz:Int):=rfl
theorem Tm.hZ (t:Tm):t.sz=1+fO t.kids:=by
 unfold Tm.sz fO
 rw[iX,List.length_cons,List.length_flatMap,Nat.add_comm]
 congr 2
 exact List.map_congr_left fun k hk=>qQ k _ _
theorem Tm.OS (op n:Int)(l:List Tm):(Tm.mk op n l).sz=1+fO l:=Tm.hZ _
theorem fL(k:Tm)(l:List Tm):fO (k::l)=k.sz+fO l:=by simp[fO]
theorem vP(k:Tm)(l:List Tm):Tm.kO (k::l)=Nat.max k.la (Tm.kO l):=by simp[Tm.kO]
theorem rO:∀ (l:List Tm) (n:Nat),Tm.kO l<=n↔∀k∈l,k.la<=n
 |[],n=>by simp[Tm.kO]
 |x::l,n=>by
  rw[vP]
  simp only[List.mem_cons,forall_eq_or_imp, <- rO l n]
  exact Nat.max_le
theorem Tm.Ch (t:Tm):t.la=1+Tm.kO t.kids:=by cases t;simp[Tm.la,Tm.kids]
theorem Fm:∀t:Tm,∀left depth:Int,gL t left depth=if(t.sz:Int)<=left/\(t.la:Int)<=depth then left - t.sz else -1:=by
 refine Tm.dy fun t ih left depth=> ?_
 have hs:∀ (l:List Tm) (left d:Int),(∀k∈l,k∈t.kids)->0<=left->0<=d->bY l left d=if(fO l:Int)<=left/\(Tm.kO l:Int)<=d then left - fO l else -1:=by
  intro l
  induction l with
  |nil=>intro left d _ h1 h2;simp[bY,fO,Tm.kO,h1,h2]
  |cons k l tl=>
   intro left d hk h1 h2
   simp only[bY,if_pos h1]
   rw[ih k (hk k (by simp))]
   have hm:(Tm.kO (k::l):Int)<=d↔(k.la:Int)<=d/\(Tm.kO l:Int)<=d:=by
    have:= @Nat.max_le k.la (Tm.kO l) d.toNat
    have e:Tm.kO (k::l)=max k.la (Tm.kO l):=vP k l
    rw[e];omega
   simp only[fL,hm]
   by_cases hc:(k.sz:Int)<=left/\(k.la:Int)<=d
   ·rw[if_pos hc,tl _ _ (fun x hx=>hk x (by simp[hx])) (by omega) h2]
    by_cases qB:(fO l:Int)<=left - k.sz/\(Tm.kO l:Int)<=d
    ·rw[if_pos qB,if_pos (by omega)];omega
    ·rw[if_neg qB,if_neg (by omega)]
   ·rw[if_neg hc,nI (by omega),if_neg (by omega)]
 rw[Ad,Tm.hZ,Tm.Ch]
 by_cases h:left<1\/depth<1
 ·rw[if_pos h,if_neg (by omega)]
 ·rw[if_neg h,hs _ _ _ (fun _ h=>h) (by omega) (by omega)]
  by_cases hc:(fO t.kids:Int)<=left - 1/\(Tm.kO t.kids:Int)<=depth - 1
  ·rw[if_pos hc,if_pos (by omega)];omega
  ·rw[if_neg hc,if_neg (by omega)]
theorem tv(t:Tm)(left depth:Int):0<=gL t left depth↔(t.sz:Int)<=left/\(t.la:Int)<=depth:=by
 rw[Fm];split<;>omega
theorem tw(t:Tm):jN t=true↔t.sz<=50/\t.la<=14:=by
 simp only[jN,decide_eq_true_eq,tv];omega
theorem Fo:∀ (t:Tm) (d m:Int),(∀x∈pre t d,x.2<=m)↔d+t.la - 1<=m:=by
 refine Tm.dy fun t ih d m=> ?_
 rw[iX,Tm.Ch]
 simp only[List.mem_cons,forall_eq_or_imp,List.mem_flatMap]
 have h1:(∀x:Tm×Int,(∃k,k∈t.kids/\x∈pre k (d+1))->x.2<=m)↔∀k∈t.kids,d+1+k.la - 1<=m:=by
  constructor
  ·intro h k hk
   exact(ih k hk _ _).1 fun x hx=>h x ⟨k,hk,hx⟩
  ·rintro h x ⟨k,hk,hx⟩
   exact(ih k hk _ _).2 (h k hk) x hx
 rw[h1]
 constructor
 ·rintro⟨h2,h3⟩
  have:=(rO t.kids (m - d).toNat).2 fun k hk=>by have:=h3 k hk;omega
  omega
 ·intro h
  have:=(rO t.kids (m - d).toNat).1 ag
  exact⟨ag,fun k hk=>by have:=this k hk;omega⟩
theorem DG(p:Tm->Bool):∀ (t:Tm) (d:Int),(pre t d).all (fun x=>p x.1)=(p t&&t.kids.all fun k=>(pre k (d+1)).all fun x=>p x.1):=by
 intro t d
 rw[iX,List.all_cons,List.all_flatMap]
theorem tx(s:bE):∀ (t:Tm) (d:Int),iZ s t=(pre t d).all fun x=>bd s x.1:=by
 refine Tm.dy fun t ih d=> ?_
 rw[DG (bd s),qa]
 congr 1
 exact MX
theorem IB{s:bE}{t:Tm}(h:bd s t=true):dQ t.op 1 15=true:=by
 rw[show dQ t.op 1 15=true↔1<=t.op/\t.op<=15 by simp[dQ]]
 by_cases h6:dQ t.op 6 15=true
 ·simp[dQ]at h6;omega
 ·simp only[bd,if_neg h6]at h
  by_cases h1:t.op=1
  ·omega
  by_cases h2:t.op=2
  ·omega
  by_cases h3:t.op=3
  ·omega
  by_cases h4:t.op=4
  ·omega
  by_cases h5:t.op=5
  ·omega
  by_cases h8:t.op=8
  ·omega
  rw[if_neg h1,if_neg h2,if_neg h3,if_neg h4,if_neg h5,if_neg h8]at h
  cases h
def tz(s:bE)(x:Tm×Int):Bool:= !(decide (12<x.2)|| !dQ x.1.op 1 15|| !bd s x.1)
theorem qR(s:bE):∀ (l:List (Tm×Int)) (n:Int) (b:Bool),(aq (vL fJ (fK s)) (n,b) l).2=(decide (l=[]\/n+l.length<=40)&&l.all (tz s))
 |[],n,b=>by simp[aq]
 |x::l,n,b=>by
  have e1:∀c,mX s n x=c->vL fJ (fK s) (n,b) x=((n+1, !c), !c):=fun c hc=>by show((n+1, !mX s n x),(fJ (n+1, !mX s n x)).isNone)=_;rw[hc];cases c<;>rfl
  have hb:mX s n x=(decide (40<n+1)|| !tz s x):=by simp[mX,tz,Bool.or_assoc]
  rw[List.all_cons]
  cases hg:tz s x with
  |false=>
   have e:mX s n x=true:=by rw[hb,hg];simp
   rw[aq,e1 _ e];simp
  |true=>
   by_cases h40:40<n+1
   ·have:decide (x::l=[]\/n+(x::l).length<=40)=false:=by simp;omega
    have e:mX s n x=true:=by rw[hb];simp[h40]
    rw[this,Bool.false_and,aq,e1 _ e];simp
   ·have e:mX s n x=false:=by rw[hb,hg];simp;omega
    rw[aq,e1 _ e]
    simp only[Bool.not_false,if_true,qR s l,Bool.true_and]
    congr 1
    cases l with
    |nil=>simp;omega
    |cons y l=>simp;omega
theorem Ci(s:bE)(t:Tm):kR s t=eG s t:=by
 rw[kR,qR,eG,tx s t 1,Bool.eq_iff_iff]
 have hn:pre t 1≠[]:=by rw[iX];simp
 simp only[Bool.and_eq_true,decide_eq_true_eq,hn,false_or,tv,List.all_eq_true]
 have hd:=Fo t 1 12
 constructor
 ·rintro⟨h1,h2⟩
  have h3:∀x∈pre t 1,x.2<=12:=fun x hx=>by have:=h2 x hx;simp[tz]at this;omega
  have:=hd.1 h3
  exact⟨⟨by unfold Tm.sz;omega,ag⟩,fun x hx=>by have:=h2 x hx;simp[tz]at this;exact this.2⟩
 ·rintro⟨⟨h1,h2⟩,h3⟩
  have h4:=hd.2 ag
  refine⟨by unfold Tm.sz at h1;omega,fun x hx=> ?_⟩
  have h5:=h4 x hx
  have h6:=h3 x hx
  have h7:=IB h6
  simp[tz,h6,h7];omega
def Za(s:bE)(t:Tm):Bool:=
 let k:Int:=t.kids.length
 if t.op=16 then t.n==0&&k==0
 else if t.op=1 then dQ t.n 0 199&&k==0
 else if t.op=2 then dQ t.n (-1000000) 1000000&&k==0
 else if t.op=3 then dQ t.n 0 (s.cons.length - 1)&&k==eU s.cons t.n
 else if t.op=5 then dQ t.n 0 (s.bu.length - 1)&&decide (k<eU s.bu t.n)
 else false
mutual
def Fq(s:bE):Tm->Bool
 | .mk op n kids=>DH s kids&&Za s (.mk op n kids)
def DH(s:bE):List Tm->Bool
 |[]=>true
 |k::l=>Fq s k&&DH s l
end
theorem vQ(s:bE):∀l:List Tm,DH s l=l.all (Fq s)
 |[]=>rfl
 |k::l=>by rw[DH,vQ s l];rfl
theorem LD(s:bE)(t:Tm):Fq s t=(t.kids.all (Fq s)&&Za s t):=by cases t;rw[Fq,vQ];rfl
def Pn(s:bE)(t:Tm):Prop:=Fq s t=true
theorem ID{s:bE}{t:Tm}:Pn s t↔Za s t=true/\∀k∈t.kids,Pn s k:=by
 unfold Pn;rw[LD,Bool.and_eq_true,List.all_eq_true];exact and_comm
theorem Pn.Y9 {s:bE}{t k:Tm}(h:Pn s t)(hk:k∈t.kids):Pn s k:=(ID.1 h).2 k hk
theorem LF{s:bE}{t:Tm}(h:Za s t=true)(h1:t.op=16\/t.op=1\/t.op=2):t.kids=[]/\(t.op=16->t.n=0):=by
 unfold Za at h
 rcases h1 with h1|h1|h1
 ·simp[h1]at h;exact⟨h.2,fun _=>h.1⟩
 ·simp[h1]at h;exact⟨h.2,fun e=>ag⟩
 ·simp[h1]at h;exact⟨h.2,fun e=>ag⟩
theorem Pn.bare {s:bE}{t:Tm}(h:Pn s t)(h1:t.op=16\/t.op=1\/t.op=2):t.kids=[]:=(LF (ID.1 h).1 h1).1
def uE{σ:Type}(step:σ->Tm->σ×Bool):σ->List Tm->Int->Int
 |_,[],_=> -1
 |s,x::l,k=>if(step s x).2=true then uE step (step s x).1 l (k+1)else k
theorem DI{σ:Type}(step:σ->Tm->σ×Bool):∀ (l:List Tm) (s:σ) (k:Int),0<=k->(0<=uE step s l k↔(aq step s l).2=false)
 |[],_,_,_=>by simp[uE,aq]
 |x::l,s,k,hk=>by
  have ih:=DI step l (step s x).1 (k+1) ag
  by_cases h:(step s x).2=true
  ·simp only[uE,aq,h,if_true];exact ih
  ·simp[uE,aq,h,hk]
theorem Ss{σ:Type}(l:List Tm)(hl:l.length<=9223372036854775807)(g:Nat)(aV:List V)(base:Nat)(H:σ->Nat->ab)(step:σ->Tm->σ×Bool)(hc:∀r∈V.aJ aV,r<base)(ok:σ->Prop)(aU:∀x∈l,∀s,ok s->(step s x).2=true->ok (step s x).1)
 (h:∀x∈l,∀s,ok s->jP Tryz.prog g (.d x.d::aV) base (H s) (H (step s x).1) (.d (.bool (!(step s x).2)))) (s:σ) (iT:ok s):
 jP Tryz.prog 150 [.d (.sl (l.map Tm.d)), .func (.func g) [] aV] base (H s) (H (aq step s l).1) (.d (.i (uE step s l 0))):=by
 intro o nx hI K X hK
 have jX:∀r∈V.aJ aV,r<nx:=fun r hr=>Nat.lt_of_lt_of_le (hc r hr) hI.le
 refine cZ.aG mix Oo aK ?_
 rw[RS]
 refine ck ?_
 refine aC (fun i:Nat×σ×(Nat->ab)×Nat=>⟨aW [.d (.sl (l.map Tm.d)), .func (.func g) [] aV, .aa, .aa, .aa, .aa, .aa, .d (.i l.length), .d (.i i.1)],i.2.2.1,i.2.2.2⟩)
  (fun i=>i.1<=l.length/\cF base (H i.2.1) i.2.2.1 i.2.2.2/\nx<=i.2.2.2/\(∀id,base<=id->id<nx->i.2.2.1 id=o id)/\aq step s l=aq step i.2.1 (l.drop i.1)/\ok i.2.1/\uE step s l 0=uE step i.2.1 (l.drop i.1) i.1) (fun i=>l.length - i.1) (0,s,o,nx)
  ⟨Nat.zero_le _,hI,Nat.le_refl _,fun _ _ _=>rfl,rfl,iT,rfl⟩ ?_ ?_
 ·exact J7
 rintro⟨k,s',o',nx'⟩ ⟨hk,uh,hn,cJ,hf,iJ,yn⟩
 simp only at hk uh hn cJ hf iJ yn
 refine ck ?_
 refine ai (fun h1=> ?_) (fun h1=> ?_)
 ·simp at h1
  obtain⟨x,hx⟩:=aB h1
  have eC:=List.mem_of_getElem? hx
  have hd:l.drop k=x::l.drop (k+1):=by
   exact Ve
  rw[hd]at hf yn
  simp only[aq,uE]at hf yn
  refine JT hx ?_
  refine fi (h x eC s' iJ _ _ (uh.mono ag) _ _ fun o2 n2 m1 m2 m3=> ?_)
  cases hb:(step s' x).2 with
  |true=>
   rw[hb]at hf yn
   simp only[if_true]at hf yn
   refine bc ?_
   have It:∀r∈V.aJ aV,r<n2+1+1:=fun r hr=>by have:=jX r hr;omega
   exact zw7
  |false=>
   exact VB
 ·exact MF
theorem qS{σ:Type}(l:List Tm)(hl:l.length<=9223372036854775807)(g:Nat)(aV:List V)(base:Nat)(H:σ->Nat->ab)(step:σ->Tm->σ×Bool)(hc:∀r∈V.aJ aV,r<base)(ok:σ->Prop)(aU:∀x∈l,∀s,ok s->(step s x).2=true->ok (step s x).1)
 (h:∀x∈l,∀s,ok s->jP Tryz.prog g (.d x.d::aV) base (H s) (H (step s x).1) (.d (.bool (!(step s x).2)))) (s:σ) (iT:ok s):
 jP Tryz.prog 106 [.d (.sl (l.map Tm.d)), .func (.func g) [] aV] base (H s) (H (aq step s l).1) (.d (.bool (!(aq step s l).2))):=by
 intro o nx hI K X hK
 have jX:∀r∈V.aJ aV,r<nx:=fun r hr=>Nat.lt_of_lt_of_le (hc r hr) hI.le
 refine cZ.aG mix N7 aK ?_
 rw[RB]
 refine qo ?_
 refine br (Ss l hl g aV base H step hc ok aU h s iT _ _ ?_ _ _ fun o2 n2 m1 m2 m3=> ?_)
 ·exact hI.mono ag
 refine qo ?_
 have e:decide (0<=uE step s l 0)= !(aq step s l).2:=by
  have:=DI step l s 0 ag
  exact MV
 rw[e]
 exact Mj
section
theorem Zb{x:Tm}{g:Nat}{aV:List V}{base c bx:Nat}{h h2 O:Nat->ab}{r:Bool}(hS:jP Tryz.prog g (.d x.d::aV) base h h2 (.d (.bool r)))(hb:base<=bx)(Ua:bx<c)(hO:O bx= .row [.func (.func g) [] aV])(hc:∀r∈V.aJ aV,r<base):
 jP Tryz.prog 161 [.d x.d, .ptr bx 0] c (ext base h O) (ext base h2 O) (.d (.bool (!r))):=by
 intro o nx hI K X hK
 have hle:=hI.le
 have jX:∀r∈V.aJ aV,r<nx:=fun r hr=>by have:=hc r hr;omega
 have ho:o bx= .row [.func (.func g) [] aV]:=by
  rw[hI.eq bx Ua];unfold ext;rw[if_neg (by omega),hO]
 have y1:∀k,bx≠nx+k:=fun k=>ag
 have y2:bx≠nx:=ag
 refine cZ.aG mix Ov aK ?_
 rw[RW]
 refine O8 ho y1 y2 ?_
 refine fi ((hS.ext (by omega:base<=c) O) _ _ ?_ _ _ fun o2 n2 m1 m2 m3=> ?_)
 ·exact hI.aA ag ag ag rfl
 refine qo ?_
 exact UL
theorem vR{σ:Type}(l:List Tm)(hl:l.length<=9223372036854775807)(g:Nat)(aV:List V)(base:Nat)(H:σ->Nat->ab)(step:σ->Tm->σ×Bool)(hc:∀r∈V.aJ aV,r<base)(ok:σ->Prop)(aU:∀x∈l,∀s,ok s->(step s x).2=true->ok (step s x).1)
 (h:∀x∈l,∀s,ok s->jP Tryz.prog g (.d x.d::aV) base (H s) (H (step s x).1) (.d (.bool (step s x).2))) (s:σ) (iT:ok s):
 jP Tryz.prog 133 [.d (.sl (l.map Tm.d)), .func (.func g) [] aV] base (H s) (H (aq step s l).1) (.d (.bool (aq step s l).2)):=by
 intro o nx hI K X hK
 have hle:=hI.le
 have jX:∀r∈V.aJ aV,r<nx:=fun r hr=>Nat.lt_of_lt_of_le (hc r hr) hI.le
 refine cZ.aG mix Oh aK ?_
 rw[RL]
 refine qo ?_
 refine br (qS l hl 161 [.ptr nx 0] (nx+1) (fun s=>ext base (H s) (aA o nx (.row [.func (.func g) [] aV]))) step nP ok aU (fun x hx s hs=>Zb (h x hx s hs) hle ag (ad _ _ _) hc) s iT _ _ ?_ _ _ fun o2 n2 m1 m2 m3=> ?_)
 ·have hr:(ab.row [V.func (.func g) [] aV]).refs.all (fun r=>decide (r<nx+4))=true:=by
   rw[List.all_eq_true]
   intro r hr
   have h1:r∈V.aJ aV:=by simpa[ab.refs,V.aJ,V.refs]using hr
   have:=jX r h1
   simp;omega
  exact Mn
 refine qo ?_
 refine hK _ _ ag ⟨(m2.mono ag).bB,by have:=m2.le;omega,fun id au=> ?_⟩ fun id i1 i2=> ?_
 ·exact Gi
 ·exact U0
mutual
def eN:Tm->List Tm
 | .mk op n kids=> .mk op n kids::LG kids
def LG:List Tm->List Tm
 |[]=>[]
 |k::l=>eN k++LG l
end
theorem vS:∀l:List Tm,LG l=l.flatMap eN
 |[]=>rfl
 |k::l=>by rw[LG,vS l];rfl
theorem gW(t:Tm):eN t=t::t.kids.flatMap eN:=by cases t;rw[eN,vS];rfl
section
variable {σ:Type}(base mf:Nat)(H:σ->Nat->ab)(step:σ->Tm->σ×Bool)(ok:σ->Prop)
theorem IE:∀t:Tm,t.fits->(∀x∈eN t,∀s,ok s->(step s x).2=true->ok (step s x).1)->(∀x∈eN t,∀s,ok s->T9 Tryz.prog mf [.d x.d] base (H s) (H (step s x).1) (.d (.bool (step s x).2)))->mf<base->
 ∀ (c:Nat) (o0:Nat->ab) (yb vb:Nat),base<=c->base<=yb->yb<c->base<=vb->vb<c->o0 yb= .row [.ir mf]->o0 vb= .row [.func (.func 178) [] [.ptr yb 0, .ptr vb 0]]->
 ∀s,ok s->jP Tryz.prog 178 [.d t.d, .ptr yb 0, .ptr vb 0] c (ext base (H s) o0) (ext base (H (aq step s (eN t)).1) o0) (.d (.bool (aq step s (eN t)).2)):=by
 refine Tm.dy fun t ih hf aU hR tp c o0 yb vb Ua JN hy JO hv oy ov s iT=> ?_
 have jG:=(Tm.bg _).1 hf
 intro o nx hI K X hK
 have hle:=hI.le
 have Lu:o yb= .row [.ir mf]:=by rw[hI.eq yb hy];unfold ext;rw[if_neg (by omega),oy]
 have Lv:o vb= .row [.func (.func 178) [] [.ptr yb 0, .ptr vb 0]]:=by rw[hI.eq vb hv];unfold ext;rw[if_neg (by omega),ov]
 have y1:yb≠nx:=ag
 have y2:∀k,yb≠nx+k:=fun k=>ag
 have y3:vb≠nx:=ag
 have y4:∀k,vb≠nx+k:=fun k=>ag
 refine cZ.aG mix OG aK ?_
 rw[R6]
 simp+contextual only[go_sem,Lu,Lv,y1,y2,y3,y4,Nat.add_assoc,Nat.left_eq_add,Nat.add_eq_left,Nat.add_left_cancel_iff]
 have ra:=gW t
 have jk:∀k∈t.kids,∀x∈eN k,x∈eN t:=fun k hk x hx=>by
  exact Mu
 have hb:∀id,id<base->o id=H s id:=fun id au=>by rw[hI.eq id (by omega)];unfold ext;rw[if_pos au]
 have Y1:cF base (H s) o nx:=⟨hI.bB,ag,hb⟩
 refine me (hR t ym s iT _ _ (Y1.aA (i:=nx) (m:=nx+4) ag ag ag rfl) _ _ fun o2 n2 m1 m2 m3=> ?_)
 have k0:o2 nx= .row t.row:=by rw[m3 nx (by omega) (by omega),ad]
 have hold:∀id,base<=id->id<nx->o2 id=o id:=fun id h1 h2=>by rw[m3 id h1 (by omega),af _ _ _ _ (by omega)]
 have Be:∀id,base<=id->id<c->o id=o0 id:=fun id h1 h2=>by rw[hI.eq id h2];unfold ext;rw[if_neg (by omega)]
 cases Ag:(step s t).2 with
 |false=>
  refine jj Ag ?_
  have vK:aq step s (eN t)=((step s t).1,false):=by rw[ra,aq,if_neg (by rw[Ag];exact Bool.false_ne_true)]
  rw[vK]at hK
  refine hK _ _ ag ⟨m2.bB.mono ag,ag,fun id au=> ?_⟩ (fun id h1 h2=>hold id ag h2)
  unfold ext
  split
  ·exact m2.eq id nS
  ·exact Gh
 |true=>
  have vK:aq step s (eN t)=aq (fun s k=>aq step s (eN k)) (step s t).1 t.kids:=by rw[ra,aq,if_pos Ag,tn]
  have q0:o2 yb= .row [.ir mf]:=by rw[hold yb JN (by omega),Lu]
  have q1:o2 vb= .row [.func (.func 178) [] [.ptr yb 0, .ptr vb 0]]:=by rw[hold vb JO (by omega),Lv]
  simp+contextual only[go_sem,Ag,k0,q1]
  have m0:=m2.le
  refine br (vR t.kids jG.1 178 [.ptr yb 0, .ptr vb 0] n2 (fun s=>ext base (H s) o2) (fun s k=>aq step s (eN k)) ?_ ok ?_ ?_ (step s t).1 (aU t ym s iT Ag) _ _ ?_ _ _ ?_)
  ·simp[V.aJ,V.refs];omega
  ·exact U4
  ·intro k hk s' jl
   exact ih k hk (jG.2 k hk) (fun x hx=>aU x (jk k hk x hx)) (fun x hx=>hR x (jk k hk x hx)) tp n2 o2 yb vb ag JN ag JO ag q0 q1 s' jl
  ·exact(m2.mono ag).ext ag ag
  ·intro o5 n5 p1 p2 p3
   refine ck ?_
   rw[<- vK]
   refine hK _ _ ag ⟨p2.bB.mono ag,ag,fun id au=> ?_⟩ (fun id h1 h2=> ?_)
   ·rw[p2.eq id (by omega), <- vK]
    unfold ext
    split
    ·rfl
    ·exact Gh
   ·exact MR
theorem Fs(t:Tm)(hf:t.fits)(aU:∀x∈eN t,∀s,ok s->(step s x).2=true->ok (step s x).1)(hR:∀x∈eN t,∀s,ok s->T9 Tryz.prog mf [.d x.d] base (H s) (H (step s x).1) (.d (.bool (step s x).2)))(tp:mf<base)(tb:Nat)(Bh:tb<base)(s:σ)(iT:ok s)(bG:H s tb= .row t.row):
 jP Tryz.prog 177 [.ir mf, .ptr tb 0] base (H s) (H (aq step s (eN t)).1) (.bP []):=by
 intro o nx hI K X hK
 have hle:=hI.le
 have ot:o tb= .row t.row:=by rw[hI.eq tb Bh,bG]
 have y1:tb≠nx:=ag
 have y2:∀k,tb≠nx+k:=fun k=>ag
 refine cZ.aG mix OE aK ?_
 rw[R5]
 refine Pf ot y1 y2 ?_
 have Y2:cF base (H s) (aA (aA (aA o nx (.row [.ir mf])) (nx+1) (.row [.d .bV])) (nx+1) (.row [.func (.func 178) [] [.ptr nx 0, .ptr (nx+1) 0]])) (nx+6):=by
  refine((hI.aA (i:=nx) (m:=nx+6) ag ag ag ?_).aA (i:=nx+1) (m:=nx+6) ag ag ag rfl).aA (i:=nx+1) ag ag ag ?_
  ·exact Gv
  ·exact lA
 refine br (IE base mf H step ok t hf aU hR tp (nx+6) _ nx (nx+1) ag hle ag ag ag ?_ ?_ s iT _ _ (Y2.ext (Nat.le_refl _) ag) _ _ ?_)
 ·exact eO
 ·exact eO
 intro o2 n2 m1 m2 m3
 refine ck ?_
 refine hK _ _ ag ⟨m2.bB,ag,fun id au=> ?_⟩ (fun id h1 h2=> ?_)
 ·exact Gi
 ·exact PS
end
theorem vT(t:Tm)(o:Nat->ab)(nx:Nat)(K X:V->(Nat->ab)->Nat->Prop)(h:K (.func (.func 177) [] [.ptr nx 0]) (aA o nx (.row t.row)) (nx+4)):cZ Tryz.prog 162 [.d t.d] o nx K X:=by
 refine cZ.aG mix Ow aK ?_
 rw[RX]
 refine ck ?_
 exact h
def xC{σ:Type}(J:σ->Option jh)(step:σ->Tm->σ)(s:σ)(x:Tm):σ×Bool:=(step s x,(J (step s x)).isNone)
theorem oT{σ:Type}(t:Tm)(hf:t.fits){n bq:Nat}{gq:Operand}{ps:List Nat}{iL eI:IC}{Q:eK->S->Prop}{e:Nat->V}{o:Nat->ab}{nx tb:Nat}(env:List V)(he:lg e env 0)
 (mH:ps.all (fun t=>decide (t<n))=true) (hl:ps.length=1) (hg:Good o nx) (hrefs:∀r∈V.aJ env,r<nx) (ht:o tb= .row t.row)
 (G:σ->Nat->ab) (J:σ->Option jh) (step:σ->Tm->σ) (ok:σ->Prop) (s0:σ) (iT:ok s0) (S9:J s0=none) (h0:∀id,id<nx->o id=G s0 id) (aU:∀x∈eN t,∀s,ok s->J s=none->J (step s x)=none->ok (step s x))
 (nC:∀L,gx Tryz.prog n env ps iL eI L->(∀st pd m,nx<=m->(L st pd).refs.all (fun r=>decide (r<m))=true)->∀x∈eN t,∀s,ok s->J s=none->∀o3 n3,cF nx (G s) o3 n3->nx<n3->o3 nx=L .ready none->∀K X,
  (∀e' o' n' st pd,n3<=n'->cF nx (G (step s x)) o' n'->o' nx=L st pd->(∀id,nx<id->id<n3->o' id=o3 id)->ja nx K X (Iv (J (step s x))) ⟨e',o',n'⟩)->
  kN Tryz.prog n n3 true iL (nH Tryz.prog n n3 nx eI K X) ⟨lZ (aW env) ps [.d x.d],o3,n3⟩)
 (iV:∀o' n',cF nx (G (aq (xC J step) s0 (eN t)).1) o' n'->nB Q (J (aq (xC J step) s0 (eN t)).1) ⟨e,o',n'⟩):
 xi Tryz.prog n bq false gq ps iL eI Q ⟨e,o,nx⟩ (.func (.func 177) [] [.ptr tb 0]):=by
 refine Cb env he (fun L hL=> ?_)
 have Bh:tb<nx:=hg.lt GK
 let H:σ->Nat->ab:=fun s id=>if id<nx then G s id else if id=nx then(match J s with|none=>L .ready none|some j=>L .done (some j))else .no
 have Eg:∀s id,id<nx->H s id=G s id:=fun s id h=>if_pos h
 have JG:∀s,J s=none->H s nx=L .ready none:=fun s h=>by show(if nx<nx then _ else _)=_;rw[if_neg (by omega),if_pos rfl,h]
 have Pv:∀s j,J s=some j->H s nx=L .done (some j):=fun s j h=>by show(if nx<nx then _ else _)=_;rw[if_neg (by omega),if_pos rfl,h]
 have uL:∀st pd m,nx<=m->(L st pd).refs.all (fun r=>decide (r<m))=true:=fun st pd m hm=>by
  exact PN
 refine Fs (nx+1) nx H (xC J step) (fun s=>ok s/\J s=none) t hf (fun x hx s h1 h2=> ?_) (fun x hx s h1=> ?_) ag tb ag s0 ⟨iT,S9⟩ GI _ _ ⟨?_,Nat.le_refl _,fun id au=> ?_⟩ _ _ ?_
 ·have hj:J (step s x)=none:=by simpa[xC]using h2
  exact⟨aU x hx s h1.1 h1.2 hj,hj⟩
 ·intro o3 n3 hI K X hK
  have hle:=hI.le
  have F6:o3 nx=L .ready none:=by rw[hI.eq nx (by omega),JG s h1.2]
  refine tj hL mix F6 ag mH (by simp[hl]) ?_
  refine nC L hL uL x hx s h1.1 h1.2 o3 n3 ⟨hI.bB,ag,fun id au=>by rw[hI.eq id (by omega),Eg _ _ au]⟩ ag F6 K X (fun e' o' n' st pd k1 k2 k3 k4=> ?_)
  have key:∀st' pd' b,(J (step s x)).isNone=b->H (step s x) nx=L st' pd'->K (.d (.bool b)) (aA o' nx (L st' pd')) n':=fun st' pd' b hb hh=>by
   subst hb
   refine hK _ _ k1 ⟨k2.bB.aA ag (uL _ _ _ ag),ag,fun id au=> ?_⟩ (fun id g1 g2=> ?_)
   ·by_cases rW:id=nx
    ·exact Gw
    ·rw[af _ _ _ _ rW]
     show o' id=H (step s x) id
     exact Gn
   ·exact PB
  cases hj:J (step s x)with
  |none=>exact Py
  |some j=>
   cases j with
   |ret=>exact Pw
   |exit j=>exact Pu
 ·exact Px
 ·by_cases rW:id=nx
  ·exact GA
  ·exact Pt
 ·intro o' n' k1 k2 k3
  have hle:=k2.le
  generalize hsf:(aq (xC J step) s0 (eN t)).1=sf at*
  have kk:∀st pd,cF nx (G sf) (aA o' nx (L st pd)) n':=fun st pd=>⟨k2.bB.aA ag (uL _ _ _ ag),ag,fun id au=>by rw[af _ _ _ _ (by omega),k2.eq id (by omega),Eg _ _ au]⟩
  cases hj:J sf with
  |none=>
   refine⟨.ready,none,by rw[k2.eq nx (by omega),JG _ hj],(fun h=>by cases h), ?_⟩
   have:=iV _ _ (kk .exhausted none)
   rwa [hj]at this
  |some j=>
   refine⟨.done,some j,by rw[k2.eq nx (by omega),Pv _ _ hj],(fun h=>by cases h), ?_⟩
   have:=iV _ _ (kk .exhausted (some j))
   rwa [hj]at this
end
section
def Ft(l:List (D×D)):List (Int×D):=l.map fun p=>((match p.1 with| .int _ n=>n|_=>0),p.2)
def Su(l:List (D×D)):Bool:=l.all fun p=>match p.1 with| .int .i64 _=>true|_=>false
@[go_sem] theorem Z8 (m:List (Int×D)):Ft (enc (D.int .i64) m)=m:=by
  unfold Ft enc;rw[List.map_map];simp[Function.comp_def]
@[go_sem] theorem Z9 (m:List (Int×D)):Su (enc (D.int .i64) m)=true:=by simp[Su,enc]
@[go_sem] theorem aaa:Su []=true:=rfl
@[go_sem] theorem aab:Ft []=[]:=rfl
theorem xD:∀ {l:List (D×D)},Su l=true->enc (D.int .i64) (Ft l)=l
 |[],_=>rfl
 |(k,x)::l,h=>by
  simp only[Su,List.all_cons,Bool.and_eq_true]at h
  have ih:=xD (l:=l) h.2
  obtain⟨n,h1⟩:∃n,k= .int .i64 n:=by
   have h1:=h.1
   split at h1
   ·exact⟨_,rfl⟩
   ·cases h1
  subst h1
  simp only[enc,Ft,List.map_cons]at ih|-
  rw[ih]
def mh(l:List Int):List (Int×D):=l.map fun n=>(n, .bool true)
@[go_sem] theorem Zc:mh []=[]:=rfl
def xE(l:List Int)(n:Int):List Int:=if l.contains n=true then l else l++[n]
theorem IF{l:List Int}{n k:Int}:k∈xE l n↔k∈l\/k=n:=by
 unfold xE
 split
 ·rename_i h
  have:n∈l:=by simpa using h
  constructor
  ·exact .inl
  ·rintro(h|rfl)<;>assumption
 ·simp
theorem oU:∀ (l:List Int) (n:Int) (i:Nat),eV n (mh l) i=(l.findIdx? (· ==n)).map fun j=>(i+j,D.bool true)
 |[],n,i=>rfl
 |x::l,n,i=>by
  have ih:=oU l n (i+1)
  simp only[mh,List.map_cons,eV,List.findIdx?_cons]at ih|-
  by_cases h:n=x
  ·subst h;simp
  ·have h2: ¬x=n:=fun e=>h e.symm
   simp only[beq_iff_eq,h,h2,if_false,ih,Option.map_map,Function.comp_def]
   congr 1;funext j;congr 1;omega
@[go_sem] theorem Ud (l:List Int) (n:Int):uC n (.bool true) (mh l)=mh (xE l n):=by
  unfold uC xE
  rw[oU]
  cases h:l.findIdx? (· ==n)with
  |none=>
   have:l.contains n=false:=by
    rw[List.findIdx?_eq_none_iff]at h
    rw[Bool.eq_false_iff];intro hc
    have:=h n (by simpa using hc)
    simp at this
   simp only[Option.map_none,this,Bool.false_eq_true,if_false]
   simp[mh]
  |some j=>
   rw[List.findIdx?_eq_some_iff_getElem]at h
   obtain⟨hj,he,_⟩:=h
   have e:l[j]=n:=by simpa using he
   have:l.contains n=true:=by rw[List.contains_iff_mem, <- e];exact List.getElem_mem hj
   simp only[Option.map_some,this,if_true,Nat.zero_add]
   apply List.ext_getElem?
   intro k
   rw[List.getElem?_set]
   split
   ·rename_i hk;subst hk;simp[mh,hj,e]
   ·rfl
def Zd(l:List Int)(n:Int):List Int:=match l.findIdx? (· ==n)with|some j=>l.eraseIdx j|none=>l
theorem kS{α β:Type}(f:α->β):∀ (l:List α) (j:Nat),(l.map f).eraseIdx j=(l.eraseIdx j).map f
 |[],_=>rfl
 |_::_,0=>rfl
 |x::l,j+1=>by simp[kS f l j]
@[go_sem] theorem Ue (l:List Int) (n:Int):Y6 n (mh l)=mh (Zd l n):=by
  unfold Y6 Zd
  rw[oU]
  cases h:l.findIdx? (· ==n)with
  |none=>simp
  |some j=>simp only[Option.map_some,Nat.zero_add];exact kS _ _ _
section
variable {P:Program}{o:Nat->ab}{t:TypeId}{id:Nat}{n:Int}{v:V}
def qb(P:Program)(kt:TypeId):Bool:=match bF P kt with|some .int=>true|_=>false
theorem vU{kt:TypeId}(h:qb P kt=true):bF P kt=some .int:=by
 unfold qb at h;split at h
 ·assumption
 ·cases h
@[go_sem] theorem Uf {kt:TypeId} (h:bF P kt=some .int):qb P kt=true:=by unfold qb;rw[h]
def Sv(P:Program)(o:Nat->ab)(t:TypeId)(id:Nat)(n:Int)(v:V):Option eR:=
 match pM P t,dp o v,o id with
 |some (kt,_),some vd, .map CN CO l=>match qb P kt&&Su l&&v.ids.all (· !=id)with
  |true=>some (.bP [],bZ o v.ids++[(id, .map CN CO (enc (D.int .i64) (uC n vd (Ft l))))],id::v.ids)
  |false=>oR P o t (.mp id) (.d (.int .i64 n)) v
 |_,_,_=>oR P o t (.mp id) (.d (.int .i64 n)) v
@[go_sem high] theorem Sw:eJ P o t (.mp id) (.d (.int .i64 n)) v=Sv P o t id n v:=by
  unfold Sv
  split
  ·rename_i kt vt vd CN CO l h1 h2 h3
   split
   ·rename_i hc
    simp only[Bool.and_eq_true]at hc
    obtain⟨⟨c1,c2⟩,c3⟩:=hc
    have c4:=vU c1
    have c5:dp o (.d (.int .i64 n))=some (.int .i64 n):=rfl
    have hl:=xD c2
    unfold eJ
    simp only[h1,c5,h2,m9,h3]
    rw[if_pos ⟨rfl,DD c4 n,rfl,c3⟩]
    conv=>lhs;rw[<- hl]
    rw[Ai c4]
    unfold uC
    cases eV n (Ft l) 0 with
    |none=>simp[uD,enc]
    |some p=>simp[uD,DE,D.same,m8]
   ·exact vO ..
  ·exact vO ..
attribute [go_sem] Sv
def Ug(l:List (D×D)):Bool:=l.all fun p=>match p.2 with| .bool true=>true|_=>false
@[go_sem] theorem aac (l:List Int):Ug (enc (D.int .i64) (mh l))=true:=by simp[Ug,enc,mh]
@[go_sem] theorem aad:Ug []=true:=rfl
theorem DJ:∀ {m:List (Int×D)},Ug (enc (D.int .i64) m)=true->mh (m.map (·.1))=m
 |[],_=>rfl
 |(k,x)::m,h=>by
  simp only[Ug,enc,List.map_cons,List.all_cons,Bool.and_eq_true]at h
  have ih:=DJ (m:=m) h.2
  have h1:x= .bool true:=by
   have h1:=h.1
   split at h1
   ·rfl
   ·cases h1
  simp only[mh,List.map_cons]at ih|-
  rw[ih,h1]
def IG(P:Program)(o:Nat->ab)(t:TypeId)(m:V)(n:Int)(ok:Bool):Option eR:=
 match pM P t with
 |some (kt,vt)=>match zeroV P vt with
  |some (.d (.bool false))=>match n6 o m with
   |some (rd,l)=>match qb P kt&&Su l&&Ug l with
    |true=>some (match ok with|true=> .bP [.d (.bool (((Ft l).map (·.1)).contains n)), .d (.bool (((Ft l).map (·.1)).contains n))]|false=> .d (.bool (((Ft l).map (·.1)).contains n)),[],rd)
    |false=>tt P o t m (.d (.int .i64 n)) ok
   |none=>tt P o t m (.d (.int .i64 n)) ok
  |_=>tt P o t m (.d (.int .i64 n)) ok
 |none=>tt P o t m (.d (.int .i64 n)) ok
@[go_sem] theorem II (l:List Int):((mh l).map (·.1))=l:=by simp[mh,Function.comp_def]
@[go_sem high] theorem Ze {m:V} {ok:Bool}:gB P o t m (.d (.int .i64 n)) ok=IG P o t m n ok:=by
  unfold IG
  split
  ·rename_i kt vt h1
   split
   ·rename_i hz
    split
    ·rename_i rd l h
     split
     ·rename_i hc
      simp only[Bool.and_eq_true]at hc
      have c4:=vU hc.1.1
      have hl:=xD hc.1.2
      have hs:mh ((Ft l).map (·.1))=Ft l:=DJ (by rw[hl];exact hc.2)
      have c5:dp o (.d (.int .i64 n))=some (.int .i64 n):=rfl
      unfold gB
      simp only[h1,c5,h]
      rw[if_pos ⟨rfl,DD c4 n⟩]
      conv=>lhs;rw[<- hl]
      rw[Ai c4, <- hs,oU,II]
      generalize (Ft l).map (·.1)=l'
      cases hf:l'.findIdx? (· ==n)with
      |none=>
       have:l'.contains n=false:=by
        rw[List.findIdx?_eq_none_iff]at hf
        rw[Bool.eq_false_iff];intro hc
        have:=hf n (by simpa using hc)
        simp at this
       cases ok<;>simp only[Option.map_none,uD,hz,this,if_true,Bool.false_eq_true,if_false]
      |some j=>
       rw[List.findIdx?_eq_some_iff_getElem]at hf
       obtain⟨hj,he,_⟩:=hf
       have e:l'[j]=n:=by simpa using he
       have:l'.contains n=true:=by rw[List.contains_iff_mem, <- e];exact List.getElem_mem hj
       cases ok<;>simp only[Option.map_some,uD,this,if_true,Bool.false_eq_true,if_false]
     ·exact mJ ..
    ·exact mJ ..
   ·exact mJ ..
  ·exact mJ ..
attribute [go_sem] IG
end
attribute [go_sem] List.head?_cons
end
theorem Sx{o:Nat->ab}{nx:Nat}{Δ:List (Nat×ab)}(h:∀x∈Δ,x.1<nx):(hp o nx).put Δ=hp (put o Δ) nx:=by
 simp only[Hp.put,hp]
 congr 1
 funext j
 simp only[List.mem_map,eq_iff_iff]
 exact⟨fun h2=>h2.elim (fun h=>h) fun⟨x,hx,e⟩=>e ▸ h x hx, .inl⟩
end Go.Proofs.YtnkamdiiakdkgaaGreat
