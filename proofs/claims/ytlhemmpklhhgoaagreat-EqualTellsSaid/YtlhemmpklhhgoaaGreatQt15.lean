/-
  A PART OF THE PROOF. Conditions: none.
-/
import Derived.Shelf.Sort.Plain
import Derived.Shelf.Slices.In.SortNone
import Derived.Test.YtlhemmpklhhgoaaGreatQt14
set_option linter.unusedSimpArgs false
set_option linter.unusedVariables false
namespace Go.Proofs.YtlhemmpklhhgoaaGreat
section
theorem C7{σ:Type}(l:List Tm)(hl:l.length<=9223372036854775807)(g:Nat)(bP:List V)(base:Nat)(H:σ->Nat->ab)(step:σ->Tm->σ×Bool)(hc:∀r∈V.aO bP,r<base)(ok:σ->Prop)(aW:∀x∈l,∀s,ok s->(step s x).2=true->ok (step s x).1)
 (h:∀x∈l,∀s,ok s->wh Tryz.prog g (.d x.d::bP) base (H s) (H (step s x).1) (.d (.bool (step s x).2))) (s:σ) (pE:ok s):
 wh Tryz.prog 169 [.d (.sl (l.map Tm.d)), .func (.func g) [] bP] base (H s) (H (aQ step s l).1) (.d (.bool (aQ step s l).2)):=by
 intro o nx hI K X hK
 have fE:∀r∈V.aO bP,r<nx:=fun r hr=>Nat.lt_of_lt_of_le (hc r hr) hI.le
 refine bZ.aG mix Sr aH ?_
 rw[VM]
 refine cM ?_
 refine aC (fun i:Nat×σ×(Nat->ab)×Nat=>⟨aY [.ad, .func (.func g) [] bP, .ad, .ad, .ad, .ad, .ad, .d (.sl (l.map Tm.d)), .d (.i l.length), .d (.i i.1)],i.2.2.1,i.2.2.2⟩)
  (fun i=>i.1<=l.length/\eP base (H i.2.1) i.2.2.1 i.2.2.2/\nx<=i.2.2.2/\(∀id,base<=id->id<nx->i.2.2.1 id=o id)/\aQ step s l=aQ step i.2.1 (l.drop i.1)/\ok i.2.1) (fun i=>l.length - i.1) (0,s,o,nx)
  ⟨Nat.zero_le _,hI,Nat.le_refl _,fun _ _ _=>rfl,rfl,pE⟩ ?_ ?_
 ·exact TG
 rintro⟨k,s',o',nx'⟩ ⟨hk,M5,hn,cQ,hf,wq⟩
 simp only at hk M5 hn cQ hf wq
 refine cM ?_
 refine ao (fun h1=> ?_) (fun h1=> ?_)
 ·simp at h1
  obtain⟨x,hx⟩:=aA h1
  have cy:=List.mem_of_getElem? hx
  have hd:l.drop k=x::l.drop (k+1):=by
   exact TA
  refine Ti hx ?_
  have hl0:=M5.le
  refine gy (h x cy s' wq _ _ (?_:eP base (H s') _ (nx'+7)) _ _ fun o2 n2 m1 m2 m3=> ?_)
  ·exact YC
  have LI:∀id,base<=id->id<nx->o2 id=o id:=fun id h2 h3=>by
   exact YP
  refine cM ?_
  refine ao (fun h2=> ?_) (fun h2=> ?_)
  ·refine cM ?_
   simp at h2
   have:aQ step s l=((step s' x).1,false):=by rw[hf,hd,aQ,if_neg (by rw[h2];exact Bool.false_ne_true)]
   rw[this]at hK
   exact hK _ _ af (m2.mono af) LI
  ·refine cM ?_
   simp at h2
   have:aQ step s l=aQ step (step s' x).1 (l.drop (k+1)):=by rw[hf,hd,aQ,if_pos h2]
   refine aj (k+1,(step s' x).1,o2,n2) ⟨h1,m2,by dsimp only;omega,LI,this,aW x cy s' wq h2⟩ mQ ?_
   dsimp only
   have SI:∀r∈V.aO bP,r<n2:=fun r hr=>by have:=fE r hr;omega
   refine bH.bM _ af af m2.cA (fun _ _=>rfl) ?_
   exact dC
 ·exact Zw
theorem AK{α σ:Type}(step:σ->α->σ×Bool)(a b:List α):∀s,aQ step s (a++b)=if(aQ step s a).2=true then aQ step (aQ step s a).1 b else((aQ step s a).1,false):=by
 induction a with
 |nil=>intro s;simp[aQ]
 |cons x a ih=>
  intro s
  simp only[List.cons_append,aQ]
  split
  ·exact ih _
  ·rename_i h;simp
theorem wu{α β σ:Type}(step:σ->β->σ×Bool)(f:α->List β)(l:List α):∀s,aQ step s (l.flatMap f)=aQ (fun s x=>aQ step s (f x)) s l:=by
 induction l with
 |nil=>intro s;rfl
 |cons x l ih=>intro s;simp only[List.flatMap_cons,AK,aQ,ih]
theorem Bx{α σ:Type}{step:σ->α->σ×Bool}{ok:σ->Prop}:∀ (l:List α),(∀x∈l,∀s,ok s->(step s x).2=true->ok (step s x).1)->∀s,ok s->(aQ step s l).2=true->ok (aQ step s l).1
 |[],_,s,h,_=>h
 |x::l,aW,s,h,h2=>by
  simp only[aQ]at h2|-
  split at h2
  ·rename_i hb
   rw[if_pos hb]
   exact Bx l (fun y hy=>aW y mK) _ (aW x aH s h hb) h2
  ·cases h2
def RoC(P:Program)(qW:Nat)(args:List V)(base:Nat)(h h2:Nat->ab)(v:V):Prop:=
 ∀o nx,eP base h o nx->∀K X,StK base h2 v o nx K->dO P qW args o nx K X
section
variable {σ:Type}(base qW:Nat)(H:σ->Nat->ab)(step:σ->Tm×Int->σ×Bool)(ok:σ->Prop)
theorem OP:∀t:Tm,t.fits->∀d:Int,0<=d->d+t.mm<=1000000->(∀x∈pre t d,∀s,ok s->(step s x).2=true->ok (step s x).1)->(∀x∈pre t d,∀s,ok s->RoC Tryz.prog qW [.d x.1.d, .d (.i x.2)] base (H s) (H (step s x).1) (.d (.bool (step s x).2)))->qW<base->
 ∀ (c:Nat) (o0:Nat->ab) (yb vb:Nat),base<=c->base<=yb->yb<c->base<=vb->vb<c->o0 yb= .row [.kn qW]->o0 vb= .row [.func (.func 173) [] [.ptr yb 0, .ptr vb 0]]->
 ∀s,ok s->wh Tryz.prog 173 [.d t.d, .d (.i d), .ptr yb 0, .ptr vb 0] c (ext base (H s) o0) (ext base (H (aQ step s (pre t d)).1) o0) (.d (.bool (aQ step s (pre t d)).2)):=by
 refine Tm.eY fun t ih hf d hd0 hd aW hR C8 c o0 yb vb hbc hy0 hy hv0 hv oy ov s pE=> ?_
 have xF:=(Tm.bT _).1 hf
 intro o nx hI K X hK
 have hle:=hI.le
 have XR:o yb= .row [.kn qW]:=by rw[hI.eq yb hy];unfold ext;rw[if_neg (by omega),oy]
 have V8:o vb= .row [.func (.func 173) [] [.ptr yb 0, .ptr vb 0]]:=by rw[hI.eq vb hv];unfold ext;rw[if_neg (by omega),ov]
 have y1:yb≠nx:=af
 have y2:∀k,yb≠nx+k:=fun k=>af
 have y3:vb≠nx:=af
 have y4:∀k,vb≠nx+k:=fun k=>af
 refine bZ.aG mix Sw aH ?_
 rw[VQ]
 simp+contextual only[go_sem,XR,V8,y1,y2,y3,y4,Nat.add_assoc,Nat.left_eq_add,Nat.add_eq_left,Nat.add_left_cancel_iff]
 have pM:=nC t d
 have tQ:∀k∈t.kids,∀x∈pre k (d+1),x∈pre t d:=fun k hk x hx=>by
  rw[pM];exact List.mem_cons_of_mem _ (List.mem_flatMap.2 ⟨k,hk,hx⟩)
 have hb:∀id,id<base->o id=H s id:=fun id aw=>by rw[hI.eq id (by omega)];unfold ext;rw[if_pos aw]
 have hIb:eP base (H s) o nx:=⟨hI.cA,af,hb⟩
 refine nJ (hR (t,d) (by rw[pM];simp) s pE _ _ ((hIb.ay (i:=nx) (m:=nx+6) af af af rfl).ay (i:=nx+1) af af af rfl) _ _ fun o2 n2 m1 m2 m3=> ?_)
 have k0:o2 nx= .row t.row:=by rw[m3 nx (by omega) (by omega),ae _ _ _ _ (by omega),aa]
 have k1:o2 (nx+1)= .row [.d (.i d)]:=by rw[m3 (nx+1) (by omega) (by omega),aa]
 have hold:∀id,base<=id->id<nx->o2 id=o id:=fun id h1 h2=>by rw[m3 id h1 (by omega),ae _ _ _ _ (by omega),ae _ _ _ _ (by omega)]
 have Jg:∀id,base<=id->id<c->o id=o0 id:=fun id h1 h2=>by rw[hI.eq id h2];unfold ext;rw[if_neg (by omega)]
 cases FV:(step s (t,d)).2 with
 |false=>
  refine kG FV ?_
  have xn:aQ step s (pre t d)=((step s (t,d)).1,false):=by rw[pM,aQ,if_neg (by rw[FV];exact Bool.false_ne_true)]
  rw[xn]at hK
  refine hK _ _ af ⟨m2.cA.mono af,af,fun id aw=> ?_⟩ (fun id h1 h2=>hold id af h2)
  unfold ext
  split
  ·exact m2.eq id (by assumption)
  ·exact Nu
 |true=>
  have xn:aQ step s (pre t d)=aQ (fun s k=>aQ step s (pre k (d+1))) (step s (t,d)).1 t.kids:=by rw[pM,aQ,if_pos FV,wu]
  simp+contextual only[go_sem,FV,k0,k1]
  have q0:o2 yb= .row [.kn qW]:=by rw[hold yb hy0 (by omega),XR]
  have q1:o2 vb= .row [.func (.func 173) [] [.ptr yb 0, .ptr vb 0]]:=by rw[hold vb hv0 (by omega),V8]
  have m0:=m2.le
  refine aX (C7 t.kids xF.1 174 [.ptr vb 0, .ptr (nx+1) 0] n2 (fun s=>ext base (H s) o2) (fun s k=>aQ step s (pre k (d+1))) ?_ ok ?_ ?_ (step s (t,d)).1 (aW (t,d) (by rw[pM];simp) s pE FV) _ _ ?_ _ _ ?_)
  ·exact FI
  ·exact YZ
  ·intro k hk s' j7 o3 n3 hI3 K3 X3 hK3
   have l3:=hI3.le
   have r0:o3 vb= .row [.func (.func 173) [] [.ptr yb 0, .ptr vb 0]]:=by rw[hI3.eq vb (by omega)];unfold ext;rw[if_neg (by omega),q1]
   have r1:o3 (nx+1)= .row [.d (.i d)]:=by rw[hI3.eq (nx+1) (by omega)];unfold ext;rw[if_neg (by omega),k1]
   have y5:vb≠n3:=af
   have y6:∀k,vb≠n3+k:=fun k=>af
   have y7:nx+1≠n3:=af
   have y8:∀k,nx+1≠n3+k:=fun k=>af
   have hh:=Tm.qP hk
   refine bZ.aG mix Sx aH ?_
   rw[VR]
   simp+contextual only[go_sem,r0,r1,y5,y6,y7,y8]
   rw[wrap64 (n:=d+1) (by omega) (by omega)]
   refine aX (ih k hk (xF.2 k hk) (d+1) af af (fun x hx=>aW x (tQ k hk x hx)) (fun x hx=>hR x (tQ k hk x hx)) C8 n2 o2 yb vb af hy0 af hv0 af q0 q1 s' j7 _ _ (hI3.ay (i:=n3) (m:=n3+6) af af af rfl) _ _ fun o4 n4 p1 p2 p3=> ?_)
   refine cM ?_
   refine hK3 _ _ af (p2.mono af) (fun id h1 h2=> ?_)
   rw[p3 id h1 (by omega),ae _ _ _ _ (by omega)]
  ·exact(m2.mono af).ext af af
  ·intro o5 n5 p1 p2 p3
   refine cM ?_
   rw[<- xn]
   refine hK _ _ af ⟨p2.cA.mono af,af,fun id aw=> ?_⟩ (fun id h1 h2=> ?_)
   ·rw[p2.eq id (by omega), <- xn]
    unfold ext
    split
    ·rfl
    ·exact Nu
   ·rw[p2.eq id (by omega)]
    unfold ext
    rw[if_neg (by omega),hold id (by omega) h2]
theorem LJ(t:Tm)(hf:t.fits)(hd:t.mm<=900000)(aW:∀x∈pre t 1,∀s,ok s->(step s x).2=true->ok (step s x).1)(hR:∀x∈pre t 1,∀s,ok s->RoC Tryz.prog qW [.d x.1.d, .d (.i x.2)] base (H s) (H (step s x).1) (.d (.bool (step s x).2)))(C8:qW<base)(tb:Nat)(Js:tb<base)(s:σ)(pE:ok s)(cV:H s tb= .row t.row):
 wh Tryz.prog 172 [.kn qW, .ptr tb 0] base (H s) (H (aQ step s (pre t 1)).1) (.bS []):=by
 intro o nx hI K X hK
 have hle:=hI.le
 have ot:o tb= .row t.row:=by rw[hI.eq tb Js,cV]
 have y1:tb≠nx:=af
 have y2:∀k,tb≠nx+k:=fun k=>af
 refine bZ.aG mix Sv aH ?_
 rw[VP]
 simp+contextual only[go_sem,ot,y1,y2,Nat.add_assoc,Nat.left_eq_add,Nat.add_eq_left,Nat.add_left_cancel_iff]
 have hI1:eP base (H s) (ay (ay (ay o nx (.row [.kn qW])) (nx+1) (.row [.d .cz])) (nx+1) (.row [.func (.func 173) [] [.ptr nx 0, .ptr (nx+1) 0]])) (nx+6):=by
  refine((hI.ay (i:=nx) (m:=nx+6) af af af ?_).ay (i:=nx+1) (m:=nx+6) af af af rfl).ay (i:=nx+1) af af af ?_
  ·exact JF
  ·exact qb
 refine aX (OP base qW H step ok t hf 1 af af aW hR C8 (nx+6) _ nx (nx+1) af hle af af af ?_ ?_ s pE _ _ (hI1.ext (Nat.le_refl _) af) _ _ ?_)
 ·exact cF
 ·exact cF
 intro o2 n2 m1 m2 m3
 refine cM ?_
 refine hK _ _ af ⟨m2.cA,af,fun id aw=> ?_⟩ (fun id h1 h2=> ?_)
 ·rw[m2.eq id (by omega)];unfold ext;rw[if_pos aw]
 ·exact QN
end
theorem wv(t:Tm)(o:Nat->ab)(nx:Nat)(K X:V->(Nat->ab)->Nat->Prop)(h:K (.func (.func 172) [] [.ptr nx 0]) (ay o nx (.row t.row)) (nx+4)):bZ Tryz.prog 159 [.d t.d] o nx K X:=by
 refine bZ.aG mix Sj aH ?_
 rw[VF]
 refine cM ?_
 exact h
end
def SJ:Option jX->fL
 |none=> .normal
 |some .ret=> .ret
 |some (.exit j)=> .exit j
def xo{σ:Type}(J:σ->Option jX)(step:σ->Tm×Int->σ)(s:σ)(x:Tm×Int):σ×Bool:=(step s x,(J (step s x)).isNone)
theorem AL{σ:Type}(J:σ->Option jX)(step:σ->Tm×Int->σ):∀ (l:List (Tm×Int)) (s:σ),J s=none->(aQ (xo J step) s l).2=(J (aQ (xo J step) s l).1).isNone
 |[],s,h=>by simp[aQ,h]
 |x::l,s,h=>by
  simp only[aQ]
  split
  ·rename_i hb
   exact AL J step l _ (by simpa[xo]using hb)
  ·rename_i hb
   cases hj:J (step s x)with
   |none=>exact absurd (by simp[xo,hj]) hb
   |some j=>simp[xo,hj]
theorem nO{σ:Type}(t:Tm)(hf:t.fits)(hd:t.mm<=900000){n bq:Nat}{gq:Operand}{ps:List Nat}{jE fh:IC}{Q:fL->S->Prop}{e:Nat->V}{o:Nat->ab}{nx tb:Nat}(env:List V)(he:nI e env 0)
 (EO:ps.all (fun t=>decide (t<n))=true) (hl:ps.length=2) (hg:Good o nx) (hrefs:∀r∈V.aO env,r<nx) (ht:o tb= .row t.row)
 (G:σ->Nat->ab) (J:σ->Option jX) (step:σ->Tm×Int->σ) (ok:σ->Prop) (s0:σ) (pE:ok s0) (hJ0:J s0=none) (h0:∀id,id<nx->o id=G s0 id) (aW:∀x∈pre t 1,∀s,ok s->J s=none->J (step s x)=none->ok (step s x))
 (vw:∀L,iZ Tryz.prog n env ps jE fh L->(∀st pd m,nx<=m->(L st pd).refs.all (fun r=>decide (r<m))=true)->∀x∈pre t 1,∀s,ok s->J s=none->∀o3 n3,eP nx (G s) o3 n3->nx<n3->o3 nx=L .ready none->∀K X,
  (∀e' o' n' st pd,n3<=n'->eP nx (G (step s x)) o' n'->o' nx=L st pd->(∀id,nx<id->id<n3->o' id=o3 id)->kV nx K X (SJ (J (step s x))) ⟨e',o',n'⟩)->
  kT Tryz.prog n n3 true jE (sF Tryz.prog n n3 nx fh K X) ⟨pH (aY env) ps [.d x.1.d, .d (.i x.2)],o3,n3⟩)
 (jl:∀o' n',eP nx (G (aQ (xo J step) s0 (pre t 1)).1) o' n'->qF Q (J (aQ (xo J step) s0 (pre t 1)).1) ⟨e,o',n'⟩):
 ug Tryz.prog n bq false gq ps jE fh Q ⟨e,o,nx⟩ (.func (.func 172) [] [.ptr tb 0]):=by
 refine EY env he (fun L hL=> ?_)
 have Js:tb<nx:=hg.lt (by rw[ht];exact ab.noConfusion)
 let H:σ->Nat->ab:=fun s id=>if id<nx then G s id else if id=nx then(match J s with|none=>L .ready none|some j=>L .done (some j))else .no
 have rQ:∀s id,id<nx->H s id=G s id:=fun s id h=>if_pos h
 have E1:∀s,J s=none->H s nx=L .ready none:=fun s h=>by show(if nx<nx then _ else _)=_;rw[if_neg (by omega),if_pos rfl,h]
 have SK:∀s j,J s=some j->H s nx=L .done (some j):=fun s j h=>by show(if nx<nx then _ else _)=_;rw[if_neg (by omega),if_pos rfl,h]
 have xP:∀st pd m,nx<=m->(L st pd).refs.all (fun r=>decide (r<m))=true:=fun st pd m hm=>by
  exact Qx
 refine LJ (nx+1) nx H (xo J step) (fun s=>ok s/\J s=none) t hf hd (fun x hx s h1 h2=> ?_) (fun x hx s h1=> ?_) af tb af s0 ⟨pE,hJ0⟩ (by rw[rQ _ _ Js, <- h0 _ Js,ht]) _ _ ⟨?_,Nat.le_refl _,fun id aw=> ?_⟩ _ _ ?_
 ·have hj:J (step s x)=none:=by simpa[xo]using h2
  exact⟨aW x hx s h1.1 h1.2 hj,hj⟩
 ·intro o3 n3 hI K X hK
  have hle:=hI.le
  have Ni:o3 nx=L .ready none:=by rw[hI.eq nx (by omega),E1 s h1.2]
  refine wk hL mix Ni af EO (by simp[hl]) ?_
  refine vw L hL xP x hx s h1.1 h1.2 o3 n3 ⟨hI.cA,af,fun id aw=>by rw[hI.eq id (by omega),rQ _ _ aw]⟩ af Ni K X (fun e' o' n' st pd k1 k2 k3 k4=> ?_)
  have key:∀st' pd' b,(J (step s x)).isNone=b->H (step s x) nx=L st' pd'->K (.d (.bool b)) (ay o' nx (L st' pd')) n':=fun st' pd' b hb hh=>by
   subst hb
   refine hK _ _ k1 ⟨k2.cA.ay af (xP _ _ _ af),af,fun id aw=> ?_⟩ (fun id g1 g2=> ?_)
   ·by_cases xz:id=nx
    ·subst xz;rw[aa];exact hh.symm
    ·rw[ae _ _ _ _ xz]
     show o' id=H (step s x) id
     rw[rQ _ _ (by omega)];exact k2.eq id af
   ·rw[ae _ _ _ _ (by omega)];exact k4 id af g2
  cases hj:J (step s x)with
  |none=>exact sH hL k3 (key _ _ _ xZ (E1 _ hj))
  |some j=>
   cases j with
   |ret=>exact wm hL k3 (key _ _ _ xZ (SK _ _ hj))
   |exit j=>exact tF hL k3 (key _ _ _ xZ (SK _ _ hj))
 ·exact(hg.mono af).ay af (xP _ _ _ af)
 ·by_cases xz:id=nx
  ·subst xz;rw[aa,E1 _ hJ0]
  ·exact Ql
 ·intro o' n' k1 k2 k3
  have hle:=k2.le
  generalize hsf:(aQ (xo J step) s0 (pre t 1)).1=sf at*
  have kk:∀st pd,eP nx (G sf) (ay o' nx (L st pd)) n':=fun st pd=>⟨k2.cA.ay af (xP _ _ _ af),af,fun id aw=>by rw[ae _ _ _ _ (by omega),k2.eq id (by omega),rQ _ _ aw]⟩
  cases hj:J sf with
  |none=>
   refine⟨.ready,none,by rw[k2.eq nx (by omega),E1 _ hj],(fun h=>by cases h), ?_⟩
   have:=jl _ _ (kk .exhausted none)
   rwa [hj]at this
  |some j=>
   refine⟨.done,some j,by rw[k2.eq nx (by omega),SK _ _ hj],(fun h=>by cases h), ?_⟩
   have:=jl _ _ (kk .exhausted (some j))
   rwa [hj]at this
theorem gJ(n low high:Int):aV Tryz.prog 146 [.i n, .i low, .i high] (.ret [.bool (dS n low high)]):=by
 refine aV.aG mix Se aH ?_
 rw[VA]
 refine cM ?_
 rfl
theorem E2(s:aF)(t:Tm)(h:t.op=1):aV Tryz.prog 194 [s.d,t.d] (.ret [.bool (bB s t)]):=by
 have hn:bB s t=(dS t.n 0 19&&(t.kids.length:Int)==0):=by simp[bB,h,Bool.and_comm]
 refine aV.aG mix SA aH ?_
 rw[VU]
 exact TH
theorem IB(s:aF)(t:Tm)(h:t.op=2):aV Tryz.prog 195 [s.d,t.d] (.ret [.bool (bB s t)]):=by
 have hn:bB s t=(dS t.n (-1000000) 1000000&&(t.kids.length:Int)==0):=by simp[bB,h,Bool.and_comm]
 refine aV.aG mix SB aH ?_
 rw[VV]
 exact TH
theorem acO(s:aF)(t:Tm)(h:t.op=8):aV Tryz.prog 199 [s.d,t.d] (.ret [.bool (bB s t)]):=by
 have hn:bB s t=(dS t.n 0 19&&(t.kids.length:Int)==2):=by simp[bB,h,Bool.and_comm]
 refine aV.aG mix SF aH ?_
 rw[VZ]
 exact TH
theorem V9(s:aF)(t:Tm)(h:t.op=6\/t.op=7\/t.op=9\/t.op=10\/t.op=11\/t.op=12\/t.op=13\/t.op=14\/t.op=15):aV Tryz.prog 200 [s.d,t.d] (.ret [.bool (bB s t)]):=by
 have hn:bB s t=(t.n==0&&(t.kids.length:Int)==2):=by
  rcases h with h|h|h|h|h|h|h|h|h<;>simp[bB,h,dS,Bool.and_comm]
 refine aV.aG mix SG aH ?_
 rw[V0]
 refine cM ?_
 rw[hn]
theorem acP(s:aF)(t:Tm)(hs:s.Fits)(h:t.op=3):aV Tryz.prog 196 [s.d,t.d] (.ret [.bool (bB s t)]):=by
 have hn:bB s t=(dS t.n 0 (s.cons.length - 1)&&(t.kids.length:Int)==iw s.cons t.n):=by simp[bB,h]
 refine aV.aG mix SC aH ?_
 rw[VW]
 refine cM ?_
 rw[wrap64 (by have:=hs.lc;omega) (by have:=hs.lc;omega)]
 refine aZ (gJ _ _ _) rfl ?_
 cases hI:dS t.n 0 (s.cons.length - 1)with
 |false=>
  exact TF
 |true=>
  exact zw7
theorem acQ(s:aF)(t:Tm)(hs:s.Fits)(h:t.op=4):aV Tryz.prog 197 [s.d,t.d] (.ret [.bool (bB s t)]):=by
 have hn:bB s t=(dS t.n 0 (s.bW.length - 1)&&(t.kids.length:Int)==iw s.bW t.n):=by simp[bB,h]
 refine aV.aG mix SD aH ?_
 rw[VX]
 refine cM ?_
 rw[wrap64 (by have:=hs.lf;omega) (by have:=hs.lf;omega)]
 refine aZ (gJ _ _ _) rfl ?_
 cases hI:dS t.n 0 (s.bW.length - 1)with
 |false=>
  exact TF
 |true=>
  exact zw7
theorem Wa(s:aF)(t:Tm)(hs:s.Fits)(h:t.op=5):aV Tryz.prog 198 [s.d,t.d] (.ret [.bool (bB s t)]):=by
 have hn:bB s t=(dS t.n 0 (s.bW.length - 1)&&decide ((t.kids.length:Int)<iw s.bW t.n)):=by simp[bB,h]
 refine aV.aG mix SE aH ?_
 rw[VY]
 refine cM ?_
 rw[wrap64 (by have:=hs.lf;omega) (by have:=hs.lf;omega)]
 refine aZ (gJ _ _ _) rfl ?_
 cases hI:dS t.n 0 (s.bW.length - 1)with
 |false=>
  exact TF
 |true=>
  exact zw7
@[reducible] def rf (n:Nat):V:= .func (.func n) [] []
@[reducible] def ae6:List V:=[.d .cz,rf 194,rf 195,rf 196,rf 197,rf 198, .d .cz, .d .cz,rf 199, .d .cz, .d .cz, .d .cz, .d .cz, .d .cz, .d .cz, .d .cz]
@[reducible] def E3:List V:=[.d .cz,rf 194,rf 195,rf 196,rf 197,rf 198,rf 200,rf 200,rf 199,rf 200,rf 200,rf 200,rf 200,rf 200,rf 200,rf 200]
def JA(k:Nat):List V:=E3.take k++ae6.drop k
theorem funcOf{P:Program}{t:TypeId}(h:(match P.underlying t with|some (.func _ _ _)=>true|_=>false)=true):∃a b c,P.underlying t=some (.func a b c):=by
 split at h
 ·exact⟨_,_,_,by assumption⟩
 ·cases h
@[go_sem] theorem ae7 (o:Nat->ab) (mW:Bool):rR Tryz.prog o 209 mW (.d .cz) (.d .cz)=some (.d (.bool true)):=by
  exact QE
@[go_sem] theorem ae8 (o:Nat->ab) (mW:Bool) (f:Fn) (x y:List V):rR Tryz.prog o 209 mW (.func f x y) (.d .cz)=some (.d (.bool false)):=by
  exact QE
theorem OQ(base:Nat)(h:Nat->ab):wh Tryz.prog 187 [] base h h (.agg E3):=by
 intro o nx hI K X hK
 have hle:=hI.le
 refine bZ.aG mix Sz aH ?_
 rw[VT]
 simp+contextual only[go_sem,Nat.add_assoc,Nat.left_eq_add,Nat.add_eq_left,Nat.add_left_cancel_iff]
 refine aC (fun k:Nat=>⟨aY [.ptr nx 0, .ptr (nx+2) 0, .ad, .ad, .d (.i k)],ay (ay o nx (.row (List.replicate 16 (.d .cz)))) (nx+2) (.row (JA k)),nx+5⟩)
  (fun k=>k<=16) (fun k=>16 - k) 0 (Nat.zero_le _) ?_ (fun k hk=> ?_)
 ·refine bH.bM _ af af ?_ (fun id aw=> ?_) ?_
  ·exact((hI.cA.mono af).ay af rfl).ay af rfl
  ·rw[uE];rfl
  ·exact dC
 have hg:∀k,k<16->Good (ay (ay o nx (.row (List.replicate 16 (.d .cz)))) (nx+2) (.row (JA (k+1)))) (nx+5):=fun k hk=>
  ((hI.cA.mono af).ay af rfl).ay af (by
    rcases(by omega:k=0\/k=1\/k=2\/k=3\/k=4\/k=5\/k=6\/k=7\/k=8\/k=9\/k=10\/k=11\/k=12\/k=13\/k=14\/k=15)with rfl|rfl|rfl|rfl|rfl|rfl|rfl|rfl|rfl|rfl|rfl|rfl|rfl|rfl|rfl|rfl<;>rfl)
 by_cases ae9:k=16
 ·subst ae9
  refine Yj ?_
  refine hK _ _ ?_ ⟨?_, ?_,fun id aw=> ?_⟩ (fun id h1 h2=> ?_)
  rotate_left
  ·exact(((hI.cA.mono af).ay af rfl).ay af rfl).ay af rfl
  ·omega
  ·(repeat(first|rfl|rw[aa]|rw[ae _ _ _ _ (by omega)]))
   exact hI.eq id aw
  ·exact cF
  ·omega
 ·have hgk:=hg k af
  obtain⟨k1,NZ⟩:∃k1,k1=k+1:=⟨_,rfl⟩
  rw[<- NZ]at hgk
  rcases(by omega:k=0\/k=1\/k=2\/k=3\/k=4\/k=5\/k=6\/k=7\/k=8\/k=9\/k=10\/k=11\/k=12\/k=13\/k=14\/k=15)with rfl|rfl|rfl|rfl|rfl|rfl|rfl|rfl|rfl|rfl|rfl|rfl|rfl|rfl|rfl|rfl
  all_goals
   refine Yj ?_
   refine aj k1 af af (bH.bM _ af af hgk (fun id aw=> ?_) ?_)
   all_goals subst NZ
   ·first|rfl|(rw[uE];rfl)
   ·exact dC
def LK(n:Int):Nat:=if n=1 then 194 else if n=2 then 195 else if n=3 then 196 else if n=4 then 197 else if n=5 then 198 else if n=8 then 199 else 200
theorem Wb(s:aF)(t:Tm)(hs:s.Fits)(h:dS t.op 1 15=true):aV Tryz.prog (LK t.op) [s.d,t.d] (.ret [.bool (bB s t)])/\E3[t.op.toNat]? =some (rf (LK t.op))/\0<=t.op/\t.op<16:=by
 simp[dS]at h
 rcases(by omega:t.op=1\/t.op=2\/t.op=3\/t.op=4\/t.op=5\/t.op=8\/(t.op=6\/t.op=7\/t.op=9\/t.op=10\/t.op=11\/t.op=12\/t.op=13\/t.op=14\/t.op=15))with h|h|h|h|h|h|h
 ·exact⟨by rw[h];exact E2 s t h,by rw[h];rfl,af,af⟩
 ·exact⟨by rw[h];exact IB s t h,by rw[h];rfl,af,af⟩
 ·exact⟨by rw[h];exact acP s t hs h,by rw[h];rfl,af,af⟩
 ·exact⟨by rw[h];exact acQ s t hs h,by rw[h];rfl,af,af⟩
 ·exact⟨by rw[h];exact Wa s t hs h,by rw[h];rfl,af,af⟩
 ·exact⟨by rw[h];exact acO s t h,by rw[h];rfl,af,af⟩
 ·have hp:=V9 s t h
  rcases h with h|h|h|h|h|h|h|h|h<;>exact⟨by rw[h];exact hp,by rw[h];rfl,af,af⟩
def oM(s:aF)(n:Int)(x:Tm×Int):Bool:=decide (40<n+1)||decide (12<x.2)|| !dS x.1.op 1 15|| !bB s x.1
def gV(s:aF)(n:Int×Bool)(x:Tm×Int):Int×Bool:=(n.1+1, !oM s n.1 x)
def fJ(n:Int×Bool):Option jX:=if n.2=true then none else some .ret
def mq(s:aF)(t:Tm):Bool:=(aQ (xo fJ (gV s)) (0,true) (pre t 1)).2
theorem LL(s:aF)(hs:s.Fits)(t:Tm)(hf:t.fits)(hd:t.mm<=900000):aV Tryz.prog 171 [s.d,t.d] (.ret [.bool (mq s t)]):=by
 refine aV.aG mix Su aH ?_
 rw[VO]
 refine cM ?_
 refine bX (OQ 3 _ _ _ (?_:eP 3 (ay (ay (ay (fun _=> .no) 0 (.row s.row)) 1 (.row t.row)) 2 (.row [.d (.bool false)])) _ 3) _ _ fun o2 n2 m1 m2 m3=> ?_)
 ·exact⟨dB,Nat.le_refl _,fun _ _=>rfl⟩
 have p0:o2 0= .row s.row:=m2.eq 0 af
 have p1:o2 1= .row t.row:=m2.eq 1 af
 have p2:o2 2= .row [.d (.bool false)]:=m2.eq 2 af
 have e0:0≠n2:=af
 have e1:1≠n2:=af
 have e2:2≠n2:=af
 have e3:∀k,0≠n2+k:=fun k=>af
 have e4:∀k,1≠n2+k:=fun k=>af
 have e5:∀k,2≠n2+k:=fun k=>af
 simp+contextual only[go_sem,p0,p1,p2,e0,e1,e2,e3,e4,e5,Nat.add_assoc,Nat.left_eq_add,Nat.add_eq_left,Nat.add_left_cancel_iff]
 refine bX (wv t _ _ _ _ ?_)
 refine cM ?_
 have hG0:∀n,Good (ay (ay (ay (ay (ay (ay o2 n2 (.row (List.replicate 16 (.d .cz)))) (n2+1) (.row [.d (.i 0)])) n2 (.row E3)) (n2+1) (.row [.d (.i 0)])) (n2+5) (.row t.row)) (n2+1) (.row [.d (.i n)])) (n2+9):=fun n=>by
  have hg:=m2.cA
  exact dB
 refine nO t hf hd [.ad, .ad, .ptr 0 0, .ad, .ptr 2 0, .ptr n2 0, .ptr (n2+1) 0] ?_ bD rfl ?_ FI (aa _ _ _)
  (fun s=>ay (ay (ay (ay (ay (ay o2 n2 (.row (List.replicate 16 (.d .cz)))) (n2+1) (.row [.d (.i 0)])) n2 (.row E3)) (n2+1) (.row [.d (.i 0)])) (n2+5) (.row t.row)) (n2+1) (.row [.d (.i s.1)]))
  fJ (gV s) (fun s=>0<=s.1/\s.1<=40) (0,true) ⟨bD,bD⟩ rfl ?_ ?_ ?_ ?_
 ·exact JC
 ·have hg:=m2.cA
  exact dB
 ·intro id aw
  by_cases h:id=n2+1
  ·exact PY
  ·rw[ae _ _ _ _ h];rfl
 ·intro x hx s' h1 h2 h3
  have:oM s s'.1 x=false:=by simpa[fJ,gV]using h3
  simp[oM]at this
  simp only[gV]
  omega
 ·intro L hL xP x hx s' h1 h2 o3 n3 hI hn ho K X eG
  simp only[pH]
  have hg:=hI.cA
  have q0:o3 0= .row s.row:=by
   rw[hI.eq 0 (by omega)];(repeat(first|rfl|rw[aa]|rw[ae _ _ _ _ (by omega)]))
   exact p0
  have q2:o3 2= .row [.d (.bool false)]:=by
   exact ZB
  have q3:o3 n2= .row E3:=by rw[hI.eq n2 (by omega)];(repeat(first|rfl|rw[aa]|rw[ae _ _ _ _ (by omega)]))
  have q4:o3 (n2+1)= .row [.d (.i s'.1)]:=by rw[hI.eq (n2+1) (by omega)];(repeat(first|rfl|rw[aa]|rw[ae _ _ _ _ (by omega)]))
  have fin:∀ (o':Nat->ab) (n':Nat),(∀id,id<n2+5+4->o' id=ay o3 (n2+1) (.row [.d (.i (s'.1+1))]) id)->Good o' n'->n3<=n'->eP (n2+5+4) (ay (ay (ay (ay (ay (ay o2 n2 (.row (List.replicate 16 (.d .cz)))) (n2+1) (.row [.d (.i 0)])) n2 (.row E3)) (n2+1) (.row [.d (.i 0)])) (n2+5) (.row t.row)) (n2+1) (.row [.d (.i (gV s s' x).1)])) o' n':=by
   intro o' n' k1 k2 k3
   refine⟨k2,af,fun id aw=> ?_⟩
   rw[k1 id aw]
   by_cases h:id=n2+1
   ·subst h;rw[aa,aa];rfl
   ·rw[ae _ _ _ _ h,ae _ _ _ _ h,hI.eq id aw,ae _ _ _ _ h]
  refine cM ?_
  refine nK hL (pd:=none) ?_ ?_
  ·(repeat(first|rfl|rw[aa]|rw[ae _ _ _ _ (by omega)]))
   exact ho
  cases c1:decide (40<s'.1+1)with
  |true=>
   have hJ:fJ (gV s s' x)=some .ret:=by simp[fJ,gV,oM,c1]
   rw[hJ]at eG
   simp+contextual (disch:=first|omega|simp only[go_sem,false_implies]) only[go_sem,wrap64,if_pos,q0,q2,q3,q4,c1]
   exact zw2
  |false=>
  cases c2:decide (12<x.2)with
  |true=>
   have hJ:fJ (gV s s' x)=some .ret:=by simp[fJ,gV,oM,c2]
   rw[hJ]at eG
   refine Hq q0 q2 q3 q4 c1 c2 ?_
   exact zw2
  |false=>
  cases c3:dS x.1.op 1 15 with
  |false=>
   have hJ:fJ (gV s s' x)=some .ret:=by simp[fJ,gV,oM,c3]
   rw[hJ]at eG
   refine Hq q0 q2 q3 q4 c1 c2 ?_
   refine aZ (gJ _ _ _) rfl ?_
   simp+contextual (disch:=first|omega|simp only[go_sem,false_implies]) only[go_sem,wrap64,if_pos,q0,q2,q3,q4,c1,c2,c3]
   exact zw2
  |true=>
  obtain⟨r1,r2,r3,r4⟩:=Wb s x.1 hs c3
  refine Hq q0 q2 q3 q4 c1 c2 ?_
  refine aZ (gJ _ _ _) rfl ?_
  simp+contextual (disch:=first|omega|simp only[go_sem,false_implies]) only[go_sem,wrap64,if_pos,q0,q2,q3,q4,c1,c2,c3,r2,r3,r4,Nat.mul_one]
  refine aZ r1 rfl ?_
  simp+contextual (disch:=first|omega|simp only[go_sem,false_implies]) only[go_sem,wrap64,if_pos,q0,q2,q3,q4,c1,c2,c3]
  refine aE (ba rfl) ?_
  cases c4:bB s x.1 with
  |false=>
   have hJ:fJ (gV s s' x)=some .ret:=by simp[fJ,gV,oM,c4]
   rw[hJ]at eG
   simp+contextual (disch:=first|omega|simp only[go_sem,false_implies]) only[go_sem,wrap64,if_pos,q2,c4]
   refine eG _ _ _ .busy none af (fin _ _ (fun id aw=>Tj) dB af) cF (fun id h3 h4=>by(repeat(first|rfl|rw[aa]|rw[ae _ _ _ _ (by omega)])))
  |true=>
   have hJ:fJ (gV s s' x)=none:=by simp[fJ,gV,oM,c1,c2,c3,c4]
   rw[hJ]at eG
   simp+contextual (disch:=first|omega|simp only[go_sem,false_implies]) only[go_sem,wrap64,if_pos,c4]
   refine eG _ _ _ .busy none af (fin _ _ (fun id aw=>Tj) dB af) cF (fun id h3 h4=>by(repeat(first|rfl|rw[aa]|rw[ae _ _ _ _ (by omega)])))
 ·intro o' n' hI
  have q2:o' 2= .row [.d (.bool false)]:=by
   exact ZB
  rw[show mq s t=(fJ (aQ (xo fJ (gV s)) (0,true) (pre t 1)).1).isNone from AL _ _ _ _ rfl]
  generalize (aQ (xo fJ (gV s)) (0,true) (pre t 1)).1=sf at*
  cases hj:fJ sf with
  |none=>
   simp only[qF]
   refine lT q2 ?_
   rfl
  |some j=>
   have:j= .ret:=by
    unfold fJ at hj;split at hj
    ·cases hj
    ·injection hj with hj;exact hj.symm
   subst this
   simp only[qF]
   refine lT q2 ?_
   rfl
section
def enc{κ:Type}(kf:κ->D)(m:List (κ×D)):List (D×D):=m.map fun p=>(kf p.1,p.2)
def jm{κ:Type}[BEq κ](k:κ):List (κ×D)->Nat->Option (Nat×D)
 |[],_=>none
 |p::m,i=>if(k==p.1)=true then some (i,p.2)else jm k m (i+1)
def ID{κ:Type}[BEq κ](k:κ)(x:D)(m:List (κ×D)):List (κ×D):=match jm k m 0 with|some (i,_)=>m.set i (k,x)|none=>m++[(k,x)]
def acR{κ:Type}[BEq κ](k:κ)(m:List (κ×D)):List (κ×D):=match jm k m 0 with|some (i,_)=>m.eraseIdx i|none=>m
def xL(d:D)(r:Option (Nat×D)):Option (Nat×D×D):=match r with|some (i,x)=>some (i,d,x)|none=>none
@[go_sem] theorem XS (d:D) (i:Nat) (x:D):xL d (some (i,x))=some (i,d,x):=rfl
@[go_sem] theorem XT (d:D):xL d none=none:=rfl
section
variable {P:Program}{kt:TypeId}
theorem OR(h:bN P kt=some .int)(a b:Int):oX P 100 kt (.int .i64 a) (.int .i64 b)=some (a==b):=by simp[oX,h]
theorem OS(h:bN P kt=some .str)(a b:List UInt8):oX P 100 kt (.str a) (.str b)=some (a==b):=by simp[oX,h]
@[go_sem] theorem GU (h:bN P kt=some .int) (a:Int):oH P 100 kt (.int .i64 a)=true:=by simp[oH,h]
@[go_sem] theorem adA (h:bN P kt=some .str) (a:List UInt8):oH P 100 kt (.str a)=true:=by simp[oH,h]
theorem wx{κ:Type}[BEq κ][LawfulBEq κ](kf:κ->D)(he:∀a b,oX P 100 kt (kf a) (kf b)=some (a==b))(k:κ):∀ (m:List (κ×D)) (i:Nat),findD P kt (kf k) (enc kf m) i=some (xL (kf k) (jm k m i))
 |[],_=>rfl
 |p::m,i=>by
  have ih:=wx kf he k m (i+1)
  simp only[enc,List.map_cons,findD,he,jm]at ih|-
  by_cases h:k=p.1
  ·subst h;simp[xL]
  ·have:(k==p.1)=false:=by simpa using h
   simp only[this,Bool.false_eq_true,if_false];exact ih
@[go_sem] theorem C9 (h:bN P kt=some .int) (k:Int) (m:List (Int×D)):findD P kt (.int .i64 k) (enc (.int .i64) m) 0=some (xL (.int .i64 k) (jm k m 0)):=wx (.int .i64) (OR h) k m 0
@[go_sem] theorem acS (h:bN P kt=some .str) (k:List UInt8) (m:List (List UInt8×D)):findD P kt (.str k) (enc .str m) 0=some (xL (.str k) (jm k m 0)):=wx .str (OS h) k m 0
end
section
variable {κ:Type}(kf:κ->D)
theorem LM(m:List (κ×D))(k:κ)(x:D):enc kf m++[(kf k,x)]=enc kf (m++[(k,x)]):=by simp[enc]
theorem GV(m:List (κ×D))(i:Nat)(k:κ)(x:D):(enc kf m).set i (kf k,x)=enc kf (m.set i (k,x)):=by simp[enc,List.map_set]
theorem yT:∀ (m:List (κ×D)) (i:Nat),(enc kf m).eraseIdx i=enc kf (m.eraseIdx i)
 |[],i=>rfl
 |p::m,0=>rfl
 |p::m,i+1=>by
  have:=yT m i
  simp only[enc,List.map_cons,List.eraseIdx_cons_succ]at this|-
  rw[this]
theorem OT(m:List (κ×D)):(((enc kf m).map (·.1)).zip ((enc kf m).map (·.2)))=enc kf m:=by
 induction m with
 |nil=>rfl
 |cons p m ih=>simp only[enc,List.map_cons,List.zip_cons_cons]at ih|-;rw[ih]
theorem IE{K:V->List (Nat×ab)->Prop}{id:Nat}{m:List (κ×D)}(h0:m=[]->K (.bS [.d (.bool false)]) [])
 (h1:∀ (i:Nat) k x,m[i]? =some (k,x)->K (.bS [.d (.bool true), .d (kf k), .d x]) [(id, .rG (enc kf (m.eraseIdx i)) (some (kf k,x)))]):Gs K id (enc kf m):=by
 refine⟨fun h=>h0 ?_,fun i k x h=> ?_⟩
 ·cases m with
  |nil=>rfl
  |cons p m=>simp[enc]at h
 ·simp only[enc,List.getElem?_map]at h
  cases hm:m[i]? with
  |none=>rw[hm]at h;cases h
  |some p=>
   rw[hm]at h
   simp at h
   obtain⟨rfl,rfl⟩:=h
   have:=h1 i p.1 p.2 (by rw[hm])
   rwa [<- yT]at this
end
theorem Da{κ:Type}[BEq κ][LawfulBEq κ]{k:κ}:∀ {m:List (κ×D)} {i j:Nat} {x:D},jm k m i=some (j,x)->i<=j/\m[j - i]? =some (k,x)
 |[],_,_,_,h=>by cases h
 |p::m,i,j,x,h=>by
  simp only[jm]at h
  split at h
  ·rename_i hk
   injection h with h;injection h with h1 h2
   subst h1;subst h2
   exact⟨Nat.le_refl _,by simp[(by simpa using hk:k=p.1)]⟩
  ·obtain⟨h1,h2⟩:=Da h
   refine⟨af, ?_⟩
   rw[show j - i=(j - (i+1))+1 by omega]
   simpa using h2
theorem yU{κ:Type}[BEq κ][LawfulBEq κ]{k:κ}:∀ {m:List (κ×D)} {i:Nat},jm k m i=none↔∀p∈m,p.1≠k
 |[],_=>by simp[jm]
 |p::m,i=>by
  simp only[jm]
  split
  ·rename_i hk
   simp[(by simpa using hk:k=p.1)]
  ·rename_i hk
   rw[yU]
   have:p.1≠k:=fun e=>hk (by simp[e])
   simp[this]
def qX(P:Program)(o:Nat->ab)(t:TypeId)(m k v:V):Option fX:=
 match r8 P t,dQ o k,dQ o v,oZ o m with
 |some (kt,_),some kd,some vd,some (some (id,FW,FX),l)=>if k.ids=[]/\oH P 100 kt kd=true/\kL kd=true/\v.ids.all (· !=id)=true then match findD P kt kd l 0 with
  |some (some (i,k',_))=>if k'.same kd=true then some (.bS [],bE o v.ids++[(id, .map FW FX (l.set i (kd,vd)))],id::v.ids)else none
  |some none=>some (.bS [],bE o v.ids++[(id, .map FW FX (l++[(kd,vd)]))],id::v.ids)
  |none=>none
  else none
 |_,_,_,_=>none
@[go_sem low] theorem yV (P:Program) (o:Nat->ab) (t:TypeId) (m v:V) (k:D):fQ P o t m (.d k) v=qX P o t m (.d k) v:=by unfold fQ qX;rfl
def wy(P:Program)(o:Nat->ab)(t:TypeId)(m k:V)(ok:Bool):Option fX:=
 match r8 P t,dQ o k,qj o m with
 |some (kt,vt),some kd,some (rd,l)=>if k.ids=[]/\oH P 100 kt kd=true then match findD P kt kd l 0 with
  |some (some (_,_,x))=>some (if ok=true then .bS [.d x, .d (.bool true)]else .d x,[],rd)
  |some none=>match zeroV P vt with
   |some z=>some (if ok=true then .bS [z, .d (.bool false)]else z,[],rd)
   |none=>none
  |none=>none
  else none
 |_,_,_=>none
@[go_sem low] theorem oq (P:Program) (o:Nat->ab) (t:TypeId) (m:V) (k:D) (ok:Bool):jk P o t m (.d k) ok=wy P o t m (.d k) ok:=by unfold jk wy;rfl
attribute [go_sem] wy qX od mX mY o6 o7 mZ qj oZ adQ oY kL D.same
end
theorem dec_lt{l:List UInt8}{i:Nat}{b:UInt8}(hb:l[i]? =some b)(h:b.toNat<128):Utf8.decode ⟨⟨l⟩⟩ i=(b.toNat,1):=by
 have e:(ByteArray.mk ⟨l⟩).get! i=b:=by
  show(Array.mk l)[i]! =b
  simp[hb]
 simp only[Utf8.decode,Nat.add_zero,e]
 rw[if_pos h]
theorem Wc{l:List UInt8}{i:Nat}{b:UInt8}(hb:l[i]? =some b)(h:128<=b.toNat):128<=(Utf8.decode ⟨⟨l⟩⟩ i).1:=by
 have e:(ByteArray.mk ⟨l⟩).get! i=b:=by
  show(Array.mk l)[i]! =b
  simp[hb]
 simp only[Utf8.decode,Nat.add_zero,e]
 rw[if_neg (by omega)]
 split
 ·split<;>simp_all[Utf8.runeError]
 ·split
  ·split
   ·rename_i h3;simp at h3;omega
   ·simp[Utf8.runeError]
  ·split
   ·split
    ·rename_i h3;simp at h3;omega
    ·simp[Utf8.runeError]
   ·simp[Utf8.runeError]
def OU(r:Int):Bool:=decide (97<=r)&&decide (r<=122)||decide (65<=r)&&decide (r<=90)
theorem LN(b:UInt8):OU b.toNat=letterF b:=by
 rw[Bool.eq_iff_iff]
 simp[OU,letterF]
theorem IF(s:List UInt8)(hs:s.length<=9223372036854775807):aV Tryz.prog 145 [.str s] (.ret [.bool (jO s)]):=by
 refine aV.aG mix Sd aH ?_
 rw[Vz]
 refine gH ?_
 refine aC (fun k:Nat=>⟨aY [.d (.str s), .ad, .ad, .ad, .ad, .ad, .ptr 2 0],ay (fun _=> .no) 2 (.zH s k),3⟩)
  (fun k=>k<=s.length/\(s.take k).all letterF=true) (fun k=>s.length - k) 0 ⟨Nat.zero_le _,aH⟩ (bH.bM _ af af (Good.nil.ay af rfl) (fun _ _=>rfl) ?_) (fun k hk=> ?_)
 ·exact dC
 by_cases h2:k<s.length
 ·obtain⟨b,hb⟩:=aA h2
  by_cases h3:b.toNat<128
  ·simp+contextual (disch:=first|omega|simp only[go_sem,false_implies]) only[go_sem,wrap64,if_pos,Nat.add_assoc,Nat.left_eq_add,Nat.add_eq_left,Nat.add_left_cancel_iff,h2,dec_lt hb h3]
   have hr:=LN b
   simp only[OU]at hr
   rw[hr]
   cases hl:letterF b with
   |true=>
    refine bI ?_
    refine aj (k+1) ⟨h2,nM hb hk.2 hl⟩ af (bH.bM _ af af (Good.nil.ay af rfl) (fun _ _=>by rw[uE]) ?_)
    exact dC
   |false=>
    refine bI ?_
    simp[jO,lI hb hl]
  ·have hr:letterF b=false:=by
    rw[<- LN];simp[OU];omega
   have hd:=Wc hb af
   refine Ju h2 ?_
   have:(decide (97<=((Utf8.decode ⟨⟨s⟩⟩ k).1:Int))&&decide (((Utf8.decode ⟨⟨s⟩⟩ k).1:Int)<=122)||decide (65<=((Utf8.decode ⟨⟨s⟩⟩ k).1:Int))&&decide (((Utf8.decode ⟨⟨s⟩⟩ k).1:Int)<=90))=false:=by
    rw[Bool.eq_false_iff];intro h;simp at h;omega
   rw[this]
   refine bI ?_
   simp[jO,lI hb hr]
 ·refine Ju h2 ?_
  refine ak (gJ _ _ _) rfl ?_
  refine bI ?_
  rw[jO,nN hk.2 (by omega),Bool.true_and]
theorem Db{σ:Type}(l:List ef)(hl:l.length<=9223372036854775807)(g:Nat)(bP:List V)(base:Nat)(H:σ->Nat->ab)(step:σ->ef->σ×Bool)(hc:∀r∈V.aO bP,r<base)(ok:σ->Prop)(aW:∀x∈l,∀s,ok s->(step s x).2=true->ok (step s x).1)
 (h:∀x∈l,∀s,ok s->wh Tryz.prog g (.d x.d::bP) base (H s) (H (step s x).1) (.d (.bool (step s x).2))) (s:σ) (pE:ok s):
 wh Tryz.prog 147 [.d (.sl (l.map ef.d)), .func (.func g) [] bP] base (H s) (H (aQ step s l).1) (.d (.bool (aQ step s l).2)):=by
 intro o nx hI K X hK
 have fE:∀r∈V.aO bP,r<nx:=fun r hr=>Nat.lt_of_lt_of_le (hc r hr) hI.le
 refine bZ.aG mix Sf aH ?_
 rw[VB]
 refine cM ?_
 refine aC (fun i:Nat×σ×(Nat->ab)×Nat=>⟨aY [.ad, .func (.func g) [] bP, .ad, .ad, .ad, .ad, .ad, .d (.sl (l.map ef.d)), .d (.i l.length), .d (.i i.1)],i.2.2.1,i.2.2.2⟩)
  (fun i=>i.1<=l.length/\eP base (H i.2.1) i.2.2.1 i.2.2.2/\nx<=i.2.2.2/\(∀id,base<=id->id<nx->i.2.2.1 id=o id)/\aQ step s l=aQ step i.2.1 (l.drop i.1)/\ok i.2.1) (fun i=>l.length - i.1) (0,s,o,nx)
  ⟨Nat.zero_le _,hI,Nat.le_refl _,fun _ _ _=>rfl,rfl,pE⟩ ?_ ?_
 ·exact TG
 rintro⟨k,s',o',nx'⟩ ⟨hk,M5,hn,cQ,hf,wq⟩
 simp only at hk M5 hn cQ hf wq
 refine cM ?_
 refine ao (fun h1=> ?_) (fun h1=> ?_)
 ·simp at h1
  obtain⟨x,hx⟩:=aA h1
  have cy:=List.mem_of_getElem? hx
  have hd:l.drop k=x::l.drop (k+1):=by
   exact TA
  refine Ti hx ?_
  have hl0:=M5.le
  refine gy (h x cy s' wq _ _ (?_:eP base (H s') _ (nx'+7)) _ _ fun o2 n2 m1 m2 m3=> ?_)
  ·exact YC
  have LI:∀id,base<=id->id<nx->o2 id=o id:=fun id h2 h3=>by
   exact YP
  refine cM ?_
  refine ao (fun h2=> ?_) (fun h2=> ?_)
  ·refine cM ?_
   simp at h2
   have:aQ step s l=((step s' x).1,false):=by rw[hf,hd,aQ,if_neg (by rw[h2];exact Bool.false_ne_true)]
   rw[this]at hK
   exact hK _ _ af (m2.mono af) LI
  ·refine cM ?_
   simp at h2
   have:aQ step s l=aQ step (step s' x).1 (l.drop (k+1)):=by rw[hf,hd,aQ,if_pos h2]
   refine aj (k+1,(step s' x).1,o2,n2) ⟨h1,m2,by dsimp only;omega,LI,this,aW x cy s' wq h2⟩ mQ ?_
   dsimp only
   have SI:∀r∈V.aO bP,r<n2:=fun r hr=>by have:=fE r hr;omega
   refine bH.bM _ af af m2.cA (fun _ _=>rfl) ?_
   exact dC
 ·exact Zw
def pN(l:List (List UInt8)):List (List UInt8×D):=l.map fun s=>(s, .bool true)
theorem IG(l:List (List UInt8))(s:List UInt8):pN l++[(s, .bool true)]=pN (l++[s]):=by simp[pN]
theorem II{l:List (List UInt8)}{s:List UInt8}{i:Nat}{x:D}(h:jm s (pN l) 0=some (i,x)):x= .bool true/\(pN l).set i (s, .bool true)=pN l/\l.any (· ==s)=true:=by
 obtain⟨_,h2⟩:=Da h
 rw[Nat.sub_zero]at h2
 simp only[pN,List.getElem?_map]at h2
 cases hl:l[i]? with
 |none=>rw[hl]at h2;cases h2
 |some y=>
  rw[hl]at h2
  simp at h2
  obtain⟨rfl,rfl⟩:=h2
  refine⟨rfl, ?_, ?_⟩
  ·apply List.ext_getElem?
   intro j
   rw[List.getElem?_set]
   split
   ·rename_i e;subst e
    obtain⟨ck,hy⟩:=List.getElem?_eq_some_iff.1 hl
    simp[pN,ck,hy]
   ·rfl
  ·exact List.any_eq_true.2 ⟨y,List.mem_of_getElem? hl,aH⟩
theorem IJ{l:List (List UInt8)}{s:List UInt8}(h:jm s (pN l) 0=none):l.any (· ==s)=false:=by
 rw[yU]at h
 rw[List.any_eq_false]
 intro x hx hs
 have:=h (x, .bool true) (by simp[pN];exact hx)
 simp at hs;exact this hs
def OV(bs:List (List UInt8))(x:ef):Bool:= !bs.any (· ==x.name)&&jO x.name&&dS x.args 0 4
def iB(bs:List (List UInt8))(x:ef):List (List UInt8)×Bool:=(if bs.any (· ==x.name)=true then bs else bs++[x.name],OV bs x)
theorem Wd(x:ef)(hx:x.name.length<=9223372036854775807)(base mp id:Nat)(h:Nat->ab)(hmp:h mp= .row [.mp id])(h1:mp<base)(h2:id<base)(h3:id≠mp)(bs:List (List UInt8)):
 wh Tryz.prog 144 [.d x.d, .ptr mp 0] base (ay h id (.map 9 4 (enc .str (pN bs)))) (ay h id (.map 9 4 (enc .str (pN (iB bs x).1)))) (.d (.bool (iB bs x).2)):=by
 intro o nx hI K X hK
 have hle:=hI.le
 have hg:=hI.cA
 have q0:o mp= .row [.mp id]:=by rw[hI.eq mp h1,ae _ _ _ _ (by omega),hmp]
 have q1:o id= .map 9 4 (enc .str (pN bs)):=by rw[hI.eq id h2,aa]
 refine bZ.aG mix Sc aH ?_
 rw[Vy]
 cases ha:jm x.name (pN bs) 0 with
 |none=>
  have hn:=IJ ha
  have hs:iB bs x=(bs++[x.name],jO x.name&&dS x.args 0 4):=by simp[iB,OV,hn]
  rw[hs]at hK
  refine D2 q0 q1 ha ?_
  refine ak (IF _ hx) rfl ?_
  refine bI ?_
  refine iu (gz [.bool (dS x.args 0 4)] ?_ ?_)
  ·refine bI ?_
   exact fun _=>gJ _ _ _
  refine bI ?_
  rw[LM,IG]
  refine hK _ _ af ⟨dB,af,fun j hj=> ?_⟩ (fun j g1 g2=>by(repeat(first|rfl|rw[aa]|rw[ae _ _ _ _ (by omega)])))
  ·by_cases e:j=id
   ·exact uQ
   ·exact YM
 |some p=>
  obtain⟨i,y⟩:=p
  obtain⟨rfl,e1,hn⟩:=II ha
  have hs:iB bs x=(bs,false):=by simp[iB,OV,hn]
  rw[hs]at hK
  refine D2 q0 q1 ha ?_
  rw[GV,e1]
  refine hK _ _ af ⟨dB,af,fun j hj=> ?_⟩ (fun j g1 g2=>by(repeat(first|rfl|rw[aa]|rw[ae _ _ _ _ (by omega)])))
  ·by_cases e:j=id
   ·exact uQ
   ·exact YM
theorem pO:∀ (l:List ef) (bs:List (List UInt8)),match cB l bs with|some B=>aQ iB bs l=(B,true)|none=>(aQ iB bs l).2=false
 |[],bs=>rfl
 |x::l,bs=>by
  have ih:=pO l (bs++[x.name])
  simp only[cB,aQ,iB,OV]
  by_cases h1:bs.any (· ==x.name)=true
  ·simp[h1]
  ·simp only[Bool.not_eq_true]at h1
   simp only[h1,Bool.false_eq_true,if_false,Bool.not_false,Bool.true_and]
   by_cases h2:(jO x.name&&dS x.args 0 4)=true
   ·have h3: ¬ ((!jO x.name|| !dS x.args 0 4)=true):=by simp at h2;simp[h2]
    rw[if_neg h3,if_pos h2]
    exact ih
   ·have h3:(!jO x.name|| !dS x.args 0 4)=true:=by
     cases hn:jO x.name<;>simp_all
    rw[if_pos h3,if_neg h2]
def mO(ok:Bool):Int:=if ok=true then 0 else 2
@[reducible] def IK (s:aF) (bs:List (List UInt8)):Nat->ab:=ay (ay (ay (fun _=> .no) 0 (.row s.row)) 3 (.row [.mp 2])) 2 (.map 9 4 (enc .str (pN bs)))
theorem wz(s:aF)(hs:s.Fits):aV Tryz.prog 119 [s.d] (.ret [.i (mO (kU s))]):=by
 refine aV.aG mix R3 aH ?_
 rw[Vo]
 refine gH ?_
 refine ak (gJ _ _ _) rfl ?_
 refine gH ?_
 cases h1:(!dS s.cons.length 2 12||decide (8<(s.bW.length:Int)))with
 |true=>
  have:kU s=false:=by simp only[kU,h1,if_true]
  refine lT h1 ?_
  simp[this,mO]
 |false=>
  have Rb:=pO s.cons []
  have LO:∀ (l:List ef),(∀x∈l,x.name.length<=9223372036854775807)->∀x∈l,∀bs,True->wh Tryz.prog 144 (.d x.d::[.ptr 3 0]) 4 (IK s bs) (IK s (iB bs x).1) (.d (.bool (iB bs x).2)):=fun l hl x hx bs _=>
   Wd x (hl x hx) 4 3 2 (ay (ay (fun _=> .no) 0 (.row s.row)) 3 (.row [.mp 2])) (aa _ _ _) af af af bs
  simp[dS]at h1
  obtain⟨a,b,r,hc⟩:∃a b r,s.cons=a::b::r:=by
   match h:s.cons with
   |[]=>exact FP
   |[a]=>exact FP
   |a::b::r=>exact⟨a,b,r,rfl⟩
  have db:(!dS s.cons.length 2 12||decide (8<(s.bW.length:Int)))=false:=by simp[dS];omega
  have C6:kU s=if(!mM a fB|| !mM b tB)=true then false else match cB s.cons []with
   |none=>false
   |some l=>(cB s.bW l).isSome:=by
   unfold kU
   rw[if_neg (by rw[db];exact Bool.false_ne_true),hc]
   dsimp only
   rfl
  refine lT db ?_
  refine aX (Db s.cons hs.lc 144 [.ptr 3 0] 4 (IK s) iB xU (fun _=>True) (fun _ _ _ _ _=>trivial) (LO s.cons hs.nc) [] trivial _ _ ⟨?_,af,fun id aw=> ?_⟩ _ _ fun o2 n2 m1 m2 m3=> ?_)
  ·exact dB
  ·rcases(by omega:id=0\/id=1\/id=2\/id=3)with rfl|rfl|rfl|rfl<;>rfl
  have p0:∀ {bs:List (List UInt8)} {o:Nat->ab} {n:Nat},eP 4 (IK s bs) o n->o 0= .row s.row:=fun h=>h.eq 0 af
  have p3:∀ {bs:List (List UInt8)} {o:Nat->ab} {n:Nat},eP 4 (IK s bs) o n->o 3= .row [.mp 2]:=fun h=>h.eq 3 af
  cases hn:cB s.cons []with
  |none=>
   rw[hn]at Rb
   simp only at Rb
   rw[Rb]
   refine gH ?_
   rw[C6,hn]
   split<;>rfl
  |some B=>
   rw[hn]at Rb
   simp only at Rb
   rw[Rb]at m2|-
   simp+contextual (disch:=first|omega|simp only[go_sem,false_implies]) only[go_sem,wrap64,if_pos,Nat.add_assoc,Nat.left_eq_add,Nat.add_eq_left,Nat.add_left_cancel_iff,p0 m2]
   refine aX (Db s.bW hs.lf 144 [.ptr 3 0] 4 (IK s) iB xU (fun _=>True) (fun _ _ _ _ _=>trivial) (LO s.bW hs.nf) B trivial _ _ (m2.mono af) _ _ fun o4 n4 k1 k2 k3=> ?_)
   have M6:=pO s.bW B
   cases hf:cB s.bW B with
   |none=>
    rw[hf]at M6
    simp only at M6
    rw[M6]
    refine gH ?_
    rw[C6,hn]
    simp only[hf]
    split<;>rfl
   |some C=>
    rw[hf]at M6
    simp only at M6
    rw[M6]at k2|-
    simp+contextual (disch:=first|omega|simp only[go_sem,false_implies]) only[go_sem,wrap64,if_pos,Nat.add_assoc,Nat.left_eq_add,Nat.add_eq_left,Nat.add_left_cancel_iff,p0 k2,hc]
    have SL:kU s= !(!mM a fB|| !mM b tB):=by
     rw[C6,hn];simp only[hf]
     cases(!mM a fB|| !mM b tB)<;>rfl
    refine ao (fun h5=> ?_) (fun h5=> ?_)
    ·refine bI ?_
     have tS:(!mM a fB|| !mM b tB)=true:=h5
     rw[SL,tS];rfl
    ·refine bI ?_
     have tS:(!mM a fB|| !mM b tB)=false:=h5
     rw[SL,tS];rfl
def ja(s:aF)(l:List Tm):Bool:=kU s&&l.all (mq s)
theorem yW{α:Type}(p:α->Bool):∀ (l:List α) (u:Unit),aQ (fun _ x=>((),p x)) u l=((),l.all p)
 |[],_=>rfl
 |x::l,u=>by
  simp only[aQ,List.all_cons,yW p l]
  cases p x<;>rfl
theorem E4(l:List Tm)(hl:l.length<=9223372036854775807)(g:Nat)(bP:List V)(base:Nat)(h:Nat->ab)(p:Tm->Bool)(hc:∀r∈V.aO bP,r<base)
 (hp:∀x∈l,wh Tryz.prog g (.d x.d::bP) base h h (.d (.bool (p x)))):wh Tryz.prog 169 [.d (.sl (l.map Tm.d)), .func (.func g) [] bP] base h h (.d (.bool (l.all p))):=by
 have:=C7 l hl g bP base (fun _:Unit=>h) (fun _ x=>((),p x)) hc (fun _=>True) (fun _ _ _ _ _=>trivial) (fun x hx _ _=>hp x hx) () trivial
 simpa only[yW]using this
structure Tm.Fin (t:Tm):Prop where
 fits:t.fits
 mm:t.mm<=900000
theorem LP(s:aF)(hs:s.Fits)(t:Tm)(ht:t.Fin)(base sp:Nat)(h:Nat->ab)(QW:h sp= .row s.row)(hb:sp<base):wh Tryz.prog 170 [.d t.d, .ptr sp 0] base h h (.d (.bool (mq s t))):=by
 intro o nx hI K X hK
 have hle:=hI.le
 have hg:=hI.cA
 have q0:o sp= .row s.row:=by rw[hI.eq sp hb,QW]
 refine bZ.aG mix Ss aH ?_
 rw[VN]
 refine lT q0 ?_
 refine ak (LL s hs t ht.fits ht.mm) rfl ?_
 refine bI ?_
 exact hK _ _ af ⟨dB,af,fun j hj=>by rw[ae _ _ _ _ (by omega),hI.eq j hj]⟩ (fun j g1 g2=>by(repeat(first|rfl|rw[aa]|rw[ae _ _ _ _ (by omega)])))
theorem OW(s:aF)(hs:s.Fits)(l:List Tm)(hl:l.length<=9223372036854775807)(hf:∀t∈l,t.Fin):aV Tryz.prog 158 [s.d, .sl (l.map Tm.d)] (.ret [.bool (ja s l)]):=by
 refine aV.aG mix Si aH ?_
 rw[VE]
 refine bI ?_
 refine ak (wz s hs) rfl ?_
 cases h1:kU s with
 |false=>
  refine Yl ?_
  simp[ja,h1]
 |true=>
  refine Yl ?_
  refine aX (E4 l hl 170 [.ptr 0 0] 1 (ay (fun _=> .no) 0 (.row s.row)) (mq s) xU (fun x hx=>LP s hs x (hf x hx) 1 0 _ (aa _ _ _) af) _ _ ⟨dB,af,fun id aw=>rfl⟩ _ _ fun o2 n2 m1 m2 m3=> ?_)
  refine bI ?_
  simp[ja,h1]
def qY(x:Tm×Int):Bool:=decide (3<x.1.op)&&x.1.op !=5
def vJ(b:Bool):Option jX:=if b=true then none else some .ret
def nP(t:Tm):Bool:=(aQ (xo vJ (fun _ x=> !qY x)) true (pre t 1)).2
theorem IL(t:Tm)(ht:t.Fin):aV Tryz.prog 160 [t.d] (.ret [.bool (nP t)]):=by
 refine aV.aG mix Sk aH ?_
 rw[VG]
 refine bI ?_
 refine bX (wv t _ _ _ _ ?_)
 refine bI ?_
 refine nO t ht.fits ht.mm [.ad, .ad, .ptr 1 0] ?_ bD rfl dB xU (aa _ _ _)
  (fun _=>ay (ay (ay (fun _=> .no) 0 (.row t.row)) 1 (.row [.d (.bool false)])) 3 (.row t.row)) vJ (fun _ x=> !qY x) (fun _=>True) true trivial rfl (fun id aw=>rfl) (fun _ _ _ _ _ _=>trivial) ?_ ?_
 ·exact JC
 ·intro L hL xP x hx s' h1 h2 o3 n3 hI hn ho K X eG
  simp only[pH]
  have hg:=hI.cA
  have q1:o3 1= .row [.d (.bool false)]:=hI.eq 1 af
  refine bI ?_
  refine nK hL (pd:=none) ?_ ?_
  ·(repeat(first|rfl|rw[aa]|rw[ae _ _ _ _ (by omega)]))
   exact ho
  refine bI ?_
  have hv:qY x=(decide (3<x.1.op)&&x.1.op !=5):=rfl
  rw[<- hv]
  cases hb:qY x with
  |true=>
   rw[hb]at eG
   refine lT q1 ?_
   refine eG _ _ _ .busy none af ⟨dB,af,fun id aw=> ?_⟩ cF (fun id h3 h4=>by(repeat(first|rfl|rw[aa]|rw[ae _ _ _ _ (by omega)])))
   by_cases e:id=1
   ·exact uQ
   ·rw[ae _ _ _ _ e];(repeat(first|rfl|rw[aa]|rw[ae _ _ _ _ (by omega)]))
    exact hI.eq id aw
  |false=>
   rw[hb]at eG
   refine bI ?_
   refine eG _ _ _ .busy none af ⟨dB,af,fun id aw=> ?_⟩ cF (fun id h3 h4=>by(repeat(first|rfl|rw[aa]|rw[ae _ _ _ _ (by omega)])))
   (repeat(first|rfl|rw[aa]|rw[ae _ _ _ _ (by omega)]))
   exact hI.eq id aw
 ·intro o' n' hI
  have q1:o' 1= .row [.d (.bool false)]:=hI.eq 1 af
  rw[show nP t=(vJ (aQ (xo vJ (fun _ x=> !qY x)) true (pre t 1)).1).isNone from AL _ _ _ _ rfl]
  generalize (aQ (xo vJ (fun _ x=> !qY x)) true (pre t 1)).1=sf at*
  cases sf<;>(simp only[vJ,if_true,if_false,Bool.false_eq_true,qF];simp+contextual (disch:=first|omega|simp only[go_sem,false_implies]) only[go_sem,wrap64,if_pos,q1];rfl)
def Tm.Dc (t:Tm):Int:=(pre t 1).length
structure Tm.Cnt (t:Tm):Prop extends t.Fin where
 size:t.Dc<=1000000
theorem Tm.Fin.kY {t k:Tm}(h:t.Fin)(hk:k∈t.kids):k.Fin:=⟨((Tm.bT _).1 h.fits).2 k hk,by have:=Tm.qP hk;have:=h.mm;omega⟩
theorem tG:∀ (t:Tm) (d d':Int),(pre t d).length=(pre t d').length:=by
 refine Tm.eY fun t ih d d'=> ?_
 rw[nC,nC]
 simp only[List.length_cons,List.length_flatMap]
 congr 2
 exact List.map_congr_left fun k hk=>ih k hk _ _
theorem Tm.yX {t k:Tm}(hk:k∈t.kids):k.Dc+1<=t.Dc:=by
 simp only[Tm.Dc]
 rw[nC t,tG k 1 (1+1)]
 simp only[List.length_cons,List.length_flatMap]
 have:∀ (l:List Tm),k∈l->(pre k (1+1)).length<=(l.map fun k=>(pre k (1+1)).length).sum:=by
  intro l
  induction l with
  |nil=>intro h;cases h
  |cons x l ih=>
   intro h
   rcases List.mem_cons.1 h with rfl|h
   ·simp only[List.map_cons,List.sum_cons];omega
   ·have:=ih h;simp only[List.map_cons,List.sum_cons];omega
 have:=this _ hk
 omega
theorem Tm.Cnt.kY {t k:Tm}(h:t.Cnt)(hk:k∈t.kids):k.Cnt:=⟨h.toFin.kY hk,by have:=Tm.yX hk;have:=h.size;omega⟩
def Tm.sz (t:Tm):Nat:=(pre t 1).length
def rK(l:List Tm):Nat:=(l.map Tm.sz).sum
theorem Tm.Dd (t:Tm):t.Dc=(t.sz:Int):=rfl
theorem Tm.jR (t:Tm):t.sz=1+rK t.kids:=by
 unfold Tm.sz rK
 rw[nC,List.length_cons,List.length_flatMap,Nat.add_comm]
 congr 2
 exact List.map_congr_left fun k hk=>tG k _ _
theorem qZ(k:Tm)(l:List Tm):rK (k::l)=k.sz+rK l:=by simp[rK]
theorem Tm.sJ (t:Tm):1<=t.sz:=by rw[Tm.jR];omega
theorem yY(k:Tm)(l:List Tm):Tm.iM (k::l)=Nat.max k.mm (Tm.iM l):=by simp[Tm.iM]
theorem ou:∀ (l:List Tm) (n:Nat),Tm.iM l<=n↔∀k∈l,k.mm<=n
 |[],n=>by simp[Tm.iM]
 |x::l,n=>by
  rw[yY]
  simp only[List.mem_cons,forall_eq_or_imp, <- ou l n]
  exact Nat.max_le
theorem Tm.pP (t:Tm):t.mm=1+Tm.iM t.kids:=by cases t;simp[Tm.mm,Tm.kids]
theorem IM:∀t:Tm,∀left depth:Int,iN t left depth=if(t.sz:Int)<=left/\(t.mm:Int)<=depth then left - t.sz else -1:=by
 refine Tm.eY fun t ih left depth=> ?_
 have hs:∀ (l:List Tm) (left d:Int),(∀k∈l,k∈t.kids)->0<=left->0<=d->cC l left d=if(rK l:Int)<=left/\(Tm.iM l:Int)<=d then left - rK l else -1:=by
  intro l
  induction l with
  |nil=>intro left d _ h1 h2;simp[cC,rK,Tm.iM,h1,h2]
  |cons k l V2=>
   intro left d hk h1 h2
   simp only[cC,if_pos h1]
   rw[ih k (hk k (by simp))]
   have hm:(Tm.iM (k::l):Int)<=d↔(k.mm:Int)<=d/\(Tm.iM l:Int)<=d:=by
    have:= @Nat.max_le k.mm (Tm.iM l) d.toNat
    have e:Tm.iM (k::l)=max k.mm (Tm.iM l):=yY k l
    rw[e];omega
   simp only[qZ,hm]
   by_cases hc:(k.sz:Int)<=left/\(k.mm:Int)<=d
   ·rw[if_pos hc,V2 _ _ (fun x hx=>hk x (by simp[hx])) (by omega) h2]
    by_cases vi:(rK l:Int)<=left - k.sz/\(Tm.iM l:Int)<=d
    ·rw[if_pos vi,if_pos (by omega)];omega
    ·rw[if_neg vi,if_neg (by omega)]
   ·rw[if_neg hc,pL (by omega),if_neg (by omega)]
 rw[C5,Tm.jR,Tm.pP]
 by_cases h:left<1\/depth<1
 ·rw[if_pos h,if_neg (by omega)]
 ·rw[if_neg h,hs _ _ _ (fun _ h=>h) (by omega) (by omega)]
  by_cases hc:(rK t.kids:Int)<=left - 1/\(Tm.iM t.kids:Int)<=depth - 1
  ·rw[if_pos hc,if_pos (by omega)];omega
  ·rw[if_neg hc,if_neg (by omega)]
theorem q8(t:Tm)(left depth:Int):0<=iN t left depth↔(t.sz:Int)<=left/\(t.mm:Int)<=depth:=by
 rw[IM];split<;>omega
theorem wA(t:Tm):eg t=true↔t.sz<=50/\t.mm<=14:=by
 simp only[eg,decide_eq_true_eq,q8];omega
theorem IP:∀ (t:Tm) (d m:Int),(∀x∈pre t d,x.2<=m)↔d+t.mm - 1<=m:=by
 refine Tm.eY fun t ih d m=> ?_
 rw[nC,Tm.pP]
 simp only[List.mem_cons,forall_eq_or_imp,List.mem_flatMap]
 have h1:(∀x:Tm×Int,(∃k,k∈t.kids/\x∈pre k (d+1))->x.2<=m)↔∀k∈t.kids,d+1+k.mm - 1<=m:=by
  constructor
  ·intro h k hk
   exact(ih k hk _ _).1 fun x hx=>h x ⟨k,hk,hx⟩
  ·rintro h x ⟨k,hk,hx⟩
   exact(ih k hk _ _).2 (h k hk) x hx
 rw[h1]
 constructor
 ·rintro⟨h2,h3⟩
  have:=(ou t.kids (m - d).toNat).2 fun k hk=>by have:=h3 k hk;omega
  omega
 ·intro h
  have:=(ou t.kids (m - d).toNat).1 af
  exact⟨af,fun k hk=>by have:=this k hk;omega⟩
theorem GW(p:Tm->Bool):∀ (t:Tm) (d:Int),(pre t d).all (fun x=>p x.1)=(p t&&t.kids.all fun k=>(pre k (d+1)).all fun x=>p x.1):=by
 intro t d
 rw[nC,List.all_cons,List.all_flatMap]
theorem wB(s:aF):∀ (t:Tm) (d:Int),iy s t=(pre t d).all fun x=>bB s x.1:=by
 refine Tm.eY fun t ih d=> ?_
 rw[GW (bB s),lH]
 congr 1
 exact QI
theorem E5:∀ (t:Tm) (d:Int),eZ t=(pre t d).all fun x=>(decide (1<=x.1.op)&&decide (x.1.op<=3))||x.1.op==5:=by
 refine Tm.eY fun t ih d=> ?_
 rw[GW (fun t=>(decide (1<=t.op)&&decide (t.op<=3))||t.op==5),sI,Bool.and_comm]
 congr 1
 exact QI
theorem De{s:aF}{t:Tm}(h:bB s t=true):dS t.op 1 15=true:=by
 rw[show dS t.op 1 15=true↔1<=t.op/\t.op<=15 by simp[dS]]
 by_cases h6:dS t.op 6 15=true
 ·simp[dS]at h6;omega
 ·simp only[bB,if_neg h6]at h
  by_cases h1:t.op=1
  ·omega
  by_cases h2:t.op=2
  ·omega
  by_cases h3:t.op=3
  ·omega
  by_cases h4:t.op=4
  ·omega
  by_cases h5:t.op=5
  ·omega
  by_cases h8:t.op=8
  ·omega
  rw[if_neg h1,if_neg h2,if_neg h3,if_neg h4,if_neg h5,if_neg h8]at h
  cases h
def wC(s:aF)(x:Tm×Int):Bool:= !(decide (12<x.2)|| !dS x.1.op 1 15|| !bB s x.1)
theorem tH(s:aF):∀ (l:List (Tm×Int)) (n:Int) (b:Bool),(aQ (xo fJ (gV s)) (n,b) l).2=(decide (l=[]\/n+l.length<=40)&&l.all (wC s))
 |[],n,b=>by simp[aQ]
 |x::l,n,b=>by
  have e1:∀c,oM s n x=c->xo fJ (gV s) (n,b) x=((n+1, !c), !c):=fun c hc=>by show((n+1, !oM s n x),(fJ (n+1, !oM s n x)).isNone)=_;rw[hc];cases c<;>rfl
  have hb:oM s n x=(decide (40<n+1)|| !wC s x):=by simp[oM,wC,Bool.or_assoc]
  rw[List.all_cons]
  cases hg:wC s x with
  |false=>
   have e:oM s n x=true:=by rw[hb,hg];simp
   rw[aQ,e1 _ e];simp
  |true=>
   by_cases h40:40<n+1
   ·have:decide (x::l=[]\/n+(x::l).length<=40)=false:=by simp;omega
    have e:oM s n x=true:=by rw[hb];simp[h40]
    rw[this,Bool.false_and,aQ,e1 _ e];simp
   ·have e:oM s n x=false:=by rw[hb,hg];simp;omega
    rw[aQ,e1 _ e]
    simp only[Bool.not_false,if_true,tH s l,Bool.true_and]
    congr 1
    cases l with
    |nil=>simp;omega
    |cons y l=>simp;omega
theorem pQ(s:aF)(t:Tm):mq s t=gA s t:=by
 rw[mq,tH,gA,wB s t 1,Bool.eq_iff_iff]
 have hn:pre t 1≠[]:=by rw[nC];simp
 simp only[Bool.and_eq_true,decide_eq_true_eq,hn,false_or,q8,List.all_eq_true]
 have hd:=IP t 1 12
 constructor
 ·rintro⟨h1,h2⟩
  have h3:∀x∈pre t 1,x.2<=12:=fun x hx=>by have:=h2 x hx;simp[wC]at this;omega
  have:=hd.1 h3
  exact⟨⟨by unfold Tm.sz;omega,af⟩,fun x hx=>by have:=h2 x hx;simp[wC]at this;exact this.2⟩
 ·rintro⟨⟨h1,h2⟩,h3⟩
  have h4:=hd.2 af
  refine⟨by unfold Tm.sz at h1;omega,fun x hx=> ?_⟩
  have h5:=h4 x hx
  have h6:=h3 x hx
  have h7:=De h6
  simp[wC,h6,h7];omega
theorem wD:∀ (l:List (Tm×Int)) (b:Bool),(aQ (xo vJ (fun _ x=> !qY x)) b l).2=l.all fun x=> !qY x
 |[],b=>rfl
 |x::l,b=>by
  have e1:∀c,qY x=c->xo vJ (fun _ x=> !qY x) b x=(!c, !c):=fun c hc=>by show(!qY x,(vJ (!qY x)).isNone)=_;rw[hc];cases c<;>rfl
  rw[aQ,List.all_cons]
  cases hv:qY x with
  |false=>rw[e1 _ hv];simp[wD l]
  |true=>rw[e1 _ hv];simp
theorem ow{s:aF}{t:Tm}(h:gA s t=true):nP t=eZ t:=by
 rw[nP,wD,E5 t 1,Bool.eq_iff_iff]
 simp only[gA,Bool.and_eq_true,wB s t 1,List.all_eq_true]at h
 simp only[List.all_eq_true]
 refine forall_congr' fun x=>forall_congr' fun hx=> ?_
 have:=De (h.2 x hx)
 simp[dS]at this
 simp[qY]
 omega
theorem pR:∀a:Tm,hO a a=true:=by
 refine Tm.eY fun a ih=> ?_
 rw[qU]
 have:iz a.kids a.kids=true:=(iA _ _ rfl).2 fun i x y hx hy=>by
  rw[hx]at hy;injection hy with hy;subst hy;exact ih x (List.mem_of_getElem? hx)
 simp[this]
theorem gB:∀a b:Tm,hO a b=true↔a=b:=by
 refine Tm.eY fun a ih b=>⟨fun h=> ?_,fun e=>e ▸ pR _⟩
 rw[qU]at h
 simp only[Bool.and_eq_true,beq_iff_eq]at h
 obtain⟨⟨⟨h1,h2⟩,h3⟩,h4⟩:=h
 have h5:=(iA _ _ h3).1 h4
 have:a.kids=b.kids:=by
  apply List.ext_getElem?
  intro i
  cases hx:a.kids[i]? with
  |none=>simp at hx;symm;simp;omega
  |some x=>
   have hi:=(List.getElem?_eq_some_iff.1 hx).1
   obtain⟨y,hy⟩:=aA (l:=b.kids) (k:=i) af
   rw[hy,(ih x (List.mem_of_getElem? hx) y).1 (h5 i x y hx hy)]
 rw[<- Tm.eta a, <- Tm.eta b,h1,h2,this]
section
def IQ(l:List (D×D)):List (Int×D):=l.map fun p=>((match p.1 with| .int _ n=>n|_=>0),p.2)
def We(l:List (D×D)):Bool:=l.all fun p=>match p.1 with| .int .i64 _=>true|_=>false
@[go_sem] theorem adB (m:List (Int×D)):IQ (enc (D.int .i64) m)=m:=by
  unfold IQ enc;rw[List.map_map];simp[Function.comp_def]
@[go_sem] theorem adC (m:List (Int×D)):We (enc (D.int .i64) m)=true:=by simp[We,enc]
@[go_sem] theorem adD:We []=true:=rfl
@[go_sem] theorem adE:IQ []=[]:=rfl
theorem AM:∀ {l:List (D×D)},We l=true->enc (D.int .i64) (IQ l)=l
 |[],_=>rfl
 |(k,x)::l,h=>by
  simp only[We,List.all_cons,Bool.and_eq_true]at h
  have ih:=AM (l:=l) h.2
  obtain⟨n,h1⟩:∃n,k= .int .i64 n:=by
   have h1:=h.1
   split at h1
   ·exact⟨_,rfl⟩
   ·cases h1
  subst h1
  simp only[enc,IQ,List.map_cons]at ih|-
  rw[ih]
def nQ(l:List Int):List (Int×D):=l.map fun n=>(n, .bool true)
@[go_sem] theorem acT:nQ []=[]:=rfl
def ei(l:List Int)(n:Int):List Int:=if l.contains n=true then l else l++[n]
theorem jS{l:List Int}{n k:Int}:k∈ei l n↔k∈l\/k=n:=by
 unfold ei
 split
 ·rename_i h
  have:n∈l:=by simpa using h
  constructor
  ·exact .inl
  ·rintro(h|rfl)<;>assumption
 ·simp
theorem E6{l:List Int}(n:Int)(h:l.Nodup):(ei l n).Nodup:=by
 unfold ei
 split
 ·exact h
 ·rename_i hn
  have hn:n∉l:=by simpa using hn
  rw[List.nodup_append]
  exact⟨h,aH,fun a ha b hb=>by simp at hb;subst hb;intro e;subst e;exact hn ha⟩
theorem q9:∀ (l:List Int) (n:Int) (i:Nat),jm n (nQ l) i=(l.findIdx? (· ==n)).map fun j=>(i+j,D.bool true)
 |[],n,i=>rfl
 |x::l,n,i=>by
  have ih:=q9 l n (i+1)
  simp only[nQ,List.map_cons,jm,List.findIdx?_cons]at ih|-
  by_cases h:n=x
  ·subst h;simp
  ·have h2: ¬x=n:=fun e=>h e.symm
   simp only[beq_iff_eq,h,h2,if_false,ih,Option.map_map,Function.comp_def]
   congr 1;funext j;congr 1;omega
@[go_sem] theorem XU (l:List Int) (n:Int):ID n (.bool true) (nQ l)=nQ (ei l n):=by
  unfold ID ei
  rw[q9]
  cases h:l.findIdx? (· ==n)with
  |none=>
   have:l.contains n=false:=by
    rw[List.findIdx?_eq_none_iff]at h
    rw[Bool.eq_false_iff];intro hc
    have:=h n (by simpa using hc)
    simp at this
   simp only[Option.map_none,this,Bool.false_eq_true,if_false]
   simp[nQ]
  |some j=>
   rw[List.findIdx?_eq_some_iff_getElem]at h
   obtain⟨hj,he,_⟩:=h
   have e:l[j]=n:=by simpa using he
   have:l.contains n=true:=by rw[List.contains_iff_mem, <- e];exact List.getElem_mem hj
   simp only[Option.map_some,this,if_true,Nat.zero_add]
   apply List.ext_getElem?
   intro k
   rw[List.getElem?_set]
   split
   ·rename_i hk;subst hk;simp[nQ,hj,e]
   ·rfl
def acU(l:List Int)(n:Int):List Int:=match l.findIdx? (· ==n)with|some j=>l.eraseIdx j|none=>l
theorem mu{α β:Type}(f:α->β):∀ (l:List α) (j:Nat),(l.map f).eraseIdx j=(l.eraseIdx j).map f
 |[],_=>rfl
 |_::_,0=>rfl
 |x::l,j+1=>by simp[mu f l j]
@[go_sem] theorem XW (l:List Int) (n:Int):acR n (nQ l)=nQ (acU l n):=by
  unfold acR acU
  rw[q9]
  cases h:l.findIdx? (· ==n)with
  |none=>simp
  |some j=>simp only[Option.map_some,Nat.zero_add];exact mu _ _ _
section
variable {P:Program}{o:Nat->ab}{t:TypeId}{id:Nat}{n:Int}{v:V}
def sK(P:Program)(kt:TypeId):Bool:=match bN P kt with|some .int=>true|_=>false
theorem yZ{kt:TypeId}(h:sK P kt=true):bN P kt=some .int:=by
 unfold sK at h;split at h
 ·assumption
 ·cases h
@[go_sem] theorem XX {kt:TypeId} (h:bN P kt=some .int):sK P kt=true:=by unfold sK;rw[h]
def Wf(P:Program)(o:Nat->ab)(t:TypeId)(id:Nat)(n:Int)(v:V):Option fX:=
 match r8 P t,dQ o v,o id with
 |some (kt,_),some vd, .map FW FX l=>match sK P kt&&We l&&v.ids.all (· !=id)with
  |true=>some (.bS [],bE o v.ids++[(id, .map FW FX (enc (D.int .i64) (ID n vd (IQ l))))],id::v.ids)
  |false=>qX P o t (.mp id) (.d (.int .i64 n)) v
 |_,_,_=>qX P o t (.mp id) (.d (.int .i64 n)) v
@[go_sem high] theorem Wg:fQ P o t (.mp id) (.d (.int .i64 n)) v=Wf P o t id n v:=by
  unfold Wf
  split
  ·rename_i kt vt vd FW FX l h1 h2 h3
   split
   ·rename_i hc
    simp only[Bool.and_eq_true]at hc
    obtain⟨⟨c1,c2⟩,c3⟩:=hc
    have c4:=yZ c1
    have c5:dQ o (.d (.int .i64 n))=some (.int .i64 n):=rfl
    have hl:=AM c2
    unfold fQ
    simp only[h1,c5,h2,oZ,h3]
    rw[if_pos ⟨rfl,GU c4 n,rfl,c3⟩]
    conv=>lhs;rw[<- hl]
    rw[C9 c4]
    unfold ID
    cases jm n (IQ l) 0 with
    |none=>simp[xL,enc]
    |some p=>simp[xL,GV,D.same,oY]
   ·exact yV ..
  ·exact yV ..
attribute [go_sem] Wf
def XY(l:List (D×D)):Bool:=l.all fun p=>match p.2 with| .bool true=>true|_=>false
@[go_sem] theorem adF (l:List Int):XY (enc (D.int .i64) (nQ l))=true:=by simp[XY,enc,nQ]
@[go_sem] theorem adG:XY []=true:=rfl
theorem GX:∀ {m:List (Int×D)},XY (enc (D.int .i64) m)=true->nQ (m.map (·.1))=m
 |[],_=>rfl
 |(k,x)::m,h=>by
  simp only[XY,enc,List.map_cons,List.all_cons,Bool.and_eq_true]at h
  have ih:=GX (m:=m) h.2
  have h1:x= .bool true:=by
   have h1:=h.1
   split at h1
   ·rfl
   ·cases h1
  simp only[nQ,List.map_cons]at ih|-
  rw[ih,h1]
def LQ(P:Program)(o:Nat->ab)(t:TypeId)(m:V)(n:Int)(ok:Bool):Option fX:=
 match r8 P t with
 |some (kt,vt)=>match zeroV P vt with
  |some (.d (.bool false))=>match qj o m with
   |some (rd,l)=>match sK P kt&&We l&&XY l with
    |true=>some (match ok with|true=> .bS [.d (.bool (((IQ l).map (·.1)).contains n)), .d (.bool (((IQ l).map (·.1)).contains n))]|false=> .d (.bool (((IQ l).map (·.1)).contains n)),[],rd)
    |false=>wy P o t m (.d (.int .i64 n)) ok
   |none=>wy P o t m (.d (.int .i64 n)) ok
  |_=>wy P o t m (.d (.int .i64 n)) ok
 |none=>wy P o t m (.d (.int .i64 n)) ok
@[go_sem] theorem LR (l:List Int):((nQ l).map (·.1))=l:=by simp[nQ,Function.comp_def]
@[go_sem high] theorem acV {m:V} {ok:Bool}:jk P o t m (.d (.int .i64 n)) ok=LQ P o t m n ok:=by
  unfold LQ
  split
  ·rename_i kt vt h1
   split
   ·rename_i hz
    split
    ·rename_i rd l h
     split
     ·rename_i hc
      simp only[Bool.and_eq_true]at hc
      have c4:=yZ hc.1.1
      have hl:=AM hc.1.2
      have hs:nQ ((IQ l).map (·.1))=IQ l:=GX (by rw[hl];exact hc.2)
      have c5:dQ o (.d (.int .i64 n))=some (.int .i64 n):=rfl
      unfold jk
      simp only[h1,c5,h]
      rw[if_pos ⟨rfl,GU c4 n⟩]
      conv=>lhs;rw[<- hl]
      rw[C9 c4, <- hs,q9,LR]
      generalize (IQ l).map (·.1)=l'
      cases hf:l'.findIdx? (· ==n)with
      |none=>
       have:l'.contains n=false:=by
        rw[List.findIdx?_eq_none_iff]at hf
        rw[Bool.eq_false_iff];intro hc
        have:=hf n (by simpa using hc)
        simp at this
       cases ok<;>simp only[Option.map_none,xL,hz,this,if_true,Bool.false_eq_true,if_false]
      |some j=>
       rw[List.findIdx?_eq_some_iff_getElem]at hf
       obtain⟨hj,he,_⟩:=hf
       have e:l'[j]=n:=by simpa using he
       have:l'.contains n=true:=by rw[List.contains_iff_mem, <- e];exact List.getElem_mem hj
       cases ok<;>simp only[Option.map_some,xL,this,if_true,Bool.false_eq_true,if_false]
     ·exact oq ..
    ·exact oq ..
   ·exact oq ..
  ·exact oq ..
attribute [go_sem] LQ
end
attribute [go_sem] List.head?_cons
end
mutual
def gC(v:Int):Tm->Bool
 | .mk op n kids=>if op=1 then n==v else AO v op n kids 0
def AO(v op n:Int):List Tm->Nat->Bool
 |[],_=>false
 |k::l,i=>(gC v k&& !(op==8&&i==1&&n==v))||AO v op n l (i+1)
end
theorem sL(v:Int)(t:Tm):gC v t=if t.op=1 then t.n==v else AO v t.op t.n t.kids 0:=by cases t;rfl
@[reducible] def IU (l:List Int):ab:= .map 3 4 (enc (D.int .i64) (nQ l))
def oN:List Int->Int->List Int
 |[],n=>[n]
 |x::l,n=>if x<n then x::oN l n else if x=n then x::l else n::x::l
def pS(op n:Int)(i:Nat)(l out:List Int):List Int:=l.foldl (fun out v=>if(op !=8||(i:Int)!=1||v !=n)=true then oN out v else out) out
mutual
def cJ:Tm->List Int
 | .mk op n kids=>if op=1 then [n]else mw op n kids 0 []
def mw(op n:Int):List Tm->Nat->List Int->List Int
 |[],_,out=>out
 |k::l,i,out=>mw op n l (i+1) (pS op n i (cJ k) out)
end
theorem ra(t:Tm):cJ t=if t.op=1 then [t.n]else mw t.op t.n t.kids 0 []:=by cases t;rfl
theorem wE:∀ (l:List Int) (n v:Int),v∈oN l n↔v∈l\/v=n
 |[],n,v=>by simp[oN]
 |x::l,n,v=>by
  simp only[oN]
  split
  ·simp only[List.mem_cons,wE l n v];constructor
   ·rintro(h|h|h)
    ·exact .inl (.inl h)
    ·exact .inl (.inr h)
    ·exact .inr h
   ·rintro((h|h)|h)
    ·exact .inl h
    ·exact .inr (.inl h)
    ·exact .inr (.inr h)
  ·split
   ·rename_i h;subst h;simp only[List.mem_cons];constructor
    ·exact .inl
    ·rintro(h|h)
     ·exact h
     ·exact .inl h
   ·simp only[List.mem_cons];constructor
    ·rintro(h|h)
     ·exact .inr h
     ·exact .inl h
    ·rintro(h|h)
     ·exact .inr h
     ·exact .inl h
abbrev E7(l:List Int):Prop:=l.Pairwise (· <·)
theorem Df:∀ {l:List Int} (n:Int),E7 l->E7 (oN l n)
 |[],n,_=>by simp[oN]
 |x::l,n,h=>by
  have h1:=List.pairwise_cons.1 h
  simp only[oN]
  split
  ·rename_i hx
   refine List.pairwise_cons.2 ⟨fun y hy=> ?_,Df n h1.2⟩
   rcases(wE l n y).1 hy with hy|hy
   ·exact h1.1 y hy
   ·omega
  ·split
   ·exact h
   ·refine List.pairwise_cons.2 ⟨fun y hy=> ?_,h⟩
    rcases List.mem_cons.1 hy with hy|hy
    ·omega
    ·have:=h1.1 y hy;omega
theorem ox(op n:Int)(i:Nat):∀ (l out:List Int),E7 out->E7 (pS op n i l out)/\∀v,v∈pS op n i l out↔v∈out\/(v∈l/\ ¬ (op=8/\i=1/\n=v))
 |[],out,h=>⟨h,fun v=>by simp[pS]⟩
 |x::l,out,h=>by
  have hk:pS op n i (x::l) out=pS op n i l (if(op !=8||(i:Int)!=1||x !=n)=true then oN out x else out):=rfl
  rw[hk]
  by_cases hc:(op !=8||(i:Int)!=1||x !=n)=true
  ·rw[if_pos hc]
   have ih:=ox op n i l (oN out x) (Df x h)
   refine⟨ih.1,fun v=> ?_⟩
   rw[ih.2 v,wE,List.mem_cons]
   have vi: ¬ (op=8/\i=1/\n=x):=by
    rintro⟨h1,h2,h3⟩;subst h1;subst h2;subst h3;simp at hc
   constructor
   ·rintro((h|h)|h)
    ·exact .inl h
    ·subst h;exact .inr ⟨.inl rfl,vi⟩
    ·exact .inr ⟨.inr h.1,h.2⟩
   ·rintro(h|⟨h|h,h2⟩)
    ·exact .inl (.inl h)
    ·exact .inl (.inr h)
    ·exact .inr ⟨h,h2⟩
  ·rw[if_neg hc]
   have ih:=ox op n i l out h
   refine⟨ih.1,fun v=> ?_⟩
   rw[ih.2 v,List.mem_cons]
   have vi:op=8/\i=1/\n=x:=by simp at hc;exact⟨hc.1.1,af,hc.2.symm⟩
   constructor
   ·rintro(h|h)
    ·exact .inl h
    ·exact .inr ⟨.inr h.1,h.2⟩
   ·rintro(h|⟨h|h,h2⟩)
    ·exact .inl h
    ·subst h;exact absurd vi h2
    ·exact .inr ⟨h,h2⟩
theorem dE:∀t:Tm,E7 (cJ t)/\∀v,v∈cJ t↔gC v t=true:=by
 refine Tm.eY fun t ih=> ?_
 have hs:∀ (l:List Tm) (i:Nat) (out:List Int),(∀k∈l,k∈t.kids)->E7 out->E7 (mw t.op t.n l i out)/\∀v,v∈mw t.op t.n l i out↔v∈out\/AO v t.op t.n l i=true:=by
  intro l
  induction l with
  |nil=>intro i out _ h;exact⟨h,fun v=>by simp[mw,AO]⟩
  |cons k l V2=>
   intro i out hk h
   have h1:=ih k (hk k aH)
   have h2:=ox t.op t.n i (cJ k) out h
   have h3:=V2 (i+1) _ (fun x hx=>hk x oT) h2.1
   refine⟨h3.1,fun v=> ?_⟩
   show v∈mw t.op t.n l (i+1) (pS t.op t.n i (cJ k) out)↔_
   rw[h3.2 v,h2.2 v,h1.2 v,AO]
   simp only[Bool.or_eq_true,Bool.and_eq_true,Bool.not_eq_true',Bool.and_eq_false_iff,beq_eq_false_iff_ne,ne_eq,not_and]
   have:(∀ (_:t.op=8) (_:i=1), ¬t.n=v)↔((¬t.op=8\/ ¬i=1)\/ ¬t.n=v):=by
    constructor
    ·intro h
     by_cases c1:t.op=8
     ·by_cases c2:i=1
      ·exact .inr (h c1 c2)
      ·exact .inl (.inr c2)
     ·exact .inl (.inl c1)
    ·rintro((h|h)|h) c1 c2
     ·exact absurd c1 h
     ·exact absurd c2 h
     ·exact h
   rw[this]
   constructor
   ·rintro((h|h)|h)
    ·exact .inl h
    ·exact .inr (.inl h)
    ·exact .inr (.inr h)
   ·rintro(h|h|h)
    ·exact .inl (.inl h)
    ·exact .inl (.inr h)
    ·exact .inr h
 by_cases h1:t.op=1
 ·rw[ra,if_pos h1]
  refine⟨aH,fun v=> ?_⟩
  rw[sL,if_pos h1]
  simp only[List.mem_singleton,beq_iff_eq]
  exact eq_comm
 ·rw[ra,if_neg h1]
  have:=hs t.kids 0 [] (fun _ h=>h) aH
  refine⟨this.1,fun v=> ?_⟩
  rw[this.2 v,sL,if_neg h1]
  simp
theorem LS:∀ {l l':List Int},E7 l->E7 l'->(∀v,v∈l↔v∈l')->l=l'
 |[],[],_,_,_=>rfl
 |[],y::l',_,_,h=>by have:=(h y).2 aH;cases this
 |x::l,[],_,_,h=>by have:=(h x).1 aH;cases this
 |x::l,y::l',h1,h2,h=>by
  have g1:=List.pairwise_cons.1 h1
  have g2:=List.pairwise_cons.1 h2
  have e:x=y:=by
   rcases List.mem_cons.1 ((h x).1 aH)with e|e
   ·exact e
   ·rcases List.mem_cons.1 ((h y).2 aH)with e2|e2
    ·exact e2.symm
    ·have:=g2.1 x e;have:=g1.1 y e2;omega
  subst e
  rw[LS g1.2 g2.2 fun v=> ?_]
  constructor
  ·intro hv
   rcases List.mem_cons.1 ((h v).1 (by simp[hv]))with e|e
   ·subst e;exact absurd (g1.1 v hv) af
   ·exact e
  ·intro hv
   rcases List.mem_cons.1 ((h v).2 (by simp[hv]))with e|e
   ·subst e;exact absurd (g2.1 v hv) af
   ·exact e
theorem pT{α:Type}{l:List α}{i:Nat}{n:α}(h:l[i]? =some n):(n::l.eraseIdx i).Perm l:=by
 obtain⟨hi,e⟩:=List.getElem?_eq_some_iff.1 h
 have QW:l=l.take i++n::l.drop (i+1):=by rw[<- e,List.getElem_cons_drop,List.take_append_drop]
 rw[List.eraseIdx_eq_take_drop_succ]
 conv=>rhs;rw[QW]
 exact List.perm_middle.symm
end Go.Proofs.YtlhemmpklhhgoaaGreat
section
namespace Go.Proofs.YtlhemmpklhhgoaaGreat
open Go.Sort Go.RowKit
def Dg(P:Program)(g:FuncId):Prop:=∀ (ej off cap:Nat) (zs:List Int) (w:World),Holds (Value.int .i64) w ej off zs.toArray->ej<w.heap.size->zs.length<4611686018427387904->
    Calls P g #[.slice (some ⟨ej,off,none⟩) zs.length cap] w fun e w'=>
     e= .returned (.tuple #[])/\∃n os,w'=grow (putRow (Value.int .i64) (Sort.ahead w n) ej off (zs.mergeSort fun x y=>decide (x<=y)).toArray) os
def cW(l:List Int):List Int:=l.mergeSort fun x y=>decide (x<=y)
theorem GY{B:Nat->Prop}{w:World}:∀ (zs:List Int) (xs:List Value),eH B w 1 (zs.map (D.int .i64)) xs↔xs=zs.map (Value.int .i64):=by
 have hd:∀ (zs:List Int) (evs:List Value),D.aD B w (zs.map (D.int .i64)) evs↔evs=zs.map (Value.int .i64):=by
  intro zs
  induction zs with
  |nil=>intro evs;simp[D.aD]
  |cons z zs ih=>
   intro evs
   simp only[List.map_cons,D.aD]
   constructor
   ·rintro⟨v,vs,rfl,h1,h2⟩
    rw[(ih vs).1 h2]
    simp only[D.den]at h1
    rw[h1]
   ·intro h
    exact⟨_,_,h,rfl,(ih _).2 rfl⟩
 have hf:∀zs:List Int,(zs.map (Value.int .i64)).flatMap (·.cells.toList)=zs.map (Value.int .i64):=by
  intro zs
  induction zs with
  |nil=>rfl
  |cons z zs ih=>simp only[List.map_cons,List.flatMap_cons,ih];rfl
 intro zs xs
 constructor
 ·rintro⟨evs,h1,h2,h3⟩
  rw[h1,(hd zs evs).1 h3,hf]
 ·intro h
  subst h
  exact⟨_,(hf zs).symm,fun ev dh=>by
   obtain⟨z,_,rfl⟩:=List.mem_map.1 dh
   rfl,(hd zs _).2 rfl⟩
theorem LU{P:Program}{g:FuncId}(hE:Enters P g)(hS:Dg P g){o:Nat->ab}{nx id ep:Nat}{ty:TypeId}{zs:List Int}(ho:o id= .arr ep ty 1 (zs.map (D.int .i64)))
 (hn:∀p cap w,Calls P g #[.slice p 0 cap] w fun e w'=>e= .returned (.tuple #[])/\w'=w)
 (hlen:zs.length<4611686018427387904) {K X:V->(Nat->ab)->Nat->Prop} (hK:K (.bS []) (ay o id (.arr ep ty 1 ((cW zs).map (D.int .i64)))) nx):bZ P g [.osl id ep] o nx K X:=by
 refine⟨hE,fun M φ w vals hH hd=> ?_⟩
 obtain⟨val,us,lh,⟨v0,v1,v2⟩,dU⟩:=hd
 have dU:us=[]:=dU
 subst dU
 have fK:val=φ id:=(v2 ep (by show(o id).ct=some ep;rw[ho];rfl)).2 rfl
 have IV:vals=#[φ id]:=by rw[<- fK];exact Array.ext' (by simpa using lh)
 subst IV
 have Lb:=hH.ok id
 unfold aR at Lb
 rw[show(hp o nx).o id= .arr ep ty 1 (zs.map (D.int .i64))from ho]at Lb
 obtain⟨_,xs,dG,cV⟩:=Lb
 have M8:=(GY zs xs).1 cV
 subst M8
 simp only[List.length_map]at dG
 obtain⟨hl,TU|⟨b,cap,cur,eQ,_,hg,fE,zP,hcs,acW⟩⟩:=dG
 ·obtain⟨h1,h2⟩:=TU
  have hz:zs=[]:=List.length_eq_zero_iff.1 h2
  subst hz
  rw[h1]
  refine(hn none 0 w).mono ?_
  rintro e w' ⟨rfl,rfl⟩
  have yn:ay o id (.arr ep ty 1 ((cW []).map (D.int .i64)))=o:=by
   funext j
   by_cases e:j=id
   ·subst e;rw[aa,ho,show cW []=[] by simp[cW]]
   ·exact FQ
  rw[yn]at hK
  exact⟨φ,o,nx, .bS [],hH,Trans.refl _ _ _,⟨#[],rfl,rfl⟩,hK⟩
 ·rw[eQ]
  have hb:b<w.heap.size:=(Array.getElem?_eq_some_iff.1 hg).1
  have acX:∀j,j<zs.length->cur[j]? =some (.int .i64 zs[j]!):=by
   intro j hj
   have h1:(cur.toList.take (zs.length*1))[j]? =(zs.map (Value.int .i64))[j]? :=by rw[acW]
   rw[List.getElem?_take_of_lt (by omega),List.getElem?_map,List.getElem?_eq_getElem hj]at h1
   simp only[Option.map_some]at h1
   rw[getElem!_pos zs j hj]
   simpa using h1
  refine(hS b 0 cap zs w (fun j hj=> ?_) hb hlen).mono ?_
  ·simp only[List.size_toArray]at hj
   refine⟨?_, ?_⟩
   ·unfold World.cell?
    simp only[hg,Option.isSome_none,Bool.false_eq_true,if_false,Nat.zero_add]
    rw[acX j hj];simp
   ·unfold World.frozen?
    simp[hg]
  rintro e w' ⟨rfl,n,os,rfl⟩
  have UL:(cW zs).length=zs.length:=List.length_mergeSort zs
  have GQ:∀k,k<w.heap.size->(grow (putRow (Value.int .i64) (Sort.ahead w n) b 0 (cW zs).toArray) os).heap[k]? =(w.heap.modify b (onCells (putCells (Value.int .i64) 0 (cW zs).toArray)))[k]? :=by
   intro k hk
   unfold grow putRow mapBlock Sort.ahead
   simp only
   rw[Array.getElem?_append_left (by simpa using hk)]
  have Gi:eo (· =b) w (grow (putRow (Value.int .i64) (Sort.ahead w n) b 0 (cW zs).toArray) os):=by
   refine⟨rfl,rfl,rfl, ?_,fun k hk jo=> ?_⟩
   ·unfold grow putRow mapBlock Sort.ahead;simp
   ·rw[GQ k hk,Array.getElem?_modify,if_neg (fun e=>jo e.symm)]
  have cT:((hp o nx).o id).live=true:=by show(o id).live=true;rw[ho];rfl
  have Ih:ej (φ id)=some b:=by rw[eQ];rfl
  have TT:(grow (putRow (Value.int .i64) (Sort.ahead w n) b 0 (cW zs).toArray) os).heap[b]? =some (.cells (putCells (Value.int .i64) 0 (cW zs).toArray cur) ty (0,0)):=by
   rw[GQ b hb,Array.getElem?_modify,if_pos rfl,hg];rfl
  have fk:(hp o nx).put [(id, .arr ep ty 1 ((cW zs).map (D.int .i64)))]=hp (ay o id (.arr ep ty 1 ((cW zs).map (D.int .i64)))) nx:=by
   have dU:id<nx:=v1
   simp only[Hp.put,hp]
   congr 1
   funext j
   simp only[List.map_cons,List.map_nil,List.mem_singleton,eq_iff_iff]
   exact⟨fun h=>h.elim (fun h=>h) (fun e=>e ▸ dU), .inl⟩
  have u9:aR M φ ((hp o nx).put [(id, .arr ep ty 1 ((cW zs).map (D.int .i64)))]) (grow (putRow (Value.int .i64) (Sort.ahead w n) b 0 (cW zs).toArray) os) id:=by
   unfold aR
   rw[show((hp o nx).put [(id, .arr ep ty 1 ((cW zs).map (D.int .i64)))]).o id= .arr ep ty 1 ((cW zs).map (D.int .i64)) by simp]
   refine⟨bD,(cW zs).map (Value.int .i64), ?_,(GY _ _).2 rfl⟩
   simp only[List.length_map,UL]
   refine⟨by simp[UL], .inr ⟨b,cap,_,eQ,Nat.zero_le _,TT,fE,zP, ?_, ?_⟩⟩
   ·unfold putCells;simpa using hcs
   ·apply List.ext_getElem?
    intro j
    by_cases hj:j<zs.length
    ·rw[List.getElem?_take_of_lt (by omega),List.getElem?_map,List.getElem?_eq_getElem (l:=cW zs) (by omega)]
     have Nb:j<cur.size:=af
     unfold putCells
     simp only[Array.getElem?_toList,Array.getElem?_mapIdx,Option.map_some]
     rw[Array.getElem?_eq_getElem Nb]
     simp only[Option.map_some,Nat.zero_le,true_and,Nat.zero_add,List.size_toArray,Nat.sub_zero]
     rw[if_pos (by omega)]
     rw[getElem!_pos _ j (by simp;omega)]
     simp
    ·rw[List.getElem?_eq_none (by rw[List.length_take,Nat.mul_one];exact Nat.le_trans (Nat.min_le_left _ _) (Nat.not_lt.1 hj)),List.getElem?_eq_none (by rw[List.length_map,UL];exact Nat.not_lt.1 hj)]
  have SM:=hZ hH (id:=id) v1 cT Ih Gi (.arr ep ty 1 ((cW zs).map (D.int .i64))) Nz Nz u9
  have RJ:=eW (φ:=φ) (H:=hp o nx) (id:=id) v1 cT Ih Gi (.arr ep ty 1 ((cW zs).map (D.int .i64))) Nz Nz
  rw[fk]at SM RJ
  exact⟨φ,_,nx, .bS [],SM,RJ,⟨#[],rfl,rfl⟩,hK⟩
end Go.Proofs.YtlhemmpklhhgoaaGreat
end
