/-
  A PART OF THE PROOF. Conditions: none.
-/
import Derived.Shelf.Sort.Plain
import Derived.Shelf.Slices.In.SortNone
import Derived.Test.YtlhemmpklhhgoaaGreatQs14
set_option linter.unusedSimpArgs false
set_option linter.unusedVariables false
namespace Go.Proofs.YtlhemmpklhhgoaaGreat
section
theorem Cf{σ:Type}(l:List Tm)(hl:l.length<=9223372036854775807)(g:Nat)(bI:List V)(base:Nat)(H:σ->Nat->ad)(step:σ->Tm->σ×Bool)(hc:∀r∈V.aQ bI,r<base)(ok:σ->Prop)(aW:∀x∈l,∀s,ok s->(step s x).2=true->ok (step s x).1)
 (h:∀x∈l,∀s,ok s->vG Tryz.prog g (.d x.d::bI) base (H s) (H (step s x).1) (.d (.bool (step s x).2))) (s:σ) (pg:ok s):
 vG Tryz.prog 169 [.d (.sl (l.map Tm.d)), .func (.func g) [] bI] base (H s) (H (aK step s l).1) (.d (.bool (aK step s l).2)):=by
 intro o nx hI K X hK
 have fL:∀r∈V.aQ bI,r<nx:=fun r hr=>Nat.lt_of_lt_of_le (hc r hr) hI.le
 refine cI.aI mix Q4 aF ?_
 rw[Uv]
 refine cB ?_
 refine aB (fun i:Nat×σ×(Nat->ad)×Nat=>⟨aX [.aa, .func (.func g) [] bI, .aa, .aa, .aa, .aa, .aa, .d (.sl (l.map Tm.d)), .d (.i l.length), .d (.i i.1)],i.2.2.1,i.2.2.2⟩)
  (fun i=>i.1<=l.length/\eA base (H i.2.1) i.2.2.1 i.2.2.2/\nx<=i.2.2.2/\(∀id,base<=id->id<nx->i.2.2.1 id=o id)/\aK step s l=aK step i.2.1 (l.drop i.1)/\ok i.2.1) (fun i=>l.length - i.1) (0,s,o,nx)
  ⟨Nat.zero_le _,hI,Nat.le_refl _,fun _ _ _=>rfl,rfl,pg⟩ ?_ ?_
 ·exact Sm
 rintro⟨k,s',o',nx'⟩ ⟨hk,Md,hn,c8,hf,vK⟩
 simp only at hk Md hn c8 hf vK
 refine cB ?_
 refine ak (fun h1=> ?_) (fun h1=> ?_)
 ·simp at h1
  obtain⟨x,hx⟩:=ay h1
  have bY:=List.mem_of_getElem? hx
  have hd:l.drop k=x::l.drop (k+1):=by
   exact Sh
  refine RW hx ?_
  have YU:=Md.le
  refine ku (h x bY s' vK _ _ (?_:eA base (H s') _ (nx'+7)) _ _ fun o2 n2 m1 m2 m3=> ?_)
  ·exact Xw
  have KN:∀id,base<=id->id<nx->o2 id=o id:=fun id h2 h3=>by
   exact XM
  refine cB ?_
  refine ak (fun h2=> ?_) (fun h2=> ?_)
  ·refine cB ?_
   simp at h2
   have:aK step s l=((step s' x).1,false):=by rw[hf,hd,aK,if_neg (by rw[h2];exact Bool.false_ne_true)]
   rw[this]at hK
   exact hK _ _ af (m2.mono af) KN
  ·refine cB ?_
   simp at h2
   have:aK step s l=aK step (step s' x).1 (l.drop (k+1)):=by rw[hf,hd,aK,if_pos h2]
   refine aj (k+1,(step s' x).1,o2,n2) ⟨h1,m2,by dsimp only;omega,KN,this,aW x bY s' vK h2⟩ kC ?_
   dsimp only
   have Rl:∀r∈V.aQ bI,r<n2:=fun r hr=>by have:=fL r hr;omega
   refine bA.bJ _ af af m2.cm (fun _ _=>rfl) ?_
   exact dp
 ·exact Yw
theorem zR{α σ:Type}(step:σ->α->σ×Bool)(a b:List α):∀s,aK step s (a++b)=if(aK step s a).2=true then aK step (aK step s a).1 b else((aK step s a).1,false):=by
 induction a with
 |nil=>intro s;simp[aK]
 |cons x a ih=>
  intro s
  simp only[List.cons_append,aK]
  split
  ·exact ih _
  ·rename_i h;simp
theorem vL{α β σ:Type}(step:σ->β->σ×Bool)(f:α->List β)(l:List α):∀s,aK step s (l.flatMap f)=aK (fun s x=>aK step s (f x)) s l:=by
 induction l with
 |nil=>intro s;rfl
 |cons x l ih=>intro s;simp only[List.flatMap_cons,zR,aK,ih]
theorem Az{α σ:Type}{step:σ->α->σ×Bool}{ok:σ->Prop}:∀ (l:List α),(∀x∈l,∀s,ok s->(step s x).2=true->ok (step s x).1)->∀s,ok s->(aK step s l).2=true->ok (aK step s l).1
 |[],_,s,h,_=>h
 |x::l,aW,s,h,h2=>by
  simp only[aK]at h2|-
  split at h2
  ·rename_i hb
   rw[if_pos hb]
   exact Az l (fun y hy=>aW y lJ) _ (aW x aF s h hb) h2
  ·cases h2
def RoC(P:Program)(ri:Nat)(args:List V)(base:Nat)(h h2:Nat->ad)(v:V):Prop:=
 ∀o nx,eA base h o nx->∀K X,StK base h2 v o nx K->dB P ri args o nx K X
section
variable {σ:Type}(base ri:Nat)(H:σ->Nat->ad)(step:σ->Tm×Int->σ×Bool)(ok:σ->Prop)
theorem NQ:∀t:Tm,t.fits->∀d:Int,0<=d->d+t.mC<=1000000->(∀x∈pre t d,∀s,ok s->(step s x).2=true->ok (step s x).1)->(∀x∈pre t d,∀s,ok s->RoC Tryz.prog ri [.d x.1.d, .d (.i x.2)] base (H s) (H (step s x).1) (.d (.bool (step s x).2)))->ri<base->
 ∀ (c:Nat) (o0:Nat->ad) (yb vb:Nat),base<=c->base<=yb->yb<c->base<=vb->vb<c->o0 yb= .row [.j7 ri]->o0 vb= .row [.func (.func 173) [] [.ptr yb 0, .ptr vb 0]]->
 ∀s,ok s->vG Tryz.prog 173 [.d t.d, .d (.i d), .ptr yb 0, .ptr vb 0] c (ext base (H s) o0) (ext base (H (aK step s (pre t d)).1) o0) (.d (.bool (aK step s (pre t d)).2)):=by
 refine Tm.ei fun t ih hf d hd0 hd aW hR Cg c o0 yb vb hbc hy0 hy hv0 hv oy ov s pg=> ?_
 have wP:=(Tm.bK _).1 hf
 intro o nx hI K X hK
 have hle:=hI.le
 have WJ:o yb= .row [.j7 ri]:=by rw[hI.eq yb hy];unfold ext;rw[if_neg (by omega),oy]
 have UT:o vb= .row [.func (.func 173) [] [.ptr yb 0, .ptr vb 0]]:=by rw[hI.eq vb hv];unfold ext;rw[if_neg (by omega),ov]
 have y1:yb≠nx:=af
 have y2:∀k,yb≠nx+k:=fun k=>af
 have y3:vb≠nx:=af
 have y4:∀k,vb≠nx+k:=fun k=>af
 refine cI.aI mix Q8 aF ?_
 rw[Uz]
 simp+contextual only[go_sem,WJ,UT,y1,y2,y3,y4,Nat.add_assoc,Nat.left_eq_add,Nat.add_eq_left,Nat.add_left_cancel_iff]
 have pz:=nm t d
 have tv:∀k∈t.kids,∀x∈pre k (d+1),x∈pre t d:=fun k hk x hx=>by
  rw[pz];exact List.mem_cons_of_mem _ (List.mem_flatMap.2 ⟨k,hk,hx⟩)
 have hb:∀id,id<base->o id=H s id:=fun id au=>by rw[hI.eq id (by omega)];unfold ext;rw[if_pos au]
 have hIb:eA base (H s) o nx:=⟨hI.cm,af,hb⟩
 refine nz (hR (t,d) (by rw[pz];simp) s pg _ _ ((hIb.az (i:=nx) (m:=nx+6) af af af rfl).az (i:=nx+1) af af af rfl) _ _ fun o2 n2 m1 m2 m3=> ?_)
 have k0:o2 nx= .row t.row:=by rw[m3 nx (by omega) (by omega),ae _ _ _ _ (by omega),ab]
 have k1:o2 (nx+1)= .row [.d (.i d)]:=by rw[m3 (nx+1) (by omega) (by omega),ab]
 have hold:∀id,base<=id->id<nx->o2 id=o id:=fun id h1 h2=>by rw[m3 id h1 (by omega),ae _ _ _ _ (by omega),ae _ _ _ _ (by omega)]
 have Is:∀id,base<=id->id<c->o id=o0 id:=fun id h1 h2=>by rw[hI.eq id h2];unfold ext;rw[if_neg (by omega)]
 cases E6:(step s (t,d)).2 with
 |false=>
  refine kB E6 ?_
  have Au:aK step s (pre t d)=((step s (t,d)).1,false):=by rw[pz,aK,if_neg (by rw[E6];exact Bool.false_ne_true)]
  rw[Au]at hK
  refine hK _ _ af ⟨m2.cm.mono af,af,fun id au=> ?_⟩ (fun id h1 h2=>hold id af h2)
  unfold ext
  split
  ·exact m2.eq id (by assumption)
  ·exact Mt
 |true=>
  have Au:aK step s (pre t d)=aK (fun s k=>aK step s (pre k (d+1))) (step s (t,d)).1 t.kids:=by rw[pz,aK,if_pos E6,vL]
  simp+contextual only[go_sem,E6,k0,k1]
  have q0:o2 yb= .row [.j7 ri]:=by rw[hold yb hy0 (by omega),WJ]
  have q1:o2 vb= .row [.func (.func 173) [] [.ptr yb 0, .ptr vb 0]]:=by rw[hold vb hv0 (by omega),UT]
  have m0:=m2.le
  refine bz (Cf t.kids wP.1 174 [.ptr vb 0, .ptr (nx+1) 0] n2 (fun s=>ext base (H s) o2) (fun s k=>aK step s (pre k (d+1))) ?_ ok ?_ ?_ (step s (t,d)).1 (aW (t,d) (by rw[pz];simp) s pg E6) _ _ ?_ _ _ ?_)
  ·exact EX
  ·exact XX
  ·intro k hk s' jT o3 n3 hI3 K3 X3 hK3
   have l3:=hI3.le
   have r0:o3 vb= .row [.func (.func 173) [] [.ptr yb 0, .ptr vb 0]]:=by rw[hI3.eq vb (by omega)];unfold ext;rw[if_neg (by omega),q1]
   have r1:o3 (nx+1)= .row [.d (.i d)]:=by rw[hI3.eq (nx+1) (by omega)];unfold ext;rw[if_neg (by omega),k1]
   have y5:vb≠n3:=af
   have y6:∀k,vb≠n3+k:=fun k=>af
   have y7:nx+1≠n3:=af
   have y8:∀k,nx+1≠n3+k:=fun k=>af
   have hh:=Tm.zD hk
   refine cI.aI mix Q9 aF ?_
   rw[UA]
   simp+contextual only[go_sem,r0,r1,y5,y6,y7,y8]
   rw[wrap64 (n:=d+1) (by omega) (by omega)]
   refine bz (ih k hk (wP.2 k hk) (d+1) af af (fun x hx=>aW x (tv k hk x hx)) (fun x hx=>hR x (tv k hk x hx)) Cg n2 o2 yb vb af hy0 af hv0 af q0 q1 s' jT _ _ (hI3.az (i:=n3) (m:=n3+6) af af af rfl) _ _ fun o4 n4 p1 p2 p3=> ?_)
   refine cB ?_
   refine hK3 _ _ af (p2.mono af) (fun id h1 h2=> ?_)
   rw[p3 id h1 (by omega),ae _ _ _ _ (by omega)]
  ·exact(m2.mono af).ext af af
  ·intro o5 n5 p1 p2 p3
   refine cB ?_
   rw[<- Au]
   refine hK _ _ af ⟨p2.cm.mono af,af,fun id au=> ?_⟩ (fun id h1 h2=> ?_)
   ·rw[p2.eq id (by omega), <- Au]
    unfold ext
    split
    ·rfl
    ·exact Mt
   ·rw[p2.eq id (by omega)]
    unfold ext
    rw[if_neg (by omega),hold id (by omega) h2]
theorem KO(t:Tm)(hf:t.fits)(hd:t.mC<=900000)(aW:∀x∈pre t 1,∀s,ok s->(step s x).2=true->ok (step s x).1)(hR:∀x∈pre t 1,∀s,ok s->RoC Tryz.prog ri [.d x.1.d, .d (.i x.2)] base (H s) (H (step s x).1) (.d (.bool (step s x).2)))(Cg:ri<base)(tb:Nat)(IJ:tb<base)(s:σ)(pg:ok s)(cz:H s tb= .row t.row):
 vG Tryz.prog 172 [.j7 ri, .ptr tb 0] base (H s) (H (aK step s (pre t 1)).1) (.bT []):=by
 intro o nx hI K X hK
 have hle:=hI.le
 have ot:o tb= .row t.row:=by rw[hI.eq tb IJ,cz]
 have y1:tb≠nx:=af
 have y2:∀k,tb≠nx+k:=fun k=>af
 refine cI.aI mix Q7 aF ?_
 rw[Uy]
 simp+contextual only[go_sem,ot,y1,y2,Nat.add_assoc,Nat.left_eq_add,Nat.add_eq_left,Nat.add_left_cancel_iff]
 have hI1:eA base (H s) (az (az (az o nx (.row [.j7 ri])) (nx+1) (.row [.d .ck])) (nx+1) (.row [.func (.func 173) [] [.ptr nx 0, .ptr (nx+1) 0]])) (nx+6):=by
  refine((hI.az (i:=nx) (m:=nx+6) af af af ?_).az (i:=nx+1) (m:=nx+6) af af af rfl).az (i:=nx+1) af af af ?_
  ·simp[ad.refs,V.aQ,V.refs];omega
  ·exact pQ
 refine bz (NQ base ri H step ok t hf 1 af af aW hR Cg (nx+6) _ nx (nx+1) af hle af af af ?_ ?_ s pg _ _ (hI1.ext (Nat.le_refl _) af) _ _ ?_)
 ·exact c6
 ·exact c6
 intro o2 n2 m1 m2 m3
 refine cB ?_
 refine hK _ _ af ⟨m2.cm,af,fun id au=> ?_⟩ (fun id h1 h2=> ?_)
 ·rw[m2.eq id (by omega)];unfold ext;rw[if_pos au]
 ·exact Ps
end
theorem vM(t:Tm)(o:Nat->ad)(nx:Nat)(K X:V->(Nat->ad)->Nat->Prop)(h:K (.func (.func 172) [] [.ptr nx 0]) (az o nx (.row t.row)) (nx+4)):cI Tryz.prog 159 [.d t.d] o nx K X:=by
 refine cI.aI mix QX aF ?_
 rw[Uo]
 refine cB ?_
 exact h
end
def Rm:Option jR->fk
 |none=> .normal
 |some .ret=> .ret
 |some (.exit j)=> .exit j
def wD{σ:Type}(J:σ->Option jR)(step:σ->Tm×Int->σ)(s:σ)(x:Tm×Int):σ×Bool:=(step s x,(J (step s x)).isNone)
theorem zS{σ:Type}(J:σ->Option jR)(step:σ->Tm×Int->σ):∀ (l:List (Tm×Int)) (s:σ),J s=none->(aK (wD J step) s l).2=(J (aK (wD J step) s l).1).isNone
 |[],s,h=>by simp[aK,h]
 |x::l,s,h=>by
  simp only[aK]
  split
  ·rename_i hb
   exact zS J step l _ (by simpa[wD]using hb)
  ·rename_i hb
   cases hj:J (step s x)with
   |none=>exact absurd (by simp[wD,hj]) hb
   |some j=>simp[wD,hj]
theorem nE{σ:Type}(t:Tm)(hf:t.fits)(hd:t.mC<=900000){n bq:Nat}{gq:Operand}{ps:List Nat}{jr eR:IC}{Q:fk->S->Prop}{e:Nat->V}{o:Nat->ad}{nx tb:Nat}(env:List V)(he:ny e env 0)
 (DZ:ps.all (fun t=>decide (t<n))=true) (hl:ps.length=2) (hg:Good o nx) (hrefs:∀r∈V.aQ env,r<nx) (ht:o tb= .row t.row)
 (G:σ->Nat->ad) (J:σ->Option jR) (step:σ->Tm×Int->σ) (ok:σ->Prop) (s0:σ) (pg:ok s0) (hJ0:J s0=none) (h0:∀id,id<nx->o id=G s0 id) (aW:∀x∈pre t 1,∀s,ok s->J s=none->J (step s x)=none->ok (step s x))
 (uU:∀L,iT Tryz.prog n env ps jr eR L->(∀st pd m,nx<=m->(L st pd).refs.all (fun r=>decide (r<m))=true)->∀x∈pre t 1,∀s,ok s->J s=none->∀o3 n3,eA nx (G s) o3 n3->nx<n3->o3 nx=L .ready none->∀K X,
  (∀e' o' n' st pd,n3<=n'->eA nx (G (step s x)) o' n'->o' nx=L st pd->(∀id,nx<id->id<n3->o' id=o3 id)->kP nx K X (Rm (J (step s x))) ⟨e',o',n'⟩)->
  kN Tryz.prog n n3 true jr (rW Tryz.prog n n3 nx eR K X) ⟨pq (aX env) ps [.d x.1.d, .d (.i x.2)],o3,n3⟩)
 (jU:∀o' n',eA nx (G (aK (wD J step) s0 (pre t 1)).1) o' n'->qp Q (J (aK (wD J step) s0 (pre t 1)).1) ⟨e,o',n'⟩):
 tM Tryz.prog n bq false gq ps jr eR Q ⟨e,o,nx⟩ (.func (.func 172) [] [.ptr tb 0]):=by
 refine D8 env he (fun L hL=> ?_)
 have IJ:tb<nx:=hg.lt (by rw[ht];exact ad.noConfusion)
 let H:σ->Nat->ad:=fun s id=>if id<nx then G s id else if id=nx then(match J s with|none=>L .ready none|some j=>L .done (some j))else .no
 have rn:∀s id,id<nx->H s id=G s id:=fun s id h=>if_pos h
 have Eb:∀s,J s=none->H s nx=L .ready none:=fun s h=>by show(if nx<nx then _ else _)=_;rw[if_neg (by omega),if_pos rfl,h]
 have Rn:∀s j,J s=some j->H s nx=L .done (some j):=fun s j h=>by show(if nx<nx then _ else _)=_;rw[if_neg (by omega),if_pos rfl,h]
 have xa:∀st pd m,nx<=m->(L st pd).refs.all (fun r=>decide (r<m))=true:=fun st pd m hm=>by
  exact Pa
 refine KO (nx+1) nx H (wD J step) (fun s=>ok s/\J s=none) t hf hd (fun x hx s h1 h2=> ?_) (fun x hx s h1=> ?_) af tb af s0 ⟨pg,hJ0⟩ (by rw[rn _ _ IJ, <- h0 _ IJ,ht]) _ _ ⟨?_,Nat.le_refl _,fun id au=> ?_⟩ _ _ ?_
 ·have hj:J (step s x)=none:=by simpa[wD]using h2
  exact⟨aW x hx s h1.1 h1.2 hj,hj⟩
 ·intro o3 n3 hI K X hK
  have hle:=hI.le
  have Mk:o3 nx=L .ready none:=by rw[hI.eq nx (by omega),Eb s h1.2]
  refine vH hL mix Mk af DZ (by simp[hl]) ?_
  refine uU L hL xa x hx s h1.1 h1.2 o3 n3 ⟨hI.cm,af,fun id au=>by rw[hI.eq id (by omega),rn _ _ au]⟩ af Mk K X (fun e' o' n' st pd k1 k2 k3 k4=> ?_)
  have key:∀st' pd' b,(J (step s x)).isNone=b->H (step s x) nx=L st' pd'->K (.d (.bool b)) (az o' nx (L st' pd')) n':=fun st' pd' b hb hh=>by
   subst hb
   refine hK _ _ k1 ⟨k2.cm.az af (xa _ _ _ af),af,fun id au=> ?_⟩ (fun id g1 g2=> ?_)
   ·by_cases wJ:id=nx
    ·subst wJ;rw[ab];exact hh.symm
    ·rw[ae _ _ _ _ wJ]
     show o' id=H (step s x) id
     rw[rn _ _ (by omega)];exact k2.eq id af
   ·rw[ae _ _ _ _ (by omega)];exact k4 id af g2
  cases hj:J (step s x)with
  |none=>exact rY hL k3 (key _ _ _ xm (Eb _ hj))
  |some j=>
   cases j with
   |ret=>exact vI hL k3 (key _ _ _ xm (Rn _ _ hj))
   |exit j=>exact te hL k3 (key _ _ _ xm (Rn _ _ hj))
 ·exact(hg.mono af).az af (xa _ _ _ af)
 ·by_cases wJ:id=nx
  ·subst wJ;rw[ab,Eb _ hJ0]
  ·exact OU
 ·intro o' n' k1 k2 k3
  have hle:=k2.le
  generalize hsf:(aK (wD J step) s0 (pre t 1)).1=sf at*
  have kk:∀st pd,eA nx (G sf) (az o' nx (L st pd)) n':=fun st pd=>⟨k2.cm.az af (xa _ _ _ af),af,fun id au=>by rw[ae _ _ _ _ (by omega),k2.eq id (by omega),rn _ _ au]⟩
  cases hj:J sf with
  |none=>
   refine⟨.ready,none,by rw[k2.eq nx (by omega),Eb _ hj],(fun h=>by cases h), ?_⟩
   have:=jU _ _ (kk .exhausted none)
   rwa [hj]at this
  |some j=>
   refine⟨.done,some j,by rw[k2.eq nx (by omega),Rn _ _ hj],(fun h=>by cases h), ?_⟩
   have:=jU _ _ (kk .exhausted (some j))
   rwa [hj]at this
theorem gw(n low high:Int):a8 Tryz.prog 146 [.i n, .i low, .i high] (.ret [.bool (dJ n low high)]):=by
 refine a8.aI mix QR aF ?_
 rw[Uj]
 refine cB ?_
 rfl
theorem Ec(s:aD)(t:Tm)(h:t.op=1):a8 Tryz.prog 194 [s.d,t.d] (.ret [.bool (bw s t)]):=by
 have hn:bw s t=(dJ t.n 0 19&&(t.kids.length:Int)==0):=by simp[bw,h,Bool.and_comm]
 refine a8.aI mix Rc aF ?_
 rw[UD]
 exact Sn
theorem HK(s:aD)(t:Tm)(h:t.op=2):a8 Tryz.prog 195 [s.d,t.d] (.ret [.bool (bw s t)]):=by
 have hn:bw s t=(dJ t.n (-1000000) 1000000&&(t.kids.length:Int)==0):=by simp[bw,h,Bool.and_comm]
 refine a8.aI mix Re aF ?_
 rw[UE]
 exact Sn
theorem abW(s:aD)(t:Tm)(h:t.op=8):a8 Tryz.prog 199 [s.d,t.d] (.ret [.bool (bw s t)]):=by
 have hn:bw s t=(dJ t.n 0 19&&(t.kids.length:Int)==2):=by simp[bw,h,Bool.and_comm]
 refine a8.aI mix Ri aF ?_
 rw[UI]
 exact Sn
theorem UU(s:aD)(t:Tm)(h:t.op=6\/t.op=7\/t.op=9\/t.op=10\/t.op=11\/t.op=12\/t.op=13\/t.op=14\/t.op=15):a8 Tryz.prog 200 [s.d,t.d] (.ret [.bool (bw s t)]):=by
 have hn:bw s t=(t.n==0&&(t.kids.length:Int)==2):=by
  rcases h with h|h|h|h|h|h|h|h|h<;>simp[bw,h,dJ,Bool.and_comm]
 refine a8.aI mix Rj aF ?_
 rw[UJ]
 refine cB ?_
 rw[hn]
theorem abX(s:aD)(t:Tm)(hs:s.Fits)(h:t.op=3):a8 Tryz.prog 196 [s.d,t.d] (.ret [.bool (bw s t)]):=by
 have hn:bw s t=(dJ t.n 0 (s.cons.length - 1)&&(t.kids.length:Int)==hZ s.cons t.n):=by simp[bw,h]
 refine a8.aI mix Rf aF ?_
 rw[UF]
 refine cB ?_
 rw[wrap64 (by have:=hs.lc;omega) (by have:=hs.lc;omega)]
 refine aZ (gw _ _ _) rfl ?_
 cases hI:dJ t.n 0 (s.cons.length - 1)with
 |false=>
  exact Sl
 |true=>
  exact Sd
theorem abY(s:aD)(t:Tm)(hs:s.Fits)(h:t.op=4):a8 Tryz.prog 197 [s.d,t.d] (.ret [.bool (bw s t)]):=by
 have hn:bw s t=(dJ t.n 0 (s.cL.length - 1)&&(t.kids.length:Int)==hZ s.cL t.n):=by simp[bw,h]
 refine a8.aI mix Rg aF ?_
 rw[UG]
 refine cB ?_
 rw[wrap64 (by have:=hs.lf;omega) (by have:=hs.lf;omega)]
 refine aZ (gw _ _ _) rfl ?_
 cases hI:dJ t.n 0 (s.cL.length - 1)with
 |false=>
  exact Sl
 |true=>
  exact Sd
theorem UW(s:aD)(t:Tm)(hs:s.Fits)(h:t.op=5):a8 Tryz.prog 198 [s.d,t.d] (.ret [.bool (bw s t)]):=by
 have hn:bw s t=(dJ t.n 0 (s.cL.length - 1)&&decide ((t.kids.length:Int)<hZ s.cL t.n)):=by simp[bw,h]
 refine a8.aI mix Rh aF ?_
 rw[UH]
 refine cB ?_
 rw[wrap64 (by have:=hs.lf;omega) (by have:=hs.lf;omega)]
 refine aZ (gw _ _ _) rfl ?_
 cases hI:dJ t.n 0 (s.cL.length - 1)with
 |false=>
  exact Sl
 |true=>
  exact Sd
@[reducible] def rf (n:Nat):V:= .func (.func n) [] []
@[reducible] def aei:List V:=[.d .ck,rf 194,rf 195,rf 196,rf 197,rf 198, .d .ck, .d .ck,rf 199, .d .ck, .d .ck, .d .ck, .d .ck, .d .ck, .d .ck, .d .ck]
@[reducible] def Ed:List V:=[.d .ck,rf 194,rf 195,rf 196,rf 197,rf 198,rf 200,rf 200,rf 199,rf 200,rf 200,rf 200,rf 200,rf 200,rf 200,rf 200]
def IU(k:Nat):List V:=Ed.take k++aei.drop k
theorem funcOf{P:Program}{t:TypeId}(h:(match P.underlying t with|some (.func _ _ _)=>true|_=>false)=true):∃a b c,P.underlying t=some (.func a b c):=by
 split at h
 ·exact⟨_,_,_,by assumption⟩
 ·cases h
@[go_sem] theorem aej (o:Nat->ad) (mL:Bool):yF Tryz.prog o 209 mL (.d .ck) (.d .ck)=some (.d (.bool true)):=by
  exact Ph
@[go_sem] theorem aek (o:Nat->ad) (mL:Bool) (f:Fn) (x y:List V):yF Tryz.prog o 209 mL (.func f x y) (.d .ck)=some (.d (.bool false)):=by
  exact Ph
theorem NR(base:Nat)(h:Nat->ad):vG Tryz.prog 187 [] base h h (.agg Ed):=by
 intro o nx hI K X hK
 have hle:=hI.le
 refine cI.aI mix Rb aF ?_
 rw[UC]
 simp+contextual only[go_sem,Nat.add_assoc,Nat.left_eq_add,Nat.add_eq_left,Nat.add_left_cancel_iff]
 refine aB (fun k:Nat=>⟨aX [.ptr nx 0, .ptr (nx+2) 0, .aa, .aa, .d (.i k)],az (az o nx (.row (List.replicate 16 (.d .ck)))) (nx+2) (.row (IU k)),nx+5⟩)
  (fun k=>k<=16) (fun k=>16 - k) 0 (Nat.zero_le _) ?_ (fun k hk=> ?_)
 ·refine bA.bJ _ af af ?_ (fun id au=> ?_) ?_
  ·exact((hI.cm.mono af).az af rfl).az af rfl
  ·rw[ug];rfl
  ·exact dp
 have hg:∀k,k<16->Good (az (az o nx (.row (List.replicate 16 (.d .ck)))) (nx+2) (.row (IU (k+1)))) (nx+5):=fun k hk=>
  ((hI.cm.mono af).az af rfl).az af (by
    rcases(by omega:k=0\/k=1\/k=2\/k=3\/k=4\/k=5\/k=6\/k=7\/k=8\/k=9\/k=10\/k=11\/k=12\/k=13\/k=14\/k=15)with rfl|rfl|rfl|rfl|rfl|rfl|rfl|rfl|rfl|rfl|rfl|rfl|rfl|rfl|rfl|rfl<;>rfl)
 by_cases ael:k=16
 ·subst ael
  refine Xd ?_
  refine hK _ _ ?_ ⟨?_, ?_,fun id au=> ?_⟩ (fun id h1 h2=> ?_)
  rotate_left
  ·exact(((hI.cm.mono af).az af rfl).az af rfl).az af rfl
  ·omega
  ·(repeat(first|rfl|rw[ab]|rw[ae _ _ _ _ (by omega)]))
   exact hI.eq id au
  ·exact c6
  ·omega
 ·have hgk:=hg k af
  obtain⟨k1,PL⟩:∃k1,k1=k+1:=⟨_,rfl⟩
  rw[<- PL]at hgk
  rcases(by omega:k=0\/k=1\/k=2\/k=3\/k=4\/k=5\/k=6\/k=7\/k=8\/k=9\/k=10\/k=11\/k=12\/k=13\/k=14\/k=15)with rfl|rfl|rfl|rfl|rfl|rfl|rfl|rfl|rfl|rfl|rfl|rfl|rfl|rfl|rfl|rfl
  all_goals
   refine Xd ?_
   refine aj k1 af af (bA.bJ _ af af hgk (fun id au=> ?_) ?_)
   all_goals subst PL
   ·first|rfl|(rw[ug];rfl)
   ·exact dp
def KQ(n:Int):Nat:=if n=1 then 194 else if n=2 then 195 else if n=3 then 196 else if n=4 then 197 else if n=5 then 198 else if n=8 then 199 else 200
theorem UX(s:aD)(t:Tm)(hs:s.Fits)(h:dJ t.op 1 15=true):a8 Tryz.prog (KQ t.op) [s.d,t.d] (.ret [.bool (bw s t)])/\Ed[t.op.toNat]? =some (rf (KQ t.op))/\0<=t.op/\t.op<16:=by
 simp[dJ]at h
 rcases(by omega:t.op=1\/t.op=2\/t.op=3\/t.op=4\/t.op=5\/t.op=8\/(t.op=6\/t.op=7\/t.op=9\/t.op=10\/t.op=11\/t.op=12\/t.op=13\/t.op=14\/t.op=15))with h|h|h|h|h|h|h
 ·exact⟨by rw[h];exact Ec s t h,by rw[h];rfl,af,af⟩
 ·exact⟨by rw[h];exact HK s t h,by rw[h];rfl,af,af⟩
 ·exact⟨by rw[h];exact abX s t hs h,by rw[h];rfl,af,af⟩
 ·exact⟨by rw[h];exact abY s t hs h,by rw[h];rfl,af,af⟩
 ·exact⟨by rw[h];exact UW s t hs h,by rw[h];rfl,af,af⟩
 ·exact⟨by rw[h];exact abW s t h,by rw[h];rfl,af,af⟩
 ·have hp:=UU s t h
  rcases h with h|h|h|h|h|h|h|h|h<;>exact⟨by rw[h];exact hp,by rw[h];rfl,af,af⟩
def oA(s:aD)(n:Int)(x:Tm×Int):Bool:=decide (40<n+1)||decide (12<x.2)|| !dJ x.1.op 1 15|| !bw s x.1
def gJ(s:aD)(n:Int×Bool)(x:Tm×Int):Int×Bool:=(n.1+1, !oA s n.1 x)
def fJ(n:Int×Bool):Option jR:=if n.2=true then none else some .ret
def l8(s:aD)(t:Tm):Bool:=(aK (wD fJ (gJ s)) (0,true) (pre t 1)).2
theorem KT(s:aD)(hs:s.Fits)(t:Tm)(hf:t.fits)(hd:t.mC<=900000):a8 Tryz.prog 171 [s.d,t.d] (.ret [.bool (l8 s t)]):=by
 refine a8.aI mix Q6 aF ?_
 rw[Ux]
 refine cB ?_
 refine dD (NR 3 _ _ _ (?_:eA 3 (az (az (az (fun _=> .no) 0 (.row s.row)) 1 (.row t.row)) 2 (.row [.d (.bool false)])) _ 3) _ _ fun o2 n2 m1 m2 m3=> ?_)
 ·exact⟨dI,Nat.le_refl _,fun _ _=>rfl⟩
 have p0:o2 0= .row s.row:=m2.eq 0 af
 have p1:o2 1= .row t.row:=m2.eq 1 af
 have p2:o2 2= .row [.d (.bool false)]:=m2.eq 2 af
 have e0:0≠n2:=af
 have e1:1≠n2:=af
 have e2:2≠n2:=af
 have e3:∀k,0≠n2+k:=fun k=>af
 have e4:∀k,1≠n2+k:=fun k=>af
 have e5:∀k,2≠n2+k:=fun k=>af
 simp+contextual only[go_sem,p0,p1,p2,e0,e1,e2,e3,e4,e5,Nat.add_assoc,Nat.left_eq_add,Nat.add_eq_left,Nat.add_left_cancel_iff]
 refine dD (vM t _ _ _ _ ?_)
 refine cB ?_
 have hG0:∀n,Good (az (az (az (az (az (az o2 n2 (.row (List.replicate 16 (.d .ck)))) (n2+1) (.row [.d (.i 0)])) n2 (.row Ed)) (n2+1) (.row [.d (.i 0)])) (n2+5) (.row t.row)) (n2+1) (.row [.d (.i n)])) (n2+9):=fun n=>by
  have hg:=m2.cm
  exact dI
 refine nE t hf hd [.aa, .aa, .ptr 0 0, .aa, .ptr 2 0, .ptr n2 0, .ptr (n2+1) 0] ?_ bV rfl ?_ EX (ab _ _ _)
  (fun s=>az (az (az (az (az (az o2 n2 (.row (List.replicate 16 (.d .ck)))) (n2+1) (.row [.d (.i 0)])) n2 (.row Ed)) (n2+1) (.row [.d (.i 0)])) (n2+5) (.row t.row)) (n2+1) (.row [.d (.i s.1)]))
  fJ (gJ s) (fun s=>0<=s.1/\s.1<=40) (0,true) ⟨bV,bV⟩ rfl ?_ ?_ ?_ ?_
 ·exact IW
 ·have hg:=m2.cm
  exact dI
 ·intro id au
  by_cases h:id=n2+1
  ·exact X2
  ·rw[ae _ _ _ _ h];rfl
 ·intro x hx s' h1 h2 h3
  have:oA s s'.1 x=false:=by simpa[fJ,gJ]using h3
  simp[oA]at this
  simp only[gJ]
  omega
 ·intro L hL xa x hx s' h1 h2 o3 n3 hI hn ho K X ef
  simp only[pq]
  have hg:=hI.cm
  have q0:o3 0= .row s.row:=by
   rw[hI.eq 0 (by omega)];(repeat(first|rfl|rw[ab]|rw[ae _ _ _ _ (by omega)]))
   exact p0
  have q2:o3 2= .row [.d (.bool false)]:=by
   exact YB
  have q3:o3 n2= .row Ed:=by rw[hI.eq n2 (by omega)];(repeat(first|rfl|rw[ab]|rw[ae _ _ _ _ (by omega)]))
  have q4:o3 (n2+1)= .row [.d (.i s'.1)]:=by rw[hI.eq (n2+1) (by omega)];(repeat(first|rfl|rw[ab]|rw[ae _ _ _ _ (by omega)]))
  have fin:∀ (o':Nat->ad) (n':Nat),(∀id,id<n2+5+4->o' id=az o3 (n2+1) (.row [.d (.i (s'.1+1))]) id)->Good o' n'->n3<=n'->eA (n2+5+4) (az (az (az (az (az (az o2 n2 (.row (List.replicate 16 (.d .ck)))) (n2+1) (.row [.d (.i 0)])) n2 (.row Ed)) (n2+1) (.row [.d (.i 0)])) (n2+5) (.row t.row)) (n2+1) (.row [.d (.i (gJ s s' x).1)])) o' n':=by
   intro o' n' k1 k2 k3
   refine⟨k2,af,fun id au=> ?_⟩
   rw[k1 id au]
   by_cases h:id=n2+1
   ·subst h;rw[ab,ab];rfl
   ·rw[ae _ _ _ _ h,ae _ _ _ _ h,hI.eq id au,ae _ _ _ _ h]
  refine cB ?_
  refine nA hL (pd:=none) ?_ ?_
  ·(repeat(first|rfl|rw[ab]|rw[ae _ _ _ _ (by omega)]))
   exact ho
  cases c1:decide (40<s'.1+1)with
  |true=>
   have hJ:fJ (gJ s s' x)=some .ret:=by simp[fJ,gJ,oA,c1]
   rw[hJ]at ef
   simp+contextual (disch:=first|omega|simp only[go_sem,false_implies]) only[go_sem,wrap64,if_pos,q0,q2,q3,q4,c1]
   exact zw4
  |false=>
  cases c2:decide (12<x.2)with
  |true=>
   have hJ:fJ (gJ s s' x)=some .ret:=by simp[fJ,gJ,oA,c2]
   rw[hJ]at ef
   refine GK q0 q2 q3 q4 c1 c2 ?_
   exact zw4
  |false=>
  cases c3:dJ x.1.op 1 15 with
  |false=>
   have hJ:fJ (gJ s s' x)=some .ret:=by simp[fJ,gJ,oA,c3]
   rw[hJ]at ef
   refine GK q0 q2 q3 q4 c1 c2 ?_
   refine aZ (gw _ _ _) rfl ?_
   simp+contextual (disch:=first|omega|simp only[go_sem,false_implies]) only[go_sem,wrap64,if_pos,q0,q2,q3,q4,c1,c2,c3]
   exact zw4
  |true=>
  obtain⟨r1,r2,r3,r4⟩:=UX s x.1 hs c3
  refine GK q0 q2 q3 q4 c1 c2 ?_
  refine aZ (gw _ _ _) rfl ?_
  simp+contextual (disch:=first|omega|simp only[go_sem,false_implies]) only[go_sem,wrap64,if_pos,q0,q2,q3,q4,c1,c2,c3,r2,r3,r4,Nat.mul_one]
  refine aZ r1 rfl ?_
  simp+contextual (disch:=first|omega|simp only[go_sem,false_implies]) only[go_sem,wrap64,if_pos,q0,q2,q3,q4,c1,c2,c3]
  refine aN (bc rfl) ?_
  cases c4:bw s x.1 with
  |false=>
   have hJ:fJ (gJ s s' x)=some .ret:=by simp[fJ,gJ,oA,c4]
   rw[hJ]at ef
   simp+contextual (disch:=first|omega|simp only[go_sem,false_implies]) only[go_sem,wrap64,if_pos,q2,c4]
   refine ef _ _ _ .busy none af (fin _ _ (fun id au=>RY) dI af) c6 (fun id h3 h4=>by(repeat(first|rfl|rw[ab]|rw[ae _ _ _ _ (by omega)])))
  |true=>
   have hJ:fJ (gJ s s' x)=none:=by simp[fJ,gJ,oA,c1,c2,c3,c4]
   rw[hJ]at ef
   simp+contextual (disch:=first|omega|simp only[go_sem,false_implies]) only[go_sem,wrap64,if_pos,c4]
   refine ef _ _ _ .busy none af (fin _ _ (fun id au=>RY) dI af) c6 (fun id h3 h4=>by(repeat(first|rfl|rw[ab]|rw[ae _ _ _ _ (by omega)])))
 ·intro o' n' hI
  have q2:o' 2= .row [.d (.bool false)]:=by
   exact YB
  rw[show l8 s t=(fJ (aK (wD fJ (gJ s)) (0,true) (pre t 1)).1).isNone from zS _ _ _ _ rfl]
  generalize (aK (wD fJ (gJ s)) (0,true) (pre t 1)).1=sf at*
  cases hj:fJ sf with
  |none=>
   simp only[qp]
   refine pP q2 ?_
   rfl
  |some j=>
   have:j= .ret:=by
    unfold fJ at hj;split at hj
    ·cases hj
    ·injection hj with hj;exact hj.symm
   subst this
   simp only[qp]
   refine pP q2 ?_
   rfl
section
def enc{κ:Type}(kf:κ->D)(m:List (κ×D)):List (D×D):=m.map fun p=>(kf p.1,p.2)
def jb{κ:Type}[BEq κ](k:κ):List (κ×D)->Nat->Option (Nat×D)
 |[],_=>none
 |p::m,i=>if(k==p.1)=true then some (i,p.2)else jb k m (i+1)
def HL{κ:Type}[BEq κ](k:κ)(x:D)(m:List (κ×D)):List (κ×D):=match jb k m 0 with|some (i,_)=>m.set i (k,x)|none=>m++[(k,x)]
def abZ{κ:Type}[BEq κ](k:κ)(m:List (κ×D)):List (κ×D):=match jb k m 0 with|some (i,_)=>m.eraseIdx i|none=>m
def wW(d:D)(r:Option (Nat×D)):Option (Nat×D×D):=match r with|some (i,x)=>some (i,d,x)|none=>none
@[go_sem] theorem WK (d:D) (i:Nat) (x:D):wW d (some (i,x))=some (i,d,x):=rfl
@[go_sem] theorem WL (d:D):wW d none=none:=rfl
section
variable {P:Program}{kt:TypeId}
theorem NS(h:bH P kt=some .int)(a b:Int):oH P 100 kt (.int .i64 a) (.int .i64 b)=some (a==b):=by simp[oH,h]
theorem NT(h:bH P kt=some .str)(a b:List UInt8):oH P 100 kt (.str a) (.str b)=some (a==b):=by simp[oH,h]
@[go_sem] theorem F7 (h:bH P kt=some .int) (a:Int):ow P 100 kt (.int .i64 a)=true:=by simp[ow,h]
@[go_sem] theorem acM (h:bH P kt=some .str) (a:List UInt8):ow P 100 kt (.str a)=true:=by simp[ow,h]
theorem vN{κ:Type}[BEq κ][LawfulBEq κ](kf:κ->D)(he:∀a b,oH P 100 kt (kf a) (kf b)=some (a==b))(k:κ):∀ (m:List (κ×D)) (i:Nat),findD P kt (kf k) (enc kf m) i=some (wW (kf k) (jb k m i))
 |[],_=>rfl
 |p::m,i=>by
  have ih:=vN kf he k m (i+1)
  simp only[enc,List.map_cons,findD,he,jb]at ih|-
  by_cases h:k=p.1
  ·subst h;simp[wW]
  ·have:(k==p.1)=false:=by simpa using h
   simp only[this,Bool.false_eq_true,if_false];exact ih
@[go_sem] theorem Ch (h:bH P kt=some .int) (k:Int) (m:List (Int×D)):findD P kt (.int .i64 k) (enc (.int .i64) m) 0=some (wW (.int .i64 k) (jb k m 0)):=vN (.int .i64) (NS h) k m 0
@[go_sem] theorem ab0 (h:bH P kt=some .str) (k:List UInt8) (m:List (List UInt8×D)):findD P kt (.str k) (enc .str m) 0=some (wW (.str k) (jb k m 0)):=vN .str (NT h) k m 0
end
section
variable {κ:Type}(kf:κ->D)
theorem KU(m:List (κ×D))(k:κ)(x:D):enc kf m++[(kf k,x)]=enc kf (m++[(k,x)]):=by simp[enc]
theorem F8(m:List (κ×D))(i:Nat)(k:κ)(x:D):(enc kf m).set i (kf k,x)=enc kf (m.set i (k,x)):=by simp[enc,List.map_set]
theorem yf:∀ (m:List (κ×D)) (i:Nat),(enc kf m).eraseIdx i=enc kf (m.eraseIdx i)
 |[],i=>rfl
 |p::m,0=>rfl
 |p::m,i+1=>by
  have:=yf m i
  simp only[enc,List.map_cons,List.eraseIdx_cons_succ]at this|-
  rw[this]
theorem NU(m:List (κ×D)):(((enc kf m).map (·.1)).zip ((enc kf m).map (·.2)))=enc kf m:=by
 induction m with
 |nil=>rfl
 |cons p m ih=>simp only[enc,List.map_cons,List.zip_cons_cons]at ih|-;rw[ih]
theorem HM{K:V->List (Nat×ad)->Prop}{id:Nat}{m:List (κ×D)}(h0:m=[]->K (.bT [.d (.bool false)]) [])
 (h1:∀ (i:Nat) k x,m[i]? =some (k,x)->K (.bT [.d (.bool true), .d (kf k), .d x]) [(id, .ra (enc kf (m.eraseIdx i)) (some (kf k,x)))]):FF K id (enc kf m):=by
 refine⟨fun h=>h0 ?_,fun i k x h=> ?_⟩
 ·cases m with
  |nil=>rfl
  |cons p m=>simp[enc]at h
 ·simp only[enc,List.getElem?_map]at h
  cases hm:m[i]? with
  |none=>rw[hm]at h;cases h
  |some p=>
   rw[hm]at h
   simp at h
   obtain⟨rfl,rfl⟩:=h
   have:=h1 i p.1 p.2 (by rw[hm])
   rwa [<- yf]at this
end
theorem Ci{κ:Type}[BEq κ][LawfulBEq κ]{k:κ}:∀ {m:List (κ×D)} {i j:Nat} {x:D},jb k m i=some (j,x)->i<=j/\m[j - i]? =some (k,x)
 |[],_,_,_,h=>by cases h
 |p::m,i,j,x,h=>by
  simp only[jb]at h
  split at h
  ·rename_i hk
   injection h with h;injection h with h1 h2
   subst h1;subst h2
   exact⟨Nat.le_refl _,by simp[(by simpa using hk:k=p.1)]⟩
  ·obtain⟨h1,h2⟩:=Ci h
   refine⟨af, ?_⟩
   rw[show j - i=(j - (i+1))+1 by omega]
   simpa using h2
theorem yg{κ:Type}[BEq κ][LawfulBEq κ]{k:κ}:∀ {m:List (κ×D)} {i:Nat},jb k m i=none↔∀p∈m,p.1≠k
 |[],_=>by simp[jb]
 |p::m,i=>by
  simp only[jb]
  split
  ·rename_i hk
   simp[(by simpa using hk:k=p.1)]
  ·rename_i hk
   rw[yg]
   have:p.1≠k:=fun e=>hk (by simp[e])
   simp[this]
def qG(P:Program)(o:Nat->ad)(t:TypeId)(m k v:V):Option fK:=
 match rD P t,dU o k,dU o v,oJ o m with
 |some (kt,_),some kd,some vd,some (some (id,E7,E8),l)=>if k.ids=[]/\ow P 100 kt kd=true/\kG kd=true/\v.ids.all (· !=id)=true then match findD P kt kd l 0 with
  |some (some (i,k',_))=>if k'.same kd=true then some (.bT [],bL o v.ids++[(id, .map E7 E8 (l.set i (kd,vd)))],id::v.ids)else none
  |some none=>some (.bT [],bL o v.ids++[(id, .map E7 E8 (l++[(kd,vd)]))],id::v.ids)
  |none=>none
  else none
 |_,_,_,_=>none
@[go_sem low] theorem yh (P:Program) (o:Nat->ad) (t:TypeId) (m v:V) (k:D):fC P o t m (.d k) v=qG P o t m (.d k) v:=by unfold fC qG;rfl
def vO(P:Program)(o:Nat->ad)(t:TypeId)(m k:V)(ok:Bool):Option fK:=
 match rD P t,dU o k,pY o m with
 |some (kt,vt),some kd,some (rd,l)=>if k.ids=[]/\ow P 100 kt kd=true then match findD P kt kd l 0 with
  |some (some (_,_,x))=>some (if ok=true then .bT [.d x, .d (.bool true)]else .d x,[],rd)
  |some none=>match zeroV P vt with
   |some z=>some (if ok=true then .bT [z, .d (.bool false)]else z,[],rd)
   |none=>none
  |none=>none
  else none
 |_,_,_=>none
@[go_sem low] theorem n6 (P:Program) (o:Nat->ad) (t:TypeId) (m:V) (k:D) (ok:Bool):ja P o t m (.d k) ok=vO P o t m (.d k) ok:=by unfold ja vO;rfl
attribute [go_sem] vO qG nR mM mN oK oL mO pY oJ ac3 oI kG D.same
end
theorem dec_lt{l:List UInt8}{i:Nat}{b:UInt8}(hb:l[i]? =some b)(h:b.toNat<128):Utf8.decode ⟨⟨l⟩⟩ i=(b.toNat,1):=by
 have e:(ByteArray.mk ⟨l⟩).get! i=b:=by
  show(Array.mk l)[i]! =b
  simp[hb]
 simp only[Utf8.decode,Nat.add_zero,e]
 rw[if_pos h]
theorem UY{l:List UInt8}{i:Nat}{b:UInt8}(hb:l[i]? =some b)(h:128<=b.toNat):128<=(Utf8.decode ⟨⟨l⟩⟩ i).1:=by
 have e:(ByteArray.mk ⟨l⟩).get! i=b:=by
  show(Array.mk l)[i]! =b
  simp[hb]
 simp only[Utf8.decode,Nat.add_zero,e]
 rw[if_neg (by omega)]
 split
 ·split<;>simp_all[Utf8.runeError]
 ·split
  ·split
   ·rename_i h3;simp at h3;omega
   ·simp[Utf8.runeError]
  ·split
   ·split
    ·rename_i h3;simp at h3;omega
    ·simp[Utf8.runeError]
   ·simp[Utf8.runeError]
def NV(r:Int):Bool:=decide (97<=r)&&decide (r<=122)||decide (65<=r)&&decide (r<=90)
theorem KW(b:UInt8):NV b.toNat=letterF b:=by
 rw[Bool.eq_iff_iff]
 simp[NV,letterF]
theorem HN(s:List UInt8)(hs:s.length<=9223372036854775807):a8 Tryz.prog 145 [.str s] (.ret [.bool (jE s)]):=by
 refine a8.aI mix QQ aF ?_
 rw[Ui]
 refine kR ?_
 refine aB (fun k:Nat=>⟨aX [.d (.str s), .aa, .aa, .aa, .aa, .aa, .ptr 2 0],az (fun _=> .no) 2 (.yI s k),3⟩)
  (fun k=>k<=s.length/\(s.take k).all letterF=true) (fun k=>s.length - k) 0 ⟨Nat.zero_le _,aF⟩ (bA.bJ _ af af (Good.nil.az af rfl) (fun _ _=>rfl) ?_) (fun k hk=> ?_)
 ·exact dp
 by_cases h2:k<s.length
 ·obtain⟨b,hb⟩:=ay h2
  by_cases h3:b.toNat<128
  ·simp+contextual (disch:=first|omega|simp only[go_sem,false_implies]) only[go_sem,wrap64,if_pos,Nat.add_assoc,Nat.left_eq_add,Nat.add_eq_left,Nat.add_left_cancel_iff,h2,dec_lt hb h3]
   have hr:=KW b
   simp only[NV]at hr
   rw[hr]
   cases hl:letterF b with
   |true=>
    refine bW ?_
    refine aj (k+1) ⟨h2,nC hb hk.2 hl⟩ af (bA.bJ _ af af (Good.nil.az af rfl) (fun _ _=>by rw[ug]) ?_)
    exact dp
   |false=>
    refine bW ?_
    simp[jE,lA hb hl]
  ·have hr:letterF b=false:=by
    rw[<- KW];simp[NV];omega
   have hd:=UY hb af
   refine GJ h2 ?_
   have:(decide (97<=((Utf8.decode ⟨⟨s⟩⟩ k).1:Int))&&decide (((Utf8.decode ⟨⟨s⟩⟩ k).1:Int)<=122)||decide (65<=((Utf8.decode ⟨⟨s⟩⟩ k).1:Int))&&decide (((Utf8.decode ⟨⟨s⟩⟩ k).1:Int)<=90))=false:=by
    rw[Bool.eq_false_iff];intro h;simp at h;omega
   rw[this]
   refine bW ?_
   simp[jE,lA hb hr]
 ·refine GJ h2 ?_
  refine aw (gw _ _ _) rfl ?_
  refine bW ?_
  rw[jE,nD hk.2 (by omega),Bool.true_and]
theorem Cj{σ:Type}(l:List kO)(hl:l.length<=9223372036854775807)(g:Nat)(bI:List V)(base:Nat)(H:σ->Nat->ad)(step:σ->kO->σ×Bool)(hc:∀r∈V.aQ bI,r<base)(ok:σ->Prop)(aW:∀x∈l,∀s,ok s->(step s x).2=true->ok (step s x).1)
 (h:∀x∈l,∀s,ok s->vG Tryz.prog g (.d x.d::bI) base (H s) (H (step s x).1) (.d (.bool (step s x).2))) (s:σ) (pg:ok s):
 vG Tryz.prog 147 [.d (.sl (l.map kO.d)), .func (.func g) [] bI] base (H s) (H (aK step s l).1) (.d (.bool (aK step s l).2)):=by
 intro o nx hI K X hK
 have fL:∀r∈V.aQ bI,r<nx:=fun r hr=>Nat.lt_of_lt_of_le (hc r hr) hI.le
 refine cI.aI mix QS aF ?_
 rw[Uk]
 refine cB ?_
 refine aB (fun i:Nat×σ×(Nat->ad)×Nat=>⟨aX [.aa, .func (.func g) [] bI, .aa, .aa, .aa, .aa, .aa, .d (.sl (l.map kO.d)), .d (.i l.length), .d (.i i.1)],i.2.2.1,i.2.2.2⟩)
  (fun i=>i.1<=l.length/\eA base (H i.2.1) i.2.2.1 i.2.2.2/\nx<=i.2.2.2/\(∀id,base<=id->id<nx->i.2.2.1 id=o id)/\aK step s l=aK step i.2.1 (l.drop i.1)/\ok i.2.1) (fun i=>l.length - i.1) (0,s,o,nx)
  ⟨Nat.zero_le _,hI,Nat.le_refl _,fun _ _ _=>rfl,rfl,pg⟩ ?_ ?_
 ·exact Sm
 rintro⟨k,s',o',nx'⟩ ⟨hk,Md,hn,c8,hf,vK⟩
 simp only at hk Md hn c8 hf vK
 refine cB ?_
 refine ak (fun h1=> ?_) (fun h1=> ?_)
 ·simp at h1
  obtain⟨x,hx⟩:=ay h1
  have bY:=List.mem_of_getElem? hx
  have hd:l.drop k=x::l.drop (k+1):=by
   exact Sh
  refine RW hx ?_
  have YU:=Md.le
  refine ku (h x bY s' vK _ _ (?_:eA base (H s') _ (nx'+7)) _ _ fun o2 n2 m1 m2 m3=> ?_)
  ·exact Xw
  have KN:∀id,base<=id->id<nx->o2 id=o id:=fun id h2 h3=>by
   exact XM
  refine cB ?_
  refine ak (fun h2=> ?_) (fun h2=> ?_)
  ·refine cB ?_
   simp at h2
   have:aK step s l=((step s' x).1,false):=by rw[hf,hd,aK,if_neg (by rw[h2];exact Bool.false_ne_true)]
   rw[this]at hK
   exact hK _ _ af (m2.mono af) KN
  ·refine cB ?_
   simp at h2
   have:aK step s l=aK step (step s' x).1 (l.drop (k+1)):=by rw[hf,hd,aK,if_pos h2]
   refine aj (k+1,(step s' x).1,o2,n2) ⟨h1,m2,by dsimp only;omega,KN,this,aW x bY s' vK h2⟩ kC ?_
   dsimp only
   have Rl:∀r∈V.aQ bI,r<n2:=fun r hr=>by have:=fL r hr;omega
   refine bA.bJ _ af af m2.cm (fun _ _=>rfl) ?_
   exact dp
 ·exact Yw
def pA(l:List (List UInt8)):List (List UInt8×D):=l.map fun s=>(s, .bool true)
theorem HO(l:List (List UInt8))(s:List UInt8):pA l++[(s, .bool true)]=pA (l++[s]):=by simp[pA]
theorem HP{l:List (List UInt8)}{s:List UInt8}{i:Nat}{x:D}(h:jb s (pA l) 0=some (i,x)):x= .bool true/\(pA l).set i (s, .bool true)=pA l/\l.any (· ==s)=true:=by
 obtain⟨_,h2⟩:=Ci h
 rw[Nat.sub_zero]at h2
 simp only[pA,List.getElem?_map]at h2
 cases hl:l[i]? with
 |none=>rw[hl]at h2;cases h2
 |some y=>
  rw[hl]at h2
  simp at h2
  obtain⟨rfl,rfl⟩:=h2
  refine⟨rfl, ?_, ?_⟩
  ·apply List.ext_getElem?
   intro j
   rw[List.getElem?_set]
   split
   ·rename_i e;subst e
    obtain⟨b8,hy⟩:=List.getElem?_eq_some_iff.1 hl
    simp[pA,b8,hy]
   ·rfl
  ·exact List.any_eq_true.2 ⟨y,List.mem_of_getElem? hl,aF⟩
theorem HQ{l:List (List UInt8)}{s:List UInt8}(h:jb s (pA l) 0=none):l.any (· ==s)=false:=by
 rw[yg]at h
 rw[List.any_eq_false]
 intro x hx hs
 have:=h (x, .bool true) (by simp[pA];exact hx)
 simp at hs;exact this hs
def NW(bs:List (List UInt8))(x:kO):Bool:= !bs.any (· ==x.name)&&jE x.name&&dJ x.args 0 4
def im(bs:List (List UInt8))(x:kO):List (List UInt8)×Bool:=(if bs.any (· ==x.name)=true then bs else bs++[x.name],NW bs x)
theorem UZ(x:kO)(hx:x.name.length<=9223372036854775807)(base mp id:Nat)(h:Nat->ad)(hmp:h mp= .row [.mp id])(h1:mp<base)(h2:id<base)(h3:id≠mp)(bs:List (List UInt8)):
 vG Tryz.prog 144 [.d x.d, .ptr mp 0] base (az h id (.map 9 4 (enc .str (pA bs)))) (az h id (.map 9 4 (enc .str (pA (im bs x).1)))) (.d (.bool (im bs x).2)):=by
 intro o nx hI K X hK
 have hle:=hI.le
 have hg:=hI.cm
 have q0:o mp= .row [.mp id]:=by rw[hI.eq mp h1,ae _ _ _ _ (by omega),hmp]
 have q1:o id= .map 9 4 (enc .str (pA bs)):=by rw[hI.eq id h2,ab]
 refine cI.aI mix QP aF ?_
 rw[Uh]
 cases ha:jb x.name (pA bs) 0 with
 |none=>
  have hn:=HQ ha
  have hs:im bs x=(bs++[x.name],jE x.name&&dJ x.args 0 4):=by simp[im,NW,hn]
  rw[hs]at hK
  refine IQ q0 q1 ha ?_
  refine aw (HN _ hx) rfl ?_
  refine bW ?_
  refine hY (fW [.bool (dJ x.args 0 4)] ?_ ?_)
  ·refine bW ?_
   exact fun _=>gw _ _ _
  refine bW ?_
  rw[KU,HO]
  refine hK _ _ af ⟨dI,af,fun j hj=> ?_⟩ (fun j g1 g2=>by(repeat(first|rfl|rw[ab]|rw[ae _ _ _ _ (by omega)])))
  ·by_cases e:j=id
   ·exact oV
   ·exact XJ
 |some p=>
  obtain⟨i,y⟩:=p
  obtain⟨rfl,e1,hn⟩:=HP ha
  have hs:im bs x=(bs,false):=by simp[im,NW,hn]
  rw[hs]at hK
  refine IQ q0 q1 ha ?_
  rw[F8,e1]
  refine hK _ _ af ⟨dI,af,fun j hj=> ?_⟩ (fun j g1 g2=>by(repeat(first|rfl|rw[ab]|rw[ae _ _ _ _ (by omega)])))
  ·by_cases e:j=id
   ·exact oV
   ·exact XJ
theorem pB:∀ (l:List kO) (bs:List (List UInt8)),match cn l bs with|some B=>aK im bs l=(B,true)|none=>(aK im bs l).2=false
 |[],bs=>rfl
 |x::l,bs=>by
  have ih:=pB l (bs++[x.name])
  simp only[cn,aK,im,NW]
  by_cases h1:bs.any (· ==x.name)=true
  ·simp[h1]
  ·simp only[Bool.not_eq_true]at h1
   simp only[h1,Bool.false_eq_true,if_false,Bool.not_false,Bool.true_and]
   by_cases h2:(jE x.name&&dJ x.args 0 4)=true
   ·have h3: ¬ ((!jE x.name|| !dJ x.args 0 4)=true):=by simp at h2;simp[h2]
    rw[if_neg h3,if_pos h2]
    exact ih
   ·have h3:(!jE x.name|| !dJ x.args 0 4)=true:=by
     cases hn:jE x.name<;>simp_all
    rw[if_pos h3,if_neg h2]
def mD(ok:Bool):Int:=if ok=true then 0 else 2
@[reducible] def HS (s:aD) (bs:List (List UInt8)):Nat->ad:=az (az (az (fun _=> .no) 0 (.row s.row)) 3 (.row [.mp 2])) 2 (.map 9 4 (enc .str (pA bs)))
theorem vP(s:aD)(hs:s.Fits):a8 Tryz.prog 119 [s.d] (.ret [.i (mD (np s))]):=by
 refine a8.aI mix QG aF ?_
 rw[T8]
 refine kR ?_
 refine aw (gw _ _ _) rfl ?_
 refine kR ?_
 cases h1:(!dJ s.cons.length 2 12||decide (8<(s.cL.length:Int)))with
 |true=>
  have:np s=false:=by simp only[np,h1,if_true]
  refine pP h1 ?_
  simp[this,mD]
 |false=>
  have IE:=pB s.cons []
  have ab1:∀ (l:List kO),(∀x∈l,x.name.length<=9223372036854775807)->∀x∈l,∀bs,True->vG Tryz.prog 144 (.d x.d::[.ptr 3 0]) 4 (HS s bs) (HS s (im bs x).1) (.d (.bool (im bs x).2)):=fun l hl x hx bs _=>
   UZ x (hl x hx) 4 3 2 (az (az (fun _=> .no) 0 (.row s.row)) 3 (.row [.mp 2])) (ab _ _ _) af af af bs
  simp[dJ]at h1
  obtain⟨a,b,r,hc⟩:∃a b r,s.cons=a::b::r:=by
   match h:s.cons with
   |[]=>exact E2
   |[a]=>exact E2
   |a::b::r=>exact⟨a,b,r,rfl⟩
  have eg:(!dJ s.cons.length 2 12||decide (8<(s.cL.length:Int)))=false:=by simp[dJ];omega
  have Ce:np s=if(!my a fB|| !my b tB)=true then false else match cn s.cons []with
   |none=>false
   |some l=>(cn s.cL l).isSome:=by
   unfold np
   rw[if_neg (by rw[eg];exact Bool.false_ne_true),hc]
   dsimp only
   rfl
  refine pP eg ?_
  refine bz (Cj s.cons hs.lc 144 [.ptr 3 0] 4 (HS s) im xg (fun _=>True) (fun _ _ _ _ _=>trivial) (ab1 s.cons hs.nc) [] trivial _ _ ⟨?_,af,fun id au=> ?_⟩ _ _ fun o2 n2 m1 m2 m3=> ?_)
  ·exact dI
  ·rcases(by omega:id=0\/id=1\/id=2\/id=3)with rfl|rfl|rfl|rfl<;>rfl
  have p0:∀ {bs:List (List UInt8)} {o:Nat->ad} {n:Nat},eA 4 (HS s bs) o n->o 0= .row s.row:=fun h=>h.eq 0 af
  have p3:∀ {bs:List (List UInt8)} {o:Nat->ad} {n:Nat},eA 4 (HS s bs) o n->o 3= .row [.mp 2]:=fun h=>h.eq 3 af
  cases hn:cn s.cons []with
  |none=>
   rw[hn]at IE
   simp only at IE
   rw[IE]
   refine kR ?_
   rw[Ce,hn]
   split<;>rfl
  |some B=>
   rw[hn]at IE
   simp only at IE
   rw[IE]at m2|-
   simp+contextual (disch:=first|omega|simp only[go_sem,false_implies]) only[go_sem,wrap64,if_pos,Nat.add_assoc,Nat.left_eq_add,Nat.add_eq_left,Nat.add_left_cancel_iff,p0 m2]
   refine bz (Cj s.cL hs.lf 144 [.ptr 3 0] 4 (HS s) im xg (fun _=>True) (fun _ _ _ _ _=>trivial) (ab1 s.cL hs.nf) B trivial _ _ (m2.mono af) _ _ fun o4 n4 k1 k2 k3=> ?_)
   have Iv:=pB s.cL B
   cases hf:cn s.cL B with
   |none=>
    rw[hf]at Iv
    simp only at Iv
    rw[Iv]
    refine kR ?_
    rw[Ce,hn]
    simp only[hf]
    split<;>rfl
   |some C=>
    rw[hf]at Iv
    simp only at Iv
    rw[Iv]at k2|-
    simp+contextual (disch:=first|omega|simp only[go_sem,false_implies]) only[go_sem,wrap64,if_pos,Nat.add_assoc,Nat.left_eq_add,Nat.add_eq_left,Nat.add_left_cancel_iff,p0 k2,hc]
    have Ro:np s= !(!my a fB|| !my b tB):=by
     rw[Ce,hn];simp only[hf]
     cases(!my a fB|| !my b tB)<;>rfl
    refine ak (fun h5=> ?_) (fun h5=> ?_)
    ·refine bW ?_
     have pR:(!my a fB|| !my b tB)=true:=h5
     rw[Ro,pR];rfl
    ·refine bW ?_
     have pR:(!my a fB|| !my b tB)=false:=h5
     rw[Ro,pR];rfl
def jH(s:aD)(l:List Tm):Bool:=np s&&l.all (l8 s)
theorem yi{α:Type}(p:α->Bool):∀ (l:List α) (u:Unit),aK (fun _ x=>((),p x)) u l=((),l.all p)
 |[],_=>rfl
 |x::l,u=>by
  simp only[aK,List.all_cons,yi p l]
  cases p x<;>rfl
theorem Ee(l:List Tm)(hl:l.length<=9223372036854775807)(g:Nat)(bI:List V)(base:Nat)(h:Nat->ad)(p:Tm->Bool)(hc:∀r∈V.aQ bI,r<base)
 (hp:∀x∈l,vG Tryz.prog g (.d x.d::bI) base h h (.d (.bool (p x)))):vG Tryz.prog 169 [.d (.sl (l.map Tm.d)), .func (.func g) [] bI] base h h (.d (.bool (l.all p))):=by
 have:=Cf l hl g bI base (fun _:Unit=>h) (fun _ x=>((),p x)) hc (fun _=>True) (fun _ _ _ _ _=>trivial) (fun x hx _ _=>hp x hx) () trivial
 simpa only[yi]using this
structure Tm.Fin (t:Tm):Prop where
 fits:t.fits
 mC:t.mC<=900000
theorem KY(s:aD)(hs:s.Fits)(t:Tm)(ht:t.Fin)(base sp:Nat)(h:Nat->ad)(Py:h sp= .row s.row)(hb:sp<base):vG Tryz.prog 170 [.d t.d, .ptr sp 0] base h h (.d (.bool (l8 s t))):=by
 intro o nx hI K X hK
 have hle:=hI.le
 have hg:=hI.cm
 have q0:o sp= .row s.row:=by rw[hI.eq sp hb,Py]
 refine cI.aI mix Q5 aF ?_
 rw[Uw]
 refine pP q0 ?_
 refine aw (KT s hs t ht.fits ht.mC) rfl ?_
 refine bW ?_
 exact hK _ _ af ⟨dI,af,fun j hj=>by rw[ae _ _ _ _ (by omega),hI.eq j hj]⟩ (fun j g1 g2=>by(repeat(first|rfl|rw[ab]|rw[ae _ _ _ _ (by omega)])))
theorem NX(s:aD)(hs:s.Fits)(l:List Tm)(hl:l.length<=9223372036854775807)(hf:∀t∈l,t.Fin):a8 Tryz.prog 158 [s.d, .sl (l.map Tm.d)] (.ret [.bool (jH s l)]):=by
 refine a8.aI mix QW aF ?_
 rw[Un]
 refine bW ?_
 refine aw (vP s hs) rfl ?_
 cases h1:np s with
 |false=>
  refine Xe ?_
  simp[jH,h1]
 |true=>
  refine Xe ?_
  refine bz (Ee l hl 170 [.ptr 0 0] 1 (az (fun _=> .no) 0 (.row s.row)) (l8 s) xg (fun x hx=>KY s hs x (hf x hx) 1 0 _ (ab _ _ _) af) _ _ ⟨dI,af,fun id au=>rfl⟩ _ _ fun o2 n2 m1 m2 m3=> ?_)
  refine bW ?_
  simp[jH,h1]
def qH(x:Tm×Int):Bool:=decide (3<x.1.op)&&x.1.op !=5
def vJ(b:Bool):Option jR:=if b=true then none else some .ret
def nF(t:Tm):Bool:=(aK (wD vJ (fun _ x=> !qH x)) true (pre t 1)).2
theorem HT(t:Tm)(ht:t.Fin):a8 Tryz.prog 160 [t.d] (.ret [.bool (nF t)]):=by
 refine a8.aI mix QY aF ?_
 rw[Up]
 refine bW ?_
 refine dD (vM t _ _ _ _ ?_)
 refine bW ?_
 refine nE t ht.fits ht.mC [.aa, .aa, .ptr 1 0] ?_ bV rfl dI xg (ab _ _ _)
  (fun _=>az (az (az (fun _=> .no) 0 (.row t.row)) 1 (.row [.d (.bool false)])) 3 (.row t.row)) vJ (fun _ x=> !qH x) (fun _=>True) true trivial rfl (fun id au=>rfl) (fun _ _ _ _ _ _=>trivial) ?_ ?_
 ·exact IW
 ·intro L hL xa x hx s' h1 h2 o3 n3 hI hn ho K X ef
  simp only[pq]
  have hg:=hI.cm
  have q1:o3 1= .row [.d (.bool false)]:=hI.eq 1 af
  refine bW ?_
  refine nA hL (pd:=none) ?_ ?_
  ·(repeat(first|rfl|rw[ab]|rw[ae _ _ _ _ (by omega)]))
   exact ho
  refine bW ?_
  have hv:qH x=(decide (3<x.1.op)&&x.1.op !=5):=rfl
  rw[<- hv]
  cases hb:qH x with
  |true=>
   rw[hb]at ef
   refine pP q1 ?_
   refine ef _ _ _ .busy none af ⟨dI,af,fun id au=> ?_⟩ c6 (fun id h3 h4=>by(repeat(first|rfl|rw[ab]|rw[ae _ _ _ _ (by omega)])))
   by_cases e:id=1
   ·exact oV
   ·rw[ae _ _ _ _ e];(repeat(first|rfl|rw[ab]|rw[ae _ _ _ _ (by omega)]))
    exact hI.eq id au
  |false=>
   rw[hb]at ef
   refine bW ?_
   refine ef _ _ _ .busy none af ⟨dI,af,fun id au=> ?_⟩ c6 (fun id h3 h4=>by(repeat(first|rfl|rw[ab]|rw[ae _ _ _ _ (by omega)])))
   (repeat(first|rfl|rw[ab]|rw[ae _ _ _ _ (by omega)]))
   exact hI.eq id au
 ·intro o' n' hI
  have q1:o' 1= .row [.d (.bool false)]:=hI.eq 1 af
  rw[show nF t=(vJ (aK (wD vJ (fun _ x=> !qH x)) true (pre t 1)).1).isNone from zS _ _ _ _ rfl]
  generalize (aK (wD vJ (fun _ x=> !qH x)) true (pre t 1)).1=sf at*
  cases sf<;>(simp only[vJ,if_true,if_false,Bool.false_eq_true,qp];simp+contextual (disch:=first|omega|simp only[go_sem,false_implies]) only[go_sem,wrap64,if_pos,q1];rfl)
def Tm.Ck (t:Tm):Int:=(pre t 1).length
structure Tm.Cnt (t:Tm):Prop extends t.Fin where
 size:t.Ck<=1000000
theorem Tm.Fin.jV {t k:Tm}(h:t.Fin)(hk:k∈t.kids):k.Fin:=⟨((Tm.bK _).1 h.fits).2 k hk,by have:=Tm.zD hk;have:=h.mC;omega⟩
theorem tf:∀ (t:Tm) (d d':Int),(pre t d).length=(pre t d').length:=by
 refine Tm.ei fun t ih d d'=> ?_
 rw[nm,nm]
 simp only[List.length_cons,List.length_flatMap]
 congr 2
 exact List.map_congr_left fun k hk=>ih k hk _ _
theorem Tm.yj {t k:Tm}(hk:k∈t.kids):k.Ck+1<=t.Ck:=by
 simp only[Tm.Ck]
 rw[nm t,tf k 1 (1+1)]
 simp only[List.length_cons,List.length_flatMap]
 have:∀ (l:List Tm),k∈l->(pre k (1+1)).length<=(l.map fun k=>(pre k (1+1)).length).sum:=by
  intro l
  induction l with
  |nil=>intro h;cases h
  |cons x l ih=>
   intro h
   rcases List.mem_cons.1 h with rfl|h
   ·simp only[List.map_cons,List.sum_cons];omega
   ·have:=ih h;simp only[List.map_cons,List.sum_cons];omega
 have:=this _ hk
 omega
theorem Tm.Cnt.jV {t k:Tm}(h:t.Cnt)(hk:k∈t.kids):k.Cnt:=⟨h.toFin.jV hk,by have:=Tm.yj hk;have:=h.size;omega⟩
def Tm.sz (t:Tm):Nat:=(pre t 1).length
def oB(l:List Tm):Nat:=(l.map Tm.sz).sum
theorem Tm.Cl (t:Tm):t.Ck=(t.sz:Int):=rfl
theorem Tm.iH (t:Tm):t.sz=1+oB t.kids:=by
 unfold Tm.sz oB
 rw[nm,List.length_cons,List.length_flatMap,Nat.add_comm]
 congr 2
 exact List.map_congr_left fun k hk=>tf k _ _
theorem lB(k:Tm)(l:List Tm):oB (k::l)=k.sz+oB l:=by simp[oB]
theorem Tm.pC (t:Tm):1<=t.sz:=by rw[Tm.iH];omega
theorem yk(k:Tm)(l:List Tm):Tm.iS (k::l)=Nat.max k.mC (Tm.iS l):=by simp[Tm.iS]
theorem n9:∀ (l:List Tm) (n:Nat),Tm.iS l<=n↔∀k∈l,k.mC<=n
 |[],n=>by simp[Tm.iS]
 |x::l,n=>by
  rw[yk]
  simp only[List.mem_cons,forall_eq_or_imp, <- n9 l n]
  exact Nat.max_le
theorem Tm.vQ (t:Tm):t.mC=1+Tm.iS t.kids:=by cases t;simp[Tm.mC,Tm.kids]
theorem HU:∀t:Tm,∀left depth:Int,iF t left depth=if(t.sz:Int)<=left/\(t.mC:Int)<=depth then left - t.sz else -1:=by
 refine Tm.ei fun t ih left depth=> ?_
 have hs:∀ (l:List Tm) (left d:Int),(∀k∈l,k∈t.kids)->0<=left->0<=d->cp l left d=if(oB l:Int)<=left/\(Tm.iS l:Int)<=d then left - oB l else -1:=by
  intro l
  induction l with
  |nil=>intro left d _ h1 h2;simp[cp,oB,Tm.iS,h1,h2]
  |cons k l UN=>
   intro left d hk h1 h2
   simp only[cp,if_pos h1]
   rw[ih k (hk k (by simp))]
   have hm:(Tm.iS (k::l):Int)<=d↔(k.mC:Int)<=d/\(Tm.iS l:Int)<=d:=by
    have:= @Nat.max_le k.mC (Tm.iS l) d.toNat
    have e:Tm.iS (k::l)=max k.mC (Tm.iS l):=yk k l
    rw[e];omega
   simp only[lB,hm]
   by_cases hc:(k.sz:Int)<=left/\(k.mC:Int)<=d
   ·rw[if_pos hc,UN _ _ (fun x hx=>hk x (by simp[hx])) (by omega) h2]
    by_cases uM:(oB l:Int)<=left - k.sz/\(Tm.iS l:Int)<=d
    ·rw[if_pos uM,if_pos (by omega)];omega
    ·rw[if_neg uM,if_neg (by omega)]
   ·rw[if_neg hc,py (by omega),if_neg (by omega)]
 rw[Cd,Tm.iH,Tm.vQ]
 by_cases h:left<1\/depth<1
 ·rw[if_pos h,if_neg (by omega)]
 ·rw[if_neg h,hs _ _ _ (fun _ h=>h) (by omega) (by omega)]
  by_cases hc:(oB t.kids:Int)<=left - 1/\(Tm.iS t.kids:Int)<=depth - 1
  ·rw[if_pos hc,if_pos (by omega)];omega
  ·rw[if_neg hc,if_neg (by omega)]
theorem vR(t:Tm)(left depth:Int):0<=iF t left depth↔(t.sz:Int)<=left/\(t.mC:Int)<=depth:=by
 rw[HU];split<;>omega
theorem Eg(t:Tm):ik t=true↔t.sz<=50/\t.mC<=14:=by
 simp only[ik,decide_eq_true_eq,vR];omega
theorem HV:∀ (t:Tm) (d m:Int),(∀x∈pre t d,x.2<=m)↔d+t.mC - 1<=m:=by
 refine Tm.ei fun t ih d m=> ?_
 rw[nm,Tm.vQ]
 simp only[List.mem_cons,forall_eq_or_imp,List.mem_flatMap]
 have h1:(∀x:Tm×Int,(∃k,k∈t.kids/\x∈pre k (d+1))->x.2<=m)↔∀k∈t.kids,d+1+k.mC - 1<=m:=by
  constructor
  ·intro h k hk
   exact(ih k hk _ _).1 fun x hx=>h x ⟨k,hk,hx⟩
  ·rintro h x ⟨k,hk,hx⟩
   exact(ih k hk _ _).2 (h k hk) x hx
 rw[h1]
 constructor
 ·rintro⟨h2,h3⟩
  have:=(n9 t.kids (m - d).toNat).2 fun k hk=>by have:=h3 k hk;omega
  omega
 ·intro h
  have:=(n9 t.kids (m - d).toNat).1 af
  exact⟨af,fun k hk=>by have:=this k hk;omega⟩
theorem F9(p:Tm->Bool):∀ (t:Tm) (d:Int),(pre t d).all (fun x=>p x.1)=(p t&&t.kids.all fun k=>(pre k (d+1)).all fun x=>p x.1):=by
 intro t d
 rw[nm,List.all_cons,List.all_flatMap]
theorem vS(s:aD):∀ (t:Tm) (d:Int),ig s t=(pre t d).all fun x=>bw s x.1:=by
 refine Tm.ei fun t ih d=> ?_
 rw[F9 (bw s),lz]
 congr 1
 exact Pl
theorem Eh:∀ (t:Tm) (d:Int),fM t=(pre t d).all fun x=>(decide (1<=x.1.op)&&decide (x.1.op<=3))||x.1.op==5:=by
 refine Tm.ei fun t ih d=> ?_
 rw[F9 (fun t=>(decide (1<=t.op)&&decide (t.op<=3))||t.op==5),rZ,Bool.and_comm]
 congr 1
 exact Pl
theorem Cm{s:aD}{t:Tm}(h:bw s t=true):dJ t.op 1 15=true:=by
 rw[show dJ t.op 1 15=true↔1<=t.op/\t.op<=15 by simp[dJ]]
 by_cases h6:dJ t.op 6 15=true
 ·simp[dJ]at h6;omega
 ·simp only[bw,if_neg h6]at h
  by_cases h1:t.op=1
  ·omega
  by_cases h2:t.op=2
  ·omega
  by_cases h3:t.op=3
  ·omega
  by_cases h4:t.op=4
  ·omega
  by_cases h5:t.op=5
  ·omega
  by_cases h8:t.op=8
  ·omega
  rw[if_neg h1,if_neg h2,if_neg h3,if_neg h4,if_neg h5,if_neg h8]at h
  cases h
def vT(s:aD)(x:Tm×Int):Bool:= !(decide (12<x.2)|| !dJ x.1.op 1 15|| !bw s x.1)
theorem tg(s:aD):∀ (l:List (Tm×Int)) (n:Int) (b:Bool),(aK (wD fJ (gJ s)) (n,b) l).2=(decide (l=[]\/n+l.length<=40)&&l.all (vT s))
 |[],n,b=>by simp[aK]
 |x::l,n,b=>by
  have e1:∀c,oA s n x=c->wD fJ (gJ s) (n,b) x=((n+1, !c), !c):=fun c hc=>by show((n+1, !oA s n x),(fJ (n+1, !oA s n x)).isNone)=_;rw[hc];cases c<;>rfl
  have hb:oA s n x=(decide (40<n+1)|| !vT s x):=by simp[oA,vT,Bool.or_assoc]
  rw[List.all_cons]
  cases hg:vT s x with
  |false=>
   have e:oA s n x=true:=by rw[hb,hg];simp
   rw[aK,e1 _ e];simp
  |true=>
   by_cases h40:40<n+1
   ·have:decide (x::l=[]\/n+(x::l).length<=40)=false:=by simp;omega
    have e:oA s n x=true:=by rw[hb];simp[h40]
    rw[this,Bool.false_and,aK,e1 _ e];simp
   ·have e:oA s n x=false:=by rw[hb,hg];simp;omega
    rw[aK,e1 _ e]
    simp only[Bool.not_false,if_true,tg s l,Bool.true_and]
    congr 1
    cases l with
    |nil=>simp;omega
    |cons y l=>simp;omega
theorem vU(s:aD)(t:Tm):l8 s t=jF s t:=by
 rw[l8,tg,jF,vS s t 1,Bool.eq_iff_iff]
 have hn:pre t 1≠[]:=by rw[nm];simp
 simp only[Bool.and_eq_true,decide_eq_true_eq,hn,false_or,vR,List.all_eq_true]
 have hd:=HV t 1 12
 constructor
 ·rintro⟨h1,h2⟩
  have h3:∀x∈pre t 1,x.2<=12:=fun x hx=>by have:=h2 x hx;simp[vT]at this;omega
  have:=hd.1 h3
  exact⟨⟨by unfold Tm.sz;omega,af⟩,fun x hx=>by have:=h2 x hx;simp[vT]at this;exact this.2⟩
 ·rintro⟨⟨h1,h2⟩,h3⟩
  have h4:=hd.2 af
  refine⟨by unfold Tm.sz at h1;omega,fun x hx=> ?_⟩
  have h5:=h4 x hx
  have h6:=h3 x hx
  have h7:=Cm h6
  simp[vT,h6,h7];omega
theorem vV:∀ (l:List (Tm×Int)) (b:Bool),(aK (wD vJ (fun _ x=> !qH x)) b l).2=l.all fun x=> !qH x
 |[],b=>rfl
 |x::l,b=>by
  have e1:∀c,qH x=c->wD vJ (fun _ x=> !qH x) b x=(!c, !c):=fun c hc=>by show(!qH x,(vJ (!qH x)).isNone)=_;rw[hc];cases c<;>rfl
  rw[aK,List.all_cons]
  cases hv:qH x with
  |false=>rw[e1 _ hv];simp[vV l]
  |true=>rw[e1 _ hv];simp
theorem yl{s:aD}{t:Tm}(h:jF s t=true):nF t=fM t:=by
 rw[nF,vV,Eh t 1,Bool.eq_iff_iff]
 simp only[jF,Bool.and_eq_true,vS s t 1,List.all_eq_true]at h
 simp only[List.all_eq_true]
 refine forall_congr' fun x=>forall_congr' fun hx=> ?_
 have:=Cm (h.2 x hx)
 simp[dJ]at this
 simp[qH]
 omega
theorem pD:∀a:Tm,fX a a=true:=by
 refine Tm.ei fun a ih=> ?_
 rw[qF]
 have:ij a.kids a.kids=true:=(il _ _ rfl).2 fun i x y hx hy=>by
  rw[hx]at hy;injection hy with hy;subst hy;exact ih x (List.mem_of_getElem? hx)
 simp[this]
theorem fY:∀a b:Tm,fX a b=true↔a=b:=by
 refine Tm.ei fun a ih b=>⟨fun h=> ?_,fun e=>e ▸ pD _⟩
 rw[qF]at h
 simp only[Bool.and_eq_true,beq_iff_eq]at h
 obtain⟨⟨⟨h1,h2⟩,h3⟩,h4⟩:=h
 have h5:=(il _ _ h3).1 h4
 have:a.kids=b.kids:=by
  apply List.ext_getElem?
  intro i
  cases hx:a.kids[i]? with
  |none=>simp at hx;symm;simp;omega
  |some x=>
   have hi:=(List.getElem?_eq_some_iff.1 hx).1
   obtain⟨y,hy⟩:=ay (l:=b.kids) (k:=i) af
   rw[hy,(ih x (List.mem_of_getElem? hx) y).1 (h5 i x y hx hy)]
 rw[<- Tm.eta a, <- Tm.eta b,h1,h2,this]
section
def HW(l:List (D×D)):List (Int×D):=l.map fun p=>((match p.1 with| .int _ n=>n|_=>0),p.2)
def U0(l:List (D×D)):Bool:=l.all fun p=>match p.1 with| .int .i64 _=>true|_=>false
@[go_sem] theorem acN (m:List (Int×D)):HW (enc (D.int .i64) m)=m:=by
  unfold HW enc;rw[List.map_map];simp[Function.comp_def]
@[go_sem] theorem acO (m:List (Int×D)):U0 (enc (D.int .i64) m)=true:=by simp[U0,enc]
@[go_sem] theorem acP:U0 []=true:=rfl
@[go_sem] theorem acQ:HW []=[]:=rfl
theorem zT:∀ {l:List (D×D)},U0 l=true->enc (D.int .i64) (HW l)=l
 |[],_=>rfl
 |(k,x)::l,h=>by
  simp only[U0,List.all_cons,Bool.and_eq_true]at h
  have ih:=zT (l:=l) h.2
  obtain⟨n,h1⟩:∃n,k= .int .i64 n:=by
   have h1:=h.1
   split at h1
   ·exact⟨_,rfl⟩
   ·cases h1
  subst h1
  simp only[enc,HW,List.map_cons]at ih|-
  rw[ih]
def nG(l:List Int):List (Int×D):=l.map fun n=>(n, .bool true)
@[go_sem] theorem ab2:nG []=[]:=rfl
def dS(l:List Int)(n:Int):List Int:=if l.contains n=true then l else l++[n]
theorem jI{l:List Int}{n k:Int}:k∈dS l n↔k∈l\/k=n:=by
 unfold dS
 split
 ·rename_i h
  have:n∈l:=by simpa using h
  constructor
  ·exact .inl
  ·rintro(h|rfl)<;>assumption
 ·simp
theorem Ei{l:List Int}(n:Int)(h:l.Nodup):(dS l n).Nodup:=by
 unfold dS
 split
 ·exact h
 ·rename_i hn
  have hn:n∉l:=by simpa using hn
  rw[List.nodup_append]
  exact⟨h,aF,fun a ha b hb=>by simp at hb;subst hb;intro e;subst e;exact hn ha⟩
theorem qI:∀ (l:List Int) (n:Int) (i:Nat),jb n (nG l) i=(l.findIdx? (· ==n)).map fun j=>(i+j,D.bool true)
 |[],n,i=>rfl
 |x::l,n,i=>by
  have ih:=qI l n (i+1)
  simp only[nG,List.map_cons,jb,List.findIdx?_cons]at ih|-
  by_cases h:n=x
  ·subst h;simp
  ·have h2: ¬x=n:=fun e=>h e.symm
   simp only[beq_iff_eq,h,h2,if_false,ih,Option.map_map,Function.comp_def]
   congr 1;funext j;congr 1;omega
@[go_sem] theorem WM (l:List Int) (n:Int):HL n (.bool true) (nG l)=nG (dS l n):=by
  unfold HL dS
  rw[qI]
  cases h:l.findIdx? (· ==n)with
  |none=>
   have:l.contains n=false:=by
    rw[List.findIdx?_eq_none_iff]at h
    rw[Bool.eq_false_iff];intro hc
    have:=h n (by simpa using hc)
    simp at this
   simp only[Option.map_none,this,Bool.false_eq_true,if_false]
   simp[nG]
  |some j=>
   rw[List.findIdx?_eq_some_iff_getElem]at h
   obtain⟨hj,he,_⟩:=h
   have e:l[j]=n:=by simpa using he
   have:l.contains n=true:=by rw[List.contains_iff_mem, <- e];exact List.getElem_mem hj
   simp only[Option.map_some,this,if_true,Nat.zero_add]
   apply List.ext_getElem?
   intro k
   rw[List.getElem?_set]
   split
   ·rename_i hk;subst hk;simp[nG,hj,e]
   ·rfl
def ab3(l:List Int)(n:Int):List Int:=match l.findIdx? (· ==n)with|some j=>l.eraseIdx j|none=>l
theorem l9{α β:Type}(f:α->β):∀ (l:List α) (j:Nat),(l.map f).eraseIdx j=(l.eraseIdx j).map f
 |[],_=>rfl
 |_::_,0=>rfl
 |x::l,j+1=>by simp[l9 f l j]
@[go_sem] theorem WN (l:List Int) (n:Int):abZ n (nG l)=nG (ab3 l n):=by
  unfold abZ ab3
  rw[qI]
  cases h:l.findIdx? (· ==n)with
  |none=>simp
  |some j=>simp only[Option.map_some,Nat.zero_add];exact l9 _ _ _
section
variable {P:Program}{o:Nat->ad}{t:TypeId}{id:Nat}{n:Int}{v:V}
def sb(P:Program)(kt:TypeId):Bool:=match bH P kt with|some .int=>true|_=>false
theorem ym{kt:TypeId}(h:sb P kt=true):bH P kt=some .int:=by
 unfold sb at h;split at h
 ·assumption
 ·cases h
@[go_sem] theorem WO {kt:TypeId} (h:bH P kt=some .int):sb P kt=true:=by unfold sb;rw[h]
def U1(P:Program)(o:Nat->ad)(t:TypeId)(id:Nat)(n:Int)(v:V):Option fK:=
 match rD P t,dU o v,o id with
 |some (kt,_),some vd, .map E7 E8 l=>match sb P kt&&U0 l&&v.ids.all (· !=id)with
  |true=>some (.bT [],bL o v.ids++[(id, .map E7 E8 (enc (D.int .i64) (HL n vd (HW l))))],id::v.ids)
  |false=>qG P o t (.mp id) (.d (.int .i64 n)) v
 |_,_,_=>qG P o t (.mp id) (.d (.int .i64 n)) v
@[go_sem high] theorem U2:fC P o t (.mp id) (.d (.int .i64 n)) v=U1 P o t id n v:=by
  unfold U1
  split
  ·rename_i kt vt vd E7 E8 l h1 h2 h3
   split
   ·rename_i hc
    simp only[Bool.and_eq_true]at hc
    obtain⟨⟨c1,c2⟩,c3⟩:=hc
    have c4:=ym c1
    have c5:dU o (.d (.int .i64 n))=some (.int .i64 n):=rfl
    have hl:=zT c2
    unfold fC
    simp only[h1,c5,h2,oJ,h3]
    rw[if_pos ⟨rfl,F7 c4 n,rfl,c3⟩]
    conv=>lhs;rw[<- hl]
    rw[Ch c4]
    unfold HL
    cases jb n (HW l) 0 with
    |none=>simp[wW,enc]
    |some p=>simp[wW,F8,D.same,oI]
   ·exact yh ..
  ·exact yh ..
attribute [go_sem] U1
def WQ(l:List (D×D)):Bool:=l.all fun p=>match p.2 with| .bool true=>true|_=>false
@[go_sem] theorem acR (l:List Int):WQ (enc (D.int .i64) (nG l))=true:=by simp[WQ,enc,nG]
@[go_sem] theorem acS:WQ []=true:=rfl
theorem Ga:∀ {m:List (Int×D)},WQ (enc (D.int .i64) m)=true->nG (m.map (·.1))=m
 |[],_=>rfl
 |(k,x)::m,h=>by
  simp only[WQ,enc,List.map_cons,List.all_cons,Bool.and_eq_true]at h
  have ih:=Ga (m:=m) h.2
  have h1:x= .bool true:=by
   have h1:=h.1
   split at h1
   ·rfl
   ·cases h1
  simp only[nG,List.map_cons]at ih|-
  rw[ih,h1]
def KZ(P:Program)(o:Nat->ad)(t:TypeId)(m:V)(n:Int)(ok:Bool):Option fK:=
 match rD P t with
 |some (kt,vt)=>match zeroV P vt with
  |some (.d (.bool false))=>match pY o m with
   |some (rd,l)=>match sb P kt&&U0 l&&WQ l with
    |true=>some (match ok with|true=> .bT [.d (.bool (((HW l).map (·.1)).contains n)), .d (.bool (((HW l).map (·.1)).contains n))]|false=> .d (.bool (((HW l).map (·.1)).contains n)),[],rd)
    |false=>vO P o t m (.d (.int .i64 n)) ok
   |none=>vO P o t m (.d (.int .i64 n)) ok
  |_=>vO P o t m (.d (.int .i64 n)) ok
 |none=>vO P o t m (.d (.int .i64 n)) ok
@[go_sem] theorem K0 (l:List Int):((nG l).map (·.1))=l:=by simp[nG,Function.comp_def]
@[go_sem high] theorem ab4 {m:V} {ok:Bool}:ja P o t m (.d (.int .i64 n)) ok=KZ P o t m n ok:=by
  unfold KZ
  split
  ·rename_i kt vt h1
   split
   ·rename_i hz
    split
    ·rename_i rd l h
     split
     ·rename_i hc
      simp only[Bool.and_eq_true]at hc
      have c4:=ym hc.1.1
      have hl:=zT hc.1.2
      have hs:nG ((HW l).map (·.1))=HW l:=Ga (by rw[hl];exact hc.2)
      have c5:dU o (.d (.int .i64 n))=some (.int .i64 n):=rfl
      unfold ja
      simp only[h1,c5,h]
      rw[if_pos ⟨rfl,F7 c4 n⟩]
      conv=>lhs;rw[<- hl]
      rw[Ch c4, <- hs,qI,K0]
      generalize (HW l).map (·.1)=l'
      cases hf:l'.findIdx? (· ==n)with
      |none=>
       have:l'.contains n=false:=by
        rw[List.findIdx?_eq_none_iff]at hf
        rw[Bool.eq_false_iff];intro hc
        have:=hf n (by simpa using hc)
        simp at this
       cases ok<;>simp only[Option.map_none,wW,hz,this,if_true,Bool.false_eq_true,if_false]
      |some j=>
       rw[List.findIdx?_eq_some_iff_getElem]at hf
       obtain⟨hj,he,_⟩:=hf
       have e:l'[j]=n:=by simpa using he
       have:l'.contains n=true:=by rw[List.contains_iff_mem, <- e];exact List.getElem_mem hj
       cases ok<;>simp only[Option.map_some,wW,this,if_true,Bool.false_eq_true,if_false]
     ·exact n6 ..
    ·exact n6 ..
   ·exact n6 ..
  ·exact n6 ..
attribute [go_sem] KZ
end
attribute [go_sem] List.head?_cons
end
mutual
def fO(v:Int):Tm->Bool
 | .mk op n kids=>if op=1 then n==v else zU v op n kids 0
def zU(v op n:Int):List Tm->Nat->Bool
 |[],_=>false
 |k::l,i=>(fO v k&& !(op==8&&i==1&&n==v))||zU v op n l (i+1)
end
theorem sd(v:Int)(t:Tm):fO v t=if t.op=1 then t.n==v else zU v t.op t.n t.kids 0:=by cases t;rfl
@[reducible] def HX (l:List Int):ad:= .map 3 4 (enc (D.int .i64) (nG l))
def oC:List Int->Int->List Int
 |[],n=>[n]
 |x::l,n=>if x<n then x::oC l n else if x=n then x::l else n::x::l
def pE(op n:Int)(i:Nat)(l out:List Int):List Int:=l.foldl (fun out v=>if(op !=8||(i:Int)!=1||v !=n)=true then oC out v else out) out
mutual
def ct:Tm->List Int
 | .mk op n kids=>if op=1 then [n]else ma op n kids 0 []
def ma(op n:Int):List Tm->Nat->List Int->List Int
 |[],_,out=>out
 |k::l,i,out=>ma op n l (i+1) (pE op n i (ct k) out)
end
theorem qJ(t:Tm):ct t=if t.op=1 then [t.n]else ma t.op t.n t.kids 0 []:=by cases t;rfl
theorem vW:∀ (l:List Int) (n v:Int),v∈oC l n↔v∈l\/v=n
 |[],n,v=>by simp[oC]
 |x::l,n,v=>by
  simp only[oC]
  split
  ·simp only[List.mem_cons,vW l n v];constructor
   ·rintro(h|h|h)
    ·exact .inl (.inl h)
    ·exact .inl (.inr h)
    ·exact .inr h
   ·rintro((h|h)|h)
    ·exact .inl h
    ·exact .inr (.inl h)
    ·exact .inr (.inr h)
  ·split
   ·rename_i h;subst h;simp only[List.mem_cons];constructor
    ·exact .inl
    ·rintro(h|h)
     ·exact h
     ·exact .inl h
   ·simp only[List.mem_cons];constructor
    ·rintro(h|h)
     ·exact .inr h
     ·exact .inl h
    ·rintro(h|h)
     ·exact .inr h
     ·exact .inl h
abbrev Ej(l:List Int):Prop:=l.Pairwise (· <·)
theorem Cn:∀ {l:List Int} (n:Int),Ej l->Ej (oC l n)
 |[],n,_=>by simp[oC]
 |x::l,n,h=>by
  have h1:=List.pairwise_cons.1 h
  simp only[oC]
  split
  ·rename_i hx
   refine List.pairwise_cons.2 ⟨fun y hy=> ?_,Cn n h1.2⟩
   rcases(vW l n y).1 hy with hy|hy
   ·exact h1.1 y hy
   ·omega
  ·split
   ·exact h
   ·refine List.pairwise_cons.2 ⟨fun y hy=> ?_,h⟩
    rcases List.mem_cons.1 hy with hy|hy
    ·omega
    ·have:=h1.1 y hy;omega
theorem od(op n:Int)(i:Nat):∀ (l out:List Int),Ej out->Ej (pE op n i l out)/\∀v,v∈pE op n i l out↔v∈out\/(v∈l/\ ¬ (op=8/\i=1/\n=v))
 |[],out,h=>⟨h,fun v=>by simp[pE]⟩
 |x::l,out,h=>by
  have hk:pE op n i (x::l) out=pE op n i l (if(op !=8||(i:Int)!=1||x !=n)=true then oC out x else out):=rfl
  rw[hk]
  by_cases hc:(op !=8||(i:Int)!=1||x !=n)=true
  ·rw[if_pos hc]
   have ih:=od op n i l (oC out x) (Cn x h)
   refine⟨ih.1,fun v=> ?_⟩
   rw[ih.2 v,vW,List.mem_cons]
   have uM: ¬ (op=8/\i=1/\n=x):=by
    rintro⟨h1,h2,h3⟩;subst h1;subst h2;subst h3;simp at hc
   constructor
   ·rintro((h|h)|h)
    ·exact .inl h
    ·subst h;exact .inr ⟨.inl rfl,uM⟩
    ·exact .inr ⟨.inr h.1,h.2⟩
   ·rintro(h|⟨h|h,h2⟩)
    ·exact .inl (.inl h)
    ·exact .inl (.inr h)
    ·exact .inr ⟨h,h2⟩
  ·rw[if_neg hc]
   have ih:=od op n i l out h
   refine⟨ih.1,fun v=> ?_⟩
   rw[ih.2 v,List.mem_cons]
   have uM:op=8/\i=1/\n=x:=by simp at hc;exact⟨hc.1.1,af,hc.2.symm⟩
   constructor
   ·rintro(h|h)
    ·exact .inl h
    ·exact .inr ⟨.inr h.1,h.2⟩
   ·rintro(h|⟨h|h,h2⟩)
    ·exact .inl h
    ·subst h;exact absurd uM h2
    ·exact .inr ⟨h,h2⟩
theorem cX:∀t:Tm,Ej (ct t)/\∀v,v∈ct t↔fO v t=true:=by
 refine Tm.ei fun t ih=> ?_
 have hs:∀ (l:List Tm) (i:Nat) (out:List Int),(∀k∈l,k∈t.kids)->Ej out->Ej (ma t.op t.n l i out)/\∀v,v∈ma t.op t.n l i out↔v∈out\/zU v t.op t.n l i=true:=by
  intro l
  induction l with
  |nil=>intro i out _ h;exact⟨h,fun v=>by simp[ma,zU]⟩
  |cons k l UN=>
   intro i out hk h
   have h1:=ih k (hk k aF)
   have h2:=od t.op t.n i (ct k) out h
   have h3:=UN (i+1) _ (fun x hx=>hk x mm) h2.1
   refine⟨h3.1,fun v=> ?_⟩
   show v∈ma t.op t.n l (i+1) (pE t.op t.n i (ct k) out)↔_
   rw[h3.2 v,h2.2 v,h1.2 v,zU]
   simp only[Bool.or_eq_true,Bool.and_eq_true,Bool.not_eq_true',Bool.and_eq_false_iff,beq_eq_false_iff_ne,ne_eq,not_and]
   have:(∀ (_:t.op=8) (_:i=1), ¬t.n=v)↔((¬t.op=8\/ ¬i=1)\/ ¬t.n=v):=by
    constructor
    ·intro h
     by_cases c1:t.op=8
     ·by_cases c2:i=1
      ·exact .inr (h c1 c2)
      ·exact .inl (.inr c2)
     ·exact .inl (.inl c1)
    ·rintro((h|h)|h) c1 c2
     ·exact absurd c1 h
     ·exact absurd c2 h
     ·exact h
   rw[this]
   constructor
   ·rintro((h|h)|h)
    ·exact .inl h
    ·exact .inr (.inl h)
    ·exact .inr (.inr h)
   ·rintro(h|h|h)
    ·exact .inl (.inl h)
    ·exact .inl (.inr h)
    ·exact .inr h
 by_cases h1:t.op=1
 ·rw[qJ,if_pos h1]
  refine⟨aF,fun v=> ?_⟩
  rw[sd,if_pos h1]
  simp only[List.mem_singleton,beq_iff_eq]
  exact eq_comm
 ·rw[qJ,if_neg h1]
  have:=hs t.kids 0 [] (fun _ h=>h) aF
  refine⟨this.1,fun v=> ?_⟩
  rw[this.2 v,sd,if_neg h1]
  simp
theorem K1:∀ {l l':List Int},Ej l->Ej l'->(∀v,v∈l↔v∈l')->l=l'
 |[],[],_,_,_=>rfl
 |[],y::l',_,_,h=>by have:=(h y).2 aF;cases this
 |x::l,[],_,_,h=>by have:=(h x).1 aF;cases this
 |x::l,y::l',h1,h2,h=>by
  have g1:=List.pairwise_cons.1 h1
  have g2:=List.pairwise_cons.1 h2
  have e:x=y:=by
   rcases List.mem_cons.1 ((h x).1 aF)with e|e
   ·exact e
   ·rcases List.mem_cons.1 ((h y).2 aF)with e2|e2
    ·exact e2.symm
    ·have:=g2.1 x e;have:=g1.1 y e2;omega
  subst e
  rw[K1 g1.2 g2.2 fun v=> ?_]
  constructor
  ·intro hv
   rcases List.mem_cons.1 ((h v).1 (by simp[hv]))with e|e
   ·subst e;exact absurd (g1.1 v hv) af
   ·exact e
  ·intro hv
   rcases List.mem_cons.1 ((h v).2 (by simp[hv]))with e|e
   ·subst e;exact absurd (g2.1 v hv) af
   ·exact e
theorem pF{α:Type}{l:List α}{i:Nat}{n:α}(h:l[i]? =some n):(n::l.eraseIdx i).Perm l:=by
 obtain⟨hi,e⟩:=List.getElem?_eq_some_iff.1 h
 have Py:l=l.take i++n::l.drop (i+1):=by rw[<- e,List.getElem_cons_drop,List.take_append_drop]
 rw[List.eraseIdx_eq_take_drop_succ]
 conv=>rhs;rw[Py]
 exact List.perm_middle.symm
end Go.Proofs.YtlhemmpklhhgoaaGreat
section
namespace Go.Proofs.YtlhemmpklhhgoaaGreat
open Go.Sort Go.RowKit
def Co(P:Program)(g:FuncId):Prop:=∀ (dT off cap:Nat) (zs:List Int) (w:World),Holds (Value.int .i64) w dT off zs.toArray->dT<w.heap.size->zs.length<4611686018427387904->
    Calls P g #[.slice (some ⟨dT,off,none⟩) zs.length cap] w fun e w'=>
     e= .returned (.tuple #[])/\∃n os,w'=grow (putRow (Value.int .i64) (Sort.ahead w n) dT off (zs.mergeSort fun x y=>decide (x<=y)).toArray) os
def cM(l:List Int):List Int:=l.mergeSort fun x y=>decide (x<=y)
theorem Gb{B:Nat->Prop}{w:World}:∀ (zs:List Int) (xs:List Value),eh B w 1 (zs.map (D.int .i64)) xs↔xs=zs.map (Value.int .i64):=by
 have hd:∀ (zs:List Int) (evs:List Value),D.aC B w (zs.map (D.int .i64)) evs↔evs=zs.map (Value.int .i64):=by
  intro zs
  induction zs with
  |nil=>intro evs;simp[D.aC]
  |cons z zs ih=>
   intro evs
   simp only[List.map_cons,D.aC]
   constructor
   ·rintro⟨v,vs,rfl,h1,h2⟩
    rw[(ih vs).1 h2]
    simp only[D.den]at h1
    rw[h1]
   ·intro h
    exact⟨_,_,h,rfl,(ih _).2 rfl⟩
 have hf:∀zs:List Int,(zs.map (Value.int .i64)).flatMap (·.cells.toList)=zs.map (Value.int .i64):=by
  intro zs
  induction zs with
  |nil=>rfl
  |cons z zs ih=>simp only[List.map_cons,List.flatMap_cons,ih];rfl
 intro zs xs
 constructor
 ·rintro⟨evs,h1,h2,h3⟩
  rw[h1,(hd zs evs).1 h3,hf]
 ·intro h
  subst h
  exact⟨_,(hf zs).symm,fun ev da=>by
   obtain⟨z,_,rfl⟩:=List.mem_map.1 da
   rfl,(hd zs _).2 rfl⟩
theorem K2{P:Program}{g:FuncId}(hE:Enters P g)(hS:Co P g){o:Nat->ad}{nx id ep:Nat}{ty:TypeId}{zs:List Int}(ho:o id= .arr ep ty 1 (zs.map (D.int .i64)))
 (hn:∀p cap w,Calls P g #[.slice p 0 cap] w fun e w'=>e= .returned (.tuple #[])/\w'=w)
 (hlen:zs.length<4611686018427387904) {K X:V->(Nat->ad)->Nat->Prop} (hK:K (.bT []) (az o id (.arr ep ty 1 ((cM zs).map (D.int .i64)))) nx):cI P g [.osl id ep] o nx K X:=by
 refine⟨hE,fun M φ w vals hH hd=> ?_⟩
 obtain⟨val,us,mK,⟨v0,v1,v2⟩,dY⟩:=hd
 have dY:us=[]:=dY
 subst dY
 have fi:val=φ id:=(v2 ep (by show(o id).cf=some ep;rw[ho];rfl)).2 rfl
 have HY:vals=#[φ id]:=by rw[<- fi];exact Array.ext' (by simpa using mK)
 subst HY
 have Ke:=hH.ok id
 unfold aO at Ke
 rw[show(hp o nx).o id= .arr ep ty 1 (zs.map (D.int .i64))from ho]at Ke
 obtain⟨_,xs,du,cz⟩:=Ke
 have Me:=(Gb zs xs).1 cz
 subst Me
 simp only[List.length_map]at du
 obtain⟨hl,SE|⟨b,cap,cur,eB,_,hg,fL,yP,hcs,ab5⟩⟩:=du
 ·obtain⟨h1,h2⟩:=SE
  have hz:zs=[]:=List.length_eq_zero_iff.1 h2
  subst hz
  rw[h1]
  refine(hn none 0 w).mono ?_
  rintro e w' ⟨rfl,rfl⟩
  have xI:az o id (.arr ep ty 1 ((cM []).map (D.int .i64)))=o:=by
   funext j
   by_cases e:j=id
   ·subst e;rw[ab,ho,show cM []=[] by simp[cM]]
   ·rw[ae _ _ _ _ e]
  rw[xI]at hK
  exact⟨φ,o,nx, .bT [],hH,Trans.refl _ _ _,⟨#[],rfl,rfl⟩,hK⟩
 ·rw[eB]
  have hb:b<w.heap.size:=(Array.getElem?_eq_some_iff.1 hg).1
  have ab6:∀j,j<zs.length->cur[j]? =some (.int .i64 zs[j]!):=by
   intro j hj
   have h1:(cur.toList.take (zs.length*1))[j]? =(zs.map (Value.int .i64))[j]? :=by rw[ab5]
   rw[List.getElem?_take_of_lt (by omega),List.getElem?_map,List.getElem?_eq_getElem hj]at h1
   simp only[Option.map_some]at h1
   rw[getElem!_pos zs j hj]
   simpa using h1
  refine(hS b 0 cap zs w (fun j hj=> ?_) hb hlen).mono ?_
  ·simp only[List.size_toArray]at hj
   refine⟨?_, ?_⟩
   ·unfold World.cell?
    simp only[hg,Option.isSome_none,Bool.false_eq_true,if_false,Nat.zero_add]
    rw[ab6 j hj];simp
   ·unfold World.frozen?
    simp[hg]
  rintro e w' ⟨rfl,n,os,rfl⟩
  have TC:(cM zs).length=zs.length:=List.length_mergeSort zs
  have F1:∀k,k<w.heap.size->(grow (putRow (Value.int .i64) (Sort.ahead w n) b 0 (cM zs).toArray) os).heap[k]? =(w.heap.modify b (onCells (putCells (Value.int .i64) 0 (cM zs).toArray)))[k]? :=by
   intro k hk
   unfold grow putRow mapBlock Sort.ahead
   simp only
   rw[Array.getElem?_append_left (by simpa using hk)]
  have Fw:dV (· =b) w (grow (putRow (Value.int .i64) (Sort.ahead w n) b 0 (cM zs).toArray) os):=by
   refine⟨rfl,rfl,rfl, ?_,fun k hk fG=> ?_⟩
   ·unfold grow putRow mapBlock Sort.ahead;simp
   ·rw[F1 k hk,Array.getElem?_modify,if_neg (fun e=>fG e.symm)]
  have cH:((hp o nx).o id).live=true:=by show(o id).live=true;rw[ho];rfl
  have Hr:dT (φ id)=some b:=by rw[eB];rfl
  have SD:(grow (putRow (Value.int .i64) (Sort.ahead w n) b 0 (cM zs).toArray) os).heap[b]? =some (.cells (putCells (Value.int .i64) 0 (cM zs).toArray cur) ty (0,0)):=by
   rw[F1 b hb,Array.getElem?_modify,if_pos rfl,hg];rfl
  have gk:(hp o nx).put [(id, .arr ep ty 1 ((cM zs).map (D.int .i64)))]=hp (az o id (.arr ep ty 1 ((cM zs).map (D.int .i64)))) nx:=by
   have dY:id<nx:=v1
   simp only[Hp.put,hp]
   congr 1
   funext j
   simp only[List.map_cons,List.map_nil,List.mem_singleton,eq_iff_iff]
   exact⟨fun h=>h.elim (fun h=>h) (fun e=>e ▸ dY), .inl⟩
  have uH:aO M φ ((hp o nx).put [(id, .arr ep ty 1 ((cM zs).map (D.int .i64)))]) (grow (putRow (Value.int .i64) (Sort.ahead w n) b 0 (cM zs).toArray) os) id:=by
   unfold aO
   rw[show((hp o nx).put [(id, .arr ep ty 1 ((cM zs).map (D.int .i64)))]).o id= .arr ep ty 1 ((cM zs).map (D.int .i64)) by simp]
   refine⟨bV,(cM zs).map (Value.int .i64), ?_,(Gb _ _).2 rfl⟩
   simp only[List.length_map,TC]
   refine⟨by simp[TC], .inr ⟨b,cap,_,eB,Nat.zero_le _,SD,fL,yP, ?_, ?_⟩⟩
   ·unfold putCells;simpa using hcs
   ·apply List.ext_getElem?
    intro j
    by_cases hj:j<zs.length
    ·rw[List.getElem?_take_of_lt (by omega),List.getElem?_map,List.getElem?_eq_getElem (l:=cM zs) (by omega)]
     have PE:j<cur.size:=af
     unfold putCells
     simp only[Array.getElem?_toList,Array.getElem?_mapIdx,Option.map_some]
     rw[Array.getElem?_eq_getElem PE]
     simp only[Option.map_some,Nat.zero_le,true_and,Nat.zero_add,List.size_toArray,Nat.sub_zero]
     rw[if_pos (by omega)]
     rw[getElem!_pos _ j (by simp;omega)]
     simp
    ·rw[List.getElem?_eq_none (by rw[List.length_take,Nat.mul_one];exact Nat.le_trans (Nat.min_le_left _ _) (Nat.not_lt.1 hj)),List.getElem?_eq_none (by rw[List.length_map,TC];exact Nat.not_lt.1 hj)]
  have Rp:=gS hH (id:=id) v1 cH Hr Fw (.arr ep ty 1 ((cM zs).map (D.int .i64))) Mz Mz uH
  have Qu:=eI (φ:=φ) (H:=hp o nx) (id:=id) v1 cH Hr Fw (.arr ep ty 1 ((cM zs).map (D.int .i64))) Mz Mz
  rw[gk]at Rp Qu
  exact⟨φ,_,nx, .bT [],Rp,Qu,⟨#[],rfl,rfl⟩,hK⟩
end Go.Proofs.YtlhemmpklhhgoaaGreat
end
