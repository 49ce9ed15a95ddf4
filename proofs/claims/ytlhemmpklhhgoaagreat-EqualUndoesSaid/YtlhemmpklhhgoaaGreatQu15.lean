/-
  A PART OF THE PROOF. Conditions: none.
-/
import Derived.Shelf.Sort.Plain
import Derived.Shelf.Slices.In.SortNone
import Derived.Test.YtlhemmpklhhgoaaGreatQu14
set_option linter.unusedSimpArgs false
set_option linter.unusedVariables false
namespace Go.Proofs.YtlhemmpklhhgoaaGreat
section
theorem CI{σ:Type}(l:List Tm)(hl:l.length<=9223372036854775807)(g:Nat)(bM:List V)(base:Nat)(H:σ->Nat->ad)(step:σ->Tm->σ×Bool)(hc:∀r∈V.aK bM,r<base)(ok:σ->Prop)(aV:∀x∈l,∀s,ok s->(step s x).2=true->ok (step s x).1)
 (h:∀x∈l,∀s,ok s->vL Tryz.prog g (.d x.d::bM) base (H s) (H (step s x).1) (.d (.bool (step s x).2))) (s:σ) (oC:ok s):
 vL Tryz.prog 169 [.d (.sl (l.map Tm.d)), .func (.func g) [] bM] base (H s) (H (aN step s l).1) (.d (.bool (aN step s l).2)):=by
 intro o nx hI K X hK
 have fh:∀r∈V.aK bM,r<nx:=fun r hr=>Nat.lt_of_lt_of_le (hc r hr) hI.le
 refine bQ.aH mix Sr aE ?_
 rw[VN]
 refine cM ?_
 refine aG (fun i:Nat×σ×(Nat->ad)×Nat=>⟨aY [.aa, .func (.func g) [] bM, .aa, .aa, .aa, .aa, .aa, .d (.sl (l.map Tm.d)), .d (.i l.length), .d (.i i.1)],i.2.2.1,i.2.2.2⟩)
  (fun i=>i.1<=l.length/\eL base (H i.2.1) i.2.2.1 i.2.2.2/\nx<=i.2.2.2/\(∀id,base<=id->id<nx->i.2.2.1 id=o id)/\aN step s l=aN step i.2.1 (l.drop i.1)/\ok i.2.1) (fun i=>l.length - i.1) (0,s,o,nx)
  ⟨Nat.zero_le _,hI,Nat.le_refl _,fun _ _ _=>rfl,rfl,oC⟩ ?_ ?_
 ·exact TG
 rintro⟨k,s',o',nx'⟩ ⟨hk,M6,hn,cY,hf,vP⟩
 simp only at hk M6 hn cY hf vP
 refine cM ?_
 refine ao (fun h1=> ?_) (fun h1=> ?_)
 ·simp at h1
  obtain⟨x,hx⟩:=aD h1
  have cF:=List.mem_of_getElem? hx
  have hd:l.drop k=x::l.drop (k+1):=by
   exact TA
  refine Ti hx ?_
  have hl0:=M6.le
  refine dR (h x cF s' vP _ _ (?_:eL base (H s') _ (nx'+7)) _ _ fun o2 n2 m1 m2 m3=> ?_)
  ·exact YQ
  have LJ:∀id,base<=id->id<nx->o2 id=o id:=fun id h2 h3=>by
   exact Y3
  refine cM ?_
  refine ao (fun h2=> ?_) (fun h2=> ?_)
  ·refine cM ?_
   simp at h2
   have:aN step s l=((step s' x).1,false):=by rw[hf,hd,aN,if_neg (by rw[h2];exact Bool.false_ne_true)]
   rw[this]at hK
   exact hK _ _ af (m2.mono af) LJ
  ·refine cM ?_
   simp at h2
   have:aN step s l=aN step (step s' x).1 (l.drop (k+1)):=by rw[hf,hd,aN,if_pos h2]
   refine aj (k+1,(step s' x).1,o2,n2) ⟨h1,m2,by dsimp only;omega,LJ,this,aV x cF s' vP h2⟩ je ?_
   dsimp only
   have SK:∀r∈V.aK bM,r<n2:=fun r hr=>by have:=fh r hr;omega
   refine bI.bE _ af af m2.cC (fun _ _=>rfl) ?_
   exact dA
 ·exact ZF
theorem Af{α σ:Type}(step:σ->α->σ×Bool)(a b:List α):∀s,aN step s (a++b)=if(aN step s a).2=true then aN step (aN step s a).1 b else((aN step s a).1,false):=by
 induction a with
 |nil=>intro s;simp[aN]
 |cons x a ih=>
  intro s
  simp only[List.cons_append,aN]
  split
  ·exact ih _
  ·rename_i h;simp
theorem vQ{α β σ:Type}(step:σ->β->σ×Bool)(f:α->List β)(l:List α):∀s,aN step s (l.flatMap f)=aN (fun s x=>aN step s (f x)) s l:=by
 induction l with
 |nil=>intro s;rfl
 |cons x l ih=>intro s;simp only[List.flatMap_cons,Af,aN,ih]
theorem Ba{α σ:Type}{step:σ->α->σ×Bool}{ok:σ->Prop}:∀ (l:List α),(∀x∈l,∀s,ok s->(step s x).2=true->ok (step s x).1)->∀s,ok s->(aN step s l).2=true->ok (aN step s l).1
 |[],_,s,h,_=>h
 |x::l,aV,s,h,h2=>by
  simp only[aN]at h2|-
  split at h2
  ·rename_i hb
   rw[if_pos hb]
   exact Ba l (fun y hy=>aV y kQ) _ (aV x aE s h hb) h2
  ·cases h2
def RoC(P:Program)(qO:Nat)(args:List V)(base:Nat)(h h2:Nat->ad)(v:V):Prop:=
 ∀o nx,eL base h o nx->∀K X,StK base h2 v o nx K->dL P qO args o nx K X
section
variable {σ:Type}(base qO:Nat)(H:σ->Nat->ad)(step:σ->Tm×Int->σ×Bool)(ok:σ->Prop)
theorem OR:∀t:Tm,t.fits->∀d:Int,0<=d->d+t.ma<=1000000->(∀x∈pre t d,∀s,ok s->(step s x).2=true->ok (step s x).1)->(∀x∈pre t d,∀s,ok s->RoC Tryz.prog qO [.d x.1.d, .d (.i x.2)] base (H s) (H (step s x).1) (.d (.bool (step s x).2)))->qO<base->
 ∀ (c:Nat) (o0:Nat->ad) (yb vb:Nat),base<=c->base<=yb->yb<c->base<=vb->vb<c->o0 yb= .row [.j7 qO]->o0 vb= .row [.func (.func 173) [] [.ptr yb 0, .ptr vb 0]]->
 ∀s,ok s->vL Tryz.prog 173 [.d t.d, .d (.i d), .ptr yb 0, .ptr vb 0] c (ext base (H s) o0) (ext base (H (aN step s (pre t d)).1) o0) (.d (.bool (aN step s (pre t d)).2)):=by
 refine Tm.fj fun t ih hf d hd0 hd aV hR CJ c o0 yb vb hbc hy0 hy hv0 hv oy ov s oC=> ?_
 have wW:=(Tm.b9 _).1 hf
 intro o nx hI K X hK
 have hle:=hI.le
 have X1:o yb= .row [.j7 qO]:=by rw[hI.eq yb hy];unfold ext;rw[if_neg (by omega),oy]
 have V9:o vb= .row [.func (.func 173) [] [.ptr yb 0, .ptr vb 0]]:=by rw[hI.eq vb hv];unfold ext;rw[if_neg (by omega),ov]
 have y1:yb≠nx:=af
 have y2:∀k,yb≠nx+k:=fun k=>af
 have y3:vb≠nx:=af
 have y4:∀k,vb≠nx+k:=fun k=>af
 refine bQ.aH mix Sw aE ?_
 rw[VR]
 simp+contextual only[go_sem,X1,V9,y1,y2,y3,y4,Nat.add_assoc,Nat.left_eq_add,Nat.add_eq_left,Nat.add_left_cancel_iff]
 have pE:=nu t d
 have tw:∀k∈t.kids,∀x∈pre k (d+1),x∈pre t d:=fun k hk x hx=>by
  rw[pE];exact List.mem_cons_of_mem _ (List.mem_flatMap.2 ⟨k,hk,hx⟩)
 have hb:∀id,id<base->o id=H s id:=fun id ax=>by rw[hI.eq id (by omega)];unfold ext;rw[if_pos ax]
 have hIb:eL base (H s) o nx:=⟨hI.cC,af,hb⟩
 refine nD (hR (t,d) (by rw[pE];simp) s oC _ _ ((hIb.ay (i:=nx) (m:=nx+6) af af af rfl).ay (i:=nx+1) af af af rfl) _ _ fun o2 n2 m1 m2 m3=> ?_)
 have k0:o2 nx= .row t.row:=by rw[m3 nx (by omega) (by omega),ae _ _ _ _ (by omega),ab]
 have k1:o2 (nx+1)= .row [.d (.i d)]:=by rw[m3 (nx+1) (by omega) (by omega),ab]
 have hold:∀id,base<=id->id<nx->o2 id=o id:=fun id h1 h2=>by rw[m3 id h1 (by omega),ae _ _ _ _ (by omega),ae _ _ _ _ (by omega)]
 have Jg:∀id,base<=id->id<c->o id=o0 id:=fun id h1 h2=>by rw[hI.eq id h2];unfold ext;rw[if_neg (by omega)]
 cases FL:(step s (t,d)).2 with
 |false=>
  refine kz FL ?_
  have A2:aN step s (pre t d)=((step s (t,d)).1,false):=by rw[pE,aN,if_neg (by rw[FL];exact Bool.false_ne_true)]
  rw[A2]at hK
  refine hK _ _ af ⟨m2.cC.mono af,af,fun id ax=> ?_⟩ (fun id h1 h2=>hold id af h2)
  unfold ext
  split
  ·exact m2.eq id (by assumption)
  ·exact Ny
 |true=>
  have A2:aN step s (pre t d)=aN (fun s k=>aN step s (pre k (d+1))) (step s (t,d)).1 t.kids:=by rw[pE,aN,if_pos FL,vQ]
  simp+contextual only[go_sem,FL,k0,k1]
  have q0:o2 yb= .row [.j7 qO]:=by rw[hold yb hy0 (by omega),X1]
  have q1:o2 vb= .row [.func (.func 173) [] [.ptr yb 0, .ptr vb 0]]:=by rw[hold vb hv0 (by omega),V9]
  have m0:=m2.le
  refine aU (CI t.kids wW.1 174 [.ptr vb 0, .ptr (nx+1) 0] n2 (fun s=>ext base (H s) o2) (fun s k=>aN step s (pre k (d+1))) ?_ ok ?_ ?_ (step s (t,d)).1 (aV (t,d) (by rw[pE];simp) s oC FL) _ _ ?_ _ _ ?_)
  ·exact Fz
  ·exact Zc
  ·intro k hk s' jV o3 n3 hI3 K3 X3 hK3
   have l3:=hI3.le
   have r0:o3 vb= .row [.func (.func 173) [] [.ptr yb 0, .ptr vb 0]]:=by rw[hI3.eq vb (by omega)];unfold ext;rw[if_neg (by omega),q1]
   have r1:o3 (nx+1)= .row [.d (.i d)]:=by rw[hI3.eq (nx+1) (by omega)];unfold ext;rw[if_neg (by omega),k1]
   have y5:vb≠n3:=af
   have y6:∀k,vb≠n3+k:=fun k=>af
   have y7:nx+1≠n3:=af
   have y8:∀k,nx+1≠n3+k:=fun k=>af
   have hh:=Tm.qG hk
   refine bQ.aH mix Sx aE ?_
   rw[VS]
   simp+contextual only[go_sem,r0,r1,y5,y6,y7,y8]
   rw[wrap64 (n:=d+1) (by omega) (by omega)]
   refine aU (ih k hk (wW.2 k hk) (d+1) af af (fun x hx=>aV x (tw k hk x hx)) (fun x hx=>hR x (tw k hk x hx)) CJ n2 o2 yb vb af hy0 af hv0 af q0 q1 s' jV _ _ (hI3.ay (i:=n3) (m:=n3+6) af af af rfl) _ _ fun o4 n4 p1 p2 p3=> ?_)
   refine cM ?_
   refine hK3 _ _ af (p2.mono af) (fun id h1 h2=> ?_)
   rw[p3 id h1 (by omega),ae _ _ _ _ (by omega)]
  ·exact(m2.mono af).ext af af
  ·intro o5 n5 p1 p2 p3
   refine cM ?_
   rw[<- A2]
   refine hK _ _ af ⟨p2.cC.mono af,af,fun id ax=> ?_⟩ (fun id h1 h2=> ?_)
   ·rw[p2.eq id (by omega), <- A2]
    unfold ext
    split
    ·rfl
    ·exact Ny
   ·rw[p2.eq id (by omega)]
    unfold ext
    rw[if_neg (by omega),hold id (by omega) h2]
theorem LK(t:Tm)(hf:t.fits)(hd:t.ma<=900000)(aV:∀x∈pre t 1,∀s,ok s->(step s x).2=true->ok (step s x).1)(hR:∀x∈pre t 1,∀s,ok s->RoC Tryz.prog qO [.d x.1.d, .d (.i x.2)] base (H s) (H (step s x).1) (.d (.bool (step s x).2)))(CJ:qO<base)(tb:Nat)(Jr:tb<base)(s:σ)(oC:ok s)(cZ:H s tb= .row t.row):
 vL Tryz.prog 172 [.j7 qO, .ptr tb 0] base (H s) (H (aN step s (pre t 1)).1) (.bP []):=by
 intro o nx hI K X hK
 have hle:=hI.le
 have ot:o tb= .row t.row:=by rw[hI.eq tb Jr,cZ]
 have y1:tb≠nx:=af
 have y2:∀k,tb≠nx+k:=fun k=>af
 refine bQ.aH mix Sv aE ?_
 rw[VQ]
 simp+contextual only[go_sem,ot,y1,y2,Nat.add_assoc,Nat.left_eq_add,Nat.add_eq_left,Nat.add_left_cancel_iff]
 have hI1:eL base (H s) (ay (ay (ay o nx (.row [.j7 qO])) (nx+1) (.row [.d .cz])) (nx+1) (.row [.func (.func 173) [] [.ptr nx 0, .ptr (nx+1) 0]])) (nx+6):=by
  refine((hI.ay (i:=nx) (m:=nx+6) af af af ?_).ay (i:=nx+1) (m:=nx+6) af af af rfl).ay (i:=nx+1) af af af ?_
  ·exact JG
  ·exact A8
 refine aU (OR base qO H step ok t hf 1 af af aV hR CJ (nx+6) _ nx (nx+1) af hle af af af ?_ ?_ s oC _ _ (hI1.ext (Nat.le_refl _) af) _ _ ?_)
 ·exact cA
 ·exact cA
 intro o2 n2 m1 m2 m3
 refine cM ?_
 refine hK _ _ af ⟨m2.cC,af,fun id ax=> ?_⟩ (fun id h1 h2=> ?_)
 ·rw[m2.eq id (by omega)];unfold ext;rw[if_pos ax]
 ·exact QN
end
theorem vR(t:Tm)(o:Nat->ad)(nx:Nat)(K X:V->(Nat->ad)->Nat->Prop)(h:K (.func (.func 172) [] [.ptr nx 0]) (ay o nx (.row t.row)) (nx+4)):bQ Tryz.prog 159 [.d t.d] o nx K X:=by
 refine bQ.aH mix Sj aE ?_
 rw[VG]
 refine cM ?_
 exact h
end
def SL:Option jS->fH
 |none=> .normal
 |some .ret=> .ret
 |some (.exit j)=> .exit j
def wK{σ:Type}(J:σ->Option jS)(step:σ->Tm×Int->σ)(s:σ)(x:Tm×Int):σ×Bool:=(step s x,(J (step s x)).isNone)
theorem Ag{σ:Type}(J:σ->Option jS)(step:σ->Tm×Int->σ):∀ (l:List (Tm×Int)) (s:σ),J s=none->(aN (wK J step) s l).2=(J (aN (wK J step) s l).1).isNone
 |[],s,h=>by simp[aN,h]
 |x::l,s,h=>by
  simp only[aN]
  split
  ·rename_i hb
   exact Ag J step l _ (by simpa[wK]using hb)
  ·rename_i hb
   cases hj:J (step s x)with
   |none=>exact absurd (by simp[wK,hj]) hb
   |some j=>simp[wK,hj]
theorem nH{σ:Type}(t:Tm)(hf:t.fits)(hd:t.ma<=900000){n bq:Nat}{gq:Operand}{ps:List Nat}{jv e9:IC}{Q:fH->S->Prop}{e:Nat->V}{o:Nat->ad}{nx tb:Nat}(env:List V)(he:nC e env 0)
 (Ey:ps.all (fun t=>decide (t<n))=true) (hl:ps.length=2) (hg:Good o nx) (hrefs:∀r∈V.aK env,r<nx) (ht:o tb= .row t.row)
 (G:σ->Nat->ad) (J:σ->Option jS) (step:σ->Tm×Int->σ) (ok:σ->Prop) (s0:σ) (oC:ok s0) (hJ0:J s0=none) (h0:∀id,id<nx->o id=G s0 id) (aV:∀x∈pre t 1,∀s,ok s->J s=none->J (step s x)=none->ok (step s x))
 (uV:∀L,iV Tryz.prog n env ps jv e9 L->(∀st pd m,nx<=m->(L st pd).refs.all (fun r=>decide (r<m))=true)->∀x∈pre t 1,∀s,ok s->J s=none->∀o3 n3,eL nx (G s) o3 n3->nx<n3->o3 nx=L .ready none->∀K X,
  (∀e' o' n' st pd,n3<=n'->eL nx (G (step s x)) o' n'->o' nx=L st pd->(∀id,nx<id->id<n3->o' id=o3 id)->kO nx K X (SL (J (step s x))) ⟨e',o',n'⟩)->
  kN Tryz.prog n n3 true jv (sn Tryz.prog n n3 nx e9 K X) ⟨px (aY env) ps [.d x.1.d, .d (.i x.2)],o3,n3⟩)
 (kK:∀o' n',eL nx (G (aN (wK J step) s0 (pre t 1)).1) o' n'->qw Q (J (aN (wK J step) s0 (pre t 1)).1) ⟨e,o',n'⟩):
 tK Tryz.prog n bq false gq ps jv e9 Q ⟨e,o,nx⟩ (.func (.func 172) [] [.ptr tb 0]):=by
 refine EH env he (fun L hL=> ?_)
 have Jr:tb<nx:=hg.lt (by rw[ht];exact ad.noConfusion)
 let H:σ->Nat->ad:=fun s id=>if id<nx then G s id else if id=nx then(match J s with|none=>L .ready none|some j=>L .done (some j))else .no
 have rE:∀s id,id<nx->H s id=G s id:=fun s id h=>if_pos h
 have EJ:∀s,J s=none->H s nx=L .ready none:=fun s h=>by show(if nx<nx then _ else _)=_;rw[if_neg (by omega),if_pos rfl,h]
 have SM:∀s j,J s=some j->H s nx=L .done (some j):=fun s j h=>by show(if nx<nx then _ else _)=_;rw[if_neg (by omega),if_pos rfl,h]
 have xi:∀st pd m,nx<=m->(L st pd).refs.all (fun r=>decide (r<m))=true:=fun st pd m hm=>by
  exact Qy
 refine LK (nx+1) nx H (wK J step) (fun s=>ok s/\J s=none) t hf hd (fun x hx s h1 h2=> ?_) (fun x hx s h1=> ?_) af tb af s0 ⟨oC,hJ0⟩ (by rw[rE _ _ Jr, <- h0 _ Jr,ht]) _ _ ⟨?_,Nat.le_refl _,fun id ax=> ?_⟩ _ _ ?_
 ·have hj:J (step s x)=none:=by simpa[wK]using h2
  exact⟨aV x hx s h1.1 h1.2 hj,hj⟩
 ·intro o3 n3 hI K X hK
  have hle:=hI.le
  have Nk:o3 nx=L .ready none:=by rw[hI.eq nx (by omega),EJ s h1.2]
  refine vM hL mix Nk af Ey (by simp[hl]) ?_
  refine uV L hL xi x hx s h1.1 h1.2 o3 n3 ⟨hI.cC,af,fun id ax=>by rw[hI.eq id (by omega),rE _ _ ax]⟩ af Nk K X (fun e' o' n' st pd k1 k2 k3 k4=> ?_)
  have key:∀st' pd' b,(J (step s x)).isNone=b->H (step s x) nx=L st' pd'->K (.d (.bool b)) (ay o' nx (L st' pd')) n':=fun st' pd' b hb hh=>by
   subst hb
   refine hK _ _ k1 ⟨k2.cC.ay af (xi _ _ _ af),af,fun id ax=> ?_⟩ (fun id g1 g2=> ?_)
   ·by_cases wQ:id=nx
    ·subst wQ;rw[ab];exact hh.symm
    ·rw[ae _ _ _ _ wQ]
     show o' id=H (step s x) id
     rw[rE _ _ (by omega)];exact k2.eq id af
   ·rw[ae _ _ _ _ (by omega)];exact k4 id af g2
  cases hj:J (step s x)with
  |none=>exact sq hL k3 (key _ _ _ xy (EJ _ hj))
  |some j=>
   cases j with
   |ret=>exact vN hL k3 (key _ _ _ xy (SM _ _ hj))
   |exit j=>exact th hL k3 (key _ _ _ xy (SM _ _ hj))
 ·exact(hg.mono af).ay af (xi _ _ _ af)
 ·by_cases wQ:id=nx
  ·subst wQ;rw[ab,EJ _ hJ0]
  ·exact Qn
 ·intro o' n' k1 k2 k3
  have hle:=k2.le
  generalize hsf:(aN (wK J step) s0 (pre t 1)).1=sf at*
  have kk:∀st pd,eL nx (G sf) (ay o' nx (L st pd)) n':=fun st pd=>⟨k2.cC.ay af (xi _ _ _ af),af,fun id ax=>by rw[ae _ _ _ _ (by omega),k2.eq id (by omega),rE _ _ ax]⟩
  cases hj:J sf with
  |none=>
   refine⟨.ready,none,by rw[k2.eq nx (by omega),EJ _ hj],(fun h=>by cases h), ?_⟩
   have:=kK _ _ (kk .exhausted none)
   rwa [hj]at this
  |some j=>
   refine⟨.done,some j,by rw[k2.eq nx (by omega),SM _ _ hj],(fun h=>by cases h), ?_⟩
   have:=kK _ _ (kk .exhausted (some j))
   rwa [hj]at this
theorem gC(n low high:Int):aW Tryz.prog 146 [.i n, .i low, .i high] (.ret [.bool (dQ n low high)]):=by
 refine aW.aH mix Se aE ?_
 rw[VB]
 refine cM ?_
 rfl
theorem EK(s:aB)(t:Tm)(h:t.op=1):aW Tryz.prog 194 [s.d,t.d] (.ret [.bool (bn s t)]):=by
 have hn:bn s t=(dQ t.n 0 19&&(t.kids.length:Int)==0):=by simp[bn,h,Bool.and_comm]
 refine aW.aH mix SB aE ?_
 rw[VV]
 exact TH
theorem IF(s:aB)(t:Tm)(h:t.op=2):aW Tryz.prog 195 [s.d,t.d] (.ret [.bool (bn s t)]):=by
 have hn:bn s t=(dQ t.n (-1000000) 1000000&&(t.kids.length:Int)==0):=by simp[bn,h,Bool.and_comm]
 refine aW.aH mix SC aE ?_
 rw[VW]
 exact TH
theorem acH(s:aB)(t:Tm)(h:t.op=8):aW Tryz.prog 199 [s.d,t.d] (.ret [.bool (bn s t)]):=by
 have hn:bn s t=(dQ t.n 0 19&&(t.kids.length:Int)==2):=by simp[bn,h,Bool.and_comm]
 refine aW.aH mix SG aE ?_
 rw[V0]
 exact TH
theorem Wa(s:aB)(t:Tm)(h:t.op=6\/t.op=7\/t.op=9\/t.op=10\/t.op=11\/t.op=12\/t.op=13\/t.op=14\/t.op=15):aW Tryz.prog 200 [s.d,t.d] (.ret [.bool (bn s t)]):=by
 have hn:bn s t=(t.n==0&&(t.kids.length:Int)==2):=by
  rcases h with h|h|h|h|h|h|h|h|h<;>simp[bn,h,dQ,Bool.and_comm]
 refine aW.aH mix SH aE ?_
 rw[V1]
 refine cM ?_
 rw[hn]
theorem acI(s:aB)(t:Tm)(hs:s.Fits)(h:t.op=3):aW Tryz.prog 196 [s.d,t.d] (.ret [.bool (bn s t)]):=by
 have hn:bn s t=(dQ t.n 0 (s.cons.length - 1)&&(t.kids.length:Int)==im s.cons t.n):=by simp[bn,h]
 refine aW.aH mix SD aE ?_
 rw[VX]
 refine cM ?_
 rw[wrap64 (by have:=hs.lc;omega) (by have:=hs.lc;omega)]
 refine a8 (gC _ _ _) rfl ?_
 cases hI:dQ t.n 0 (s.cons.length - 1)with
 |false=>
  exact TF
 |true=>
  exact zw7
theorem acJ(s:aB)(t:Tm)(hs:s.Fits)(h:t.op=4):aW Tryz.prog 197 [s.d,t.d] (.ret [.bool (bn s t)]):=by
 have hn:bn s t=(dQ t.n 0 (s.bV.length - 1)&&(t.kids.length:Int)==im s.bV t.n):=by simp[bn,h]
 refine aW.aH mix SE aE ?_
 rw[VY]
 refine cM ?_
 rw[wrap64 (by have:=hs.lf;omega) (by have:=hs.lf;omega)]
 refine a8 (gC _ _ _) rfl ?_
 cases hI:dQ t.n 0 (s.bV.length - 1)with
 |false=>
  exact TF
 |true=>
  exact zw7
theorem Wb(s:aB)(t:Tm)(hs:s.Fits)(h:t.op=5):aW Tryz.prog 198 [s.d,t.d] (.ret [.bool (bn s t)]):=by
 have hn:bn s t=(dQ t.n 0 (s.bV.length - 1)&&decide ((t.kids.length:Int)<im s.bV t.n)):=by simp[bn,h]
 refine aW.aH mix SF aE ?_
 rw[VZ]
 refine cM ?_
 rw[wrap64 (by have:=hs.lf;omega) (by have:=hs.lf;omega)]
 refine a8 (gC _ _ _) rfl ?_
 cases hI:dQ t.n 0 (s.bV.length - 1)with
 |false=>
  exact TF
 |true=>
  exact zw7
@[reducible] def rf (n:Nat):V:= .func (.func n) [] []
@[reducible] def ae1:List V:=[.d .cz,rf 194,rf 195,rf 196,rf 197,rf 198, .d .cz, .d .cz,rf 199, .d .cz, .d .cz, .d .cz, .d .cz, .d .cz, .d .cz, .d .cz]
@[reducible] def EL:List V:=[.d .cz,rf 194,rf 195,rf 196,rf 197,rf 198,rf 200,rf 200,rf 199,rf 200,rf 200,rf 200,rf 200,rf 200,rf 200,rf 200]
def JA(k:Nat):List V:=EL.take k++ae1.drop k
theorem funcOf{P:Program}{t:TypeId}(h:(match P.underlying t with|some (.func _ _ _)=>true|_=>false)=true):∃a b c,P.underlying t=some (.func a b c):=by
 split at h
 ·exact⟨_,_,_,by assumption⟩
 ·cases h
@[go_sem] theorem ae2 (o:Nat->ad) (mQ:Bool):rF Tryz.prog o 209 mQ (.d .cz) (.d .cz)=some (.d (.bool true)):=by
  exact QE
@[go_sem] theorem ae3 (o:Nat->ad) (mQ:Bool) (f:Fn) (x y:List V):rF Tryz.prog o 209 mQ (.func f x y) (.d .cz)=some (.d (.bool false)):=by
  exact QE
theorem OS(base:Nat)(h:Nat->ad):vL Tryz.prog 187 [] base h h (.agg EL):=by
 intro o nx hI K X hK
 have hle:=hI.le
 refine bQ.aH mix SA aE ?_
 rw[VU]
 simp+contextual only[go_sem,Nat.add_assoc,Nat.left_eq_add,Nat.add_eq_left,Nat.add_left_cancel_iff]
 refine aG (fun k:Nat=>⟨aY [.ptr nx 0, .ptr (nx+2) 0, .aa, .aa, .d (.i k)],ay (ay o nx (.row (List.replicate 16 (.d .cz)))) (nx+2) (.row (JA k)),nx+5⟩)
  (fun k=>k<=16) (fun k=>16 - k) 0 (Nat.zero_le _) ?_ (fun k hk=> ?_)
 ·refine bI.bE _ af af ?_ (fun id ax=> ?_) ?_
  ·exact((hI.cC.mono af).ay af rfl).ay af rfl
  ·rw[ud];rfl
  ·exact dA
 have hg:∀k,k<16->Good (ay (ay o nx (.row (List.replicate 16 (.d .cz)))) (nx+2) (.row (JA (k+1)))) (nx+5):=fun k hk=>
  ((hI.cC.mono af).ay af rfl).ay af (by
    rcases(by omega:k=0\/k=1\/k=2\/k=3\/k=4\/k=5\/k=6\/k=7\/k=8\/k=9\/k=10\/k=11\/k=12\/k=13\/k=14\/k=15)with rfl|rfl|rfl|rfl|rfl|rfl|rfl|rfl|rfl|rfl|rfl|rfl|rfl|rfl|rfl|rfl<;>rfl)
 by_cases ae4:k=16
 ·subst ae4
  refine Yw ?_
  refine hK _ _ ?_ ⟨?_, ?_,fun id ax=> ?_⟩ (fun id h1 h2=> ?_)
  rotate_left
  ·exact(((hI.cC.mono af).ay af rfl).ay af rfl).ay af rfl
  ·omega
  ·(repeat(first|rfl|rw[ab]|rw[ae _ _ _ _ (by omega)]))
   exact hI.eq id ax
  ·exact cA
  ·omega
 ·have hgk:=hg k af
  obtain⟨k1,Nd⟩:∃k1,k1=k+1:=⟨_,rfl⟩
  rw[<- Nd]at hgk
  rcases(by omega:k=0\/k=1\/k=2\/k=3\/k=4\/k=5\/k=6\/k=7\/k=8\/k=9\/k=10\/k=11\/k=12\/k=13\/k=14\/k=15)with rfl|rfl|rfl|rfl|rfl|rfl|rfl|rfl|rfl|rfl|rfl|rfl|rfl|rfl|rfl|rfl
  all_goals
   refine Yw ?_
   refine aj k1 af af (bI.bE _ af af hgk (fun id ax=> ?_) ?_)
   all_goals subst Nd
   ·first|rfl|(rw[ud];rfl)
   ·exact dA
def LL(n:Int):Nat:=if n=1 then 194 else if n=2 then 195 else if n=3 then 196 else if n=4 then 197 else if n=5 then 198 else if n=8 then 199 else 200
theorem Wc(s:aB)(t:Tm)(hs:s.Fits)(h:dQ t.op 1 15=true):aW Tryz.prog (LL t.op) [s.d,t.d] (.ret [.bool (bn s t)])/\EL[t.op.toNat]? =some (rf (LL t.op))/\0<=t.op/\t.op<16:=by
 simp[dQ]at h
 rcases(by omega:t.op=1\/t.op=2\/t.op=3\/t.op=4\/t.op=5\/t.op=8\/(t.op=6\/t.op=7\/t.op=9\/t.op=10\/t.op=11\/t.op=12\/t.op=13\/t.op=14\/t.op=15))with h|h|h|h|h|h|h
 ·exact⟨by rw[h];exact EK s t h,by rw[h];rfl,af,af⟩
 ·exact⟨by rw[h];exact IF s t h,by rw[h];rfl,af,af⟩
 ·exact⟨by rw[h];exact acI s t hs h,by rw[h];rfl,af,af⟩
 ·exact⟨by rw[h];exact acJ s t hs h,by rw[h];rfl,af,af⟩
 ·exact⟨by rw[h];exact Wb s t hs h,by rw[h];rfl,af,af⟩
 ·exact⟨by rw[h];exact acH s t h,by rw[h];rfl,af,af⟩
 ·have hp:=Wa s t h
  rcases h with h|h|h|h|h|h|h|h|h<;>exact⟨by rw[h];exact hp,by rw[h];rfl,af,af⟩
def oE(s:aB)(n:Int)(x:Tm×Int):Bool:=decide (40<n+1)||decide (12<x.2)|| !dQ x.1.op 1 15|| !bn s x.1
def gO(s:aB)(n:Int×Bool)(x:Tm×Int):Int×Bool:=(n.1+1, !oE s n.1 x)
def fJ(n:Int×Bool):Option jS:=if n.2=true then none else some .ret
def mf(s:aB)(t:Tm):Bool:=(aN (wK fJ (gO s)) (0,true) (pre t 1)).2
theorem LM(s:aB)(hs:s.Fits)(t:Tm)(hf:t.fits)(hd:t.ma<=900000):aW Tryz.prog 171 [s.d,t.d] (.ret [.bool (mf s t)]):=by
 refine aW.aH mix Su aE ?_
 rw[VP]
 refine cM ?_
 refine bY (OS 3 _ _ _ (?_:eL 3 (ay (ay (ay (fun _=> .no) 0 (.row s.row)) 1 (.row t.row)) 2 (.row [.d (.bool false)])) _ 3) _ _ fun o2 n2 m1 m2 m3=> ?_)
 ·exact⟨dE,Nat.le_refl _,fun _ _=>rfl⟩
 have p0:o2 0= .row s.row:=m2.eq 0 af
 have p1:o2 1= .row t.row:=m2.eq 1 af
 have p2:o2 2= .row [.d (.bool false)]:=m2.eq 2 af
 have e0:0≠n2:=af
 have e1:1≠n2:=af
 have e2:2≠n2:=af
 have e3:∀k,0≠n2+k:=fun k=>af
 have e4:∀k,1≠n2+k:=fun k=>af
 have e5:∀k,2≠n2+k:=fun k=>af
 simp+contextual only[go_sem,p0,p1,p2,e0,e1,e2,e3,e4,e5,Nat.add_assoc,Nat.left_eq_add,Nat.add_eq_left,Nat.add_left_cancel_iff]
 refine bY (vR t _ _ _ _ ?_)
 refine cM ?_
 have hG0:∀n,Good (ay (ay (ay (ay (ay (ay o2 n2 (.row (List.replicate 16 (.d .cz)))) (n2+1) (.row [.d (.i 0)])) n2 (.row EL)) (n2+1) (.row [.d (.i 0)])) (n2+5) (.row t.row)) (n2+1) (.row [.d (.i n)])) (n2+9):=fun n=>by
  have hg:=m2.cC
  exact dE
 refine nH t hf hd [.aa, .aa, .ptr 0 0, .aa, .ptr 2 0, .ptr n2 0, .ptr (n2+1) 0] ?_ bu rfl ?_ Fz (ab _ _ _)
  (fun s=>ay (ay (ay (ay (ay (ay o2 n2 (.row (List.replicate 16 (.d .cz)))) (n2+1) (.row [.d (.i 0)])) n2 (.row EL)) (n2+1) (.row [.d (.i 0)])) (n2+5) (.row t.row)) (n2+1) (.row [.d (.i s.1)]))
  fJ (gO s) (fun s=>0<=s.1/\s.1<=40) (0,true) ⟨bu,bu⟩ rfl ?_ ?_ ?_ ?_
 ·exact JC
 ·have hg:=m2.cC
  exact dE
 ·intro id ax
  by_cases h:id=n2+1
  ·exact Qa
  ·rw[ae _ _ _ _ h];rfl
 ·intro x hx s' h1 h2 h3
  have:oE s s'.1 x=false:=by simpa[fJ,gO]using h3
  simp[oE]at this
  simp only[gO]
  omega
 ·intro L hL xi x hx s' h1 h2 o3 n3 hI hn ho K X eD
  simp only[px]
  have hg:=hI.cC
  have q0:o3 0= .row s.row:=by
   rw[hI.eq 0 (by omega)];(repeat(first|rfl|rw[ab]|rw[ae _ _ _ _ (by omega)]))
   exact p0
  have q2:o3 2= .row [.d (.bool false)]:=by
   exact ZK
  have q3:o3 n2= .row EL:=by rw[hI.eq n2 (by omega)];(repeat(first|rfl|rw[ab]|rw[ae _ _ _ _ (by omega)]))
  have q4:o3 (n2+1)= .row [.d (.i s'.1)]:=by rw[hI.eq (n2+1) (by omega)];(repeat(first|rfl|rw[ab]|rw[ae _ _ _ _ (by omega)]))
  have fin:∀ (o':Nat->ad) (n':Nat),(∀id,id<n2+5+4->o' id=ay o3 (n2+1) (.row [.d (.i (s'.1+1))]) id)->Good o' n'->n3<=n'->eL (n2+5+4) (ay (ay (ay (ay (ay (ay o2 n2 (.row (List.replicate 16 (.d .cz)))) (n2+1) (.row [.d (.i 0)])) n2 (.row EL)) (n2+1) (.row [.d (.i 0)])) (n2+5) (.row t.row)) (n2+1) (.row [.d (.i (gO s s' x).1)])) o' n':=by
   intro o' n' k1 k2 k3
   refine⟨k2,af,fun id ax=> ?_⟩
   rw[k1 id ax]
   by_cases h:id=n2+1
   ·subst h;rw[ab,ab];rfl
   ·rw[ae _ _ _ _ h,ae _ _ _ _ h,hI.eq id ax,ae _ _ _ _ h]
  refine cM ?_
  refine nE hL (pd:=none) ?_ ?_
  ·(repeat(first|rfl|rw[ab]|rw[ae _ _ _ _ (by omega)]))
   exact ho
  cases c1:decide (40<s'.1+1)with
  |true=>
   have hJ:fJ (gO s s' x)=some .ret:=by simp[fJ,gO,oE,c1]
   rw[hJ]at eD
   simp+contextual (disch:=first|omega|simp only[go_sem,false_implies]) only[go_sem,wrap64,if_pos,q0,q2,q3,q4,c1]
   exact zw1
  |false=>
  cases c2:decide (12<x.2)with
  |true=>
   have hJ:fJ (gO s s' x)=some .ret:=by simp[fJ,gO,oE,c2]
   rw[hJ]at eD
   refine Hr q0 q2 q3 q4 c1 c2 ?_
   exact zw1
  |false=>
  cases c3:dQ x.1.op 1 15 with
  |false=>
   have hJ:fJ (gO s s' x)=some .ret:=by simp[fJ,gO,oE,c3]
   rw[hJ]at eD
   refine Hr q0 q2 q3 q4 c1 c2 ?_
   refine a8 (gC _ _ _) rfl ?_
   simp+contextual (disch:=first|omega|simp only[go_sem,false_implies]) only[go_sem,wrap64,if_pos,q0,q2,q3,q4,c1,c2,c3]
   exact zw1
  |true=>
  obtain⟨r1,r2,r3,r4⟩:=Wc s x.1 hs c3
  refine Hr q0 q2 q3 q4 c1 c2 ?_
  refine a8 (gC _ _ _) rfl ?_
  simp+contextual (disch:=first|omega|simp only[go_sem,false_implies]) only[go_sem,wrap64,if_pos,q0,q2,q3,q4,c1,c2,c3,r2,r3,r4,Nat.mul_one]
  refine a8 r1 rfl ?_
  simp+contextual (disch:=first|omega|simp only[go_sem,false_implies]) only[go_sem,wrap64,if_pos,q0,q2,q3,q4,c1,c2,c3]
  refine aO (bB rfl) ?_
  cases c4:bn s x.1 with
  |false=>
   have hJ:fJ (gO s s' x)=some .ret:=by simp[fJ,gO,oE,c4]
   rw[hJ]at eD
   simp+contextual (disch:=first|omega|simp only[go_sem,false_implies]) only[go_sem,wrap64,if_pos,q2,c4]
   refine eD _ _ _ .busy none af (fin _ _ (fun id ax=>Tk) dE af) cA (fun id h3 h4=>by(repeat(first|rfl|rw[ab]|rw[ae _ _ _ _ (by omega)])))
  |true=>
   have hJ:fJ (gO s s' x)=none:=by simp[fJ,gO,oE,c1,c2,c3,c4]
   rw[hJ]at eD
   simp+contextual (disch:=first|omega|simp only[go_sem,false_implies]) only[go_sem,wrap64,if_pos,c4]
   refine eD _ _ _ .busy none af (fin _ _ (fun id ax=>Tk) dE af) cA (fun id h3 h4=>by(repeat(first|rfl|rw[ab]|rw[ae _ _ _ _ (by omega)])))
 ·intro o' n' hI
  have q2:o' 2= .row [.d (.bool false)]:=by
   exact ZK
  rw[show mf s t=(fJ (aN (wK fJ (gO s)) (0,true) (pre t 1)).1).isNone from Ag _ _ _ _ rfl]
  generalize (aN (wK fJ (gO s)) (0,true) (pre t 1)).1=sf at*
  cases hj:fJ sf with
  |none=>
   simp only[qw]
   refine oz q2 ?_
   rfl
  |some j=>
   have:j= .ret:=by
    unfold fJ at hj;split at hj
    ·cases hj
    ·injection hj with hj;exact hj.symm
   subst this
   simp only[qw]
   refine oz q2 ?_
   rfl
section
def enc{κ:Type}(kf:κ->D)(m:List (κ×D)):List (D×D):=m.map fun p=>(kf p.1,p.2)
def jh{κ:Type}[BEq κ](k:κ):List (κ×D)->Nat->Option (Nat×D)
 |[],_=>none
 |p::m,i=>if(k==p.1)=true then some (i,p.2)else jh k m (i+1)
def IG{κ:Type}[BEq κ](k:κ)(x:D)(m:List (κ×D)):List (κ×D):=match jh k m 0 with|some (i,_)=>m.set i (k,x)|none=>m++[(k,x)]
def acK{κ:Type}[BEq κ](k:κ)(m:List (κ×D)):List (κ×D):=match jh k m 0 with|some (i,_)=>m.eraseIdx i|none=>m
def w8(d:D)(r:Option (Nat×D)):Option (Nat×D×D):=match r with|some (i,x)=>some (i,d,x)|none=>none
@[go_sem] theorem X2 (d:D) (i:Nat) (x:D):w8 d (some (i,x))=some (i,d,x):=rfl
@[go_sem] theorem X4 (d:D):w8 d none=none:=rfl
section
variable {P:Program}{kt:TypeId}
theorem OT(h:bK P kt=some .int)(a b:Int):oO P 100 kt (.int .i64 a) (.int .i64 b)=some (a==b):=by simp[oO,h]
theorem OU(h:bK P kt=some .str)(a b:List UInt8):oO P 100 kt (.str a) (.str b)=some (a==b):=by simp[oO,h]
@[go_sem] theorem GL (h:bK P kt=some .int) (a:Int):oB P 100 kt (.int .i64 a)=true:=by simp[oB,h]
@[go_sem] theorem adu (h:bK P kt=some .str) (a:List UInt8):oB P 100 kt (.str a)=true:=by simp[oB,h]
theorem vS{κ:Type}[BEq κ][LawfulBEq κ](kf:κ->D)(he:∀a b,oO P 100 kt (kf a) (kf b)=some (a==b))(k:κ):∀ (m:List (κ×D)) (i:Nat),findD P kt (kf k) (enc kf m) i=some (w8 (kf k) (jh k m i))
 |[],_=>rfl
 |p::m,i=>by
  have ih:=vS kf he k m (i+1)
  simp only[enc,List.map_cons,findD,he,jh]at ih|-
  by_cases h:k=p.1
  ·subst h;simp[w8]
  ·have:(k==p.1)=false:=by simpa using h
   simp only[this,Bool.false_eq_true,if_false];exact ih
@[go_sem] theorem CK (h:bK P kt=some .int) (k:Int) (m:List (Int×D)):findD P kt (.int .i64 k) (enc (.int .i64) m) 0=some (w8 (.int .i64 k) (jh k m 0)):=vS (.int .i64) (OT h) k m 0
@[go_sem] theorem acL (h:bK P kt=some .str) (k:List UInt8) (m:List (List UInt8×D)):findD P kt (.str k) (enc .str m) 0=some (w8 (.str k) (jh k m 0)):=vS .str (OU h) k m 0
end
section
variable {κ:Type}(kf:κ->D)
theorem LN(m:List (κ×D))(k:κ)(x:D):enc kf m++[(kf k,x)]=enc kf (m++[(k,x)]):=by simp[enc]
theorem GM(m:List (κ×D))(i:Nat)(k:κ)(x:D):(enc kf m).set i (kf k,x)=enc kf (m.set i (k,x)):=by simp[enc,List.map_set]
theorem yo:∀ (m:List (κ×D)) (i:Nat),(enc kf m).eraseIdx i=enc kf (m.eraseIdx i)
 |[],i=>rfl
 |p::m,0=>rfl
 |p::m,i+1=>by
  have:=yo m i
  simp only[enc,List.map_cons,List.eraseIdx_cons_succ]at this|-
  rw[this]
theorem OV(m:List (κ×D)):(((enc kf m).map (·.1)).zip ((enc kf m).map (·.2)))=enc kf m:=by
 induction m with
 |nil=>rfl
 |cons p m ih=>simp only[enc,List.map_cons,List.zip_cons_cons]at ih|-;rw[ih]
theorem II{K:V->List (Nat×ad)->Prop}{id:Nat}{m:List (κ×D)}(h0:m=[]->K (.bP [.d (.bool false)]) [])
 (h1:∀ (i:Nat) k x,m[i]? =some (k,x)->K (.bP [.d (.bool true), .d (kf k), .d x]) [(id, .rq (enc kf (m.eraseIdx i)) (some (kf k,x)))]):Gi K id (enc kf m):=by
 refine⟨fun h=>h0 ?_,fun i k x h=> ?_⟩
 ·cases m with
  |nil=>rfl
  |cons p m=>simp[enc]at h
 ·simp only[enc,List.getElem?_map]at h
  cases hm:m[i]? with
  |none=>rw[hm]at h;cases h
  |some p=>
   rw[hm]at h
   simp at h
   obtain⟨rfl,rfl⟩:=h
   have:=h1 i p.1 p.2 (by rw[hm])
   rwa [<- yo]at this
end
theorem CL{κ:Type}[BEq κ][LawfulBEq κ]{k:κ}:∀ {m:List (κ×D)} {i j:Nat} {x:D},jh k m i=some (j,x)->i<=j/\m[j - i]? =some (k,x)
 |[],_,_,_,h=>by cases h
 |p::m,i,j,x,h=>by
  simp only[jh]at h
  split at h
  ·rename_i hk
   injection h with h;injection h with h1 h2
   subst h1;subst h2
   exact⟨Nat.le_refl _,by simp[(by simpa using hk:k=p.1)]⟩
  ·obtain⟨h1,h2⟩:=CL h
   refine⟨af, ?_⟩
   rw[show j - i=(j - (i+1))+1 by omega]
   simpa using h2
theorem yp{κ:Type}[BEq κ][LawfulBEq κ]{k:κ}:∀ {m:List (κ×D)} {i:Nat},jh k m i=none↔∀p∈m,p.1≠k
 |[],_=>by simp[jh]
 |p::m,i=>by
  simp only[jh]
  split
  ·rename_i hk
   simp[(by simpa using hk:k=p.1)]
  ·rename_i hk
   rw[yp]
   have:p.1≠k:=fun e=>hk (by simp[e])
   simp[this]
def qP(P:Program)(o:Nat->ad)(t:TypeId)(m k v:V):Option fS:=
 match rO P t,dN o k,dN o v,oQ o m with
 |some (kt,_),some kd,some vd,some (some (id,FM,FN),l)=>if k.ids=[]/\oB P 100 kt kd=true/\kE kd=true/\v.ids.all (· !=id)=true then match findD P kt kd l 0 with
  |some (some (i,k',_))=>if k'.same kd=true then some (.bP [],bw o v.ids++[(id, .map FM FN (l.set i (kd,vd)))],id::v.ids)else none
  |some none=>some (.bP [],bw o v.ids++[(id, .map FM FN (l++[(kd,vd)]))],id::v.ids)
  |none=>none
  else none
 |_,_,_,_=>none
@[go_sem low] theorem yq (P:Program) (o:Nat->ad) (t:TypeId) (m v:V) (k:D):fN P o t m (.d k) v=qP P o t m (.d k) v:=by unfold fN qP;rfl
def vT(P:Program)(o:Nat->ad)(t:TypeId)(m k:V)(ok:Bool):Option fS:=
 match rO P t,dN o k,qc o m with
 |some (kt,vt),some kd,some (rd,l)=>if k.ids=[]/\oB P 100 kt kd=true then match findD P kt kd l 0 with
  |some (some (_,_,x))=>some (if ok=true then .bP [.d x, .d (.bool true)]else .d x,[],rd)
  |some none=>match zeroV P vt with
   |some z=>some (if ok=true then .bP [z, .d (.bool false)]else z,[],rd)
   |none=>none
  |none=>none
  else none
 |_,_,_=>none
@[go_sem low] theorem og (P:Program) (o:Nat->ad) (t:TypeId) (m:V) (k:D) (ok:Bool):jg P o t m (.d k) ok=vT P o t m (.d k) ok:=by unfold jg vT;rfl
attribute [go_sem] vT qP nX mR mS oR oS mT qc oQ adM oP kE D.same
end
theorem dec_lt{l:List UInt8}{i:Nat}{b:UInt8}(hb:l[i]? =some b)(h:b.toNat<128):Utf8.decode ⟨⟨l⟩⟩ i=(b.toNat,1):=by
 have e:(ByteArray.mk ⟨l⟩).get! i=b:=by
  show(Array.mk l)[i]! =b
  simp[hb]
 simp only[Utf8.decode,Nat.add_zero,e]
 rw[if_pos h]
theorem Wd{l:List UInt8}{i:Nat}{b:UInt8}(hb:l[i]? =some b)(h:128<=b.toNat):128<=(Utf8.decode ⟨⟨l⟩⟩ i).1:=by
 have e:(ByteArray.mk ⟨l⟩).get! i=b:=by
  show(Array.mk l)[i]! =b
  simp[hb]
 simp only[Utf8.decode,Nat.add_zero,e]
 rw[if_neg (by omega)]
 split
 ·split<;>simp_all[Utf8.runeError]
 ·split
  ·split
   ·rename_i h3;simp at h3;omega
   ·simp[Utf8.runeError]
  ·split
   ·split
    ·rename_i h3;simp at h3;omega
    ·simp[Utf8.runeError]
   ·simp[Utf8.runeError]
def OW(r:Int):Bool:=decide (97<=r)&&decide (r<=122)||decide (65<=r)&&decide (r<=90)
theorem LO(b:UInt8):OW b.toNat=letterF b:=by
 rw[Bool.eq_iff_iff]
 simp[OW,letterF]
theorem IJ(s:List UInt8)(hs:s.length<=9223372036854775807):aW Tryz.prog 145 [.str s] (.ret [.bool (jI s)]):=by
 refine aW.aH mix Sd aE ?_
 rw[VA]
 refine fM ?_
 refine aG (fun k:Nat=>⟨aY [.d (.str s), .aa, .aa, .aa, .aa, .aa, .ptr 2 0],ay (fun _=> .no) 2 (.yX s k),3⟩)
  (fun k=>k<=s.length/\(s.take k).all letterF=true) (fun k=>s.length - k) 0 ⟨Nat.zero_le _,aE⟩ (bI.bE _ af af (Good.nil.ay af rfl) (fun _ _=>rfl) ?_) (fun k hk=> ?_)
 ·exact dA
 by_cases h2:k<s.length
 ·obtain⟨b,hb⟩:=aD h2
  by_cases h3:b.toNat<128
  ·simp+contextual (disch:=first|omega|simp only[go_sem,false_implies]) only[go_sem,wrap64,if_pos,Nat.add_assoc,Nat.left_eq_add,Nat.add_eq_left,Nat.add_left_cancel_iff,h2,dec_lt hb h3]
   have hr:=LO b
   simp only[OW]at hr
   rw[hr]
   cases hl:letterF b with
   |true=>
    refine cS ?_
    refine aj (k+1) ⟨h2,nF hb hk.2 hl⟩ af (bI.bE _ af af (Good.nil.ay af rfl) (fun _ _=>by rw[ud]) ?_)
    exact dA
   |false=>
    refine cS ?_
    simp[jI,ly hb hl]
  ·have hr:letterF b=false:=by
    rw[<- LO];simp[OW];omega
   have hd:=Wd hb af
   refine Jf h2 ?_
   have:(decide (97<=((Utf8.decode ⟨⟨s⟩⟩ k).1:Int))&&decide (((Utf8.decode ⟨⟨s⟩⟩ k).1:Int)<=122)||decide (65<=((Utf8.decode ⟨⟨s⟩⟩ k).1:Int))&&decide (((Utf8.decode ⟨⟨s⟩⟩ k).1:Int)<=90))=false:=by
    rw[Bool.eq_false_iff];intro h;simp at h;omega
   rw[this]
   refine cS ?_
   simp[jI,ly hb hr]
 ·refine Jf h2 ?_
  refine aw (gC _ _ _) rfl ?_
  refine cS ?_
  rw[jI,nG hk.2 (by omega),Bool.true_and]
theorem CM{σ:Type}(l:List ec)(hl:l.length<=9223372036854775807)(g:Nat)(bM:List V)(base:Nat)(H:σ->Nat->ad)(step:σ->ec->σ×Bool)(hc:∀r∈V.aK bM,r<base)(ok:σ->Prop)(aV:∀x∈l,∀s,ok s->(step s x).2=true->ok (step s x).1)
 (h:∀x∈l,∀s,ok s->vL Tryz.prog g (.d x.d::bM) base (H s) (H (step s x).1) (.d (.bool (step s x).2))) (s:σ) (oC:ok s):
 vL Tryz.prog 147 [.d (.sl (l.map ec.d)), .func (.func g) [] bM] base (H s) (H (aN step s l).1) (.d (.bool (aN step s l).2)):=by
 intro o nx hI K X hK
 have fh:∀r∈V.aK bM,r<nx:=fun r hr=>Nat.lt_of_lt_of_le (hc r hr) hI.le
 refine bQ.aH mix Sf aE ?_
 rw[VC]
 refine cM ?_
 refine aG (fun i:Nat×σ×(Nat->ad)×Nat=>⟨aY [.aa, .func (.func g) [] bM, .aa, .aa, .aa, .aa, .aa, .d (.sl (l.map ec.d)), .d (.i l.length), .d (.i i.1)],i.2.2.1,i.2.2.2⟩)
  (fun i=>i.1<=l.length/\eL base (H i.2.1) i.2.2.1 i.2.2.2/\nx<=i.2.2.2/\(∀id,base<=id->id<nx->i.2.2.1 id=o id)/\aN step s l=aN step i.2.1 (l.drop i.1)/\ok i.2.1) (fun i=>l.length - i.1) (0,s,o,nx)
  ⟨Nat.zero_le _,hI,Nat.le_refl _,fun _ _ _=>rfl,rfl,oC⟩ ?_ ?_
 ·exact TG
 rintro⟨k,s',o',nx'⟩ ⟨hk,M6,hn,cY,hf,vP⟩
 simp only at hk M6 hn cY hf vP
 refine cM ?_
 refine ao (fun h1=> ?_) (fun h1=> ?_)
 ·simp at h1
  obtain⟨x,hx⟩:=aD h1
  have cF:=List.mem_of_getElem? hx
  have hd:l.drop k=x::l.drop (k+1):=by
   exact TA
  refine Ti hx ?_
  have hl0:=M6.le
  refine dR (h x cF s' vP _ _ (?_:eL base (H s') _ (nx'+7)) _ _ fun o2 n2 m1 m2 m3=> ?_)
  ·exact YQ
  have LJ:∀id,base<=id->id<nx->o2 id=o id:=fun id h2 h3=>by
   exact Y3
  refine cM ?_
  refine ao (fun h2=> ?_) (fun h2=> ?_)
  ·refine cM ?_
   simp at h2
   have:aN step s l=((step s' x).1,false):=by rw[hf,hd,aN,if_neg (by rw[h2];exact Bool.false_ne_true)]
   rw[this]at hK
   exact hK _ _ af (m2.mono af) LJ
  ·refine cM ?_
   simp at h2
   have:aN step s l=aN step (step s' x).1 (l.drop (k+1)):=by rw[hf,hd,aN,if_pos h2]
   refine aj (k+1,(step s' x).1,o2,n2) ⟨h1,m2,by dsimp only;omega,LJ,this,aV x cF s' vP h2⟩ je ?_
   dsimp only
   have SK:∀r∈V.aK bM,r<n2:=fun r hr=>by have:=fh r hr;omega
   refine bI.bE _ af af m2.cC (fun _ _=>rfl) ?_
   exact dA
 ·exact ZF
def pF(l:List (List UInt8)):List (List UInt8×D):=l.map fun s=>(s, .bool true)
theorem IK(l:List (List UInt8))(s:List UInt8):pF l++[(s, .bool true)]=pF (l++[s]):=by simp[pF]
theorem IL{l:List (List UInt8)}{s:List UInt8}{i:Nat}{x:D}(h:jh s (pF l) 0=some (i,x)):x= .bool true/\(pF l).set i (s, .bool true)=pF l/\l.any (· ==s)=true:=by
 obtain⟨_,h2⟩:=CL h
 rw[Nat.sub_zero]at h2
 simp only[pF,List.getElem?_map]at h2
 cases hl:l[i]? with
 |none=>rw[hl]at h2;cases h2
 |some y=>
  rw[hl]at h2
  simp at h2
  obtain⟨rfl,rfl⟩:=h2
  refine⟨rfl, ?_, ?_⟩
  ·apply List.ext_getElem?
   intro j
   rw[List.getElem?_set]
   split
   ·rename_i e;subst e
    obtain⟨ck,hy⟩:=List.getElem?_eq_some_iff.1 hl
    simp[pF,ck,hy]
   ·rfl
  ·exact List.any_eq_true.2 ⟨y,List.mem_of_getElem? hl,aE⟩
theorem IM{l:List (List UInt8)}{s:List UInt8}(h:jh s (pF l) 0=none):l.any (· ==s)=false:=by
 rw[yp]at h
 rw[List.any_eq_false]
 intro x hx hs
 have:=h (x, .bool true) (by simp[pF];exact hx)
 simp at hs;exact this hs
def OX(bs:List (List UInt8))(x:ec):Bool:= !bs.any (· ==x.name)&&jI x.name&&dQ x.args 0 4
def iw(bs:List (List UInt8))(x:ec):List (List UInt8)×Bool:=(if bs.any (· ==x.name)=true then bs else bs++[x.name],OX bs x)
theorem We(x:ec)(hx:x.name.length<=9223372036854775807)(base mp id:Nat)(h:Nat->ad)(hmp:h mp= .row [.mp id])(h1:mp<base)(h2:id<base)(h3:id≠mp)(bs:List (List UInt8)):
 vL Tryz.prog 144 [.d x.d, .ptr mp 0] base (ay h id (.map 9 4 (enc .str (pF bs)))) (ay h id (.map 9 4 (enc .str (pF (iw bs x).1)))) (.d (.bool (iw bs x).2)):=by
 intro o nx hI K X hK
 have hle:=hI.le
 have hg:=hI.cC
 have q0:o mp= .row [.mp id]:=by rw[hI.eq mp h1,ae _ _ _ _ (by omega),hmp]
 have q1:o id= .map 9 4 (enc .str (pF bs)):=by rw[hI.eq id h2,ab]
 refine bQ.aH mix Sc aE ?_
 rw[Vz]
 cases ha:jh x.name (pF bs) 0 with
 |none=>
  have hn:=IM ha
  have hs:iw bs x=(bs++[x.name],jI x.name&&dQ x.args 0 4):=by simp[iw,OX,hn]
  rw[hs]at hK
  refine wM q0 q1 ha ?_
  refine aw (IJ _ hx) rfl ?_
  refine cS ?_
  refine il (gk [.bool (dQ x.args 0 4)] ?_ ?_)
  ·refine cS ?_
   exact fun _=>gC _ _ _
  refine cS ?_
  rw[LN,IK]
  refine hK _ _ af ⟨dE,af,fun j hj=> ?_⟩ (fun j g1 g2=>by(repeat(first|rfl|rw[ab]|rw[ae _ _ _ _ (by omega)])))
  ·by_cases e:j=id
   ·exact uq
   ·exact Y0
 |some p=>
  obtain⟨i,y⟩:=p
  obtain⟨rfl,e1,hn⟩:=IL ha
  have hs:iw bs x=(bs,false):=by simp[iw,OX,hn]
  rw[hs]at hK
  refine wM q0 q1 ha ?_
  rw[GM,e1]
  refine hK _ _ af ⟨dE,af,fun j hj=> ?_⟩ (fun j g1 g2=>by(repeat(first|rfl|rw[ab]|rw[ae _ _ _ _ (by omega)])))
  ·by_cases e:j=id
   ·exact uq
   ·exact Y0
theorem pG:∀ (l:List ec) (bs:List (List UInt8)),match cD l bs with|some B=>aN iw bs l=(B,true)|none=>(aN iw bs l).2=false
 |[],bs=>rfl
 |x::l,bs=>by
  have ih:=pG l (bs++[x.name])
  simp only[cD,aN,iw,OX]
  by_cases h1:bs.any (· ==x.name)=true
  ·simp[h1]
  ·simp only[Bool.not_eq_true]at h1
   simp only[h1,Bool.false_eq_true,if_false,Bool.not_false,Bool.true_and]
   by_cases h2:(jI x.name&&dQ x.args 0 4)=true
   ·have h3: ¬ ((!jI x.name|| !dQ x.args 0 4)=true):=by simp at h2;simp[h2]
    rw[if_neg h3,if_pos h2]
    exact ih
   ·have h3:(!jI x.name|| !dQ x.args 0 4)=true:=by
     cases hn:jI x.name<;>simp_all
    rw[if_pos h3,if_neg h2]
def mJ(ok:Bool):Int:=if ok=true then 0 else 2
@[reducible] def IP (s:aB) (bs:List (List UInt8)):Nat->ad:=ay (ay (ay (fun _=> .no) 0 (.row s.row)) 3 (.row [.mp 2])) 2 (.map 9 4 (enc .str (pF bs)))
theorem vU(s:aB)(hs:s.Fits):aW Tryz.prog 119 [s.d] (.ret [.i (mJ (iU s))]):=by
 refine aW.aH mix R3 aE ?_
 rw[Vp]
 refine fM ?_
 refine aw (gC _ _ _) rfl ?_
 refine fM ?_
 cases h1:(!dQ s.cons.length 2 12||decide (8<(s.bV.length:Int)))with
 |true=>
  have:iU s=false:=by simp only[iU,h1,if_true]
  refine oz h1 ?_
  simp[this,mJ]
 |false=>
  have Nf:=pG s.cons []
  have acM:∀ (l:List ec),(∀x∈l,x.name.length<=9223372036854775807)->∀x∈l,∀bs,True->vL Tryz.prog 144 (.d x.d::[.ptr 3 0]) 4 (IP s bs) (IP s (iw bs x).1) (.d (.bool (iw bs x).2)):=fun l hl x hx bs _=>
   We x (hl x hx) 4 3 2 (ay (ay (fun _=> .no) 0 (.row s.row)) 3 (.row [.mp 2])) (ab _ _ _) af af af bs
  simp[dQ]at h1
  obtain⟨a,b,r,hc⟩:∃a b r,s.cons=a::b::r:=by
   match h:s.cons with
   |[]=>exact FG
   |[a]=>exact FG
   |a::b::r=>exact⟨a,b,r,rfl⟩
  have iz:(!dQ s.cons.length 2 12||decide (8<(s.bV.length:Int)))=false:=by simp[dQ];omega
  have pD:iU s=if(!mE a fB|| !mE b tB)=true then false else match cD s.cons []with
   |none=>false
   |some l=>(cD s.bV l).isSome:=by
   unfold iU
   rw[if_neg (by rw[iz];exact Bool.false_ne_true),hc]
   dsimp only
   rfl
  refine oz iz ?_
  refine aU (CM s.cons hs.lc 144 [.ptr 3 0] 4 (IP s) iw xo (fun _=>True) (fun _ _ _ _ _=>trivial) (acM s.cons hs.nc) [] trivial _ _ ⟨?_,af,fun id ax=> ?_⟩ _ _ fun o2 n2 m1 m2 m3=> ?_)
  ·exact dE
  ·rcases(by omega:id=0\/id=1\/id=2\/id=3)with rfl|rfl|rfl|rfl<;>rfl
  have p0:∀ {bs:List (List UInt8)} {o:Nat->ad} {n:Nat},eL 4 (IP s bs) o n->o 0= .row s.row:=fun h=>h.eq 0 af
  have p3:∀ {bs:List (List UInt8)} {o:Nat->ad} {n:Nat},eL 4 (IP s bs) o n->o 3= .row [.mp 2]:=fun h=>h.eq 3 af
  cases hn:cD s.cons []with
  |none=>
   rw[hn]at Nf
   simp only at Nf
   rw[Nf]
   refine fM ?_
   rw[pD,hn]
   split<;>rfl
  |some B=>
   rw[hn]at Nf
   simp only at Nf
   rw[Nf]at m2|-
   simp+contextual (disch:=first|omega|simp only[go_sem,false_implies]) only[go_sem,wrap64,if_pos,Nat.add_assoc,Nat.left_eq_add,Nat.add_eq_left,Nat.add_left_cancel_iff,p0 m2]
   refine aU (CM s.bV hs.lf 144 [.ptr 3 0] 4 (IP s) iw xo (fun _=>True) (fun _ _ _ _ _=>trivial) (acM s.bV hs.nf) B trivial _ _ (m2.mono af) _ _ fun o4 n4 k1 k2 k3=> ?_)
   have M7:=pG s.bV B
   cases hf:cD s.bV B with
   |none=>
    rw[hf]at M7
    simp only at M7
    rw[M7]
    refine fM ?_
    rw[pD,hn]
    simp only[hf]
    split<;>rfl
   |some C=>
    rw[hf]at M7
    simp only at M7
    rw[M7]at k2|-
    simp+contextual (disch:=first|omega|simp only[go_sem,false_implies]) only[go_sem,wrap64,if_pos,Nat.add_assoc,Nat.left_eq_add,Nat.add_eq_left,Nat.add_left_cancel_iff,p0 k2,hc]
    have SN:iU s= !(!mE a fB|| !mE b tB):=by
     rw[pD,hn];simp only[hf]
     cases(!mE a fB|| !mE b tB)<;>rfl
    refine ao (fun h5=> ?_) (fun h5=> ?_)
    ·refine cS ?_
     have Jj:(!mE a fB|| !mE b tB)=true:=h5
     rw[SN,Jj];rfl
    ·refine cS ?_
     have Jj:(!mE a fB|| !mE b tB)=false:=h5
     rw[SN,Jj];rfl
def iW(s:aB)(l:List Tm):Bool:=iU s&&l.all (mf s)
theorem yr{α:Type}(p:α->Bool):∀ (l:List α) (u:Unit),aN (fun _ x=>((),p x)) u l=((),l.all p)
 |[],_=>rfl
 |x::l,u=>by
  simp only[aN,List.all_cons,yr p l]
  cases p x<;>rfl
theorem EM(l:List Tm)(hl:l.length<=9223372036854775807)(g:Nat)(bM:List V)(base:Nat)(h:Nat->ad)(p:Tm->Bool)(hc:∀r∈V.aK bM,r<base)
 (hp:∀x∈l,vL Tryz.prog g (.d x.d::bM) base h h (.d (.bool (p x)))):vL Tryz.prog 169 [.d (.sl (l.map Tm.d)), .func (.func g) [] bM] base h h (.d (.bool (l.all p))):=by
 have:=CI l hl g bM base (fun _:Unit=>h) (fun _ x=>((),p x)) hc (fun _=>True) (fun _ _ _ _ _=>trivial) (fun x hx _ _=>hp x hx) () trivial
 simpa only[yr]using this
structure Tm.Fin (t:Tm):Prop where
 fits:t.fits
 ma:t.ma<=900000
theorem LP(s:aB)(hs:s.Fits)(t:Tm)(ht:t.Fin)(base sp:Nat)(h:Nat->ad)(QV:h sp= .row s.row)(hb:sp<base):vL Tryz.prog 170 [.d t.d, .ptr sp 0] base h h (.d (.bool (mf s t))):=by
 intro o nx hI K X hK
 have hle:=hI.le
 have hg:=hI.cC
 have q0:o sp= .row s.row:=by rw[hI.eq sp hb,QV]
 refine bQ.aH mix Ss aE ?_
 rw[VO]
 refine oz q0 ?_
 refine aw (LM s hs t ht.fits ht.ma) rfl ?_
 refine cS ?_
 exact hK _ _ af ⟨dE,af,fun j hj=>by rw[ae _ _ _ _ (by omega),hI.eq j hj]⟩ (fun j g1 g2=>by(repeat(first|rfl|rw[ab]|rw[ae _ _ _ _ (by omega)])))
theorem OY(s:aB)(hs:s.Fits)(l:List Tm)(hl:l.length<=9223372036854775807)(hf:∀t∈l,t.Fin):aW Tryz.prog 158 [s.d, .sl (l.map Tm.d)] (.ret [.bool (iW s l)]):=by
 refine aW.aH mix Si aE ?_
 rw[VF]
 refine cS ?_
 refine aw (vU s hs) rfl ?_
 cases h1:iU s with
 |false=>
  refine Yy ?_
  simp[iW,h1]
 |true=>
  refine Yy ?_
  refine aU (EM l hl 170 [.ptr 0 0] 1 (ay (fun _=> .no) 0 (.row s.row)) (mf s) xo (fun x hx=>LP s hs x (hf x hx) 1 0 _ (ab _ _ _) af) _ _ ⟨dE,af,fun id ax=>rfl⟩ _ _ fun o2 n2 m1 m2 m3=> ?_)
  refine cS ?_
  simp[iW,h1]
def qQ(x:Tm×Int):Bool:=decide (3<x.1.op)&&x.1.op !=5
def vJ(b:Bool):Option jS:=if b=true then none else some .ret
def nI(t:Tm):Bool:=(aN (wK vJ (fun _ x=> !qQ x)) true (pre t 1)).2
theorem IQ(t:Tm)(ht:t.Fin):aW Tryz.prog 160 [t.d] (.ret [.bool (nI t)]):=by
 refine aW.aH mix Sk aE ?_
 rw[VH]
 refine cS ?_
 refine bY (vR t _ _ _ _ ?_)
 refine cS ?_
 refine nH t ht.fits ht.ma [.aa, .aa, .ptr 1 0] ?_ bu rfl dE xo (ab _ _ _)
  (fun _=>ay (ay (ay (fun _=> .no) 0 (.row t.row)) 1 (.row [.d (.bool false)])) 3 (.row t.row)) vJ (fun _ x=> !qQ x) (fun _=>True) true trivial rfl (fun id ax=>rfl) (fun _ _ _ _ _ _=>trivial) ?_ ?_
 ·exact JC
 ·intro L hL xi x hx s' h1 h2 o3 n3 hI hn ho K X eD
  simp only[px]
  have hg:=hI.cC
  have q1:o3 1= .row [.d (.bool false)]:=hI.eq 1 af
  refine cS ?_
  refine nE hL (pd:=none) ?_ ?_
  ·(repeat(first|rfl|rw[ab]|rw[ae _ _ _ _ (by omega)]))
   exact ho
  refine cS ?_
  have hv:qQ x=(decide (3<x.1.op)&&x.1.op !=5):=rfl
  rw[<- hv]
  cases hb:qQ x with
  |true=>
   rw[hb]at eD
   refine oz q1 ?_
   refine eD _ _ _ .busy none af ⟨dE,af,fun id ax=> ?_⟩ cA (fun id h3 h4=>by(repeat(first|rfl|rw[ab]|rw[ae _ _ _ _ (by omega)])))
   by_cases e:id=1
   ·exact uq
   ·rw[ae _ _ _ _ e];(repeat(first|rfl|rw[ab]|rw[ae _ _ _ _ (by omega)]))
    exact hI.eq id ax
  |false=>
   rw[hb]at eD
   refine cS ?_
   refine eD _ _ _ .busy none af ⟨dE,af,fun id ax=> ?_⟩ cA (fun id h3 h4=>by(repeat(first|rfl|rw[ab]|rw[ae _ _ _ _ (by omega)])))
   (repeat(first|rfl|rw[ab]|rw[ae _ _ _ _ (by omega)]))
   exact hI.eq id ax
 ·intro o' n' hI
  have q1:o' 1= .row [.d (.bool false)]:=hI.eq 1 af
  rw[show nI t=(vJ (aN (wK vJ (fun _ x=> !qQ x)) true (pre t 1)).1).isNone from Ag _ _ _ _ rfl]
  generalize (aN (wK vJ (fun _ x=> !qQ x)) true (pre t 1)).1=sf at*
  cases sf<;>(simp only[vJ,if_true,if_false,Bool.false_eq_true,qw];simp+contextual (disch:=first|omega|simp only[go_sem,false_implies]) only[go_sem,wrap64,if_pos,q1];rfl)
def Tm.CN (t:Tm):Int:=(pre t 1).length
structure Tm.Cnt (t:Tm):Prop extends t.Fin where
 size:t.CN<=1000000
theorem Tm.Fin.mF {t k:Tm}(h:t.Fin)(hk:k∈t.kids):k.Fin:=⟨((Tm.b9 _).1 h.fits).2 k hk,by have:=Tm.qG hk;have:=h.ma;omega⟩
theorem tj:∀ (t:Tm) (d d':Int),(pre t d).length=(pre t d').length:=by
 refine Tm.fj fun t ih d d'=> ?_
 rw[nu,nu]
 simp only[List.length_cons,List.length_flatMap]
 congr 2
 exact List.map_congr_left fun k hk=>ih k hk _ _
theorem Tm.yu {t k:Tm}(hk:k∈t.kids):k.CN+1<=t.CN:=by
 simp only[Tm.CN]
 rw[nu t,tj k 1 (1+1)]
 simp only[List.length_cons,List.length_flatMap]
 have:∀ (l:List Tm),k∈l->(pre k (1+1)).length<=(l.map fun k=>(pre k (1+1)).length).sum:=by
  intro l
  induction l with
  |nil=>intro h;cases h
  |cons x l ih=>
   intro h
   rcases List.mem_cons.1 h with rfl|h
   ·simp only[List.map_cons,List.sum_cons];omega
   ·have:=ih h;simp only[List.map_cons,List.sum_cons];omega
 have:=this _ hk
 omega
theorem Tm.Cnt.mF {t k:Tm}(h:t.Cnt)(hk:k∈t.kids):k.Cnt:=⟨h.toFin.mF hk,by have:=Tm.yu hk;have:=h.size;omega⟩
def Tm.sz (t:Tm):Nat:=(pre t 1).length
def rB(l:List Tm):Nat:=(l.map Tm.sz).sum
theorem Tm.CO (t:Tm):t.CN=(t.sz:Int):=rfl
theorem Tm.jL (t:Tm):t.sz=1+rB t.kids:=by
 unfold Tm.sz rB
 rw[nu,List.length_cons,List.length_flatMap,Nat.add_comm]
 congr 2
 exact List.map_congr_left fun k hk=>tj k _ _
theorem qR(k:Tm)(l:List Tm):rB (k::l)=k.sz+rB l:=by simp[rB]
theorem Tm.su (t:Tm):1<=t.sz:=by rw[Tm.jL];omega
theorem yw(k:Tm)(l:List Tm):Tm.iH (k::l)=Nat.max k.ma (Tm.iH l):=by simp[Tm.iH]
theorem oh:∀ (l:List Tm) (n:Nat),Tm.iH l<=n↔∀k∈l,k.ma<=n
 |[],n=>by simp[Tm.iH]
 |x::l,n=>by
  rw[yw]
  simp only[List.mem_cons,forall_eq_or_imp, <- oh l n]
  exact Nat.max_le
theorem Tm.pH (t:Tm):t.ma=1+Tm.iH t.kids:=by cases t;simp[Tm.ma,Tm.kids]
theorem IU:∀t:Tm,∀left depth:Int,iI t left depth=if(t.sz:Int)<=left/\(t.ma:Int)<=depth then left - t.sz else -1:=by
 refine Tm.fj fun t ih left depth=> ?_
 have hs:∀ (l:List Tm) (left d:Int),(∀k∈l,k∈t.kids)->0<=left->0<=d->cE l left d=if(rB l:Int)<=left/\(Tm.iH l:Int)<=d then left - rB l else -1:=by
  intro l
  induction l with
  |nil=>intro left d _ h1 h2;simp[cE,rB,Tm.iH,h1,h2]
  |cons k l V3=>
   intro left d hk h1 h2
   simp only[cE,if_pos h1]
   rw[ih k (hk k (by simp))]
   have hm:(Tm.iH (k::l):Int)<=d↔(k.ma:Int)<=d/\(Tm.iH l:Int)<=d:=by
    have:= @Nat.max_le k.ma (Tm.iH l) d.toNat
    have e:Tm.iH (k::l)=max k.ma (Tm.iH l):=yw k l
    rw[e];omega
   simp only[qR,hm]
   by_cases hc:(k.sz:Int)<=left/\(k.ma:Int)<=d
   ·rw[if_pos hc,V3 _ _ (fun x hx=>hk x (by simp[hx])) (by omega) h2]
    by_cases uM:(rB l:Int)<=left - k.sz/\(Tm.iH l:Int)<=d
    ·rw[if_pos uM,if_pos (by omega)];omega
    ·rw[if_neg uM,if_neg (by omega)]
   ·rw[if_neg hc,pB (by omega),if_neg (by omega)]
 rw[CH,Tm.jL,Tm.pH]
 by_cases h:left<1\/depth<1
 ·rw[if_pos h,if_neg (by omega)]
 ·rw[if_neg h,hs _ _ _ (fun _ h=>h) (by omega) (by omega)]
  by_cases hc:(rB t.kids:Int)<=left - 1/\(Tm.iH t.kids:Int)<=depth - 1
  ·rw[if_pos hc,if_pos (by omega)];omega
  ·rw[if_neg hc,if_neg (by omega)]
theorem qS(t:Tm)(left depth:Int):0<=iI t left depth↔(t.sz:Int)<=left/\(t.ma:Int)<=depth:=by
 rw[IU];split<;>omega
theorem EN(t:Tm):fT t=true↔t.sz<=50/\t.ma<=14:=by
 simp only[fT,decide_eq_true_eq,qS];omega
theorem IV:∀ (t:Tm) (d m:Int),(∀x∈pre t d,x.2<=m)↔d+t.ma - 1<=m:=by
 refine Tm.fj fun t ih d m=> ?_
 rw[nu,Tm.pH]
 simp only[List.mem_cons,forall_eq_or_imp,List.mem_flatMap]
 have h1:(∀x:Tm×Int,(∃k,k∈t.kids/\x∈pre k (d+1))->x.2<=m)↔∀k∈t.kids,d+1+k.ma - 1<=m:=by
  constructor
  ·intro h k hk
   exact(ih k hk _ _).1 fun x hx=>h x ⟨k,hk,hx⟩
  ·rintro h x ⟨k,hk,hx⟩
   exact(ih k hk _ _).2 (h k hk) x hx
 rw[h1]
 constructor
 ·rintro⟨h2,h3⟩
  have:=(oh t.kids (m - d).toNat).2 fun k hk=>by have:=h3 k hk;omega
  omega
 ·intro h
  have:=(oh t.kids (m - d).toNat).1 af
  exact⟨af,fun k hk=>by have:=this k hk;omega⟩
theorem GN(p:Tm->Bool):∀ (t:Tm) (d:Int),(pre t d).all (fun x=>p x.1)=(p t&&t.kids.all fun k=>(pre k (d+1)).all fun x=>p x.1):=by
 intro t d
 rw[nu,List.all_cons,List.all_flatMap]
theorem vV(s:aB):∀ (t:Tm) (d:Int),iq s t=(pre t d).all fun x=>bn s x.1:=by
 refine Tm.fj fun t ih d=> ?_
 rw[GN (bn s),lu]
 congr 1
 exact QI
theorem EO:∀ (t:Tm) (d:Int),eV t=(pre t d).all fun x=>(decide (1<=x.1.op)&&decide (x.1.op<=3))||x.1.op==5:=by
 refine Tm.fj fun t ih d=> ?_
 rw[GN (fun t=>(decide (1<=t.op)&&decide (t.op<=3))||t.op==5),ss,Bool.and_comm]
 congr 1
 exact QI
theorem CP{s:aB}{t:Tm}(h:bn s t=true):dQ t.op 1 15=true:=by
 rw[show dQ t.op 1 15=true↔1<=t.op/\t.op<=15 by simp[dQ]]
 by_cases h6:dQ t.op 6 15=true
 ·simp[dQ]at h6;omega
 ·simp only[bn,if_neg h6]at h
  by_cases h1:t.op=1
  ·omega
  by_cases h2:t.op=2
  ·omega
  by_cases h3:t.op=3
  ·omega
  by_cases h4:t.op=4
  ·omega
  by_cases h5:t.op=5
  ·omega
  by_cases h8:t.op=8
  ·omega
  rw[if_neg h1,if_neg h2,if_neg h3,if_neg h4,if_neg h5,if_neg h8]at h
  cases h
def vW(s:aB)(x:Tm×Int):Bool:= !(decide (12<x.2)|| !dQ x.1.op 1 15|| !bn s x.1)
theorem tl(s:aB):∀ (l:List (Tm×Int)) (n:Int) (b:Bool),(aN (wK fJ (gO s)) (n,b) l).2=(decide (l=[]\/n+l.length<=40)&&l.all (vW s))
 |[],n,b=>by simp[aN]
 |x::l,n,b=>by
  have e1:∀c,oE s n x=c->wK fJ (gO s) (n,b) x=((n+1, !c), !c):=fun c hc=>by show((n+1, !oE s n x),(fJ (n+1, !oE s n x)).isNone)=_;rw[hc];cases c<;>rfl
  have hb:oE s n x=(decide (40<n+1)|| !vW s x):=by simp[oE,vW,Bool.or_assoc]
  rw[List.all_cons]
  cases hg:vW s x with
  |false=>
   have e:oE s n x=true:=by rw[hb,hg];simp
   rw[aN,e1 _ e];simp
  |true=>
   by_cases h40:40<n+1
   ·have:decide (x::l=[]\/n+(x::l).length<=40)=false:=by simp;omega
    have e:oE s n x=true:=by rw[hb];simp[h40]
    rw[this,Bool.false_and,aN,e1 _ e];simp
   ·have e:oE s n x=false:=by rw[hb,hg];simp;omega
    rw[aN,e1 _ e]
    simp only[Bool.not_false,if_true,tl s l,Bool.true_and]
    congr 1
    cases l with
    |nil=>simp;omega
    |cons y l=>simp;omega
theorem pI(s:aB)(t:Tm):mf s t=gr s t:=by
 rw[mf,tl,gr,vV s t 1,Bool.eq_iff_iff]
 have hn:pre t 1≠[]:=by rw[nu];simp
 simp only[Bool.and_eq_true,decide_eq_true_eq,hn,false_or,qS,List.all_eq_true]
 have hd:=IV t 1 12
 constructor
 ·rintro⟨h1,h2⟩
  have h3:∀x∈pre t 1,x.2<=12:=fun x hx=>by have:=h2 x hx;simp[vW]at this;omega
  have:=hd.1 h3
  exact⟨⟨by unfold Tm.sz;omega,af⟩,fun x hx=>by have:=h2 x hx;simp[vW]at this;exact this.2⟩
 ·rintro⟨⟨h1,h2⟩,h3⟩
  have h4:=hd.2 af
  refine⟨by unfold Tm.sz at h1;omega,fun x hx=> ?_⟩
  have h5:=h4 x hx
  have h6:=h3 x hx
  have h7:=CP h6
  simp[vW,h6,h7];omega
theorem vX:∀ (l:List (Tm×Int)) (b:Bool),(aN (wK vJ (fun _ x=> !qQ x)) b l).2=l.all fun x=> !qQ x
 |[],b=>rfl
 |x::l,b=>by
  have e1:∀c,qQ x=c->wK vJ (fun _ x=> !qQ x) b x=(!c, !c):=fun c hc=>by show(!qQ x,(vJ (!qQ x)).isNone)=_;rw[hc];cases c<;>rfl
  rw[aN,List.all_cons]
  cases hv:qQ x with
  |false=>rw[e1 _ hv];simp[vX l]
  |true=>rw[e1 _ hv];simp
theorem oi{s:aB}{t:Tm}(h:gr s t=true):nI t=eV t:=by
 rw[nI,vX,EO t 1,Bool.eq_iff_iff]
 simp only[gr,Bool.and_eq_true,vV s t 1,List.all_eq_true]at h
 simp only[List.all_eq_true]
 refine forall_congr' fun x=>forall_congr' fun hx=> ?_
 have:=CP (h.2 x hx)
 simp[dQ]at this
 simp[qQ]
 omega
theorem pJ:∀a:Tm,iJ a a=true:=by
 refine Tm.fj fun a ih=> ?_
 rw[qM]
 have:ir a.kids a.kids=true:=(iu _ _ rfl).2 fun i x y hx hy=>by
  rw[hx]at hy;injection hy with hy;subst hy;exact ih x (List.mem_of_getElem? hx)
 simp[this]
theorem gu:∀a b:Tm,iJ a b=true↔a=b:=by
 refine Tm.fj fun a ih b=>⟨fun h=> ?_,fun e=>e ▸ pJ _⟩
 rw[qM]at h
 simp only[Bool.and_eq_true,beq_iff_eq]at h
 obtain⟨⟨⟨h1,h2⟩,h3⟩,h4⟩:=h
 have h5:=(iu _ _ h3).1 h4
 have:a.kids=b.kids:=by
  apply List.ext_getElem?
  intro i
  cases hx:a.kids[i]? with
  |none=>simp at hx;symm;simp;omega
  |some x=>
   have hi:=(List.getElem?_eq_some_iff.1 hx).1
   obtain⟨y,hy⟩:=aD (l:=b.kids) (k:=i) af
   rw[hy,(ih x (List.mem_of_getElem? hx) y).1 (h5 i x y hx hy)]
 rw[<- Tm.eta a, <- Tm.eta b,h1,h2,this]
section
def IW(l:List (D×D)):List (Int×D):=l.map fun p=>((match p.1 with| .int _ n=>n|_=>0),p.2)
def Wf(l:List (D×D)):Bool:=l.all fun p=>match p.1 with| .int .i64 _=>true|_=>false
@[go_sem] theorem adv (m:List (Int×D)):IW (enc (D.int .i64) m)=m:=by
  unfold IW enc;rw[List.map_map];simp[Function.comp_def]
@[go_sem] theorem adw (m:List (Int×D)):Wf (enc (D.int .i64) m)=true:=by simp[Wf,enc]
@[go_sem] theorem adx:Wf []=true:=rfl
@[go_sem] theorem ady:IW []=[]:=rfl
theorem Ah:∀ {l:List (D×D)},Wf l=true->enc (D.int .i64) (IW l)=l
 |[],_=>rfl
 |(k,x)::l,h=>by
  simp only[Wf,List.all_cons,Bool.and_eq_true]at h
  have ih:=Ah (l:=l) h.2
  obtain⟨n,h1⟩:∃n,k= .int .i64 n:=by
   have h1:=h.1
   split at h1
   ·exact⟨_,rfl⟩
   ·cases h1
  subst h1
  simp only[enc,IW,List.map_cons]at ih|-
  rw[ih]
def nJ(l:List Int):List (Int×D):=l.map fun n=>(n, .bool true)
@[go_sem] theorem acN:nJ []=[]:=rfl
def ef(l:List Int)(n:Int):List Int:=if l.contains n=true then l else l++[n]
theorem jM{l:List Int}{n k:Int}:k∈ef l n↔k∈l\/k=n:=by
 unfold ef
 split
 ·rename_i h
  have:n∈l:=by simpa using h
  constructor
  ·exact .inl
  ·rintro(h|rfl)<;>assumption
 ·simp
theorem EP{l:List Int}(n:Int)(h:l.Nodup):(ef l n).Nodup:=by
 unfold ef
 split
 ·exact h
 ·rename_i hn
  have hn:n∉l:=by simpa using hn
  rw[List.nodup_append]
  exact⟨h,aE,fun a ha b hb=>by simp at hb;subst hb;intro e;subst e;exact hn ha⟩
theorem qT:∀ (l:List Int) (n:Int) (i:Nat),jh n (nJ l) i=(l.findIdx? (· ==n)).map fun j=>(i+j,D.bool true)
 |[],n,i=>rfl
 |x::l,n,i=>by
  have ih:=qT l n (i+1)
  simp only[nJ,List.map_cons,jh,List.findIdx?_cons]at ih|-
  by_cases h:n=x
  ·subst h;simp
  ·have h2: ¬x=n:=fun e=>h e.symm
   simp only[beq_iff_eq,h,h2,if_false,ih,Option.map_map,Function.comp_def]
   congr 1;funext j;congr 1;omega
@[go_sem] theorem X5 (l:List Int) (n:Int):IG n (.bool true) (nJ l)=nJ (ef l n):=by
  unfold IG ef
  rw[qT]
  cases h:l.findIdx? (· ==n)with
  |none=>
   have:l.contains n=false:=by
    rw[List.findIdx?_eq_none_iff]at h
    rw[Bool.eq_false_iff];intro hc
    have:=h n (by simpa using hc)
    simp at this
   simp only[Option.map_none,this,Bool.false_eq_true,if_false]
   simp[nJ]
  |some j=>
   rw[List.findIdx?_eq_some_iff_getElem]at h
   obtain⟨hj,he,_⟩:=h
   have e:l[j]=n:=by simpa using he
   have:l.contains n=true:=by rw[List.contains_iff_mem, <- e];exact List.getElem_mem hj
   simp only[Option.map_some,this,if_true,Nat.zero_add]
   apply List.ext_getElem?
   intro k
   rw[List.getElem?_set]
   split
   ·rename_i hk;subst hk;simp[nJ,hj,e]
   ·rfl
def acO(l:List Int)(n:Int):List Int:=match l.findIdx? (· ==n)with|some j=>l.eraseIdx j|none=>l
theorem mg{α β:Type}(f:α->β):∀ (l:List α) (j:Nat),(l.map f).eraseIdx j=(l.eraseIdx j).map f
 |[],_=>rfl
 |_::_,0=>rfl
 |x::l,j+1=>by simp[mg f l j]
@[go_sem] theorem X6 (l:List Int) (n:Int):acK n (nJ l)=nJ (acO l n):=by
  unfold acK acO
  rw[qT]
  cases h:l.findIdx? (· ==n)with
  |none=>simp
  |some j=>simp only[Option.map_some,Nat.zero_add];exact mg _ _ _
section
variable {P:Program}{o:Nat->ad}{t:TypeId}{id:Nat}{n:Int}{v:V}
def sv(P:Program)(kt:TypeId):Bool:=match bK P kt with|some .int=>true|_=>false
theorem yx{kt:TypeId}(h:sv P kt=true):bK P kt=some .int:=by
 unfold sv at h;split at h
 ·assumption
 ·cases h
@[go_sem] theorem X7 {kt:TypeId} (h:bK P kt=some .int):sv P kt=true:=by unfold sv;rw[h]
def Wg(P:Program)(o:Nat->ad)(t:TypeId)(id:Nat)(n:Int)(v:V):Option fS:=
 match rO P t,dN o v,o id with
 |some (kt,_),some vd, .map FM FN l=>match sv P kt&&Wf l&&v.ids.all (· !=id)with
  |true=>some (.bP [],bw o v.ids++[(id, .map FM FN (enc (D.int .i64) (IG n vd (IW l))))],id::v.ids)
  |false=>qP P o t (.mp id) (.d (.int .i64 n)) v
 |_,_,_=>qP P o t (.mp id) (.d (.int .i64 n)) v
@[go_sem high] theorem Wh:fN P o t (.mp id) (.d (.int .i64 n)) v=Wg P o t id n v:=by
  unfold Wg
  split
  ·rename_i kt vt vd FM FN l h1 h2 h3
   split
   ·rename_i hc
    simp only[Bool.and_eq_true]at hc
    obtain⟨⟨c1,c2⟩,c3⟩:=hc
    have c4:=yx c1
    have c5:dN o (.d (.int .i64 n))=some (.int .i64 n):=rfl
    have hl:=Ah c2
    unfold fN
    simp only[h1,c5,h2,oQ,h3]
    rw[if_pos ⟨rfl,GL c4 n,rfl,c3⟩]
    conv=>lhs;rw[<- hl]
    rw[CK c4]
    unfold IG
    cases jh n (IW l) 0 with
    |none=>simp[w8,enc]
    |some p=>simp[w8,GM,D.same,oP]
   ·exact yq ..
  ·exact yq ..
attribute [go_sem] Wg
def X8(l:List (D×D)):Bool:=l.all fun p=>match p.2 with| .bool true=>true|_=>false
@[go_sem] theorem adz (l:List Int):X8 (enc (D.int .i64) (nJ l))=true:=by simp[X8,enc,nJ]
@[go_sem] theorem adA:X8 []=true:=rfl
theorem GO:∀ {m:List (Int×D)},X8 (enc (D.int .i64) m)=true->nJ (m.map (·.1))=m
 |[],_=>rfl
 |(k,x)::m,h=>by
  simp only[X8,enc,List.map_cons,List.all_cons,Bool.and_eq_true]at h
  have ih:=GO (m:=m) h.2
  have h1:x= .bool true:=by
   have h1:=h.1
   split at h1
   ·rfl
   ·cases h1
  simp only[nJ,List.map_cons]at ih|-
  rw[ih,h1]
def LQ(P:Program)(o:Nat->ad)(t:TypeId)(m:V)(n:Int)(ok:Bool):Option fS:=
 match rO P t with
 |some (kt,vt)=>match zeroV P vt with
  |some (.d (.bool false))=>match qc o m with
   |some (rd,l)=>match sv P kt&&Wf l&&X8 l with
    |true=>some (match ok with|true=> .bP [.d (.bool (((IW l).map (·.1)).contains n)), .d (.bool (((IW l).map (·.1)).contains n))]|false=> .d (.bool (((IW l).map (·.1)).contains n)),[],rd)
    |false=>vT P o t m (.d (.int .i64 n)) ok
   |none=>vT P o t m (.d (.int .i64 n)) ok
  |_=>vT P o t m (.d (.int .i64 n)) ok
 |none=>vT P o t m (.d (.int .i64 n)) ok
@[go_sem] theorem LR (l:List Int):((nJ l).map (·.1))=l:=by simp[nJ,Function.comp_def]
@[go_sem high] theorem acP {m:V} {ok:Bool}:jg P o t m (.d (.int .i64 n)) ok=LQ P o t m n ok:=by
  unfold LQ
  split
  ·rename_i kt vt h1
   split
   ·rename_i hz
    split
    ·rename_i rd l h
     split
     ·rename_i hc
      simp only[Bool.and_eq_true]at hc
      have c4:=yx hc.1.1
      have hl:=Ah hc.1.2
      have hs:nJ ((IW l).map (·.1))=IW l:=GO (by rw[hl];exact hc.2)
      have c5:dN o (.d (.int .i64 n))=some (.int .i64 n):=rfl
      unfold jg
      simp only[h1,c5,h]
      rw[if_pos ⟨rfl,GL c4 n⟩]
      conv=>lhs;rw[<- hl]
      rw[CK c4, <- hs,qT,LR]
      generalize (IW l).map (·.1)=l'
      cases hf:l'.findIdx? (· ==n)with
      |none=>
       have:l'.contains n=false:=by
        rw[List.findIdx?_eq_none_iff]at hf
        rw[Bool.eq_false_iff];intro hc
        have:=hf n (by simpa using hc)
        simp at this
       cases ok<;>simp only[Option.map_none,w8,hz,this,if_true,Bool.false_eq_true,if_false]
      |some j=>
       rw[List.findIdx?_eq_some_iff_getElem]at hf
       obtain⟨hj,he,_⟩:=hf
       have e:l'[j]=n:=by simpa using he
       have:l'.contains n=true:=by rw[List.contains_iff_mem, <- e];exact List.getElem_mem hj
       cases ok<;>simp only[Option.map_some,w8,this,if_true,Bool.false_eq_true,if_false]
     ·exact og ..
    ·exact og ..
   ·exact og ..
  ·exact og ..
attribute [go_sem] LQ
end
attribute [go_sem] List.head?_cons
end
mutual
def gv(v:Int):Tm->Bool
 | .mk op n kids=>if op=1 then n==v else Ai v op n kids 0
def Ai(v op n:Int):List Tm->Nat->Bool
 |[],_=>false
 |k::l,i=>(gv v k&& !(op==8&&i==1&&n==v))||Ai v op n l (i+1)
end
theorem sw(v:Int)(t:Tm):gv v t=if t.op=1 then t.n==v else Ai v t.op t.n t.kids 0:=by cases t;rfl
@[reducible] def IX (l:List Int):ad:= .map 3 4 (enc (D.int .i64) (nJ l))
def oF:List Int->Int->List Int
 |[],n=>[n]
 |x::l,n=>if x<n then x::oF l n else if x=n then x::l else n::x::l
def pK(op n:Int)(i:Nat)(l out:List Int):List Int:=l.foldl (fun out v=>if(op !=8||(i:Int)!=1||v !=n)=true then oF out v else out) out
mutual
def cX:Tm->List Int
 | .mk op n kids=>if op=1 then [n]else mh op n kids 0 []
def mh(op n:Int):List Tm->Nat->List Int->List Int
 |[],_,out=>out
 |k::l,i,out=>mh op n l (i+1) (pK op n i (cX k) out)
end
theorem qU(t:Tm):cX t=if t.op=1 then [t.n]else mh t.op t.n t.kids 0 []:=by cases t;rfl
theorem vY:∀ (l:List Int) (n v:Int),v∈oF l n↔v∈l\/v=n
 |[],n,v=>by simp[oF]
 |x::l,n,v=>by
  simp only[oF]
  split
  ·simp only[List.mem_cons,vY l n v];constructor
   ·rintro(h|h|h)
    ·exact .inl (.inl h)
    ·exact .inl (.inr h)
    ·exact .inr h
   ·rintro((h|h)|h)
    ·exact .inl h
    ·exact .inr (.inl h)
    ·exact .inr (.inr h)
  ·split
   ·rename_i h;subst h;simp only[List.mem_cons];constructor
    ·exact .inl
    ·rintro(h|h)
     ·exact h
     ·exact .inl h
   ·simp only[List.mem_cons];constructor
    ·rintro(h|h)
     ·exact .inr h
     ·exact .inl h
    ·rintro(h|h)
     ·exact .inr h
     ·exact .inl h
abbrev ER(l:List Int):Prop:=l.Pairwise (· <·)
theorem CQ:∀ {l:List Int} (n:Int),ER l->ER (oF l n)
 |[],n,_=>by simp[oF]
 |x::l,n,h=>by
  have h1:=List.pairwise_cons.1 h
  simp only[oF]
  split
  ·rename_i hx
   refine List.pairwise_cons.2 ⟨fun y hy=> ?_,CQ n h1.2⟩
   rcases(vY l n y).1 hy with hy|hy
   ·exact h1.1 y hy
   ·omega
  ·split
   ·exact h
   ·refine List.pairwise_cons.2 ⟨fun y hy=> ?_,h⟩
    rcases List.mem_cons.1 hy with hy|hy
    ·omega
    ·have:=h1.1 y hy;omega
theorem oj(op n:Int)(i:Nat):∀ (l out:List Int),ER out->ER (pK op n i l out)/\∀v,v∈pK op n i l out↔v∈out\/(v∈l/\ ¬ (op=8/\i=1/\n=v))
 |[],out,h=>⟨h,fun v=>by simp[pK]⟩
 |x::l,out,h=>by
  have hk:pK op n i (x::l) out=pK op n i l (if(op !=8||(i:Int)!=1||x !=n)=true then oF out x else out):=rfl
  rw[hk]
  by_cases hc:(op !=8||(i:Int)!=1||x !=n)=true
  ·rw[if_pos hc]
   have ih:=oj op n i l (oF out x) (CQ x h)
   refine⟨ih.1,fun v=> ?_⟩
   rw[ih.2 v,vY,List.mem_cons]
   have uM: ¬ (op=8/\i=1/\n=x):=by
    rintro⟨h1,h2,h3⟩;subst h1;subst h2;subst h3;simp at hc
   constructor
   ·rintro((h|h)|h)
    ·exact .inl h
    ·subst h;exact .inr ⟨.inl rfl,uM⟩
    ·exact .inr ⟨.inr h.1,h.2⟩
   ·rintro(h|⟨h|h,h2⟩)
    ·exact .inl (.inl h)
    ·exact .inl (.inr h)
    ·exact .inr ⟨h,h2⟩
  ·rw[if_neg hc]
   have ih:=oj op n i l out h
   refine⟨ih.1,fun v=> ?_⟩
   rw[ih.2 v,List.mem_cons]
   have uM:op=8/\i=1/\n=x:=by simp at hc;exact⟨hc.1.1,af,hc.2.symm⟩
   constructor
   ·rintro(h|h)
    ·exact .inl h
    ·exact .inr ⟨.inr h.1,h.2⟩
   ·rintro(h|⟨h|h,h2⟩)
    ·exact .inl h
    ·subst h;exact absurd uM h2
    ·exact .inr ⟨h,h2⟩
theorem dy:∀t:Tm,ER (cX t)/\∀v,v∈cX t↔gv v t=true:=by
 refine Tm.fj fun t ih=> ?_
 have hs:∀ (l:List Tm) (i:Nat) (out:List Int),(∀k∈l,k∈t.kids)->ER out->ER (mh t.op t.n l i out)/\∀v,v∈mh t.op t.n l i out↔v∈out\/Ai v t.op t.n l i=true:=by
  intro l
  induction l with
  |nil=>intro i out _ h;exact⟨h,fun v=>by simp[mh,Ai]⟩
  |cons k l V3=>
   intro i out hk h
   have h1:=ih k (hk k aE)
   have h2:=oj t.op t.n i (cX k) out h
   have h3:=V3 (i+1) _ (fun x hx=>hk x oL) h2.1
   refine⟨h3.1,fun v=> ?_⟩
   show v∈mh t.op t.n l (i+1) (pK t.op t.n i (cX k) out)↔_
   rw[h3.2 v,h2.2 v,h1.2 v,Ai]
   simp only[Bool.or_eq_true,Bool.and_eq_true,Bool.not_eq_true',Bool.and_eq_false_iff,beq_eq_false_iff_ne,ne_eq,not_and]
   have:(∀ (_:t.op=8) (_:i=1), ¬t.n=v)↔((¬t.op=8\/ ¬i=1)\/ ¬t.n=v):=by
    constructor
    ·intro h
     by_cases c1:t.op=8
     ·by_cases c2:i=1
      ·exact .inr (h c1 c2)
      ·exact .inl (.inr c2)
     ·exact .inl (.inl c1)
    ·rintro((h|h)|h) c1 c2
     ·exact absurd c1 h
     ·exact absurd c2 h
     ·exact h
   rw[this]
   constructor
   ·rintro((h|h)|h)
    ·exact .inl h
    ·exact .inr (.inl h)
    ·exact .inr (.inr h)
   ·rintro(h|h|h)
    ·exact .inl (.inl h)
    ·exact .inl (.inr h)
    ·exact .inr h
 by_cases h1:t.op=1
 ·rw[qU,if_pos h1]
  refine⟨aE,fun v=> ?_⟩
  rw[sw,if_pos h1]
  simp only[List.mem_singleton,beq_iff_eq]
  exact eq_comm
 ·rw[qU,if_neg h1]
  have:=hs t.kids 0 [] (fun _ h=>h) aE
  refine⟨this.1,fun v=> ?_⟩
  rw[this.2 v,sw,if_neg h1]
  simp
theorem LS:∀ {l l':List Int},ER l->ER l'->(∀v,v∈l↔v∈l')->l=l'
 |[],[],_,_,_=>rfl
 |[],y::l',_,_,h=>by have:=(h y).2 aE;cases this
 |x::l,[],_,_,h=>by have:=(h x).1 aE;cases this
 |x::l,y::l',h1,h2,h=>by
  have g1:=List.pairwise_cons.1 h1
  have g2:=List.pairwise_cons.1 h2
  have e:x=y:=by
   rcases List.mem_cons.1 ((h x).1 aE)with e|e
   ·exact e
   ·rcases List.mem_cons.1 ((h y).2 aE)with e2|e2
    ·exact e2.symm
    ·have:=g2.1 x e;have:=g1.1 y e2;omega
  subst e
  rw[LS g1.2 g2.2 fun v=> ?_]
  constructor
  ·intro hv
   rcases List.mem_cons.1 ((h v).1 (by simp[hv]))with e|e
   ·subst e;exact absurd (g1.1 v hv) af
   ·exact e
  ·intro hv
   rcases List.mem_cons.1 ((h v).2 (by simp[hv]))with e|e
   ·subst e;exact absurd (g2.1 v hv) af
   ·exact e
theorem pL{α:Type}{l:List α}{i:Nat}{n:α}(h:l[i]? =some n):(n::l.eraseIdx i).Perm l:=by
 obtain⟨hi,e⟩:=List.getElem?_eq_some_iff.1 h
 have QV:l=l.take i++n::l.drop (i+1):=by rw[<- e,List.getElem_cons_drop,List.take_append_drop]
 rw[List.eraseIdx_eq_take_drop_succ]
 conv=>rhs;rw[QV]
 exact List.perm_middle.symm
end Go.Proofs.YtlhemmpklhhgoaaGreat
section
namespace Go.Proofs.YtlhemmpklhhgoaaGreat
open Go.Sort Go.RowKit
def CS(P:Program)(g:FuncId):Prop:=∀ (eg off cap:Nat) (zs:List Int) (w:World),Holds (Value.int .i64) w eg off zs.toArray->eg<w.heap.size->zs.length<4611686018427387904->
    Calls P g #[.slice (some ⟨eg,off,none⟩) zs.length cap] w fun e w'=>
     e= .returned (.tuple #[])/\∃n os,w'=grow (putRow (Value.int .i64) (Sort.ahead w n) eg off (zs.mergeSort fun x y=>decide (x<=y)).toArray) os
def c6(l:List Int):List Int:=l.mergeSort fun x y=>decide (x<=y)
theorem GP{B:Nat->Prop}{w:World}:∀ (zs:List Int) (xs:List Value),eE B w 1 (zs.map (D.int .i64)) xs↔xs=zs.map (Value.int .i64):=by
 have hd:∀ (zs:List Int) (evs:List Value),D.aC B w (zs.map (D.int .i64)) evs↔evs=zs.map (Value.int .i64):=by
  intro zs
  induction zs with
  |nil=>intro evs;simp[D.aC]
  |cons z zs ih=>
   intro evs
   simp only[List.map_cons,D.aC]
   constructor
   ·rintro⟨v,vs,rfl,h1,h2⟩
    rw[(ih vs).1 h2]
    simp only[D.den]at h1
    rw[h1]
   ·intro h
    exact⟨_,_,h,rfl,(ih _).2 rfl⟩
 have hf:∀zs:List Int,(zs.map (Value.int .i64)).flatMap (·.cells.toList)=zs.map (Value.int .i64):=by
  intro zs
  induction zs with
  |nil=>rfl
  |cons z zs ih=>simp only[List.map_cons,List.flatMap_cons,ih];rfl
 intro zs xs
 constructor
 ·rintro⟨evs,h1,h2,h3⟩
  rw[h1,(hd zs evs).1 h3,hf]
 ·intro h
  subst h
  exact⟨_,(hf zs).symm,fun ev dk=>by
   obtain⟨z,_,rfl⟩:=List.mem_map.1 dk
   rfl,(hd zs _).2 rfl⟩
theorem LU{P:Program}{g:FuncId}(hE:Enters P g)(hS:CS P g){o:Nat->ad}{nx id ep:Nat}{ty:TypeId}{zs:List Int}(ho:o id= .arr ep ty 1 (zs.map (D.int .i64)))
 (hn:∀p cap w,Calls P g #[.slice p 0 cap] w fun e w'=>e= .returned (.tuple #[])/\w'=w)
 (hlen:zs.length<4611686018427387904) {K X:V->(Nat->ad)->Nat->Prop} (hK:K (.bP []) (ay o id (.arr ep ty 1 ((c6 zs).map (D.int .i64)))) nx):bQ P g [.osl id ep] o nx K X:=by
 refine⟨hE,fun M φ w vals hH hd=> ?_⟩
 obtain⟨val,us,kR,⟨v0,v1,v2⟩,dT⟩:=hd
 have dT:us=[]:=dT
 subst dT
 have fG:val=φ id:=(v2 ep (by show(o id).cq=some ep;rw[ho];rfl)).2 rfl
 have IY:vals=#[φ id]:=by rw[<- fG];exact Array.ext' (by simpa using kR)
 subst IY
 have Lc:=hH.ok id
 unfold aR at Lc
 rw[show(hp o nx).o id= .arr ep ty 1 (zs.map (D.int .i64))from ho]at Lc
 obtain⟨_,xs,dB,cZ⟩:=Lc
 have M9:=(GP zs xs).1 cZ
 subst M9
 simp only[List.length_map]at dB
 obtain⟨hl,TW|⟨b,cap,cur,eM,_,hg,fh,DY,hcs,acQ⟩⟩:=dB
 ·obtain⟨h1,h2⟩:=TW
  have hz:zs=[]:=List.length_eq_zero_iff.1 h2
  subst hz
  rw[h1]
  refine(hn none 0 w).mono ?_
  rintro e w' ⟨rfl,rfl⟩
  have xP:ay o id (.arr ep ty 1 ((c6 []).map (D.int .i64)))=o:=by
   funext j
   by_cases e:j=id
   ·subst e;rw[ab,ho,show c6 []=[] by simp[c6]]
   ·exact FH
  rw[xP]at hK
  exact⟨φ,o,nx, .bP [],hH,Trans.refl _ _ _,⟨#[],rfl,rfl⟩,hK⟩
 ·rw[eM]
  have hb:b<w.heap.size:=(Array.getElem?_eq_some_iff.1 hg).1
  have acR:∀j,j<zs.length->cur[j]? =some (.int .i64 zs[j]!):=by
   intro j hj
   have h1:(cur.toList.take (zs.length*1))[j]? =(zs.map (Value.int .i64))[j]? :=by rw[acQ]
   rw[List.getElem?_take_of_lt (by omega),List.getElem?_map,List.getElem?_eq_getElem hj]at h1
   simp only[Option.map_some]at h1
   rw[getElem!_pos zs j hj]
   simpa using h1
  refine(hS b 0 cap zs w (fun j hj=> ?_) hb hlen).mono ?_
  ·simp only[List.size_toArray]at hj
   refine⟨?_, ?_⟩
   ·unfold World.cell?
    simp only[hg,Option.isSome_none,Bool.false_eq_true,if_false,Nat.zero_add]
    rw[acR j hj];simp
   ·unfold World.frozen?
    simp[hg]
  rintro e w' ⟨rfl,n,os,rfl⟩
  have UO:(c6 zs).length=zs.length:=List.length_mergeSort zs
  have GI:∀k,k<w.heap.size->(grow (putRow (Value.int .i64) (Sort.ahead w n) b 0 (c6 zs).toArray) os).heap[k]? =(w.heap.modify b (onCells (putCells (Value.int .i64) 0 (c6 zs).toArray)))[k]? :=by
   intro k hk
   unfold grow putRow mapBlock Sort.ahead
   simp only
   rw[Array.getElem?_append_left (by simpa using hk)]
  have Ga:ei (· =b) w (grow (putRow (Value.int .i64) (Sort.ahead w n) b 0 (c6 zs).toArray) os):=by
   refine⟨rfl,rfl,rfl, ?_,fun k hk iZ=> ?_⟩
   ·unfold grow putRow mapBlock Sort.ahead;simp
   ·rw[GI k hk,Array.getElem?_modify,if_neg (fun e=>iZ e.symm)]
  have cV:((hp o nx).o id).live=true:=by show(o id).live=true;rw[ho];rfl
  have Ik:eg (φ id)=some b:=by rw[eM];rfl
  have TV:(grow (putRow (Value.int .i64) (Sort.ahead w n) b 0 (c6 zs).toArray) os).heap[b]? =some (.cells (putCells (Value.int .i64) 0 (c6 zs).toArray cur) ty (0,0)):=by
   rw[GI b hb,Array.getElem?_modify,if_pos rfl,hg];rfl
  have fg:(hp o nx).put [(id, .arr ep ty 1 ((c6 zs).map (D.int .i64)))]=hp (ay o id (.arr ep ty 1 ((c6 zs).map (D.int .i64)))) nx:=by
   have dT:id<nx:=v1
   simp only[Hp.put,hp]
   congr 1
   funext j
   simp only[List.map_cons,List.map_nil,List.mem_singleton,eq_iff_iff]
   exact⟨fun h=>h.elim (fun h=>h) (fun e=>e ▸ dT), .inl⟩
  have uH:aR M φ ((hp o nx).put [(id, .arr ep ty 1 ((c6 zs).map (D.int .i64)))]) (grow (putRow (Value.int .i64) (Sort.ahead w n) b 0 (c6 zs).toArray) os) id:=by
   unfold aR
   rw[show((hp o nx).put [(id, .arr ep ty 1 ((c6 zs).map (D.int .i64)))]).o id= .arr ep ty 1 ((c6 zs).map (D.int .i64)) by simp]
   refine⟨bu,(c6 zs).map (Value.int .i64), ?_,(GP _ _).2 rfl⟩
   simp only[List.length_map,UO]
   refine⟨by simp[UO], .inr ⟨b,cap,_,eM,Nat.zero_le _,TV,fh,DY, ?_, ?_⟩⟩
   ·unfold putCells;simpa using hcs
   ·apply List.ext_getElem?
    intro j
    by_cases hj:j<zs.length
    ·rw[List.getElem?_take_of_lt (by omega),List.getElem?_map,List.getElem?_eq_getElem (l:=c6 zs) (by omega)]
     have Q1:j<cur.size:=af
     unfold putCells
     simp only[Array.getElem?_toList,Array.getElem?_mapIdx,Option.map_some]
     rw[Array.getElem?_eq_getElem Q1]
     simp only[Option.map_some,Nat.zero_le,true_and,Nat.zero_add,List.size_toArray,Nat.sub_zero]
     rw[if_pos (by omega)]
     rw[getElem!_pos _ j (by simp;omega)]
     simp
    ·rw[List.getElem?_eq_none (by rw[List.length_take,Nat.mul_one];exact Nat.le_trans (Nat.min_le_left _ _) (Nat.not_lt.1 hj)),List.getElem?_eq_none (by rw[List.length_map,UO];exact Nat.not_lt.1 hj)]
  have SO:=gZ hH (id:=id) v1 cV Ik Ga (.arr ep ty 1 ((c6 zs).map (D.int .i64))) ND ND uH
  have RI:=eS (φ:=φ) (H:=hp o nx) (id:=id) v1 cV Ik Ga (.arr ep ty 1 ((c6 zs).map (D.int .i64))) ND ND
  rw[fg]at SO RI
  exact⟨φ,_,nx, .bP [],SO,RI,⟨#[],rfl,rfl⟩,hK⟩
end Go.Proofs.YtlhemmpklhhgoaaGreat
end
