/-
  A PART OF THE PROOF. Conditions: none.
-/
import Derived.Shelf.Sort.Plain
import Derived.Shelf.Slices.In.SortNone
import Derived.Test.YtlhemmpklhhgoaaGreatQa14
set_option linter.unusedSimpArgs false
set_option linter.unusedVariables false
namespace Go.Proofs.YtlhemmpklhhgoaaGreat
section
theorem BM{σ:Type}(l:List Tm)(hl:l.length<=9223372036854775807)(g:Nat)(bE:List V)(base:Nat)(H:σ->Nat->aa)(step:σ->Tm->σ×Bool)(hc:∀r∈V.aN bE,r<base)(ok:σ->Prop)(aS:∀x∈l,∀s,ok s->(step s x).2=true->ok (step s x).1)
 (h:∀x∈l,∀s,ok s->uO Tryz.prog g (.d x.d::bE) base (H s) (H (step s x).1) (.d (.bool (step s x).2))) (s:σ) (oK:ok s):
 uO Tryz.prog 169 [.d (.sl (l.map Tm.d)), .func (.func g) [] bE] base (H s) (H (aI step s l).1) (.d (.bool (aI step s l).2)):=by
 intro o nx hI K X hK
 have j9:∀r∈V.aN bE,r<nx:=fun r hr=>Nat.lt_of_lt_of_le (hc r hr) hI.le
 refine cO.aJ mix PJ aG ?_
 rw[SS]
 refine cn ?_
 refine aF (fun i:Nat×σ×(Nat->aa)×Nat=>⟨bf [.ab, .func (.func g) [] bE, .ab, .ab, .ab, .ab, .ab, .d (.sl (l.map Tm.d)), .d (.i l.length), .d (.i i.1)],i.2.2.1,i.2.2.2⟩)
  (fun i=>i.1<=l.length/\eY base (H i.2.1) i.2.2.1 i.2.2.2/\nx<=i.2.2.2/\(∀id,base<=id->id<nx->i.2.2.1 id=o id)/\aI step s l=aI step i.2.1 (l.drop i.1)/\ok i.2.1) (fun i=>l.length - i.1) (0,s,o,nx)
  ⟨Nat.zero_le _,hI,Nat.le_refl _,fun _ _ _=>rfl,rfl,oK⟩ ?_ ?_
 ·exact QQ
 rintro⟨k,s',o',nx'⟩ ⟨hk,K1,hn,cD,hf,uR⟩
 simp only at hk K1 hn cD hf uR
 refine cn ?_
 refine au (fun h1=> ?_) (fun h1=> ?_)
 ·simp at h1
  obtain⟨x,hx⟩:=aD h1
  have cL:=List.mem_of_getElem? hx
  have hd:l.drop k=x::l.drop (k+1):=by
   exact QK
  refine Qv hx ?_
  have hl0:=K1.le
  refine jS (h x cL s' uR _ _ (?_:eY base (H s') _ (nx'+7)) _ _ fun o2 n2 m1 m2 m3=> ?_)
  ·exact VK
  have JM:∀id,base<=id->id<nx->o2 id=o id:=fun id h2 h3=>by
   exact VW
  refine cn ?_
  refine au (fun h2=> ?_) (fun h2=> ?_)
  ·refine cn ?_
   simp at h2
   have:aI step s l=((step s' x).1,false):=by rw[hf,hd,aI,if_neg (by rw[h2];exact Bool.false_ne_true)]
   rw[this]at hK
   exact hK _ _ ae (m2.mono ae) JM
  ·refine cn ?_
   simp at h2
   have:aI step s l=aI step (step s' x).1 (l.drop (k+1)):=by rw[hf,hd,aI,if_pos h2]
   refine aq (k+1,(step s' x).1,o2,n2) ⟨h1,m2,by dsimp only;omega,JM,this,aS x cL s' uR h2⟩ pt ?_
   dsimp only
   have P9:∀r∈V.aN bE,r<n2:=fun r hr=>by have:=j9 r hr;omega
   refine bM.bH _ ae ae m2.cq (fun _ _=>rfl) ?_
   exact dU
 ·exact WA
theorem yX{α σ:Type}(step:σ->α->σ×Bool)(a b:List α):∀s,aI step s (a++b)=if(aI step s a).2=true then aI step (aI step s a).1 b else((aI step s a).1,false):=by
 induction a with
 |nil=>intro s;simp[aI]
 |cons x a ih=>
  intro s
  simp only[List.cons_append,aI]
  split
  ·exact ih _
  ·rename_i h;simp
theorem uS{α β σ:Type}(step:σ->β->σ×Bool)(f:α->List β)(l:List α):∀s,aI step s (l.flatMap f)=aI (fun s x=>aI step s (f x)) s l:=by
 induction l with
 |nil=>intro s;rfl
 |cons x l ih=>intro s;simp only[List.flatMap_cons,yX,aI,ih]
theorem zW{α σ:Type}{step:σ->α->σ×Bool}{ok:σ->Prop}:∀ (l:List α),(∀x∈l,∀s,ok s->(step s x).2=true->ok (step s x).1)->∀s,ok s->(aI step s l).2=true->ok (aI step s l).1
 |[],_,s,h,_=>h
 |x::l,aS,s,h,h2=>by
  simp only[aI]at h2|-
  split at h2
  ·rename_i hb
   rw[if_pos hb]
   exact zW l (fun y hy=>aS y mg) _ (aS x aG s h hb) h2
  ·cases h2
def RoC(P:Program)(tn:Nat)(args:List V)(base:Nat)(h h2:Nat->aa)(v:V):Prop:=
 ∀o nx,eY base h o nx->∀K X,StK base h2 v o nx K->dB P tn args o nx K X
section
variable {σ:Type}(base tn:Nat)(H:σ->Nat->aa)(step:σ->Tm×Int->σ×Bool)(ok:σ->Prop)
theorem MC:∀t:Tm,t.fits->∀d:Int,0<=d->d+t.l7<=1000000->(∀x∈pre t d,∀s,ok s->(step s x).2=true->ok (step s x).1)->(∀x∈pre t d,∀s,ok s->RoC Tryz.prog tn [.d x.1.d, .d (.i x.2)] base (H s) (H (step s x).1) (.d (.bool (step s x).2)))->tn<base->
 ∀ (c:Nat) (o0:Nat->aa) (yb vb:Nat),base<=c->base<=yb->yb<c->base<=vb->vb<c->o0 yb= .row [.kz tn]->o0 vb= .row [.func (.func 173) [] [.ptr yb 0, .ptr vb 0]]->
 ∀s,ok s->uO Tryz.prog 173 [.d t.d, .d (.i d), .ptr yb 0, .ptr vb 0] c (ext base (H s) o0) (ext base (H (aI step s (pre t d)).1) o0) (.d (.bool (aI step s (pre t d)).2)):=by
 refine Tm.fg fun t ih hf d hd0 hd aS hR Dx c o0 yb vb hbc hy0 hy hv0 hv oy ov s oK=> ?_
 have vV:=(Tm.bF _).1 hf
 intro o nx hI K X hK
 have hle:=hI.le
 have U3:o yb= .row [.kz tn]:=by rw[hI.eq yb hy];unfold ext;rw[if_neg (by omega),oy]
 have Tf:o vb= .row [.func (.func 173) [] [.ptr yb 0, .ptr vb 0]]:=by rw[hI.eq vb hv];unfold ext;rw[if_neg (by omega),ov]
 have y1:yb≠nx:=ae
 have y2:∀k,yb≠nx+k:=fun k=>ae
 have y3:vb≠nx:=ae
 have y4:∀k,vb≠nx+k:=fun k=>ae
 refine cO.aJ mix PN aG ?_
 rw[SX]
 simp+contextual only[go_sem,U3,Tf,y1,y2,y3,y4,Nat.add_assoc,Nat.left_eq_add,Nat.add_eq_left,Nat.add_left_cancel_iff]
 have oS:=mP t d
 have sL:∀k∈t.kids,∀x∈pre k (d+1),x∈pre t d:=fun k hk x hx=>by
  rw[oS];exact List.mem_cons_of_mem _ (List.mem_flatMap.2 ⟨k,hk,hx⟩)
 have hb:∀id,id<base->o id=H s id:=fun id aw=>by rw[hI.eq id (by omega)];unfold ext;rw[if_pos aw]
 have hIb:eY base (H s) o nx:=⟨hI.cq,ae,hb⟩
 refine sy (hR (t,d) (by rw[oS];simp) s oK _ _ ((hIb.aA (i:=nx) (m:=nx+6) ae ae ae rfl).aA (i:=nx+1) ae ae ae rfl) _ _ fun o2 n2 m1 m2 m3=> ?_)
 have k0:o2 nx= .row t.row:=by rw[m3 nx (by omega) (by omega),ag _ _ _ _ (by omega),ad]
 have k1:o2 (nx+1)= .row [.d (.i d)]:=by rw[m3 (nx+1) (by omega) (by omega),ad]
 have hold:∀id,base<=id->id<nx->o2 id=o id:=fun id h1 h2=>by rw[m3 id h1 (by omega),ag _ _ _ _ (by omega),ag _ _ _ _ (by omega)]
 have Hm:∀id,base<=id->id<c->o id=o0 id:=fun id h1 h2=>by rw[hI.eq id h2];unfold ext;rw[if_neg (by omega)]
 cases Ek:(step s (t,d)).2 with
 |false=>
  refine jX Ek ?_
  have vH:aI step s (pre t d)=((step s (t,d)).1,false):=by rw[oS,aI,if_neg (by rw[Ek];exact Bool.false_ne_true)]
  rw[vH]at hK
  refine hK _ _ ae ⟨m2.cq.mono ae,ae,fun id aw=> ?_⟩ (fun id h1 h2=>hold id ae h2)
  unfold ext
  split
  ·exact m2.eq id (by assumption)
  ·exact Lk
 |true=>
  have vH:aI step s (pre t d)=aI (fun s k=>aI step s (pre k (d+1))) (step s (t,d)).1 t.kids:=by rw[oS,aI,if_pos Ek,uS]
  simp+contextual only[go_sem,Ek,k0,k1]
  have q0:o2 yb= .row [.kz tn]:=by rw[hold yb hy0 (by omega),U3]
  have q1:o2 vb= .row [.func (.func 173) [] [.ptr yb 0, .ptr vb 0]]:=by rw[hold vb hv0 (by omega),Tf]
  have m0:=m2.le
  refine bp (BM t.kids vV.1 174 [.ptr vb 0, .ptr (nx+1) 0] n2 (fun s=>ext base (H s) o2) (fun s k=>aI step s (pre k (d+1))) ?_ ok ?_ ?_ (step s (t,d)).1 (aS (t,d) (by rw[oS];simp) s oK Ek) _ _ ?_ _ _ ?_)
  ·exact Ea
  ·exact V5
  ·intro k hk s' jC o3 n3 hI3 K3 X3 hK3
   have l3:=hI3.le
   have r0:o3 vb= .row [.func (.func 173) [] [.ptr yb 0, .ptr vb 0]]:=by rw[hI3.eq vb (by omega)];unfold ext;rw[if_neg (by omega),q1]
   have r1:o3 (nx+1)= .row [.d (.i d)]:=by rw[hI3.eq (nx+1) (by omega)];unfold ext;rw[if_neg (by omega),k1]
   have y5:vb≠n3:=ae
   have y6:∀k,vb≠n3+k:=fun k=>ae
   have y7:nx+1≠n3:=ae
   have y8:∀k,nx+1≠n3+k:=fun k=>ae
   have hh:=Tm.tc hk
   refine cO.aJ mix PO aG ?_
   rw[SY]
   simp+contextual only[go_sem,r0,r1,y5,y6,y7,y8]
   rw[wrap64 (n:=d+1) (by omega) (by omega)]
   refine bp (ih k hk (vV.2 k hk) (d+1) ae ae (fun x hx=>aS x (sL k hk x hx)) (fun x hx=>hR x (sL k hk x hx)) Dx n2 o2 yb vb ae hy0 ae hv0 ae q0 q1 s' jC _ _ (hI3.aA (i:=n3) (m:=n3+6) ae ae ae rfl) _ _ fun o4 n4 p1 p2 p3=> ?_)
   refine cn ?_
   refine hK3 _ _ ae (p2.mono ae) (fun id h1 h2=> ?_)
   rw[p3 id h1 (by omega),ag _ _ _ _ (by omega)]
  ·exact(m2.mono ae).ext ae ae
  ·intro o5 n5 p1 p2 p3
   refine cn ?_
   rw[<- vH]
   refine hK _ _ ae ⟨p2.cq.mono ae,ae,fun id aw=> ?_⟩ (fun id h1 h2=> ?_)
   ·rw[p2.eq id (by omega), <- vH]
    unfold ext
    split
    ·rfl
    ·exact Lk
   ·rw[p2.eq id (by omega)]
    unfold ext
    rw[if_neg (by omega),hold id (by omega) h2]
theorem JN(t:Tm)(hf:t.fits)(hd:t.l7<=900000)(aS:∀x∈pre t 1,∀s,ok s->(step s x).2=true->ok (step s x).1)(hR:∀x∈pre t 1,∀s,ok s->RoC Tryz.prog tn [.d x.1.d, .d (.i x.2)] base (H s) (H (step s x).1) (.d (.bool (step s x).2)))(Dx:tn<base)(tb:Nat)(HA:tb<base)(s:σ)(oK:ok s)(cN:H s tb= .row t.row):
 uO Tryz.prog 172 [.kz tn, .ptr tb 0] base (H s) (H (aI step s (pre t 1)).1) (.bN []):=by
 intro o nx hI K X hK
 have hle:=hI.le
 have ot:o tb= .row t.row:=by rw[hI.eq tb HA,cN]
 have y1:tb≠nx:=ae
 have y2:∀k,tb≠nx+k:=fun k=>ae
 refine cO.aJ mix PM aG ?_
 rw[SW]
 simp+contextual only[go_sem,ot,y1,y2,Nat.add_assoc,Nat.left_eq_add,Nat.add_eq_left,Nat.add_left_cancel_iff]
 have hI1:eY base (H s) (aA (aA (aA o nx (.row [.kz tn])) (nx+1) (.row [.d .b8])) (nx+1) (.row [.func (.func 173) [] [.ptr nx 0, .ptr (nx+1) 0]])) (nx+6):=by
  refine((hI.aA (i:=nx) (m:=nx+6) ae ae ae ?_).aA (i:=nx+1) (m:=nx+6) ae ae ae rfl).aA (i:=nx+1) ae ae ae ?_
  ·exact HN
  ·exact D6
 refine bp (MC base tn H step ok t hf 1 ae ae aS hR Dx (nx+6) _ nx (nx+1) ae hle ae ae ae ?_ ?_ s oK _ _ (hI1.ext (Nat.le_refl _) ae) _ _ ?_)
 ·exact dH
 ·exact dH
 intro o2 n2 m1 m2 m3
 refine cn ?_
 refine hK _ _ ae ⟨m2.cq,ae,fun id aw=> ?_⟩ (fun id h1 h2=> ?_)
 ·rw[m2.eq id (by omega)];unfold ext;rw[if_pos aw]
 ·exact N8
end
theorem uT(t:Tm)(o:Nat->aa)(nx:Nat)(K X:V->(Nat->aa)->Nat->Prop)(h:K (.func (.func 172) [] [.ptr nx 0]) (aA o nx (.row t.row)) (nx+4)):cO Tryz.prog 159 [.d t.d] o nx K X:=by
 refine cO.aJ mix PD aG ?_
 rw[SM]
 refine cn ?_
 exact h
end
def Qa:Option jA->fw
 |none=> .normal
 |some .ret=> .ret
 |some (.exit j)=> .exit j
def vI{σ:Type}(J:σ->Option jA)(step:σ->Tm×Int->σ)(s:σ)(x:Tm×Int):σ×Bool:=(step s x,(J (step s x)).isNone)
theorem yY{σ:Type}(J:σ->Option jA)(step:σ->Tm×Int->σ):∀ (l:List (Tm×Int)) (s:σ),J s=none->(aI (vI J step) s l).2=(J (aI (vI J step) s l).1).isNone
 |[],s,h=>by simp[aI,h]
 |x::l,s,h=>by
  simp only[aI]
  split
  ·rename_i hb
   exact yY J step l _ (by simpa[vI]using hb)
  ·rename_i hb
   cases hj:J (step s x)with
   |none=>exact absurd (by simp[vI,hj]) hb
   |some j=>simp[vI,hj]
theorem m4{σ:Type}(t:Tm)(hf:t.fits)(hd:t.l7<=900000){n bq:Nat}{gq:Operand}{ps:List Nat}{je eT:IC}{Q:fw->S->Prop}{e:Nat->V}{o:Nat->aa}{nx tb:Nat}(env:List V)(he:mX e env 0)
 (Jd:ps.all (fun t=>decide (t<n))=true) (hl:ps.length=2) (hg:Good o nx) (hrefs:∀r∈V.aN env,r<nx) (ht:o tb= .row t.row)
 (G:σ->Nat->aa) (J:σ->Option jA) (step:σ->Tm×Int->σ) (ok:σ->Prop) (s0:σ) (oK:ok s0) (hJ0:J s0=none) (h0:∀id,id<nx->o id=G s0 id) (aS:∀x∈pre t 1,∀s,ok s->J s=none->J (step s x)=none->ok (step s x))
 (uc:∀L,iG Tryz.prog n env ps je eT L->(∀st pd m,nx<=m->(L st pd).refs.all (fun r=>decide (r<m))=true)->∀x∈pre t 1,∀s,ok s->J s=none->∀o3 n3,eY nx (G s) o3 n3->nx<n3->o3 nx=L .ready none->∀K X,
  (∀e' o' n' st pd,n3<=n'->eY nx (G (step s x)) o' n'->o' nx=L st pd->(∀id,nx<id->id<n3->o' id=o3 id)->ku nx K X (Qa (J (step s x))) ⟨e',o',n'⟩)->
  kq Tryz.prog n n3 true je (rB Tryz.prog n n3 nx eT K X) ⟨qb (bf env) ps [.d x.1.d, .d (.i x.2)],o3,n3⟩)
 (il:∀o' n',eY nx (G (aI (vI J step) s0 (pre t 1)).1) o' n'->rh Q (J (aI (vI J step) s0 (pre t 1)).1) ⟨e,o',n'⟩):
 Bh Tryz.prog n bq false gq ps je eT Q ⟨e,o,nx⟩ (.func (.func 172) [] [.ptr tb 0]):=by
 refine JI env he (fun L hL=> ?_)
 have HA:tb<nx:=hg.lt (by rw[ht];exact aa.noConfusion)
 let H:σ->Nat->aa:=fun s id=>if id<nx then G s id else if id=nx then(match J s with|none=>L .ready none|some j=>L .done (some j))else .no
 have Hn:∀s id,id<nx->H s id=G s id:=fun s id h=>if_pos h
 have MD:∀s,J s=none->H s nx=L .ready none:=fun s h=>by show(if nx<nx then _ else _)=_;rw[if_neg (by omega),if_pos rfl,h]
 have Tg:∀s j,J s=some j->H s nx=L .done (some j):=fun s j h=>by show(if nx<nx then _ else _)=_;rw[if_neg (by omega),if_pos rfl,h]
 have D4:∀st pd m,nx<=m->(L st pd).refs.all (fun r=>decide (r<m))=true:=fun st pd m hm=>by
  exact NU
 refine JN (nx+1) nx H (vI J step) (fun s=>ok s/\J s=none) t hf hd (fun x hx s h1 h2=> ?_) (fun x hx s h1=> ?_) ae tb ae s0 ⟨oK,hJ0⟩ (by rw[Hn _ _ HA, <- h0 _ HA,ht]) _ _ ⟨?_,Nat.le_refl _,fun id aw=> ?_⟩ _ _ ?_
 ·have hj:J (step s x)=none:=by simpa[vI]using h2
  exact⟨aS x hx s h1.1 h1.2 hj,hj⟩
 ·intro o3 n3 hI K X hK
  have hle:=hI.le
  have Th:o3 nx=L .ready none:=by rw[hI.eq nx (by omega),MD s h1.2]
  refine BH hL mix Th ae Jd (by simp[hl]) ?_
  refine uc L hL D4 x hx s h1.1 h1.2 o3 n3 ⟨hI.cq,ae,fun id aw=>by rw[hI.eq id (by omega),Hn _ _ aw]⟩ ae Th K X (fun e' o' n' st pd k1 k2 k3 k4=> ?_)
  have key:∀st' pd' b,(J (step s x)).isNone=b->H (step s x) nx=L st' pd'->K (.d (.bool b)) (aA o' nx (L st' pd')) n':=fun st' pd' b hb hh=>by
   subst hb
   refine hK _ _ k1 ⟨k2.cq.aA ae (D4 _ _ _ ae),ae,fun id aw=> ?_⟩ (fun id g1 g2=> ?_)
   ·by_cases vP:id=nx
    ·subst vP;rw[ad];exact hh.symm
    ·rw[ag _ _ _ _ vP]
     show o' id=H (step s x) id
     rw[Hn _ _ (by omega)];exact k2.eq id ae
   ·rw[ag _ _ _ _ (by omega)];exact k4 id ae g2
  cases hj:J (step s x)with
  |none=>exact xw hL k3 (key _ _ _ wA (MD _ hj))
  |some j=>
   cases j with
   |ret=>exact uP hL k3 (key _ _ _ wA (Tg _ _ hj))
   |exit j=>exact sA hL k3 (key _ _ _ wA (Tg _ _ hj))
 ·exact(hg.mono ae).aA ae (D4 _ _ _ ae)
 ·by_cases vP:id=nx
  ·subst vP;rw[ad,MD _ hJ0]
  ·exact NJ
 ·intro o' n' k1 k2 k3
  have hle:=k2.le
  generalize hsf:(aI (vI J step) s0 (pre t 1)).1=sf at*
  have kk:∀st pd,eY nx (G sf) (aA o' nx (L st pd)) n':=fun st pd=>⟨k2.cq.aA ae (D4 _ _ _ ae),ae,fun id aw=>by rw[ag _ _ _ _ (by omega),k2.eq id (by omega),Hn _ _ aw]⟩
  cases hj:J sf with
  |none=>
   refine⟨.ready,none,by rw[k2.eq nx (by omega),MD _ hj],(fun h=>by cases h), ?_⟩
   have:=il _ _ (kk .exhausted none)
   rwa [hj]at this
  |some j=>
   refine⟨.done,some j,by rw[k2.eq nx (by omega),Tg _ _ hj],(fun h=>by cases h), ?_⟩
   have:=il _ _ (kk .exhausted (some j))
   rwa [hj]at this
theorem fZ(n low high:Int):aV Tryz.prog 146 [.i n, .i low, .i high] (.ret [.bool (dF n low high)]):=by
 refine aV.aJ mix Py aG ?_
 rw[SH]
 refine cn ?_
 rfl
theorem Dy(s:aB)(t:Tm)(h:t.op=1):aV Tryz.prog 194 [s.d,t.d] (.ret [.bool (bn s t)]):=by
 have hn:bn s t=(dF t.n 0 19&&(t.kids.length:Int)==0):=by simp[bn,h,Bool.and_comm]
 refine aV.aJ mix PS aG ?_
 rw[S1]
 exact QR
theorem GP(s:aB)(t:Tm)(h:t.op=2):aV Tryz.prog 195 [s.d,t.d] (.ret [.bool (bn s t)]):=by
 have hn:bn s t=(dF t.n (-1000000) 1000000&&(t.kids.length:Int)==0):=by simp[bn,h,Bool.and_comm]
 refine aV.aJ mix PT aG ?_
 rw[S2]
 exact QR
theorem aae(s:aB)(t:Tm)(h:t.op=8):aV Tryz.prog 199 [s.d,t.d] (.ret [.bool (bn s t)]):=by
 have hn:bn s t=(dF t.n 0 19&&(t.kids.length:Int)==2):=by simp[bn,h,Bool.and_comm]
 refine aV.aJ mix PX aG ?_
 rw[S6]
 exact QR
theorem Ti(s:aB)(t:Tm)(h:t.op=6\/t.op=7\/t.op=9\/t.op=10\/t.op=11\/t.op=12\/t.op=13\/t.op=14\/t.op=15):aV Tryz.prog 200 [s.d,t.d] (.ret [.bool (bn s t)]):=by
 have hn:bn s t=(t.n==0&&(t.kids.length:Int)==2):=by
  rcases h with h|h|h|h|h|h|h|h|h<;>simp[bn,h,dF,Bool.and_comm]
 refine aV.aJ mix PY aG ?_
 rw[S7]
 refine cn ?_
 rw[hn]
theorem aaf(s:aB)(t:Tm)(hs:s.Fits)(h:t.op=3):aV Tryz.prog 196 [s.d,t.d] (.ret [.bool (bn s t)]):=by
 have hn:bn s t=(dF t.n 0 (s.cons.length - 1)&&(t.kids.length:Int)==gS s.cons t.n):=by simp[bn,h]
 refine aV.aJ mix PU aG ?_
 rw[S3]
 refine cn ?_
 rw[wrap64 (by have:=hs.lc;omega) (by have:=hs.lc;omega)]
 refine aX (fZ _ _ _) rfl ?_
 cases hI:dF t.n 0 (s.cons.length - 1)with
 |false=>
  exact QP
 |true=>
  exact zw7
theorem aag(s:aB)(t:Tm)(hs:s.Fits)(h:t.op=4):aV Tryz.prog 197 [s.d,t.d] (.ret [.bool (bn s t)]):=by
 have hn:bn s t=(dF t.n 0 (s.cC.length - 1)&&(t.kids.length:Int)==gS s.cC t.n):=by simp[bn,h]
 refine aV.aJ mix PV aG ?_
 rw[S4]
 refine cn ?_
 rw[wrap64 (by have:=hs.lf;omega) (by have:=hs.lf;omega)]
 refine aX (fZ _ _ _) rfl ?_
 cases hI:dF t.n 0 (s.cC.length - 1)with
 |false=>
  exact QP
 |true=>
  exact zw7
theorem Tj(s:aB)(t:Tm)(hs:s.Fits)(h:t.op=5):aV Tryz.prog 198 [s.d,t.d] (.ret [.bool (bn s t)]):=by
 have hn:bn s t=(dF t.n 0 (s.cC.length - 1)&&decide ((t.kids.length:Int)<gS s.cC t.n)):=by simp[bn,h]
 refine aV.aJ mix PW aG ?_
 rw[S5]
 refine cn ?_
 rw[wrap64 (by have:=hs.lf;omega) (by have:=hs.lf;omega)]
 refine aX (fZ _ _ _) rfl ?_
 cases hI:dF t.n 0 (s.cC.length - 1)with
 |false=>
  exact QP
 |true=>
  exact zw7
@[reducible] def rf (n:Nat):V:= .func (.func n) [] []
@[reducible] def acA:List V:=[.d .b8,rf 194,rf 195,rf 196,rf 197,rf 198, .d .b8, .d .b8,rf 199, .d .b8, .d .b8, .d .b8, .d .b8, .d .b8, .d .b8, .d .b8]
@[reducible] def Dz:List V:=[.d .b8,rf 194,rf 195,rf 196,rf 197,rf 198,rf 200,rf 200,rf 199,rf 200,rf 200,rf 200,rf 200,rf 200,rf 200,rf 200]
def HJ(k:Nat):List V:=Dz.take k++acA.drop k
theorem funcOf{P:Program}{t:TypeId}(h:(match P.underlying t with|some (.func _ _ _)=>true|_=>false)=true):∃a b c,P.underlying t=some (.func a b c):=by
 split at h
 ·exact⟨_,_,_,by assumption⟩
 ·cases h
@[go_sem] theorem acB (o:Nat->aa) (mj:Bool):xW Tryz.prog o 209 mj (.d .b8) (.d .b8)=some (.d (.bool true)):=by
  exact NZ
@[go_sem] theorem acC (o:Nat->aa) (mj:Bool) (f:Fn) (x y:List V):xW Tryz.prog o 209 mj (.func f x y) (.d .b8)=some (.d (.bool false)):=by
  exact NZ
theorem ME(base:Nat)(h:Nat->aa):uO Tryz.prog 187 [] base h h (.agg Dz):=by
 intro o nx hI K X hK
 have hle:=hI.le
 refine cO.aJ mix PR aG ?_
 rw[S0]
 simp+contextual only[go_sem,Nat.add_assoc,Nat.left_eq_add,Nat.add_eq_left,Nat.add_left_cancel_iff]
 refine aF (fun k:Nat=>⟨bf [.ptr nx 0, .ptr (nx+2) 0, .ab, .ab, .d (.i k)],aA (aA o nx (.row (List.replicate 16 (.d .b8)))) (nx+2) (.row (HJ k)),nx+5⟩)
  (fun k=>k<=16) (fun k=>16 - k) 0 (Nat.zero_le _) ?_ (fun k hk=> ?_)
 ·refine bM.bH _ ae ae ?_ (fun id aw=> ?_) ?_
  ·exact((hI.cq.mono ae).aA ae rfl).aA ae rfl
  ·rw[tl];rfl
  ·exact dU
 have hg:∀k,k<16->Good (aA (aA o nx (.row (List.replicate 16 (.d .b8)))) (nx+2) (.row (HJ (k+1)))) (nx+5):=fun k hk=>
  ((hI.cq.mono ae).aA ae rfl).aA ae (by
    rcases(by omega:k=0\/k=1\/k=2\/k=3\/k=4\/k=5\/k=6\/k=7\/k=8\/k=9\/k=10\/k=11\/k=12\/k=13\/k=14\/k=15)with rfl|rfl|rfl|rfl|rfl|rfl|rfl|rfl|rfl|rfl|rfl|rfl|rfl|rfl|rfl|rfl<;>rfl)
 by_cases acD:k=16
 ·subst acD
  refine Vp ?_
  refine hK _ _ ?_ ⟨?_, ?_,fun id aw=> ?_⟩ (fun id h1 h2=> ?_)
  rotate_left
  ·exact(((hI.cq.mono ae).aA ae rfl).aA ae rfl).aA ae rfl
  ·omega
  ·(repeat(first|rfl|rw[ad]|rw[ag _ _ _ _ (by omega)]))
   exact hI.eq id aw
  ·exact dH
  ·omega
 ·have hgk:=hg k ae
  obtain⟨k1,LP⟩:∃k1,k1=k+1:=⟨_,rfl⟩
  rw[<- LP]at hgk
  rcases(by omega:k=0\/k=1\/k=2\/k=3\/k=4\/k=5\/k=6\/k=7\/k=8\/k=9\/k=10\/k=11\/k=12\/k=13\/k=14\/k=15)with rfl|rfl|rfl|rfl|rfl|rfl|rfl|rfl|rfl|rfl|rfl|rfl|rfl|rfl|rfl|rfl
  all_goals
   refine Vp ?_
   refine aq k1 ae ae (bM.bH _ ae ae hgk (fun id aw=> ?_) ?_)
   all_goals subst LP
   ·first|rfl|(rw[tl];rfl)
   ·exact dU
def JO(n:Int):Nat:=if n=1 then 194 else if n=2 then 195 else if n=3 then 196 else if n=4 then 197 else if n=5 then 198 else if n=8 then 199 else 200
theorem Tk(s:aB)(t:Tm)(hs:s.Fits)(h:dF t.op 1 15=true):aV Tryz.prog (JO t.op) [s.d,t.d] (.ret [.bool (bn s t)])/\Dz[t.op.toNat]? =some (rf (JO t.op))/\0<=t.op/\t.op<16:=by
 simp[dF]at h
 rcases(by omega:t.op=1\/t.op=2\/t.op=3\/t.op=4\/t.op=5\/t.op=8\/(t.op=6\/t.op=7\/t.op=9\/t.op=10\/t.op=11\/t.op=12\/t.op=13\/t.op=14\/t.op=15))with h|h|h|h|h|h|h
 ·exact⟨by rw[h];exact Dy s t h,by rw[h];rfl,ae,ae⟩
 ·exact⟨by rw[h];exact GP s t h,by rw[h];rfl,ae,ae⟩
 ·exact⟨by rw[h];exact aaf s t hs h,by rw[h];rfl,ae,ae⟩
 ·exact⟨by rw[h];exact aag s t hs h,by rw[h];rfl,ae,ae⟩
 ·exact⟨by rw[h];exact Tj s t hs h,by rw[h];rfl,ae,ae⟩
 ·exact⟨by rw[h];exact aae s t h,by rw[h];rfl,ae,ae⟩
 ·have hp:=Ti s t h
  rcases h with h|h|h|h|h|h|h|h|h<;>exact⟨by rw[h];exact hp,by rw[h];rfl,ae,ae⟩
def nS(s:aB)(n:Int)(x:Tm×Int):Bool:=decide (40<n+1)||decide (12<x.2)|| !dF x.1.op 1 15|| !bn s x.1
def gC(s:aB)(n:Int×Bool)(x:Tm×Int):Int×Bool:=(n.1+1, !nS s n.1 x)
def fJ(n:Int×Bool):Option jA:=if n.2=true then none else some .ret
def lK(s:aB)(t:Tm):Bool:=(aI (vI fJ (gC s)) (0,true) (pre t 1)).2
theorem JP(s:aB)(hs:s.Fits)(t:Tm)(hf:t.fits)(hd:t.l7<=900000):aV Tryz.prog 171 [s.d,t.d] (.ret [.bool (lK s t)]):=by
 refine aV.aJ mix PL aG ?_
 rw[SV]
 refine cn ?_
 refine cz (ME 3 _ _ _ (?_:eY 3 (aA (aA (aA (fun _=> .no) 0 (.row s.row)) 1 (.row t.row)) 2 (.row [.d (.bool false)])) _ 3) _ _ fun o2 n2 m1 m2 m3=> ?_)
 ·exact⟨dt,Nat.le_refl _,fun _ _=>rfl⟩
 have p0:o2 0= .row s.row:=m2.eq 0 ae
 have p1:o2 1= .row t.row:=m2.eq 1 ae
 have p2:o2 2= .row [.d (.bool false)]:=m2.eq 2 ae
 have e0:0≠n2:=ae
 have e1:1≠n2:=ae
 have e2:2≠n2:=ae
 have e3:∀k,0≠n2+k:=fun k=>ae
 have e4:∀k,1≠n2+k:=fun k=>ae
 have e5:∀k,2≠n2+k:=fun k=>ae
 simp+contextual only[go_sem,p0,p1,p2,e0,e1,e2,e3,e4,e5,Nat.add_assoc,Nat.left_eq_add,Nat.add_eq_left,Nat.add_left_cancel_iff]
 refine cz (uT t _ _ _ _ ?_)
 refine cn ?_
 have hG0:∀n,Good (aA (aA (aA (aA (aA (aA o2 n2 (.row (List.replicate 16 (.d .b8)))) (n2+1) (.row [.d (.i 0)])) n2 (.row Dz)) (n2+1) (.row [.d (.i 0)])) (n2+5) (.row t.row)) (n2+1) (.row [.d (.i n)])) (n2+9):=fun n=>by
  have hg:=m2.cq
  exact dt
 refine m4 t hf hd [.ab, .ab, .ptr 0 0, .ab, .ptr 2 0, .ptr n2 0, .ptr (n2+1) 0] ?_ cE rfl ?_ Ea (ad _ _ _)
  (fun s=>aA (aA (aA (aA (aA (aA o2 n2 (.row (List.replicate 16 (.d .b8)))) (n2+1) (.row [.d (.i 0)])) n2 (.row Dz)) (n2+1) (.row [.d (.i 0)])) (n2+5) (.row t.row)) (n2+1) (.row [.d (.i s.1)]))
  fJ (gC s) (fun s=>0<=s.1/\s.1<=40) (0,true) ⟨cE,cE⟩ rfl ?_ ?_ ?_ ?_
 ·exact Lh
 ·have hg:=m2.cq
  exact dt
 ·intro id aw
  by_cases h:id=n2+1
  ·exact V7
  ·rw[ag _ _ _ _ h];rfl
 ·intro x hx s' h1 h2 h3
  have:nS s s'.1 x=false:=by simpa[fJ,gC]using h3
  simp[nS]at this
  simp only[gC]
  omega
 ·intro L hL D4 x hx s' h1 h2 o3 n3 hI hn ho K X eg
  simp only[qb]
  have hg:=hI.cq
  have q0:o3 0= .row s.row:=by
   rw[hI.eq 0 (by omega)];(repeat(first|rfl|rw[ad]|rw[ag _ _ _ _ (by omega)]))
   exact p0
  have q2:o3 2= .row [.d (.bool false)]:=by
   exact WG
  have q3:o3 n2= .row Dz:=by rw[hI.eq n2 (by omega)];(repeat(first|rfl|rw[ad]|rw[ag _ _ _ _ (by omega)]))
  have q4:o3 (n2+1)= .row [.d (.i s'.1)]:=by rw[hI.eq (n2+1) (by omega)];(repeat(first|rfl|rw[ad]|rw[ag _ _ _ _ (by omega)]))
  have fin:∀ (o':Nat->aa) (n':Nat),(∀id,id<n2+5+4->o' id=aA o3 (n2+1) (.row [.d (.i (s'.1+1))]) id)->Good o' n'->n3<=n'->eY (n2+5+4) (aA (aA (aA (aA (aA (aA o2 n2 (.row (List.replicate 16 (.d .b8)))) (n2+1) (.row [.d (.i 0)])) n2 (.row Dz)) (n2+1) (.row [.d (.i 0)])) (n2+5) (.row t.row)) (n2+1) (.row [.d (.i (gC s s' x).1)])) o' n':=by
   intro o' n' k1 k2 k3
   refine⟨k2,ae,fun id aw=> ?_⟩
   rw[k1 id aw]
   by_cases h:id=n2+1
   ·subst h;rw[ad,ad];rfl
   ·rw[ag _ _ _ _ h,ag _ _ _ _ h,hI.eq id aw,ag _ _ _ _ h]
  refine cn ?_
  refine qh hL (pd:=none) ?_ ?_
  ·(repeat(first|rfl|rw[ad]|rw[ag _ _ _ _ (by omega)]))
   exact ho
  cases c1:decide (40<s'.1+1)with
  |true=>
   have hJ:fJ (gC s s' x)=some .ret:=by simp[fJ,gC,nS,c1]
   rw[hJ]at eg
   simp+contextual (disch:=first|omega|simp only[go_sem,false_implies]) only[go_sem,wrap64,if_pos,q0,q2,q3,q4,c1]
   exact zw1
  |false=>
  cases c2:decide (12<x.2)with
  |true=>
   have hJ:fJ (gC s s' x)=some .ret:=by simp[fJ,gC,nS,c2]
   rw[hJ]at eg
   refine FL q0 q2 q3 q4 c1 c2 ?_
   exact zw1
  |false=>
  cases c3:dF x.1.op 1 15 with
  |false=>
   have hJ:fJ (gC s s' x)=some .ret:=by simp[fJ,gC,nS,c3]
   rw[hJ]at eg
   refine FL q0 q2 q3 q4 c1 c2 ?_
   refine aX (fZ _ _ _) rfl ?_
   simp+contextual (disch:=first|omega|simp only[go_sem,false_implies]) only[go_sem,wrap64,if_pos,q0,q2,q3,q4,c1,c2,c3]
   exact zw1
  |true=>
  obtain⟨r1,r2,r3,r4⟩:=Tk s x.1 hs c3
  refine FL q0 q2 q3 q4 c1 c2 ?_
  refine aX (fZ _ _ _) rfl ?_
  simp+contextual (disch:=first|omega|simp only[go_sem,false_implies]) only[go_sem,wrap64,if_pos,q0,q2,q3,q4,c1,c2,c3,r2,r3,r4,Nat.mul_one]
  refine aX r1 rfl ?_
  simp+contextual (disch:=first|omega|simp only[go_sem,false_implies]) only[go_sem,wrap64,if_pos,q0,q2,q3,q4,c1,c2,c3]
  refine aL (bc rfl) ?_
  cases c4:bn s x.1 with
  |false=>
   have hJ:fJ (gC s s' x)=some .ret:=by simp[fJ,gC,nS,c4]
   rw[hJ]at eg
   simp+contextual (disch:=first|omega|simp only[go_sem,false_implies]) only[go_sem,wrap64,if_pos,q2,c4]
   refine eg _ _ _ .busy none ae (fin _ _ (fun id aw=>Qw) dt ae) dH (fun id h3 h4=>by(repeat(first|rfl|rw[ad]|rw[ag _ _ _ _ (by omega)])))
  |true=>
   have hJ:fJ (gC s s' x)=none:=by simp[fJ,gC,nS,c1,c2,c3,c4]
   rw[hJ]at eg
   simp+contextual (disch:=first|omega|simp only[go_sem,false_implies]) only[go_sem,wrap64,if_pos,c4]
   refine eg _ _ _ .busy none ae (fin _ _ (fun id aw=>Qw) dt ae) dH (fun id h3 h4=>by(repeat(first|rfl|rw[ad]|rw[ag _ _ _ _ (by omega)])))
 ·intro o' n' hI
  have q2:o' 2= .row [.d (.bool false)]:=by
   exact WG
  rw[show lK s t=(fJ (aI (vI fJ (gC s)) (0,true) (pre t 1)).1).isNone from yY _ _ _ _ rfl]
  generalize (aI (vI fJ (gC s)) (0,true) (pre t 1)).1=sf at*
  cases hj:fJ sf with
  |none=>
   simp only[rh]
   refine pk q2 ?_
   rfl
  |some j=>
   have:j= .ret:=by
    unfold fJ at hj;split at hj
    ·cases hj
    ·injection hj with hj;exact hj.symm
   subst this
   simp only[rh]
   refine pk q2 ?_
   rfl
section
def enc{κ:Type}(kf:κ->D)(m:List (κ×D)):List (D×D):=m.map fun p=>(kf p.1,p.2)
def iP{κ:Type}[BEq κ](k:κ):List (κ×D)->Nat->Option (Nat×D)
 |[],_=>none
 |p::m,i=>if(k==p.1)=true then some (i,p.2)else iP k m (i+1)
def GQ{κ:Type}[BEq κ](k:κ)(x:D)(m:List (κ×D)):List (κ×D):=match iP k m 0 with|some (i,_)=>m.set i (k,x)|none=>m++[(k,x)]
def aah{κ:Type}[BEq κ](k:κ)(m:List (κ×D)):List (κ×D):=match iP k m 0 with|some (i,_)=>m.eraseIdx i|none=>m
def v7(d:D)(r:Option (Nat×D)):Option (Nat×D×D):=match r with|some (i,x)=>some (i,d,x)|none=>none
@[go_sem] theorem U4 (d:D) (i:Nat) (x:D):v7 d (some (i,x))=some (i,d,x):=rfl
@[go_sem] theorem U5 (d:D):v7 d none=none:=rfl
section
variable {P:Program}{kt:TypeId}
theorem MF(h:bC P kt=some .int)(a b:Int):n6 P 100 kt (.int .i64 a) (.int .i64 b)=some (a==b):=by simp[n6,h]
theorem MG(h:bC P kt=some .str)(a b:List UInt8):n6 P 100 kt (.str a) (.str b)=some (a==b):=by simp[n6,h]
@[go_sem] theorem Fe (h:bC P kt=some .int) (a:Int):nP P 100 kt (.int .i64 a)=true:=by simp[nP,h]
@[go_sem] theorem aaU (h:bC P kt=some .str) (a:List UInt8):nP P 100 kt (.str a)=true:=by simp[nP,h]
theorem uU{κ:Type}[BEq κ][LawfulBEq κ](kf:κ->D)(he:∀a b,n6 P 100 kt (kf a) (kf b)=some (a==b))(k:κ):∀ (m:List (κ×D)) (i:Nat),findD P kt (kf k) (enc kf m) i=some (v7 (kf k) (iP k m i))
 |[],_=>rfl
 |p::m,i=>by
  have ih:=uU kf he k m (i+1)
  simp only[enc,List.map_cons,findD,he,iP]at ih|-
  by_cases h:k=p.1
  ·subst h;simp[v7]
  ·have:(k==p.1)=false:=by simpa using h
   simp only[this,Bool.false_eq_true,if_false];exact ih
@[go_sem] theorem BN (h:bC P kt=some .int) (k:Int) (m:List (Int×D)):findD P kt (.int .i64 k) (enc (.int .i64) m) 0=some (v7 (.int .i64 k) (iP k m 0)):=uU (.int .i64) (MF h) k m 0
@[go_sem] theorem aai (h:bC P kt=some .str) (k:List UInt8) (m:List (List UInt8×D)):findD P kt (.str k) (enc .str m) 0=some (v7 (.str k) (iP k m 0)):=uU .str (MG h) k m 0
end
section
variable {κ:Type}(kf:κ->D)
theorem JQ(m:List (κ×D))(k:κ)(x:D):enc kf m++[(kf k,x)]=enc kf (m++[(k,x)]):=by simp[enc]
theorem Ff(m:List (κ×D))(i:Nat)(k:κ)(x:D):(enc kf m).set i (kf k,x)=enc kf (m.set i (k,x)):=by simp[enc,List.map_set]
theorem xy:∀ (m:List (κ×D)) (i:Nat),(enc kf m).eraseIdx i=enc kf (m.eraseIdx i)
 |[],i=>rfl
 |p::m,0=>rfl
 |p::m,i+1=>by
  have:=xy m i
  simp only[enc,List.map_cons,List.eraseIdx_cons_succ]at this|-
  rw[this]
theorem MH(m:List (κ×D)):(((enc kf m).map (·.1)).zip ((enc kf m).map (·.2)))=enc kf m:=by
 induction m with
 |nil=>rfl
 |cons p m ih=>simp only[enc,List.map_cons,List.zip_cons_cons]at ih|-;rw[ih]
theorem GR{K:V->List (Nat×aa)->Prop}{id:Nat}{m:List (κ×D)}(h0:m=[]->K (.bN [.d (.bool false)]) [])
 (h1:∀ (i:Nat) k x,m[i]? =some (k,x)->K (.bN [.d (.bool true), .d (kf k), .d x]) [(id, .qS (enc kf (m.eraseIdx i)) (some (kf k,x)))]):EO K id (enc kf m):=by
 refine⟨fun h=>h0 ?_,fun i k x h=> ?_⟩
 ·cases m with
  |nil=>rfl
  |cons p m=>simp[enc]at h
 ·simp only[enc,List.getElem?_map]at h
  cases hm:m[i]? with
  |none=>rw[hm]at h;cases h
  |some p=>
   rw[hm]at h
   simp at h
   obtain⟨rfl,rfl⟩:=h
   have:=h1 i p.1 p.2 (by rw[hm])
   rwa [<- xy]at this
end
theorem BO{κ:Type}[BEq κ][LawfulBEq κ]{k:κ}:∀ {m:List (κ×D)} {i j:Nat} {x:D},iP k m i=some (j,x)->i<=j/\m[j - i]? =some (k,x)
 |[],_,_,_,h=>by cases h
 |p::m,i,j,x,h=>by
  simp only[iP]at h
  split at h
  ·rename_i hk
   injection h with h;injection h with h1 h2
   subst h1;subst h2
   exact⟨Nat.le_refl _,by simp[(by simpa using hk:k=p.1)]⟩
  ·obtain⟨h1,h2⟩:=BO h
   refine⟨ae, ?_⟩
   rw[show j - i=(j - (i+1))+1 by omega]
   simpa using h2
theorem xz{κ:Type}[BEq κ][LawfulBEq κ]{k:κ}:∀ {m:List (κ×D)} {i:Nat},iP k m i=none↔∀p∈m,p.1≠k
 |[],_=>by simp[iP]
 |p::m,i=>by
  simp only[iP]
  split
  ·rename_i hk
   simp[(by simpa using hk:k=p.1)]
  ·rename_i hk
   rw[xz]
   have:p.1≠k:=fun e=>hk (by simp[e])
   simp[this]
def qk(P:Program)(o:Nat->aa)(t:TypeId)(m k v:V):Option fG:=
 match qY P t,dL o k,dL o v,od o m with
 |some (kt,_),some kd,some vd,some (some (id,El,Em),l)=>if k.ids=[]/\nP P 100 kt kd=true/\j7 kd=true/\v.ids.all (· !=id)=true then match findD P kt kd l 0 with
  |some (some (i,k',_))=>if k'.same kd=true then some (.bN [],b7 o v.ids++[(id, .map El Em (l.set i (kd,vd)))],id::v.ids)else none
  |some none=>some (.bN [],b7 o v.ids++[(id, .map El Em (l++[(kd,vd)]))],id::v.ids)
  |none=>none
  else none
 |_,_,_,_=>none
@[go_sem low] theorem xA (P:Program) (o:Nat->aa) (t:TypeId) (m v:V) (k:D):ft P o t m (.d k) v=qk P o t m (.d k) v:=by unfold ft qk;rfl
def uV(P:Program)(o:Nat->aa)(t:TypeId)(m k:V)(ok:Bool):Option fG:=
 match qY P t,dL o k,pC o m with
 |some (kt,vt),some kd,some (rd,l)=>if k.ids=[]/\nP P 100 kt kd=true then match findD P kt kd l 0 with
  |some (some (_,_,x))=>some (if ok=true then .bN [.d x, .d (.bool true)]else .d x,[],rd)
  |some none=>match zeroV P vt with
   |some z=>some (if ok=true then .bN [z, .d (.bool false)]else z,[],rd)
   |none=>none
  |none=>none
  else none
 |_,_,_=>none
@[go_sem low] theorem nE (P:Program) (o:Nat->aa) (t:TypeId) (m:V) (k:D) (ok:Bool):iO P o t m (.d k) ok=uV P o t m (.d k) ok:=by unfold iO uV;rfl
attribute [go_sem] uV qk nr mm mn oe og mo pC od abd n9 j7 D.same
end
theorem dec_lt{l:List UInt8}{i:Nat}{b:UInt8}(hb:l[i]? =some b)(h:b.toNat<128):Utf8.decode ⟨⟨l⟩⟩ i=(b.toNat,1):=by
 have e:(ByteArray.mk ⟨l⟩).get! i=b:=by
  show(Array.mk l)[i]! =b
  simp[hb]
 simp only[Utf8.decode,Nat.add_zero,e]
 rw[if_pos h]
theorem Tl{l:List UInt8}{i:Nat}{b:UInt8}(hb:l[i]? =some b)(h:128<=b.toNat):128<=(Utf8.decode ⟨⟨l⟩⟩ i).1:=by
 have e:(ByteArray.mk ⟨l⟩).get! i=b:=by
  show(Array.mk l)[i]! =b
  simp[hb]
 simp only[Utf8.decode,Nat.add_zero,e]
 rw[if_neg (by omega)]
 split
 ·split<;>simp_all[Utf8.runeError]
 ·split
  ·split
   ·rename_i h3;simp at h3;omega
   ·simp[Utf8.runeError]
  ·split
   ·split
    ·rename_i h3;simp at h3;omega
    ·simp[Utf8.runeError]
   ·simp[Utf8.runeError]
def MI(r:Int):Bool:=decide (97<=r)&&decide (r<=122)||decide (65<=r)&&decide (r<=90)
theorem JR(b:UInt8):MI b.toNat=letterF b:=by
 rw[Bool.eq_iff_iff]
 simp[MI,letterF]
theorem GS(s:List UInt8)(hs:s.length<=9223372036854775807):aV Tryz.prog 145 [.str s] (.ret [.bool (jq s)]):=by
 refine aV.aJ mix Px aG ?_
 rw[SG]
 refine ma ?_
 refine aF (fun k:Nat=>⟨bf [.d (.str s), .ab, .ab, .ab, .ab, .ab, .ptr 2 0],aA (fun _=> .no) 2 (.xZ s k),3⟩)
  (fun k=>k<=s.length/\(s.take k).all letterF=true) (fun k=>s.length - k) 0 ⟨Nat.zero_le _,aG⟩ (bM.bH _ ae ae (Good.nil.aA ae rfl) (fun _ _=>rfl) ?_) (fun k hk=> ?_)
 ·exact dU
 by_cases h2:k<s.length
 ·obtain⟨b,hb⟩:=aD h2
  by_cases h3:b.toNat<128
  ·simp+contextual (disch:=first|omega|simp only[go_sem,false_implies]) only[go_sem,wrap64,if_pos,Nat.add_assoc,Nat.left_eq_add,Nat.add_eq_left,Nat.add_left_cancel_iff,h2,dec_lt hb h3]
   have hr:=JR b
   simp only[MI]at hr
   rw[hr]
   cases hl:letterF b with
   |true=>
    refine bJ ?_
    refine aq (k+1) ⟨h2,mY hb hk.2 hl⟩ ae (bM.bH _ ae ae (Good.nil.aA ae rfl) (fun _ _=>by rw[tl]) ?_)
    exact dU
   |false=>
    refine bJ ?_
    simp[jq,kN hb hl]
  ·have hr:letterF b=false:=by
    rw[<- JR];simp[MI];omega
   have hd:=Tl hb ae
   refine HC h2 ?_
   have:(decide (97<=((Utf8.decode ⟨⟨s⟩⟩ k).1:Int))&&decide (((Utf8.decode ⟨⟨s⟩⟩ k).1:Int)<=122)||decide (65<=((Utf8.decode ⟨⟨s⟩⟩ k).1:Int))&&decide (((Utf8.decode ⟨⟨s⟩⟩ k).1:Int)<=90))=false:=by
    rw[Bool.eq_false_iff];intro h;simp at h;omega
   rw[this]
   refine bJ ?_
   simp[jq,kN hb hr]
 ·refine HC h2 ?_
  refine aj (fZ _ _ _) rfl ?_
  refine bJ ?_
  rw[jq,mZ hk.2 (by omega),Bool.true_and]
theorem BP{σ:Type}(l:List jD)(hl:l.length<=9223372036854775807)(g:Nat)(bE:List V)(base:Nat)(H:σ->Nat->aa)(step:σ->jD->σ×Bool)(hc:∀r∈V.aN bE,r<base)(ok:σ->Prop)(aS:∀x∈l,∀s,ok s->(step s x).2=true->ok (step s x).1)
 (h:∀x∈l,∀s,ok s->uO Tryz.prog g (.d x.d::bE) base (H s) (H (step s x).1) (.d (.bool (step s x).2))) (s:σ) (oK:ok s):
 uO Tryz.prog 147 [.d (.sl (l.map jD.d)), .func (.func g) [] bE] base (H s) (H (aI step s l).1) (.d (.bool (aI step s l).2)):=by
 intro o nx hI K X hK
 have j9:∀r∈V.aN bE,r<nx:=fun r hr=>Nat.lt_of_lt_of_le (hc r hr) hI.le
 refine cO.aJ mix Pz aG ?_
 rw[SI]
 refine cn ?_
 refine aF (fun i:Nat×σ×(Nat->aa)×Nat=>⟨bf [.ab, .func (.func g) [] bE, .ab, .ab, .ab, .ab, .ab, .d (.sl (l.map jD.d)), .d (.i l.length), .d (.i i.1)],i.2.2.1,i.2.2.2⟩)
  (fun i=>i.1<=l.length/\eY base (H i.2.1) i.2.2.1 i.2.2.2/\nx<=i.2.2.2/\(∀id,base<=id->id<nx->i.2.2.1 id=o id)/\aI step s l=aI step i.2.1 (l.drop i.1)/\ok i.2.1) (fun i=>l.length - i.1) (0,s,o,nx)
  ⟨Nat.zero_le _,hI,Nat.le_refl _,fun _ _ _=>rfl,rfl,oK⟩ ?_ ?_
 ·exact QQ
 rintro⟨k,s',o',nx'⟩ ⟨hk,K1,hn,cD,hf,uR⟩
 simp only at hk K1 hn cD hf uR
 refine cn ?_
 refine au (fun h1=> ?_) (fun h1=> ?_)
 ·simp at h1
  obtain⟨x,hx⟩:=aD h1
  have cL:=List.mem_of_getElem? hx
  have hd:l.drop k=x::l.drop (k+1):=by
   exact QK
  refine Qv hx ?_
  have hl0:=K1.le
  refine jS (h x cL s' uR _ _ (?_:eY base (H s') _ (nx'+7)) _ _ fun o2 n2 m1 m2 m3=> ?_)
  ·exact VK
  have JM:∀id,base<=id->id<nx->o2 id=o id:=fun id h2 h3=>by
   exact VW
  refine cn ?_
  refine au (fun h2=> ?_) (fun h2=> ?_)
  ·refine cn ?_
   simp at h2
   have:aI step s l=((step s' x).1,false):=by rw[hf,hd,aI,if_neg (by rw[h2];exact Bool.false_ne_true)]
   rw[this]at hK
   exact hK _ _ ae (m2.mono ae) JM
  ·refine cn ?_
   simp at h2
   have:aI step s l=aI step (step s' x).1 (l.drop (k+1)):=by rw[hf,hd,aI,if_pos h2]
   refine aq (k+1,(step s' x).1,o2,n2) ⟨h1,m2,by dsimp only;omega,JM,this,aS x cL s' uR h2⟩ pt ?_
   dsimp only
   have P9:∀r∈V.aN bE,r<n2:=fun r hr=>by have:=j9 r hr;omega
   refine bM.bH _ ae ae m2.cq (fun _ _=>rfl) ?_
   exact dU
 ·exact WA
def oT(l:List (List UInt8)):List (List UInt8×D):=l.map fun s=>(s, .bool true)
theorem GU(l:List (List UInt8))(s:List UInt8):oT l++[(s, .bool true)]=oT (l++[s]):=by simp[oT]
theorem GV{l:List (List UInt8)}{s:List UInt8}{i:Nat}{x:D}(h:iP s (oT l) 0=some (i,x)):x= .bool true/\(oT l).set i (s, .bool true)=oT l/\l.any (· ==s)=true:=by
 obtain⟨_,h2⟩:=BO h
 rw[Nat.sub_zero]at h2
 simp only[oT,List.getElem?_map]at h2
 cases hl:l[i]? with
 |none=>rw[hl]at h2;cases h2
 |some y=>
  rw[hl]at h2
  simp at h2
  obtain⟨rfl,rfl⟩:=h2
  refine⟨rfl, ?_, ?_⟩
  ·apply List.ext_getElem?
   intro j
   rw[List.getElem?_set]
   split
   ·rename_i e;subst e
    obtain⟨bW,hy⟩:=List.getElem?_eq_some_iff.1 hl
    simp[oT,bW,hy]
   ·rfl
  ·exact List.any_eq_true.2 ⟨y,List.mem_of_getElem? hl,aG⟩
theorem GW{l:List (List UInt8)}{s:List UInt8}(h:iP s (oT l) 0=none):l.any (· ==s)=false:=by
 rw[xz]at h
 rw[List.any_eq_false]
 intro x hx hs
 have:=h (x, .bool true) (by simp[oT];exact hx)
 simp at hs;exact this hs
def MJ(bs:List (List UInt8))(x:jD):Bool:= !bs.any (· ==x.name)&&jq x.name&&dF x.args 0 4
def gX(bs:List (List UInt8))(x:jD):List (List UInt8)×Bool:=(if bs.any (· ==x.name)=true then bs else bs++[x.name],MJ bs x)
theorem Tn(x:jD)(hx:x.name.length<=9223372036854775807)(base mp id:Nat)(h:Nat->aa)(hmp:h mp= .row [.mp id])(h1:mp<base)(h2:id<base)(h3:id≠mp)(bs:List (List UInt8)):
 uO Tryz.prog 144 [.d x.d, .ptr mp 0] base (aA h id (.map 9 4 (enc .str (oT bs)))) (aA h id (.map 9 4 (enc .str (oT (gX bs x).1)))) (.d (.bool (gX bs x).2)):=by
 intro o nx hI K X hK
 have hle:=hI.le
 have hg:=hI.cq
 have q0:o mp= .row [.mp id]:=by rw[hI.eq mp h1,ag _ _ _ _ (by omega),hmp]
 have q1:o id= .map 9 4 (enc .str (oT bs)):=by rw[hI.eq id h2,ad]
 refine cO.aJ mix Pw aG ?_
 rw[SF]
 cases ha:iP x.name (oT bs) 0 with
 |none=>
  have hn:=GW ha
  have hs:gX bs x=(bs++[x.name],jq x.name&&dF x.args 0 4):=by simp[gX,MJ,hn]
  rw[hs]at hK
  refine Cz q0 q1 ha ?_
  refine aj (GS _ hx) rfl ?_
  refine bJ ?_
  refine gR (fR [.bool (dF x.args 0 4)] ?_ ?_)
  ·refine bJ ?_
   exact fun _=>fZ _ _ _
  refine bJ ?_
  rw[JQ,GU]
  refine hK _ _ ae ⟨dt,ae,fun j hj=> ?_⟩ (fun j g1 g2=>by(repeat(first|rfl|rw[ad]|rw[ag _ _ _ _ (by omega)])))
  ·by_cases e:j=id
   ·exact vL
   ·exact VU
 |some p=>
  obtain⟨i,y⟩:=p
  obtain⟨rfl,e1,hn⟩:=GV ha
  have hs:gX bs x=(bs,false):=by simp[gX,MJ,hn]
  rw[hs]at hK
  refine Cz q0 q1 ha ?_
  rw[Ff,e1]
  refine hK _ _ ae ⟨dt,ae,fun j hj=> ?_⟩ (fun j g1 g2=>by(repeat(first|rfl|rw[ad]|rw[ag _ _ _ _ (by omega)])))
  ·by_cases e:j=id
   ·exact vL
   ·exact VU
theorem oU:∀ (l:List jD) (bs:List (List UInt8)),match cc l bs with|some B=>aI gX bs l=(B,true)|none=>(aI gX bs l).2=false
 |[],bs=>rfl
 |x::l,bs=>by
  have ih:=oU l (bs++[x.name])
  simp only[cc,aI,gX,MJ]
  by_cases h1:bs.any (· ==x.name)=true
  ·simp[h1]
  ·simp only[Bool.not_eq_true]at h1
   simp only[h1,Bool.false_eq_true,if_false,Bool.not_false,Bool.true_and]
   by_cases h2:(jq x.name&&dF x.args 0 4)=true
   ·have h3: ¬ ((!jq x.name|| !dF x.args 0 4)=true):=by simp at h2;simp[h2]
    rw[if_neg h3,if_pos h2]
    exact ih
   ·have h3:(!jq x.name|| !dF x.args 0 4)=true:=by
     cases hn:jq x.name<;>simp_all
    rw[if_pos h3,if_neg h2]
def mc(ok:Bool):Int:=if ok=true then 0 else 2
@[reducible] def GX (s:aB) (bs:List (List UInt8)):Nat->aa:=aA (aA (aA (fun _=> .no) 0 (.row s.row)) 3 (.row [.mp 2])) 2 (.map 9 4 (enc .str (oT bs)))
theorem uW(s:aB)(hs:s.Fits):aV Tryz.prog 119 [s.d] (.ret [.i (mc (lH s))]):=by
 refine aV.aJ mix Pp aG ?_
 rw[Sy]
 refine ma ?_
 refine aj (fZ _ _ _) rfl ?_
 refine ma ?_
 cases h1:(!dF s.cons.length 2 12||decide (8<(s.cC.length:Int)))with
 |true=>
  have:lH s=false:=by simp only[lH,h1,if_true]
  refine pk h1 ?_
  simp[this,mc]
 |false=>
  have OA:=oU s.cons []
  have DA:∀ (l:List jD),(∀x∈l,x.name.length<=9223372036854775807)->∀x∈l,∀bs,True->uO Tryz.prog 144 (.d x.d::[.ptr 3 0]) 4 (GX s bs) (GX s (gX bs x).1) (.d (.bool (gX bs x).2)):=fun l hl x hx bs _=>
   Tn x (hl x hx) 4 3 2 (aA (aA (fun _=> .no) 0 (.row s.row)) 3 (.row [.mp 2])) (ad _ _ _) ae ae ae bs
  simp[dF]at h1
  obtain⟨a,b,r,hc⟩:∃a b r,s.cons=a::b::r:=by
   match h:s.cons with
   |[]=>exact Eh
   |[a]=>exact Eh
   |a::b::r=>exact⟨a,b,r,rfl⟩
  have eM:(!dF s.cons.length 2 12||decide (8<(s.cC.length:Int)))=false:=by simp[dF];omega
  have BK:lH s=if(!l8 a fB|| !l8 b tB)=true then false else match cc s.cons []with
   |none=>false
   |some l=>(cc s.cC l).isSome:=by
   unfold lH
   rw[if_neg (by rw[eM];exact Bool.false_ne_true),hc]
   dsimp only
   rfl
  refine pk eM ?_
  refine bp (BP s.cons hs.lc 144 [.ptr 3 0] 4 (GX s) gX wu (fun _=>True) (fun _ _ _ _ _=>trivial) (DA s.cons hs.nc) [] trivial _ _ ⟨?_,ae,fun id aw=> ?_⟩ _ _ fun o2 n2 m1 m2 m3=> ?_)
  ·exact dt
  ·rcases(by omega:id=0\/id=1\/id=2\/id=3)with rfl|rfl|rfl|rfl<;>rfl
  have p0:∀ {bs:List (List UInt8)} {o:Nat->aa} {n:Nat},eY 4 (GX s bs) o n->o 0= .row s.row:=fun h=>h.eq 0 ae
  have p3:∀ {bs:List (List UInt8)} {o:Nat->aa} {n:Nat},eY 4 (GX s bs) o n->o 3= .row [.mp 2]:=fun h=>h.eq 3 ae
  cases hn:cc s.cons []with
  |none=>
   rw[hn]at OA
   simp only at OA
   rw[OA]
   refine ma ?_
   rw[BK,hn]
   split<;>rfl
  |some B=>
   rw[hn]at OA
   simp only at OA
   rw[OA]at m2|-
   simp+contextual (disch:=first|omega|simp only[go_sem,false_implies]) only[go_sem,wrap64,if_pos,Nat.add_assoc,Nat.left_eq_add,Nat.add_eq_left,Nat.add_left_cancel_iff,p0 m2]
   refine bp (BP s.cC hs.lf 144 [.ptr 3 0] 4 (GX s) gX wu (fun _=>True) (fun _ _ _ _ _=>trivial) (DA s.cC hs.nf) B trivial _ _ (m2.mono ae) _ _ fun o4 n4 k1 k2 k3=> ?_)
   have K4:=oU s.cC B
   cases hf:cc s.cC B with
   |none=>
    rw[hf]at K4
    simp only at K4
    rw[K4]
    refine ma ?_
    rw[BK,hn]
    simp only[hf]
    split<;>rfl
   |some C=>
    rw[hf]at K4
    simp only at K4
    rw[K4]at k2|-
    simp+contextual (disch:=first|omega|simp only[go_sem,false_implies]) only[go_sem,wrap64,if_pos,Nat.add_assoc,Nat.left_eq_add,Nat.add_eq_left,Nat.add_left_cancel_iff,p0 k2,hc]
    have Qb:lH s= !(!l8 a fB|| !l8 b tB):=by
     rw[BK,hn];simp only[hf]
     cases(!l8 a fB|| !l8 b tB)<;>rfl
    refine au (fun h5=> ?_) (fun h5=> ?_)
    ·refine bJ ?_
     have Hr:(!l8 a fB|| !l8 b tB)=true:=h5
     rw[Qb,Hr];rfl
    ·refine bJ ?_
     have Hr:(!l8 a fB|| !l8 b tB)=false:=h5
     rw[Qb,Hr];rfl
def iH(s:aB)(l:List Tm):Bool:=lH s&&l.all (lK s)
theorem xB{α:Type}(p:α->Bool):∀ (l:List α) (u:Unit),aI (fun _ x=>((),p x)) u l=((),l.all p)
 |[],_=>rfl
 |x::l,u=>by
  simp only[aI,List.all_cons,xB p l]
  cases p x<;>rfl
theorem DB(l:List Tm)(hl:l.length<=9223372036854775807)(g:Nat)(bE:List V)(base:Nat)(h:Nat->aa)(p:Tm->Bool)(hc:∀r∈V.aN bE,r<base)
 (hp:∀x∈l,uO Tryz.prog g (.d x.d::bE) base h h (.d (.bool (p x)))):uO Tryz.prog 169 [.d (.sl (l.map Tm.d)), .func (.func g) [] bE] base h h (.d (.bool (l.all p))):=by
 have:=BM l hl g bE base (fun _:Unit=>h) (fun _ x=>((),p x)) hc (fun _=>True) (fun _ _ _ _ _=>trivial) (fun x hx _ _=>hp x hx) () trivial
 simpa only[xB]using this
structure Tm.Fin (t:Tm):Prop where
 fits:t.fits
 l7:t.l7<=900000
theorem JS(s:aB)(hs:s.Fits)(t:Tm)(ht:t.Fin)(base sp:Nat)(h:Nat->aa)(Og:h sp= .row s.row)(hb:sp<base):uO Tryz.prog 170 [.d t.d, .ptr sp 0] base h h (.d (.bool (lK s t))):=by
 intro o nx hI K X hK
 have hle:=hI.le
 have hg:=hI.cq
 have q0:o sp= .row s.row:=by rw[hI.eq sp hb,Og]
 refine cO.aJ mix PK aG ?_
 rw[SU]
 refine pk q0 ?_
 refine aj (JP s hs t ht.fits ht.l7) rfl ?_
 refine bJ ?_
 exact hK _ _ ae ⟨dt,ae,fun j hj=>by rw[ag _ _ _ _ (by omega),hI.eq j hj]⟩ (fun j g1 g2=>by(repeat(first|rfl|rw[ad]|rw[ag _ _ _ _ (by omega)])))
theorem MK(s:aB)(hs:s.Fits)(l:List Tm)(hl:l.length<=9223372036854775807)(hf:∀t∈l,t.Fin):aV Tryz.prog 158 [s.d, .sl (l.map Tm.d)] (.ret [.bool (iH s l)]):=by
 refine aV.aJ mix PC aG ?_
 rw[SL]
 refine bJ ?_
 refine aj (uW s hs) rfl ?_
 cases h1:lH s with
 |false=>
  refine Vt ?_
  simp[iH,h1]
 |true=>
  refine Vt ?_
  refine bp (DB l hl 170 [.ptr 0 0] 1 (aA (fun _=> .no) 0 (.row s.row)) (lK s) wu (fun x hx=>JS s hs x (hf x hx) 1 0 _ (ad _ _ _) ae) _ _ ⟨dt,ae,fun id aw=>rfl⟩ _ _ fun o2 n2 m1 m2 m3=> ?_)
  refine bJ ?_
  simp[iH,h1]
def ql(x:Tm×Int):Bool:=decide (3<x.1.op)&&x.1.op !=5
def vJ(b:Bool):Option jA:=if b=true then none else some .ret
def m5(t:Tm):Bool:=(aI (vI vJ (fun _ x=> !ql x)) true (pre t 1)).2
theorem GY(t:Tm)(ht:t.Fin):aV Tryz.prog 160 [t.d] (.ret [.bool (m5 t)]):=by
 refine aV.aJ mix PE aG ?_
 rw[SN]
 refine bJ ?_
 refine cz (uT t _ _ _ _ ?_)
 refine bJ ?_
 refine m4 t ht.fits ht.l7 [.ab, .ab, .ptr 1 0] ?_ cE rfl dt wu (ad _ _ _)
  (fun _=>aA (aA (aA (fun _=> .no) 0 (.row t.row)) 1 (.row [.d (.bool false)])) 3 (.row t.row)) vJ (fun _ x=> !ql x) (fun _=>True) true trivial rfl (fun id aw=>rfl) (fun _ _ _ _ _ _=>trivial) ?_ ?_
 ·exact Lh
 ·intro L hL D4 x hx s' h1 h2 o3 n3 hI hn ho K X eg
  simp only[qb]
  have hg:=hI.cq
  have q1:o3 1= .row [.d (.bool false)]:=hI.eq 1 ae
  refine bJ ?_
  refine qh hL (pd:=none) ?_ ?_
  ·(repeat(first|rfl|rw[ad]|rw[ag _ _ _ _ (by omega)]))
   exact ho
  refine bJ ?_
  have hv:ql x=(decide (3<x.1.op)&&x.1.op !=5):=rfl
  rw[<- hv]
  cases hb:ql x with
  |true=>
   rw[hb]at eg
   refine pk q1 ?_
   refine eg _ _ _ .busy none ae ⟨dt,ae,fun id aw=> ?_⟩ dH (fun id h3 h4=>by(repeat(first|rfl|rw[ad]|rw[ag _ _ _ _ (by omega)])))
   by_cases e:id=1
   ·exact vL
   ·rw[ag _ _ _ _ e];(repeat(first|rfl|rw[ad]|rw[ag _ _ _ _ (by omega)]))
    exact hI.eq id aw
  |false=>
   rw[hb]at eg
   refine bJ ?_
   refine eg _ _ _ .busy none ae ⟨dt,ae,fun id aw=> ?_⟩ dH (fun id h3 h4=>by(repeat(first|rfl|rw[ad]|rw[ag _ _ _ _ (by omega)])))
   (repeat(first|rfl|rw[ad]|rw[ag _ _ _ _ (by omega)]))
   exact hI.eq id aw
 ·intro o' n' hI
  have q1:o' 1= .row [.d (.bool false)]:=hI.eq 1 ae
  rw[show m5 t=(vJ (aI (vI vJ (fun _ x=> !ql x)) true (pre t 1)).1).isNone from yY _ _ _ _ rfl]
  generalize (aI (vI vJ (fun _ x=> !ql x)) true (pre t 1)).1=sf at*
  cases sf<;>(simp only[vJ,if_true,if_false,Bool.false_eq_true,rh];simp+contextual (disch:=first|omega|simp only[go_sem,false_implies]) only[go_sem,wrap64,if_pos,q1];rfl)
def Tm.BQ (t:Tm):Int:=(pre t 1).length
structure Tm.Cnt (t:Tm):Prop extends t.Fin where
 size:t.BQ<=1000000
theorem Tm.Fin.lW {t k:Tm}(h:t.Fin)(hk:k∈t.kids):k.Fin:=⟨((Tm.bF _).1 h.fits).2 k hk,by have:=Tm.tc hk;have:=h.l7;omega⟩
theorem sB:∀ (t:Tm) (d d':Int),(pre t d).length=(pre t d').length:=by
 refine Tm.fg fun t ih d d'=> ?_
 rw[mP,mP]
 simp only[List.length_cons,List.length_flatMap]
 congr 2
 exact List.map_congr_left fun k hk=>ih k hk _ _
theorem Tm.xC {t k:Tm}(hk:k∈t.kids):k.BQ+1<=t.BQ:=by
 simp only[Tm.BQ]
 rw[mP t,sB k 1 (1+1)]
 simp only[List.length_cons,List.length_flatMap]
 have:∀ (l:List Tm),k∈l->(pre k (1+1)).length<=(l.map fun k=>(pre k (1+1)).length).sum:=by
  intro l
  induction l with
  |nil=>intro h;cases h
  |cons x l ih=>
   intro h
   rcases List.mem_cons.1 h with rfl|h
   ·simp only[List.map_cons,List.sum_cons];omega
   ·have:=ih h;simp only[List.map_cons,List.sum_cons];omega
 have:=this _ hk
 omega
theorem Tm.Cnt.lW {t k:Tm}(h:t.Cnt)(hk:k∈t.kids):k.Cnt:=⟨h.toFin.lW hk,by have:=Tm.xC hk;have:=h.size;omega⟩
def Tm.sz (t:Tm):Nat:=(pre t 1).length
def qN(l:List Tm):Nat:=(l.map Tm.sz).sum
theorem Tm.BR (t:Tm):t.BQ=(t.sz:Int):=rfl
theorem Tm.jt (t:Tm):t.sz=1+qN t.kids:=by
 unfold Tm.sz qN
 rw[mP,List.length_cons,List.length_flatMap,Nat.add_comm]
 congr 2
 exact List.map_congr_left fun k hk=>sB k _ _
theorem qm(k:Tm)(l:List Tm):qN (k::l)=k.sz+qN l:=by simp[qN]
theorem Tm.rE (t:Tm):1<=t.sz:=by rw[Tm.jt];omega
theorem xD(k:Tm)(l:List Tm):Tm.iq (k::l)=Nat.max k.l7 (Tm.iq l):=by simp[Tm.iq]
theorem nF:∀ (l:List Tm) (n:Nat),Tm.iq l<=n↔∀k∈l,k.l7<=n
 |[],n=>by simp[Tm.iq]
 |x::l,n=>by
  rw[xD]
  simp only[List.mem_cons,forall_eq_or_imp, <- nF l n]
  exact Nat.max_le
theorem Tm.rF (t:Tm):t.l7=1+Tm.iq t.kids:=by cases t;simp[Tm.l7,Tm.kids]
theorem GZ:∀t:Tm,∀left depth:Int,gy t left depth=if(t.sz:Int)<=left/\(t.l7:Int)<=depth then left - t.sz else -1:=by
 refine Tm.fg fun t ih left depth=> ?_
 have hs:∀ (l:List Tm) (left d:Int),(∀k∈l,k∈t.kids)->0<=left->0<=d->bQ l left d=if(qN l:Int)<=left/\(Tm.iq l:Int)<=d then left - qN l else -1:=by
  intro l
  induction l with
  |nil=>intro left d _ h1 h2;simp[bQ,qN,Tm.iq,h1,h2]
  |cons k l Ta=>
   intro left d hk h1 h2
   simp only[bQ,if_pos h1]
   rw[ih k (hk k (by simp))]
   have hm:(Tm.iq (k::l):Int)<=d↔(k.l7:Int)<=d/\(Tm.iq l:Int)<=d:=by
    have:= @Nat.max_le k.l7 (Tm.iq l) d.toNat
    have e:Tm.iq (k::l)=max k.l7 (Tm.iq l):=xD k l
    rw[e];omega
   simp only[qm,hm]
   by_cases hc:(k.sz:Int)<=left/\(k.l7:Int)<=d
   ·rw[if_pos hc,Ta _ _ (fun x hx=>hk x (by simp[hx])) (by omega) h2]
    by_cases tQ:(qN l:Int)<=left - k.sz/\(Tm.iq l:Int)<=d
    ·rw[if_pos tQ,if_pos (by omega)];omega
    ·rw[if_neg tQ,if_neg (by omega)]
   ·rw[if_neg hc,lJ (by omega),if_neg (by omega)]
 rw[uQ,Tm.jt,Tm.rF]
 by_cases h:left<1\/depth<1
 ·rw[if_pos h,if_neg (by omega)]
 ·rw[if_neg h,hs _ _ _ (fun _ h=>h) (by omega) (by omega)]
  by_cases hc:(qN t.kids:Int)<=left - 1/\(Tm.iq t.kids:Int)<=depth - 1
  ·rw[if_pos hc,if_pos (by omega)];omega
  ·rw[if_neg hc,if_neg (by omega)]
theorem qn(t:Tm)(left depth:Int):0<=gy t left depth↔(t.sz:Int)<=left/\(t.l7:Int)<=depth:=by
 rw[GZ];split<;>omega
theorem uX(t:Tm):dS t=true↔t.sz<=50/\t.l7<=14:=by
 simp only[dS,decide_eq_true_eq,qn];omega
theorem G0:∀ (t:Tm) (d m:Int),(∀x∈pre t d,x.2<=m)↔d+t.l7 - 1<=m:=by
 refine Tm.fg fun t ih d m=> ?_
 rw[mP,Tm.rF]
 simp only[List.mem_cons,forall_eq_or_imp,List.mem_flatMap]
 have h1:(∀x:Tm×Int,(∃k,k∈t.kids/\x∈pre k (d+1))->x.2<=m)↔∀k∈t.kids,d+1+k.l7 - 1<=m:=by
  constructor
  ·intro h k hk
   exact(ih k hk _ _).1 fun x hx=>h x ⟨k,hk,hx⟩
  ·rintro h x ⟨k,hk,hx⟩
   exact(ih k hk _ _).2 (h k hk) x hx
 rw[h1]
 constructor
 ·rintro⟨h2,h3⟩
  have:=(nF t.kids (m - d).toNat).2 fun k hk=>by have:=h3 k hk;omega
  omega
 ·intro h
  have:=(nF t.kids (m - d).toNat).1 ae
  exact⟨ae,fun k hk=>by have:=this k hk;omega⟩
theorem Fg(p:Tm->Bool):∀ (t:Tm) (d:Int),(pre t d).all (fun x=>p x.1)=(p t&&t.kids.all fun k=>(pre k (d+1)).all fun x=>p x.1):=by
 intro t d
 rw[mP,List.all_cons,List.all_flatMap]
theorem uY(s:aB):∀ (t:Tm) (d:Int),gU s t=(pre t d).all fun x=>bn s x.1:=by
 refine Tm.fg fun t ih d=> ?_
 rw[Fg (bn s),kM]
 congr 1
 exact N3
theorem DC:∀ (t:Tm) (d:Int),dR t=(pre t d).all fun x=>(decide (1<=x.1.op)&&decide (x.1.op<=3))||x.1.op==5:=by
 refine Tm.fg fun t ih d=> ?_
 rw[Fg (fun t=>(decide (1<=t.op)&&decide (t.op<=3))||t.op==5),rC,Bool.and_comm]
 congr 1
 exact N3
theorem BS{s:aB}{t:Tm}(h:bn s t=true):dF t.op 1 15=true:=by
 rw[show dF t.op 1 15=true↔1<=t.op/\t.op<=15 by simp[dF]]
 by_cases h6:dF t.op 6 15=true
 ·simp[dF]at h6;omega
 ·simp only[bn,if_neg h6]at h
  by_cases h1:t.op=1
  ·omega
  by_cases h2:t.op=2
  ·omega
  by_cases h3:t.op=3
  ·omega
  by_cases h4:t.op=4
  ·omega
  by_cases h5:t.op=5
  ·omega
  by_cases h8:t.op=8
  ·omega
  rw[if_neg h1,if_neg h2,if_neg h3,if_neg h4,if_neg h5,if_neg h8]at h
  cases h
def uZ(s:aB)(x:Tm×Int):Bool:= !(decide (12<x.2)|| !dF x.1.op 1 15|| !bn s x.1)
theorem sC(s:aB):∀ (l:List (Tm×Int)) (n:Int) (b:Bool),(aI (vI fJ (gC s)) (n,b) l).2=(decide (l=[]\/n+l.length<=40)&&l.all (uZ s))
 |[],n,b=>by simp[aI]
 |x::l,n,b=>by
  have e1:∀c,nS s n x=c->vI fJ (gC s) (n,b) x=((n+1, !c), !c):=fun c hc=>by show((n+1, !nS s n x),(fJ (n+1, !nS s n x)).isNone)=_;rw[hc];cases c<;>rfl
  have hb:nS s n x=(decide (40<n+1)|| !uZ s x):=by simp[nS,uZ,Bool.or_assoc]
  rw[List.all_cons]
  cases hg:uZ s x with
  |false=>
   have e:nS s n x=true:=by rw[hb,hg];simp
   rw[aI,e1 _ e];simp
  |true=>
   by_cases h40:40<n+1
   ·have:decide (x::l=[]\/n+(x::l).length<=40)=false:=by simp;omega
    have e:nS s n x=true:=by rw[hb];simp[h40]
    rw[this,Bool.false_and,aI,e1 _ e];simp
   ·have e:nS s n x=false:=by rw[hb,hg];simp;omega
    rw[aI,e1 _ e]
    simp only[Bool.not_false,if_true,sC s l,Bool.true_and]
    congr 1
    cases l with
    |nil=>simp;omega
    |cons y l=>simp;omega
theorem oV(s:aB)(t:Tm):lK s t=ew s t:=by
 rw[lK,sC,ew,uY s t 1,Bool.eq_iff_iff]
 have hn:pre t 1≠[]:=by rw[mP];simp
 simp only[Bool.and_eq_true,decide_eq_true_eq,hn,false_or,qn,List.all_eq_true]
 have hd:=G0 t 1 12
 constructor
 ·rintro⟨h1,h2⟩
  have h3:∀x∈pre t 1,x.2<=12:=fun x hx=>by have:=h2 x hx;simp[uZ]at this;omega
  have:=hd.1 h3
  exact⟨⟨by unfold Tm.sz;omega,ae⟩,fun x hx=>by have:=h2 x hx;simp[uZ]at this;exact this.2⟩
 ·rintro⟨⟨h1,h2⟩,h3⟩
  have h4:=hd.2 ae
  refine⟨by unfold Tm.sz at h1;omega,fun x hx=> ?_⟩
  have h5:=h4 x hx
  have h6:=h3 x hx
  have h7:=BS h6
  simp[uZ,h6,h7];omega
theorem u0:∀ (l:List (Tm×Int)) (b:Bool),(aI (vI vJ (fun _ x=> !ql x)) b l).2=l.all fun x=> !ql x
 |[],b=>rfl
 |x::l,b=>by
  have e1:∀c,ql x=c->vI vJ (fun _ x=> !ql x) b x=(!c, !c):=fun c hc=>by show(!ql x,(vJ (!ql x)).isNone)=_;rw[hc];cases c<;>rfl
  rw[aI,List.all_cons]
  cases hv:ql x with
  |false=>rw[e1 _ hv];simp[u0 l]
  |true=>rw[e1 _ hv];simp
theorem nG{s:aB}{t:Tm}(h:ew s t=true):m5 t=dR t:=by
 rw[m5,u0,DC t 1,Bool.eq_iff_iff]
 simp only[ew,Bool.and_eq_true,uY s t 1,List.all_eq_true]at h
 simp only[List.all_eq_true]
 refine forall_congr' fun x=>forall_congr' fun hx=> ?_
 have:=BS (h.2 x hx)
 simp[dF]at this
 simp[ql]
 omega
theorem ju:∀a:Tm,ir a a=true:=by
 refine Tm.fg fun a ih=> ?_
 rw[qi]
 have:gV a.kids a.kids=true:=(gW _ _ rfl).2 fun i x y hx hy=>by
  rw[hx]at hy;injection hy with hy;subst hy;exact ih x (List.mem_of_getElem? hx)
 simp[this]
theorem fT:∀a b:Tm,ir a b=true↔a=b:=by
 refine Tm.fg fun a ih b=>⟨fun h=> ?_,fun e=>e ▸ ju _⟩
 rw[qi]at h
 simp only[Bool.and_eq_true,beq_iff_eq]at h
 obtain⟨⟨⟨h1,h2⟩,h3⟩,h4⟩:=h
 have h5:=(gW _ _ h3).1 h4
 have:a.kids=b.kids:=by
  apply List.ext_getElem?
  intro i
  cases hx:a.kids[i]? with
  |none=>simp at hx;symm;simp;omega
  |some x=>
   have hi:=(List.getElem?_eq_some_iff.1 hx).1
   obtain⟨y,hy⟩:=aD (l:=b.kids) (k:=i) ae
   rw[hy,(ih x (List.mem_of_getElem? hx) y).1 (h5 i x y hx hy)]
 rw[<- Tm.eta a, <- Tm.eta b,h1,h2,this]
section
def G1(l:List (D×D)):List (Int×D):=l.map fun p=>((match p.1 with| .int _ n=>n|_=>0),p.2)
def To(l:List (D×D)):Bool:=l.all fun p=>match p.1 with| .int .i64 _=>true|_=>false
@[go_sem] theorem aaV (m:List (Int×D)):G1 (enc (D.int .i64) m)=m:=by
  unfold G1 enc;rw[List.map_map];simp[Function.comp_def]
@[go_sem] theorem aaW (m:List (Int×D)):To (enc (D.int .i64) m)=true:=by simp[To,enc]
@[go_sem] theorem aaX:To []=true:=rfl
@[go_sem] theorem aaY:G1 []=[]:=rfl
theorem yZ:∀ {l:List (D×D)},To l=true->enc (D.int .i64) (G1 l)=l
 |[],_=>rfl
 |(k,x)::l,h=>by
  simp only[To,List.all_cons,Bool.and_eq_true]at h
  have ih:=yZ (l:=l) h.2
  obtain⟨n,h1⟩:∃n,k= .int .i64 n:=by
   have h1:=h.1
   split at h1
   ·exact⟨_,rfl⟩
   ·cases h1
  subst h1
  simp only[enc,G1,List.map_cons]at ih|-
  rw[ih]
def m6(l:List Int):List (Int×D):=l.map fun n=>(n, .bool true)
@[go_sem] theorem aaj:m6 []=[]:=rfl
def dT(l:List Int)(n:Int):List Int:=if l.contains n=true then l else l++[n]
theorem jv{l:List Int}{n k:Int}:k∈dT l n↔k∈l\/k=n:=by
 unfold dT
 split
 ·rename_i h
  have:n∈l:=by simpa using h
  constructor
  ·exact .inl
  ·rintro(h|rfl)<;>assumption
 ·simp
theorem DD{l:List Int}(n:Int)(h:l.Nodup):(dT l n).Nodup:=by
 unfold dT
 split
 ·exact h
 ·rename_i hn
  have hn:n∉l:=by simpa using hn
  rw[List.nodup_append]
  exact⟨h,aG,fun a ha b hb=>by simp at hb;subst hb;intro e;subst e;exact hn ha⟩
theorem qo:∀ (l:List Int) (n:Int) (i:Nat),iP n (m6 l) i=(l.findIdx? (· ==n)).map fun j=>(i+j,D.bool true)
 |[],n,i=>rfl
 |x::l,n,i=>by
  have ih:=qo l n (i+1)
  simp only[m6,List.map_cons,iP,List.findIdx?_cons]at ih|-
  by_cases h:n=x
  ·subst h;simp
  ·have h2: ¬x=n:=fun e=>h e.symm
   simp only[beq_iff_eq,h,h2,if_false,ih,Option.map_map,Function.comp_def]
   congr 1;funext j;congr 1;omega
@[go_sem] theorem U6 (l:List Int) (n:Int):GQ n (.bool true) (m6 l)=m6 (dT l n):=by
  unfold GQ dT
  rw[qo]
  cases h:l.findIdx? (· ==n)with
  |none=>
   have:l.contains n=false:=by
    rw[List.findIdx?_eq_none_iff]at h
    rw[Bool.eq_false_iff];intro hc
    have:=h n (by simpa using hc)
    simp at this
   simp only[Option.map_none,this,Bool.false_eq_true,if_false]
   simp[m6]
  |some j=>
   rw[List.findIdx?_eq_some_iff_getElem]at h
   obtain⟨hj,he,_⟩:=h
   have e:l[j]=n:=by simpa using he
   have:l.contains n=true:=by rw[List.contains_iff_mem, <- e];exact List.getElem_mem hj
   simp only[Option.map_some,this,if_true,Nat.zero_add]
   apply List.ext_getElem?
   intro k
   rw[List.getElem?_set]
   split
   ·rename_i hk;subst hk;simp[m6,hj,e]
   ·rfl
def aak(l:List Int)(n:Int):List Int:=match l.findIdx? (· ==n)with|some j=>l.eraseIdx j|none=>l
theorem lL{α β:Type}(f:α->β):∀ (l:List α) (j:Nat),(l.map f).eraseIdx j=(l.eraseIdx j).map f
 |[],_=>rfl
 |_::_,0=>rfl
 |x::l,j+1=>by simp[lL f l j]
@[go_sem] theorem U7 (l:List Int) (n:Int):aah n (m6 l)=m6 (aak l n):=by
  unfold aah aak
  rw[qo]
  cases h:l.findIdx? (· ==n)with
  |none=>simp
  |some j=>simp only[Option.map_some,Nat.zero_add];exact lL _ _ _
section
variable {P:Program}{o:Nat->aa}{t:TypeId}{id:Nat}{n:Int}{v:V}
def rG(P:Program)(kt:TypeId):Bool:=match bC P kt with|some .int=>true|_=>false
theorem xE{kt:TypeId}(h:rG P kt=true):bC P kt=some .int:=by
 unfold rG at h;split at h
 ·assumption
 ·cases h
@[go_sem] theorem U8 {kt:TypeId} (h:bC P kt=some .int):rG P kt=true:=by unfold rG;rw[h]
def Tp(P:Program)(o:Nat->aa)(t:TypeId)(id:Nat)(n:Int)(v:V):Option fG:=
 match qY P t,dL o v,o id with
 |some (kt,_),some vd, .map El Em l=>match rG P kt&&To l&&v.ids.all (· !=id)with
  |true=>some (.bN [],b7 o v.ids++[(id, .map El Em (enc (D.int .i64) (GQ n vd (G1 l))))],id::v.ids)
  |false=>qk P o t (.mp id) (.d (.int .i64 n)) v
 |_,_,_=>qk P o t (.mp id) (.d (.int .i64 n)) v
@[go_sem high] theorem Tq:ft P o t (.mp id) (.d (.int .i64 n)) v=Tp P o t id n v:=by
  unfold Tp
  split
  ·rename_i kt vt vd El Em l h1 h2 h3
   split
   ·rename_i hc
    simp only[Bool.and_eq_true]at hc
    obtain⟨⟨c1,c2⟩,c3⟩:=hc
    have c4:=xE c1
    have c5:dL o (.d (.int .i64 n))=some (.int .i64 n):=rfl
    have hl:=yZ c2
    unfold ft
    simp only[h1,c5,h2,od,h3]
    rw[if_pos ⟨rfl,Fe c4 n,rfl,c3⟩]
    conv=>lhs;rw[<- hl]
    rw[BN c4]
    unfold GQ
    cases iP n (G1 l) 0 with
    |none=>simp[v7,enc]
    |some p=>simp[v7,Ff,D.same,n9]
   ·exact xA ..
  ·exact xA ..
attribute [go_sem] Tp
def U9(l:List (D×D)):Bool:=l.all fun p=>match p.2 with| .bool true=>true|_=>false
@[go_sem] theorem aaZ (l:List Int):U9 (enc (D.int .i64) (m6 l))=true:=by simp[U9,enc,m6]
@[go_sem] theorem aa0:U9 []=true:=rfl
theorem Fh:∀ {m:List (Int×D)},U9 (enc (D.int .i64) m)=true->m6 (m.map (·.1))=m
 |[],_=>rfl
 |(k,x)::m,h=>by
  simp only[U9,enc,List.map_cons,List.all_cons,Bool.and_eq_true]at h
  have ih:=Fh (m:=m) h.2
  have h1:x= .bool true:=by
   have h1:=h.1
   split at h1
   ·rfl
   ·cases h1
  simp only[m6,List.map_cons]at ih|-
  rw[ih,h1]
def JT(P:Program)(o:Nat->aa)(t:TypeId)(m:V)(n:Int)(ok:Bool):Option fG:=
 match qY P t with
 |some (kt,vt)=>match zeroV P vt with
  |some (.d (.bool false))=>match pC o m with
   |some (rd,l)=>match rG P kt&&To l&&U9 l with
    |true=>some (match ok with|true=> .bN [.d (.bool (((G1 l).map (·.1)).contains n)), .d (.bool (((G1 l).map (·.1)).contains n))]|false=> .d (.bool (((G1 l).map (·.1)).contains n)),[],rd)
    |false=>uV P o t m (.d (.int .i64 n)) ok
   |none=>uV P o t m (.d (.int .i64 n)) ok
  |_=>uV P o t m (.d (.int .i64 n)) ok
 |none=>uV P o t m (.d (.int .i64 n)) ok
@[go_sem] theorem JU (l:List Int):((m6 l).map (·.1))=l:=by simp[m6,Function.comp_def]
@[go_sem high] theorem aal {m:V} {ok:Bool}:iO P o t m (.d (.int .i64 n)) ok=JT P o t m n ok:=by
  unfold JT
  split
  ·rename_i kt vt h1
   split
   ·rename_i hz
    split
    ·rename_i rd l h
     split
     ·rename_i hc
      simp only[Bool.and_eq_true]at hc
      have c4:=xE hc.1.1
      have hl:=yZ hc.1.2
      have hs:m6 ((G1 l).map (·.1))=G1 l:=Fh (by rw[hl];exact hc.2)
      have c5:dL o (.d (.int .i64 n))=some (.int .i64 n):=rfl
      unfold iO
      simp only[h1,c5,h]
      rw[if_pos ⟨rfl,Fe c4 n⟩]
      conv=>lhs;rw[<- hl]
      rw[BN c4, <- hs,qo,JU]
      generalize (G1 l).map (·.1)=l'
      cases hf:l'.findIdx? (· ==n)with
      |none=>
       have:l'.contains n=false:=by
        rw[List.findIdx?_eq_none_iff]at hf
        rw[Bool.eq_false_iff];intro hc
        have:=hf n (by simpa using hc)
        simp at this
       cases ok<;>simp only[Option.map_none,v7,hz,this,if_true,Bool.false_eq_true,if_false]
      |some j=>
       rw[List.findIdx?_eq_some_iff_getElem]at hf
       obtain⟨hj,he,_⟩:=hf
       have e:l'[j]=n:=by simpa using he
       have:l'.contains n=true:=by rw[List.contains_iff_mem, <- e];exact List.getElem_mem hj
       cases ok<;>simp only[Option.map_some,v7,this,if_true,Bool.false_eq_true,if_false]
     ·exact nE ..
    ·exact nE ..
   ·exact nE ..
  ·exact nE ..
attribute [go_sem] JT
end
attribute [go_sem] List.head?_cons
end
mutual
def fU(v:Int):Tm->Bool
 | .mk op n kids=>if op=1 then n==v else y0 v op n kids 0
def y0(v op n:Int):List Tm->Nat->Bool
 |[],_=>false
 |k::l,i=>(fU v k&& !(op==8&&i==1&&n==v))||y0 v op n l (i+1)
end
theorem rH(v:Int)(t:Tm):fU v t=if t.op=1 then t.n==v else y0 v t.op t.n t.kids 0:=by cases t;rfl
@[reducible] def G2 (l:List Int):aa:= .map 3 4 (enc (D.int .i64) (m6 l))
def nT:List Int->Int->List Int
 |[],n=>[n]
 |x::l,n=>if x<n then x::nT l n else if x=n then x::l else n::x::l
def oW(op n:Int)(i:Nat)(l out:List Int):List Int:=l.foldl (fun out v=>if(op !=8||(i:Int)!=1||v !=n)=true then nT out v else out) out
mutual
def cA:Tm->List Int
 | .mk op n kids=>if op=1 then [n]else lM op n kids 0 []
def lM(op n:Int):List Tm->Nat->List Int->List Int
 |[],_,out=>out
 |k::l,i,out=>lM op n l (i+1) (oW op n i (cA k) out)
end
theorem qp(t:Tm):cA t=if t.op=1 then [t.n]else lM t.op t.n t.kids 0 []:=by cases t;rfl
theorem u5:∀ (l:List Int) (n v:Int),v∈nT l n↔v∈l\/v=n
 |[],n,v=>by simp[nT]
 |x::l,n,v=>by
  simp only[nT]
  split
  ·simp only[List.mem_cons,u5 l n v];constructor
   ·rintro(h|h|h)
    ·exact .inl (.inl h)
    ·exact .inl (.inr h)
    ·exact .inr h
   ·rintro((h|h)|h)
    ·exact .inl h
    ·exact .inr (.inl h)
    ·exact .inr (.inr h)
  ·split
   ·rename_i h;subst h;simp only[List.mem_cons];constructor
    ·exact .inl
    ·rintro(h|h)
     ·exact h
     ·exact .inl h
   ·simp only[List.mem_cons];constructor
    ·rintro(h|h)
     ·exact .inr h
     ·exact .inl h
    ·rintro(h|h)
     ·exact .inr h
     ·exact .inl h
abbrev G3(l:List Int):Prop:=l.Pairwise (· <·)
theorem BT:∀ {l:List Int} (n:Int),G3 l->G3 (nT l n)
 |[],n,_=>by simp[nT]
 |x::l,n,h=>by
  have h1:=List.pairwise_cons.1 h
  simp only[nT]
  split
  ·rename_i hx
   refine List.pairwise_cons.2 ⟨fun y hy=> ?_,BT n h1.2⟩
   rcases(u5 l n y).1 hy with hy|hy
   ·exact h1.1 y hy
   ·omega
  ·split
   ·exact h
   ·refine List.pairwise_cons.2 ⟨fun y hy=> ?_,h⟩
    rcases List.mem_cons.1 hy with hy|hy
    ·omega
    ·have:=h1.1 y hy;omega
theorem nH(op n:Int)(i:Nat):∀ (l out:List Int),G3 out->G3 (oW op n i l out)/\∀v,v∈oW op n i l out↔v∈out\/(v∈l/\ ¬ (op=8/\i=1/\n=v))
 |[],out,h=>⟨h,fun v=>by simp[oW]⟩
 |x::l,out,h=>by
  have hk:oW op n i (x::l) out=oW op n i l (if(op !=8||(i:Int)!=1||x !=n)=true then nT out x else out):=rfl
  rw[hk]
  by_cases hc:(op !=8||(i:Int)!=1||x !=n)=true
  ·rw[if_pos hc]
   have ih:=nH op n i l (nT out x) (BT x h)
   refine⟨ih.1,fun v=> ?_⟩
   rw[ih.2 v,u5,List.mem_cons]
   have tQ: ¬ (op=8/\i=1/\n=x):=by
    rintro⟨h1,h2,h3⟩;subst h1;subst h2;subst h3;simp at hc
   constructor
   ·rintro((h|h)|h)
    ·exact .inl h
    ·subst h;exact .inr ⟨.inl rfl,tQ⟩
    ·exact .inr ⟨.inr h.1,h.2⟩
   ·rintro(h|⟨h|h,h2⟩)
    ·exact .inl (.inl h)
    ·exact .inl (.inr h)
    ·exact .inr ⟨h,h2⟩
  ·rw[if_neg hc]
   have ih:=nH op n i l out h
   refine⟨ih.1,fun v=> ?_⟩
   rw[ih.2 v,List.mem_cons]
   have tQ:op=8/\i=1/\n=x:=by simp at hc;exact⟨hc.1.1,ae,hc.2.symm⟩
   constructor
   ·rintro(h|h)
    ·exact .inl h
    ·exact .inr ⟨.inr h.1,h.2⟩
   ·rintro(h|⟨h|h,h2⟩)
    ·exact .inl h
    ·subst h;exact absurd tQ h2
    ·exact .inr ⟨h,h2⟩
theorem dm:∀t:Tm,G3 (cA t)/\∀v,v∈cA t↔fU v t=true:=by
 refine Tm.fg fun t ih=> ?_
 have hs:∀ (l:List Tm) (i:Nat) (out:List Int),(∀k∈l,k∈t.kids)->G3 out->G3 (lM t.op t.n l i out)/\∀v,v∈lM t.op t.n l i out↔v∈out\/y0 v t.op t.n l i=true:=by
  intro l
  induction l with
  |nil=>intro i out _ h;exact⟨h,fun v=>by simp[lM,y0]⟩
  |cons k l Ta=>
   intro i out hk h
   have h1:=ih k (hk k aG)
   have h2:=nH t.op t.n i (cA k) out h
   have h3:=Ta (i+1) _ (fun x hx=>hk x nY) h2.1
   refine⟨h3.1,fun v=> ?_⟩
   show v∈lM t.op t.n l (i+1) (oW t.op t.n i (cA k) out)↔_
   rw[h3.2 v,h2.2 v,h1.2 v,y0]
   simp only[Bool.or_eq_true,Bool.and_eq_true,Bool.not_eq_true',Bool.and_eq_false_iff,beq_eq_false_iff_ne,ne_eq,not_and]
   have:(∀ (_:t.op=8) (_:i=1), ¬t.n=v)↔((¬t.op=8\/ ¬i=1)\/ ¬t.n=v):=by
    constructor
    ·intro h
     by_cases c1:t.op=8
     ·by_cases c2:i=1
      ·exact .inr (h c1 c2)
      ·exact .inl (.inr c2)
     ·exact .inl (.inl c1)
    ·rintro((h|h)|h) c1 c2
     ·exact absurd c1 h
     ·exact absurd c2 h
     ·exact h
   rw[this]
   constructor
   ·rintro((h|h)|h)
    ·exact .inl h
    ·exact .inr (.inl h)
    ·exact .inr (.inr h)
   ·rintro(h|h|h)
    ·exact .inl (.inl h)
    ·exact .inl (.inr h)
    ·exact .inr h
 by_cases h1:t.op=1
 ·rw[qp,if_pos h1]
  refine⟨aG,fun v=> ?_⟩
  rw[rH,if_pos h1]
  simp only[List.mem_singleton,beq_iff_eq]
  exact eq_comm
 ·rw[qp,if_neg h1]
  have:=hs t.kids 0 [] (fun _ h=>h) aG
  refine⟨this.1,fun v=> ?_⟩
  rw[this.2 v,rH,if_neg h1]
  simp
theorem u6{α:Type}{l:List α}{i:Nat}{n:α}(h:l[i]? =some n):(n::l.eraseIdx i).Perm l:=by
 obtain⟨hi,e⟩:=List.getElem?_eq_some_iff.1 h
 have Og:l=l.take i++n::l.drop (i+1):=by rw[<- e,List.getElem_cons_drop,List.take_append_drop]
 rw[List.eraseIdx_eq_take_drop_succ]
 conv=>rhs;rw[Og]
 exact List.perm_middle.symm
end Go.Proofs.YtlhemmpklhhgoaaGreat
section
namespace Go.Proofs.YtlhemmpklhhgoaaGreat
open Go.Sort Go.RowKit
end Go.Proofs.YtlhemmpklhhgoaaGreat
end
section
namespace Go.Proofs.YtlhemmpklhhgoaaGreat
open Go.Shelf
end Go.Proofs.YtlhemmpklhhgoaaGreat
end
namespace Go.Proofs.YtlhemmpklhhgoaaGreat
end Go.Proofs.YtlhemmpklhhgoaaGreat
namespace Go.Proofs.YtlhemmpklhhgoaaGreat
theorem Ts{o:Nat->aa}{nx:Nat}{Δ:List (Nat×aa)}(h:∀x∈Δ,x.1<nx):(hp o nx).put Δ=hp (put o Δ) nx:=by
 simp only[Hp.put,hp]
 congr 1
 funext j
 simp only[List.mem_map,eq_iff_iff]
 exact⟨fun h2=>h2.elim (fun h=>h) fun⟨x,hx,e⟩=>e ▸ h x hx, .inl⟩
section
section
variable {B:Nat->Prop}{w:World}
end
end
@[reducible] def mpD (m:List (Int×D)):D:= .mp ((enc (D.int .i64) m).map (·.1)) ((enc (D.int .i64) m).map (·.2))
theorem nI(m:List (Int×D)):(((enc (D.int .i64) m).map (·.1)).zip ((enc (D.int .i64) m).map (·.2)))=enc (D.int .i64) m:=MH _ m
theorem G4:∀ {l:List Int},G3 l->l.Nodup:=by
 intro l h
 exact List.Pairwise.imp (fun h=>ae) h
theorem JV(a b:List Tm)(ha:a.length<=9223372036854775807)(hb:b.length<=9223372036854775807)(g:Nat)(h:∀x∈a,∀y∈b,aV Tryz.prog g [x.d,y.d] (.ret [.bool (ir x y)]))(o:Nat->aa)(nx:Nat)(hg:Good o nx)(K X:V->(Nat->aa)->Nat->Prop)
 (hK:∀o' nx',nx<=nx'->Good o' nx'->(∀j,j<nx->o' j=o j)->K (.d (.bool (a.length==b.length&&gV a b))) o' nx'):
 cO Tryz.prog 133 [.d (.sl (a.map Tm.d)), .d (.sl (b.map Tm.d)), .func (.func g) [] []] o nx K X:=by
 refine cO.aJ mix Pv aG ?_
 rw[SE]
 refine ma ?_
 refine au (fun h1=> ?_) (fun h1=> ?_)
 ·refine bJ ?_
  have:(a.length==b.length&&gV a b)=false:=by
   have:(a.length==b.length)=false:=by
    rw[Bool.eq_false_iff];intro h
    simp at h;simp[h]at h1
   rw[this];rfl
  rw[this]at hK
  exact hK _ _ ae (hg.mono ae) (fun _ _=>rfl)
 ·have hl:a.length=b.length:=by simp at h1;omega
  have Ez:(a.length==b.length)=true:=by simpa using hl
  rw[Ez,Bool.true_and]at hK
  refine ma ?_
  refine aF (fun k:Nat=>⟨bf [.d (.sl (a.map Tm.d)), .d (.sl (b.map Tm.d)), .func (.func g) [] [], .ab, .ab, .ab, .ab, .ab, .ab, .ab, .ab, .ab, .ab, .ab, .ab, .d (.sl (a.map Tm.d)), .d (.i a.length), .d (.i k)],o,nx⟩)
   (fun k=>k<=a.length/\∀i,i<k->∀x y,a[i]? =some x->b[i]? =some y->ir x y=true) (fun k=>a.length - k) 0 ⟨Nat.zero_le _,fun i h=>ae⟩ (bM.bH _ (Nat.le_refl _) ae hg (fun _ _=>rfl) ?_) (fun k hk=> ?_)
  ·exact dU
  refine bJ ?_
  refine au (fun h2=> ?_) (fun h2=> ?_)
  ·simp at h2
   obtain⟨x,hx⟩:=aD h2
   obtain⟨y,hy⟩:=aD (l:=b) (k:=k) ae
   refine Qr hx hy ?_
   refine aj (h x (List.mem_of_getElem? hx) y (List.mem_of_getElem? hy)) rfl ?_
   refine bJ ?_
   refine au (fun h3=> ?_) (fun h3=> ?_)
   ·refine bJ ?_
    simp at h3
    have:gV a b=false:=by
     rw[Bool.eq_false_iff];intro h4
     have:=(gW _ _ hl).1 h4 k x y hx hy
     rw[h3]at this;cases this
    rw[this]at hK
    refine hK _ _ ae ?_ (fun j hj=>by(repeat(first|rfl|rw[ad]|rw[ag _ _ _ _ (by omega)])))
    exact dt
   ·refine bJ ?_
    simp at h3
    refine aq (k+1) ⟨h2,fun i hi u v hu hv=> ?_⟩ ae (bM.bH _ (Nat.le_refl _) ae hg (fun j hj=>by(repeat(first|rfl|rw[ad]|rw[ag _ _ _ _ (by omega)]))) ?_)
    ·by_cases e:i=k
     ·subst e
      rw[hx]at hu;rw[hy]at hv
      exact NF
     ·exact hk.2 i ae u v hu hv
    ·exact dU
  ·refine bJ ?_
   simp at h2
   have:gV a b=true:=(gW _ _ hl).2 fun i x y hx hy=>hk.2 i (by have:=(List.getElem?_eq_some_iff.1 hx).1;omega) x y hx hy
   rw[this]at hK
   exact hK _ _ ae (hg.mono ae) (fun _ _=>rfl)
theorem Tt(n:Int):aV Tryz.prog 80 [.i n] (.ret [(Tm.mk 1 n []).d]):=by
 refine aV.aJ mix YC aG ?_
 rw[c80]
 refine bJ ?_
 rw[Tm.Mc]
 rfl
def lk:List (Int×Int)->Int->Option Int
 |[],_=>none
 |p::m,v=>if p.1=v then some p.2 else lk m v
abbrev Keys(m:List (Int×Int)):Prop:=(m.map (·.1)).Nodup
def ints(m:List (Int×Int)):List (Int×D):=m.map fun p=>(p.1,D.i p.2)
def bL:List (Int×Tm)->Int->Option Tm
 |[],_=>none
 |p::l,v=>if p.1=v then some p.2 else bL l v
mutual
def Tm.wf:Tm->Prop
 | .mk op _ kids=>(op=1->kids=[])/\(op=8->kids.length=2)/\Tm.wfs kids
def Tm.wfs:List Tm->Prop
 |[]=>True
 |k::l=>k.wf/\Tm.wfs l
end
theorem Tm.Fi:∀l:List Tm,Tm.wfs l↔∀k∈l,k.wf
 |[]=>by simp[Tm.wfs]
 |k::l=>by simp[Tm.wfs,Tm.Fi l]
theorem Tm.DE (t:Tm):t.wf↔(t.op=1->t.kids=[])/\(t.op=8->t.kids.length=2)/\∀k∈t.kids,k.wf:=by cases t;simp[Tm.wf,Tm.Fi,Tm.op,Tm.kids]
theorem Tu{t:Tm}(h:t.kids.length=2):∃a b,t.kids=[a,b]:=by
 match hk:t.kids with
 |[a,b]=>exact⟨a,b,rfl⟩
 |[]=>rw[hk]at h;cases h
 |[_]=>rw[hk]at h;cases h
 |_::_::_::_=>rw[hk]at h;simp at h
theorem qq{b:List (Int×Tm)}{v:Int}:bL b v=none↔v∉b.map (·.1):=by
 induction b with
 |nil=>simp[bL]
 |cons p l ih=>
  simp only[bL,List.map_cons,List.mem_cons,not_or]
  split
  ·rename_i h;simp[h]
  ·rename_i h;rw[ih];exact⟨fun h2=>⟨fun e=>h e.symm,h2⟩,fun h2=>h2.2⟩
theorem cB{b:List (Int×Tm)}{v:Int}{x:Tm}(h:bL b v=some x):(v,x)∈b:=by
 induction b with
 |nil=>cases h
 |cons p l ih=>
  simp only[bL]at h
  split at h
  ·rename_i e;injection h with h;subst h;subst e;exact List.mem_cons_self ..
  ·exact List.mem_cons_of_mem _ (ih h)
theorem m7{b:List (Int×Tm)}(hb:(b.map (·.1)).Nodup){v:Int}{x:Tm}:bL b v=some x↔(v,x)∈b:=by
 refine⟨cB,fun h=> ?_⟩
 induction b with
 |nil=>cases h
 |cons p l ih=>
  rw[List.map_cons,List.nodup_cons]at hb
  simp only[bL]
  rcases List.mem_cons.1 h with e|h
  ·subst e;simp
  ·rw[if_neg (fun e=>hb.1 (by rw[e];exact List.mem_map.2 ⟨_,h,rfl⟩)),ih hb.2 h]
def BU(b:Bool)(x:Tm×Int):Bool:=b&&x.1.op !=1
def Qc(t:Tm):Bool:=(pre t 1).all fun x=>x.1.op !=1
theorem sD:∀ (l:List (Tm×Int)) (b:Bool),(aI (vI (fun _=>none) BU) b l).1=(b&&l.all fun x=>x.1.op !=1)
 |[],b=>by simp[aI]
 |x::l,b=>by
  have e1:vI (fun _=>(none:Option jA)) BU b x=(BU b x,true):=rfl
  rw[aI,e1]
  simp only[if_true]
  rw[sD l,BU,List.all_cons,Bool.and_assoc]
theorem DF(s:aB)(hs:s.Fits)(t:Tm)(ht:t.Fin):aV Tryz.prog 129 [s.d,t.d] (.ret [.bool (iH s [t]&&m5 t), .bool (iH s [t]&&m5 t&&Qc t), .i (mc (iH s [t]))]):=by
 refine aV.aJ mix Pt aG ?_
 rw[SC]
 refine bJ ?_
 refine aj (MK s hs [t] aG (fun x hx=>by simp at hx;subst hx;exact ht)) rfl ?_
 cases h1:iH s [t]with
 |false=>simp+contextual (disch:=first|omega|simp only[go_sem,false_implies]) only[go_sem,wrap64,if_pos,and_self];simp[mc]
 |true=>
  refine ma ?_
  refine cz (uT t _ _ _ _ ?_)
  refine ma ?_
  refine m4 (σ:=Bool) t ht.fits ht.l7 [.ab, .ab, .ab, .ptr 1 0, .ab, .ab, .ab, .ptr 10 0] ?_ cE rfl dt wu (ad _ _ _)
   (fun b=>aA (aA (aA (aA (aA (fun _=> .no) 0 (.row s.row)) 1 (.row t.row)) 7 (.arr 0 33 3 [t.d])) 10 (.row [.d (.bool b)])) 13 (.row t.row)) (fun _=>none) BU (fun _=>True) true trivial rfl (fun id aw=> ?_) (fun _ _ _ _ _ _=>trivial) ?_ ?_
  ·exact Lh
  ·rw[tl]
  ·intro L hL D4 x hx s' h1 h2 o3 n3 hI hn ho K X eg
   simp only[qb]
   have hg:=hI.cq
   have q1:o3 10= .row [.d (.bool s')]:=hI.eq 10 ae
   refine bJ ?_
   refine qh hL (pd:=none) ?_ ?_
   ·(repeat(first|rfl|rw[ad]|rw[ag _ _ _ _ (by omega)]))
    exact ho
   refine pk q1 ?_
   refine eg _ _ _ .busy none ae ⟨dt,ae,fun id aw=> ?_⟩ dH (fun id h3 h4=>by(repeat(first|rfl|rw[ad]|rw[ag _ _ _ _ (by omega)])))
   by_cases e:id=10
   ·exact vL
   ·rw[ag _ _ _ _ e];(repeat(first|rfl|rw[ad]|rw[ag _ _ _ _ (by omega)]))
    rw[hI.eq id aw]
    simp only[aH,e,if_false]
  ·intro o' n' hI
   have hf:=sD (pre t 1) true
   rw[Bool.true_and]at hf
   rw[hf]at hI
   have q0:o' 1= .row t.row:=hI.eq 1 ae
   have q1:o' 10= .row [.d (.bool (Qc t))]:=hI.eq 10 ae
   simp only[rh]
   refine Lg q0 q1 ?_
   refine aj (GY t ht) rfl ?_
   cases hv:m5 t<;>(simp+contextual (disch:=first|omega|simp only[go_sem,false_implies]) only[go_sem,wrap64,if_pos,q0,q1];refine aL cE ?_;simp+contextual (disch:=first|omega|simp only[go_sem,false_implies]) only[go_sem,wrap64,if_pos,and_self];simp[mc])
end Go.Proofs.YtlhemmpklhhgoaaGreat
