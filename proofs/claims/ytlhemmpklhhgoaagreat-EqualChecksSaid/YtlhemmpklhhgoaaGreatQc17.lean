/-
  A PART OF THE PROOF. Conditions: none.
-/
import Derived.Test.YtlhemmpklhhgoaaGreatQc16
set_option linter.unusedSimpArgs false
set_option linter.unusedVariables false
namespace Go.Proofs.YtlhemmpklhhgoaaGreat
section
theorem OO{x:Tm}{yb vb base:Nat}{h h2:Nat->aa}{r:Bool}(hS:rV Tryz.prog 165 [.d x.d, .ptr yb 0, .ptr vb 0] base h h2 (.d (.bool r)))(hy:yb<base)(hv:vb<base)(ov:h vb= .row [.func (.func 165) [] [.ptr yb 0, .ptr vb 0]]):
 rV Tryz.prog 167 [.d x.d, .ptr vb 0] base h h2 (.d (.bool (!r))):=by
 intro o nx hI K X hK
 have hle:=hI.le
 have ho:o vb= .row [.func (.func 165) [] [.ptr yb 0, .ptr vb 0]]:=by rw[hI.eq vb hv,ov]
 have y1:∀k,vb≠nx+k:=fun k=>af
 have y2:vb≠nx:=af
 refine dV.aN mix KY aK ?_
 rw[NY]
 simp+contextual (disch:=first|omega|simp only[go_sem,false_implies]) only[go_sem,wrap64,if_pos,ho,y1,y2,Nat.add_assoc,Nat.left_eq_add,Nat.add_eq_left,Nat.add_left_cancel_iff]
 refine bT (hS _ _ ?_ _ _ fun o2 n2 m1 m2 m3=> ?_)
 ·exact hI.aM af af af rfl
 refine wJ ?_
 exact hK _ _ af (m2.mono af) fun id i1 i2=>by rw[m3 id i1 (by omega),ah _ _ _ _ (by omega)]
section
variable {σ:Type}(base rZ:Nat)(H:σ->Nat->aa)(step:σ->Int->σ×Bool)(ok:σ->Prop)
theorem Gs:∀t:Tm,t.fits->(∀x∈pc t,∀s,ok s->(step s x).2=true->ok (step s x).1)->(∀x∈pc t,∀s,ok s->WB Tryz.prog rZ [.d (.i x)] base (H s) (H (step s x).1) (.d (.bool (step s x).2)))->rZ<base->
 ∀ (c:Nat) (o0:Nat->aa) (yb vb:Nat),base<=c->base<=yb->yb<c->base<=vb->vb<c->o0 yb= .row [.jc rZ]->o0 vb= .row [.func (.func 165) [] [.ptr yb 0, .ptr vb 0]]->
 ∀s,ok s->rV Tryz.prog 165 [.d t.d, .ptr yb 0, .ptr vb 0] c (ext base (H s) o0) (ext base (H (aD step s (pc t)).1) o0) (.d (.bool (aD step s (pc t)).2)):=by
 refine Tm.fe fun t ih hf aP hR Am c o0 yb vb hbc WC hy WD hv oy ov s my=> ?_
 have sZ:=(Tm.bA _).1 hf
 intro o nx hI K X hK
 have hle:=hI.le
 have Qf:o yb= .row [.jc rZ]:=by rw[hI.eq yb hy];unfold ext;rw[if_neg (by omega),oy]
 have Oq:o vb= .row [.func (.func 165) [] [.ptr yb 0, .ptr vb 0]]:=by rw[hI.eq vb hv];unfold ext;rw[if_neg (by omega),ov]
 have y1:yb≠nx:=af
 have y2:∀k,yb≠nx+k:=fun k=>af
 have y3:vb≠nx:=af
 have y4:∀k,vb≠nx+k:=fun k=>af
 have qm:=Gg t
 have hb:∀id,id<base->o id=H s id:=fun id aq=>by rw[hI.eq id (by omega)];unfold ext;rw[if_pos aq]
 have WE:dR base (H s) o nx:=⟨hI.bZ,af,hb⟩
 have DG:∀id,base<=id->id<c->o id=o0 id:=fun id h1 h2=>by rw[hI.eq id h2];unfold ext;rw[if_neg (by omega)]
 refine dV.aN mix KU aK ?_
 rw[NW]
 by_cases h1:t.op=1
 ·have jD:(t.op==1)=true:=by simpa using h1
  rw[if_pos h1]at qm
  have B0:aD step s (pc t)=step s t.n:=by
   rw[qm]
   simp only[aD]
   generalize step s t.n=q
   obtain⟨a,b⟩:=q
   cases b<;>rfl
  simp+contextual (disch:=first|omega|simp only[go_sem,false_implies]) only[go_sem,wrap64,if_pos,jD,Qf,Oq,y1,y2,y3,y4,Nat.add_assoc,Nat.left_eq_add,Nat.add_eq_left,Nat.add_left_cancel_iff]
  refine pS (hR t.n (by rw[qm];simp) s my _ _ ?_ _ _ fun o2 n2 m1 m2 m3=> ?_)
  ·exact WE.aM af af af rfl
  refine wJ ?_
  rw[B0]at hK
  have hold:∀id,base<=id->id<nx->o2 id=o id:=fun id h1 h2=>by rw[m3 id h1 (by omega),ah _ _ _ _ (by omega)]
  refine hK _ _ af ⟨m2.bZ.mono af,af,fun id aq=> ?_⟩ (fun id h1 h2=>hold id af h2)
  unfold ext
  split
  ·exact m2.eq id (by assumption)
  ·exact G7
 ·have jD:(t.op==1)=false:=by simpa using h1
  rw[if_neg h1]at qm
  have B0:aD step s (pc t)=aD (fun s k=>aD step s (pc k)) s t.kids:=by rw[qm,rY]
  have sR:∀k∈t.kids,∀x∈pc k,x∈pc t:=fun k hk x hx=>by rw[qm];exact List.mem_flatMap.2 ⟨k,hk,hx⟩
  simp+contextual (disch:=first|omega|simp only[go_sem,false_implies]) only[go_sem,wrap64,if_pos,jD,Qf,Oq,y1,y2,y3,y4,Nat.add_assoc,Nat.left_eq_add,Nat.add_eq_left,Nat.add_left_cancel_iff]
  refine bT (yO t.kids sZ.1 167 [.ptr vb 0] (nx+8) (fun s=>ext base (H s) (aM o nx (.row t.row))) (fun s k=>aD step s (pc k)) ?_ ok ?_ ?_ s my _ _ ?_ _ _ ?_)
  ·exact AZ
  ·exact Q4
  ·intro k hk s' iw
   refine OO (yb:=yb) (ih k hk (sZ.2 k hk) (fun x hx=>aP x (sR k hk x hx)) (fun x hx=>hR x (sR k hk x hx)) Am (nx+8) _ yb vb af WC af WD af ?_ ?_ s' iw) af af ?_
   ·(repeat(first|rfl|rw[ag]|rw[ah _ _ _ _ (by omega)]));exact Qf
   ·(repeat(first|rfl|rw[ag]|rw[ah _ _ _ _ (by omega)]));exact Oq
   ·unfold ext;rw[if_neg (by omega)];(repeat(first|rfl|rw[ag]|rw[ah _ _ _ _ (by omega)]));exact Oq
  ·exact(WE.aM af af af rfl).ext af af
  ·intro o5 n5 p1 p2 p3
   refine cQ ?_
   rw[<- B0]
   have hold:∀id,base<=id->id<nx->o5 id=o id:=fun id h1 h2=>by
    rw[p2.eq id (by omega)];unfold ext;rw[if_neg (by omega),ah _ _ _ _ (by omega)]
   refine hK _ _ af ⟨p2.bZ.mono af,af,fun id aq=> ?_⟩ (fun id h1 h2=>hold id af h2)
   rw[B0]
   unfold ext
   split
   ·rw[p2.eq id (by omega)];unfold ext;rw[if_pos (by assumption)]
   ·exact G7
theorem Gt(t:Tm)(hf:t.fits)(aP:∀x∈pc t,∀s,ok s->(step s x).2=true->ok (step s x).1)(hR:∀x∈pc t,∀s,ok s->WB Tryz.prog rZ [.d (.i x)] base (H s) (H (step s x).1) (.d (.bool (step s x).2)))(Am:rZ<base)(tb:Nat)(DZ:tb<base)(s:σ)(my:ok s)(cn:H s tb= .row t.row):
 rV Tryz.prog 164 [.jc rZ, .ptr tb 0] base (H s) (H (aD step s (pc t)).1) (.bC []):=by
 intro o nx hI K X hK
 have hle:=hI.le
 have ot:o tb= .row t.row:=by rw[hI.eq tb DZ,cn]
 have y1:tb≠nx:=af
 have y2:∀k,tb≠nx+k:=fun k=>af
 refine dV.aN mix KT aK ?_
 rw[NV]
 simp+contextual only[go_sem,ot,y1,y2,Nat.add_assoc,Nat.left_eq_add,Nat.add_eq_left,Nat.add_left_cancel_iff]
 have Zl:dR base (H s) (aM (aM (aM o nx (.row [.jc rZ])) (nx+1) (.row [.d .bK])) (nx+1) (.row [.func (.func 165) [] [.ptr nx 0, .ptr (nx+1) 0]])) (nx+6):=by
  refine((hI.aM (i:=nx) (m:=nx+6) af af af ?_).aM (i:=nx+1) (m:=nx+6) af af af rfl).aM (i:=nx+1) af af af ?_
  ·simp[aa.refs,V.aO,V.refs];omega
  ·exact Hd
 refine bT (Gs base rZ H step ok t hf aP hR Am (nx+6) _ nx (nx+1) af hle af af af ?_ ?_ s my _ _ (Zl.ext (Nat.le_refl _) af) _ _ ?_)
 ·exact iA
 ·exact iA
 intro o2 n2 m1 m2 m3
 refine bX ?_
 refine hK _ _ af ⟨m2.bZ,af,fun id aq=> ?_⟩ (fun id h1 h2=> ?_)
 ·rw[m2.eq id (by omega)];unfold ext;rw[if_pos aq]
 ·exact Js
end
theorem Gu(t:Tm)(o:Nat->aa)(nx:Nat)(K X:V->(Nat->aa)->Nat->Prop)(h:K (.func (.func 164) [] [.ptr nx 0]) (aM o nx (.row t.row)) (nx+4)):dV Tryz.prog 149 [.d t.d] o nx K X:=by
 refine dV.aN mix KN aK ?_
 rw[NR]
 refine bX ?_
 exact h
def AK{σ:Type}(J:σ->Option iu)(step:σ->Int->σ)(s:σ)(x:Int):σ×Bool:=(step s x,(J (step s x)).isNone)
theorem yP{σ:Type}(t:Tm)(hf:t.fits){n bq:Nat}{gq:Operand}{ps:List Nat}{iR eL:IC}{Q:eM->S->Prop}{e:Nat->V}{o:Nat->aa}{nx tb:Nat}(env:List V)(he:kW e env 0)
 (Fm:ps.all (fun t=>decide (t<n))=true) (hl:ps.length=1) (hg:Good o nx) (hrefs:∀r∈V.aO env,r<nx) (ht:o tb= .row t.row)
 (G:σ->Nat->aa) (J:σ->Option iu) (step:σ->Int->σ) (ok:σ->Prop) (s0:σ) (my:ok s0) (Vq:J s0=none) (h0:∀id,id<nx->o id=G s0 id) (aP:∀x∈pc t,∀s,ok s->J s=none->J (step s x)=none->ok (step s x))
 (ri:∀L,gh Tryz.prog n env ps iR eL L->(∀st pd m,nx<=m->(L st pd).refs.all (fun r=>decide (r<m))=true)->∀x∈pc t,∀s,ok s->J s=none->∀o3 n3,dR nx (G s) o3 n3->nx<n3->o3 nx=L .ready none->∀K X,
  (∀e' o' n' st pd,n3<=n'->dR nx (G (step s x)) o' n'->o' nx=L st pd->(∀id,nx<id->id<n3->o' id=o3 id)->ja nx K X (Lh (J (step s x))) ⟨e',o',n'⟩)->
  jW Tryz.prog n n3 true iR (o6 Tryz.prog n n3 nx eL K X) ⟨nH (bc env) ps [.d (.i x)],o3,n3⟩)
 (iX:∀o' n',dR nx (G (aD (AK J step) s0 (pc t)).1) o' n'->oO Q (J (aD (AK J step) s0 (pc t)).1) ⟨e,o',n'⟩):
 xZ Tryz.prog n bq false gq ps iR eL Q ⟨e,o,nx⟩ (.func (.func 164) [] [.ptr tb 0]):=by
 refine FT env he (fun L hL=> ?_)
 have DZ:tb<nx:=hg.lt (by rw[ht];exact aa.noConfusion)
 let H:σ->Nat->aa:=fun s id=>if id<nx then G s id else if id=nx then(match J s with|none=>L .ready none|some j=>L .done (some j))else .no
 have DH:∀s id,id<nx->H s id=G s id:=fun s id h=>if_pos h
 have Iu:∀s,J s=none->H s nx=L .ready none:=fun s h=>by show(if nx<nx then _ else _)=_;rw[if_neg (by omega),if_pos rfl,h]
 have Ot:∀s j,J s=some j->H s nx=L .done (some j):=fun s j h=>by show(if nx<nx then _ else _)=_;rw[if_neg (by omega),if_pos rfl,h]
 have AW:∀st pd m,nx<=m->(L st pd).refs.all (fun r=>decide (r<m))=true:=fun st pd m hm=>by
  exact RR
 refine Gt (nx+1) nx H (AK J step) (fun s=>ok s/\J s=none) t hf (fun x hx s h1 h2=> ?_) (fun x hx s h1=> ?_) af tb af s0 ⟨my,Vq⟩ (by rw[DH _ _ DZ, <- h0 _ DZ,ht]) _ _ ⟨?_,Nat.le_refl _,fun id aq=> ?_⟩ _ _ ?_
 ·have hj:J (step s x)=none:=by simpa[AK]using h2
  exact⟨aP x hx s h1.1 h1.2 hj,hj⟩
 ·intro o3 n3 hI K X hK
  have hle:=hI.le
  have Ou:o3 nx=L .ready none:=by rw[hI.eq nx (by omega),Iu s h1.2]
  refine yl hL mix Ou af Fm (by simp[hl]) ?_
  refine ri L hL AW x hx s h1.1 h1.2 o3 n3 ⟨hI.bZ,af,fun id aq=>by rw[hI.eq id (by omega),DH _ _ aq]⟩ af Ou K X (fun e' o' n' st pd k1 k2 k3 k4=> ?_)
  have key:∀st' pd' b,(J (step s x)).isNone=b->H (step s x) nx=L st' pd'->K (.d (.bool b)) (aM o' nx (L st' pd')) n':=fun st' pd' b hb hh=>by
   subst hb
   refine hK _ _ k1 ⟨k2.bZ.aM af (AW _ _ _ af),af,fun id aq=> ?_⟩ (fun id g1 g2=> ?_)
   ·by_cases sT:id=nx
    ·subst sT;rw[ag];exact hh.symm
    ·rw[ah _ _ _ _ sT]
     show o' id=H (step s x) id
     rw[DH _ _ (by omega)];exact k2.eq id af
   ·rw[ah _ _ _ _ (by omega)];exact k4 id af g2
  cases hj:J (step s x)with
  |none=>exact ur hL k3 (key _ _ _ tq (Iu _ hj))
  |some j=>
   cases j with
   |ret=>exact rW hL k3 (key _ _ _ tq (Ot _ _ hj))
   |exit j=>exact pT hL k3 (key _ _ _ tq (Ot _ _ hj))
 ·exact(hg.mono af).aM af (AW _ _ _ af)
 ·by_cases sT:id=nx
  ·subst sT;rw[ag,Iu _ Vq]
  ·exact Ri
 ·intro o' n' k1 k2 k3
  have hle:=k2.le
  generalize hsf:(aD (AK J step) s0 (pc t)).1=sf at*
  have kk:∀st pd,dR nx (G sf) (aM o' nx (L st pd)) n':=fun st pd=>⟨k2.bZ.aM af (AW _ _ _ af),af,fun id aq=>by rw[ah _ _ _ _ (by omega),k2.eq id (by omega),DH _ _ aq]⟩
  cases hj:J sf with
  |none=>
   refine⟨.ready,none,by rw[k2.eq nx (by omega),Iu _ hj],(fun h=>by cases h), ?_⟩
   have:=iX _ _ (kk .exhausted none)
   rwa [hj]at this
  |some j=>
   refine⟨.done,some j,by rw[k2.eq nx (by omega),Ot _ _ hj],(fun h=>by cases h), ?_⟩
   have:=iX _ _ (kk .exhausted (some j))
   rwa [hj]at this
end
def iz(b:List (Int×Tm))(n:Int)(s:List Int×Bool)(v:Int):List Int×Bool:=if v=n then(s.1,true)else match bW b v with
 |none=>(s.1,false)
 |some x=>if v∈s.1 then(s.1,false)else match GZ (b.length+1) b n x (dk s.1 v)with
  |some (is,m)=>(m,is)
  |none=>(s.1,false)
def WR(s:List Int×Bool):Option iu:=if s.2=true then some .ret else none
theorem od{b:List (Int×Tm)}{n:Int}:∀ (vs met:List Int) (is:Bool) (m':List Int),Gh (GZ b.length b n) b n vs met=some (is,m')->(aD (AK WR (iz b n)) (met,false) vs).1=(m',is)
 |[],met,is,m',h=>by cases h;rfl
 |v::vs,met,is,m',h=>by
  simp only[Gh]at h
  simp only[aD,AK]
  by_cases e:v=n
  ·rw[if_pos e]at h
   cases h
   have:iz b n (met,false) v=(met,true):=by unfold iz;rw[if_pos e]
   simp only[this];rfl
  ·rw[if_neg e]at h
   cases hl:bW b v with
   |none=>
    rw[hl]at h
    have:iz b n (met,false) v=(met,false):=by unfold iz;rw[if_neg e,hl]
    simp only[this]
    exact od vs met is m' h
   |some x=>
    rw[hl]at h
    dsimp only at h
    by_cases e2:v∈met
    ·rw[if_pos e2]at h
     have:iz b n (met,false) v=(met,false):=by unfold iz;rw[if_neg e,hl];dsimp only;rw[if_pos e2]
     simp only[this]
     exact od vs met is m' h
    ·rw[if_neg e2]at h
     cases hF:GZ b.length b n x (dk met v)with
     |none=>rw[hF]at h;cases h
     |some q=>
      obtain⟨i,m⟩:=q
      rw[hF]at h
      have:iz b n (met,false) v=(m,i):=by unfold iz;rw[if_neg e,hl];dsimp only;rw[if_neg e2,yI hF (Nat.le_succ _)]
      simp only[this]
      cases i with
      |true=>cases h;rfl
      |false=>exact od vs m is m' h
theorem Gv{s:aJ}{b:List (Int×Tm)}(hb:∀p∈b,Vs s p.2)(lP:∀p∈b,p.2.fits)(n:Int):∀ (N:Nat) (t:Tm) (met:List Int),sQ b met<=N->Vs s t->t.fits->∀ (is:Bool) (dY:List Int),GZ (b.length+1) b n t met=some (is,dY)->
 ∀ (o:Nat->aa) (nx nb bb mb fb mid:Nat),Good o nx->o nb= .row [.d (.i n)]->o bb= .row [.d (D0 b)]->o mb= .row [.mp mid]->o fb= .row [.func (.func 148) [] [.ptr nb 0, .ptr bb 0, .ptr mb 0, .ptr fb 0]]->o mid=Du met->
 ∀ (K X:V->(Nat->aa)->Nat->Prop),(∀o' nx',nx<=nx'->Good o' nx'->(∀j,j<nx->j≠mid->o' j=o j)->o' mid=Du dY->K (.d (.bool is)) o' nx')->
 dV Tryz.prog 148 [.d t.d, .ptr nb 0, .ptr bb 0, .ptr mb 0, .ptr fb 0] o nx K X:=by
 intro N
 induction N using Nat.strongRecOn with
 |ind N ihN=>
  intro t met hN ht OP is dY hld o nx nb bb mb fb mid hg o1 o2 o3 o4 o5 K X hK
  have l1:nb<nx:=hg.lt (by rw[o1];exact aa.noConfusion)
  have l2:bb<nx:=hg.lt (by rw[o2];exact aa.noConfusion)
  have l3:mb<nx:=hg.lt (by rw[o3];exact aa.noConfusion)
  have l4:fb<nx:=hg.lt (by rw[o4];exact aa.noConfusion)
  have l5:mid<nx:=hg.lt (by rw[o5];exact aa.noConfusion)
  have d1:nb≠mid:=fun e=>by rw[e,o5]at o1;cases o1
  have d2:bb≠mid:=fun e=>by rw[e,o5]at o2;cases o2
  have d3:mb≠mid:=fun e=>by rw[e,o5]at o3;cases o3
  have d4:fb≠mid:=fun e=>by rw[e,o5]at o4;cases o4
  refine dV.aN mix KM aK ?_
  rw[NQ]
  refine wJ ?_
  refine eF (Gu t _ _ _ _ ?_)
  refine wJ ?_
  obtain⟨O1,VK⟩:∃O1:Nat->aa,O1=aM (aM (aM o nx (aa.row [V.d (D.i t.op),V.d (D.i t.n),V.d (D.sl (List.map Tm.d t.kids))])) (nx+1) (aa.row [V.d (D.bool false)])) (nx+3) (aa.row t.row):=⟨_,rfl⟩
  have hgO:Good O1 (nx+7):=by rw[VK];exact dZ
  have hOl:∀j,j<nx->O1 j=o j:=fun j hj=>by rw[VK];(repeat(first|rfl|rw[ag]|rw[ah _ _ _ _ (by omega)]))
  have ZD:O1 (nx+1)= .row [.d (.bool false)]:=by rw[VK];(repeat(first|rfl|rw[ag]|rw[ah _ _ _ _ (by omega)]))
  have hO3:O1 (nx+3)= .row t.row:=by rw[VK];(repeat(first|rfl|rw[ag]|rw[ah _ _ _ _ (by omega)]))
  rw[<- VK]
  obtain⟨G,hG⟩:∃G:List Int×Bool->Nat->aa,G=fun s=>aM (aM O1 (nx+1) (.row [.d (.bool s.2)])) mid (Du s.1):=⟨_,rfl⟩
  have gm:∀s,G s mid=Du s.1:=fun s=>by rw[hG];exact ag _ _ _
  have gc:∀s,G s (nx+1)= .row [.d (.bool s.2)]:=fun s=>by rw[hG];show aM _ mid _ _=_;rw[ah _ _ _ _ (by omega),ag]
  have ge:∀s j,j≠mid->j≠nx+1->G s j=O1 j:=fun s j j1 j2=>by rw[hG];show aM _ mid _ _=_;rw[ah _ _ _ _ j1,ah _ _ _ _ j2]
  have gl:∀s j,j<nx->j≠mid->G s j=o j:=fun s j j1 j2=>by rw[ge s j j2 (by omega),hOl j j1]
  refine yP (σ:=List Int×Bool) t OP [.ab, .ptr nb 0, .ptr bb 0, .ptr mb 0, .ptr fb 0, .ab, .ptr (nx+1) 0] ?_ dU rfl hgO AZ hO3
   G WR (iz b n) (fun s=>sQ b s.1<=N) (met,false) hN rfl (fun id aq=> ?_) (fun x hx s' h1 h2 h3=> ?_) ?_ ?_
  ·exact G5
  ·by_cases e1:id=mid
   ·subst e1;rw[gm,hOl id (by omega),o5]
   ·by_cases e2:id=nx+1
    ·subst e2;rw[gc,ZD]
    ·rw[ge _ _ e1 e2]
  ·obtain⟨m,fl⟩:=s'
   show sQ b (iz b n (m,fl) x).1<=N
   have h1:sQ b m<=N:=h1
   unfold iz
   by_cases e:x=n
   ·rw[if_pos e];exact h1
   ·rw[if_neg e]
    cases hl:bW b x with
    |none=>exact h1
    |some y=>
     dsimp only
     by_cases e2:x∈m
     ·rw[if_pos e2];exact h1
     ·rw[if_neg e2]
      have hle:sQ b (dk m x)<=b.length:=Nat.le_trans (Nat.le_of_lt (qD hl e2)) QO
      obtain⟨i1,m1,g1,g2,g3⟩:=B8 hb n b.length y (dk m x) hle (hb _ (dm hl))
      have j5:iz b n (m,fl) x=(m1,i1):=by unfold iz;rw[if_neg e,hl];dsimp only;rw[if_neg e2,g1]
      rw[g1]
      rw[j5]at h3
      cases i1 with
      |true=>cases h3
      |false=>
       have:=yJ (b:=b) (g3 rfl).1
       have:=qD hl e2
       show sQ b m1<=N
       omega
  ·intro L hL AW v hv s' rh DW O3 n3 hI hn Ou K' X' dx
   obtain⟨m,fl⟩:=s'
   have mP:fl=false:=by
    cases fl with
    |false=>rfl
    |true=>cases DW
   subst mP
   have rh:sQ b m<=N:=rh
   simp only[nH]
   have hg:=hI.bZ
   have hle:=hI.le
   have q1:O3 nb= .row [.d (.i n)]:=by rw[hI.eq nb (by omega),gl _ _ (by omega) d1,o1]
   have q2:O3 bb= .row [.d (D0 b)]:=by rw[hI.eq bb (by omega),gl _ _ (by omega) d2,o2]
   have q3:O3 mb= .row [.mp mid]:=by rw[hI.eq mb (by omega),gl _ _ (by omega) d3,o3]
   have q4:O3 fb= .row [.func (.func 148) [] [.ptr nb 0, .ptr bb 0, .ptr mb 0, .ptr fb 0]]:=by rw[hI.eq fb (by omega),gl _ _ (by omega) d4,o4]
   have q5:O3 mid=Du m:=by rw[hI.eq mid (by omega),gm]
   have q6:O3 (nx+1)= .row [.d (.bool false)]:=by rw[hI.eq (nx+1) (by omega),gc]
   have same:∀ (o':Nat->aa) (n':Nat) (s:List Int×Bool),Good o' n'->n3<=n'->(∀j,j<nx+7->o' j=aM (aM O3 (nx+1) (.row [.d (.bool s.2)])) mid (Du s.1) j)->dR (nx+7) (G s) o' n':=fun o' n' s k1 k2 k3=>⟨k1,af,fun j hj=>by
    rw[k3 j hj]
    by_cases e1:j=mid
    ·subst e1;rw[ag,gm]
    ·rw[ah _ _ _ _ e1]
     by_cases e2:j=nx+1
     ·subst e2;rw[ag,gc]
     ·rw[ah _ _ _ _ e2,hI.eq j hj,ge _ _ e1 e2,ge _ _ e1 e2]⟩
   have z1:∀k,nb≠n3+k:=fun k=>af
   have z2:∀k,bb≠n3+k:=fun k=>af
   have z3:∀k,mb≠n3+k:=fun k=>af
   have z4:∀k,fb≠n3+k:=fun k=>af
   have z5:∀k,mid≠n3+k:=fun k=>af
   have z6:∀k,nx+1≠n3+k:=fun k=>af
   refine cQ ?_
   refine nP hL (pd:=none) ?_ ?_
   ·(repeat(first|rfl|rw[ag]|rw[ah _ _ _ _ (by omega)]))
    exact Ou
   refine Ci q1 q2 q3 q4 q5 q6 ?_
   refine ak (fun h3=> ?_) (fun h3=> ?_)
   ·have pI:v=n:=by simpa using h3
    have j5:iz b n (m,false) v=(m,true):=by unfold iz;rw[if_pos pI]
    rw[j5]at dx
    refine Ci q1 q2 q3 q4 q5 q6 ?_
    refine dx _ _ _ .busy none af (same _ _ _ dZ af fun j hj=> ?_) iA (fun id h3 h4=>by(repeat(first|rfl|rw[ag]|rw[ah _ _ _ _ (by omega)])))
    by_cases e1:j=mid
    ·exact LC
    ·by_cases e2:j=nx+1
     ·exact Q6
     ·exact iA
   ·have pI:v≠n:=by simpa using h3
    cases hl:bW b v with
    |none=>
     have j5:iz b n (m,false) v=(m,false):=by unfold iz;rw[if_neg pI,hl]
     rw[j5]at dx
     cases hc:m.contains v
     all_goals
      simp+contextual (disch:=first|omega|simp only[go_sem,false_implies]) only[go_sem,wrap64,if_pos,q1,q2,q3,q4,q5,q6,lH,fL hl,hc]
      refine dx _ _ _ .busy none af (same _ _ _ dZ af fun j hj=> ?_) iA (fun id h3 h4=>by(repeat(first|rfl|rw[ag]|rw[ah _ _ _ _ (by omega)])))
      by_cases e1:j=mid
      ·exact LC
      ·by_cases e2:j=nx+1
       ·exact QW
       ·exact iA
    |some y=>
     obtain⟨jy,hj⟩:=jb hl
     have Is:=dm hl
     cases hc:m.contains v with
     |true=>
      have wE:v∈m:=List.contains_iff_mem.1 hc
      have j5:iz b n (m,false) v=(m,false):=by unfold iz;rw[if_neg pI,hl];dsimp only;rw[if_pos wE]
      rw[j5]at dx
      simp+contextual (disch:=first|omega|simp only[go_sem,false_implies]) only[go_sem,wrap64,if_pos,q1,q2,q3,q4,q5,q6,lH,hj,hc]
      refine dx _ _ _ .busy none af (same _ _ _ dZ af fun j hj=> ?_) iA (fun id h3 h4=>by(repeat(first|rfl|rw[ag]|rw[ah _ _ _ _ (by omega)])))
      by_cases e1:j=mid
      ·exact LC
      ·by_cases e2:j=nx+1
       ·exact QW
       ·exact iA
     |false=>
      have wE:v∉m:=fun h=>by rw[List.contains_iff_mem.2 h]at hc;cases hc
      have bQ:=qD hl wE
      have Mi:sQ b (dk m v)<=b.length:=Nat.le_trans (Nat.le_of_lt bQ) QO
      obtain⟨i1,m1,g1,_,_⟩:=B8 hb n b.length y (dk m v) Mi (hb _ Is)
      have j5:iz b n (m,false) v=(m1,i1):=by unfold iz;rw[if_neg pI,hl];dsimp only;rw[if_neg wE,g1]
      rw[j5]at dx
      simp+contextual (disch:=first|omega|simp only[go_sem,false_implies]) only[go_sem,wrap64,if_pos,q1,q2,q3,q4,q5,q6,z1,z2,z3,z4,z5,z6,lH,hj,hc]
      refine bT (ihN _ af y (dk m v) (Nat.le_refl _) (hb _ Is) (lP _ Is) i1 m1 g1 _ _ nb bb mb fb mid ?_ ?_ ?_ ?_ ?_ ?_ _ _ fun WS n4 w1 w2 w3 w4=> ?_)
      ·exact dZ
      ·(repeat(first|rfl|rw[ag]|rw[ah _ _ _ _ (by omega)]));exact q1
      ·(repeat(first|rfl|rw[ag]|rw[ah _ _ _ _ (by omega)]));exact q2
      ·(repeat(first|rfl|rw[ag]|rw[ah _ _ _ _ (by omega)]));exact q3
      ·(repeat(first|rfl|rw[ag]|rw[ah _ _ _ _ (by omega)]));exact q4
      ·exact iA
      have p7:WS (nx+7)=L .busy none:=by rw[w3 (nx+7) (by omega) (by omega)];(repeat(first|rfl|rw[ag]|rw[ah _ _ _ _ (by omega)]))
      have p6:WS (nx+1)= .row [.d (.bool false)]:=by rw[w3 (nx+1) (by omega) (by omega)];(repeat(first|rfl|rw[ag]|rw[ah _ _ _ _ (by omega)]));exact q6
      have pj:∀j,j<nx+7->j≠mid->WS j=O3 j:=fun j j1 j2=>by rw[w3 j (by omega) j2];(repeat(first|rfl|rw[ag]|rw[ah _ _ _ _ (by omega)]))
      have ph:∀j,nx+7<j->j<n3->WS j=O3 j:=fun j j1 j2=>by rw[w3 j (by omega) (by omega)];(repeat(first|rfl|rw[ag]|rw[ah _ _ _ _ (by omega)]))
      clear hg
      have hg:=w2
      cases i1 with
      |true=>
       refine ou p6 ?_
       refine dx _ _ _ .busy none af (same _ _ _ dZ af fun j hj=> ?_) (by(repeat(first|rfl|rw[ag]|rw[ah _ _ _ _ (by omega)]))<;>exact p7) (fun id h3 h4=>by(repeat(first|rfl|rw[ag]|rw[ah _ _ _ _ (by omega)]))<;>exact ph id h3 h4)
       by_cases e1:j=mid
       ·exact QX
       ·by_cases e2:j=nx+1
        ·exact Q6
        ·exact Q0
      |false=>
       refine ou p6 ?_
       refine dx _ _ _ .busy none af (same _ _ _ dZ af fun j hj=> ?_) p7 (fun id h3 h4=>ph id h3 h4)
       by_cases e1:j=mid
       ·exact QX
       ·by_cases e2:j=nx+1
        ·subst e2;(repeat(first|rfl|rw[ag]|rw[ah _ _ _ _ (by omega)]));exact p6
        ·exact Q0
  ·intro o' n' hI
   rw[od (pc t) met is dY hld]at hI|-
   have p6:o' (nx+1)= .row [.d (.bool is)]:=by rw[hI.eq (nx+1) (by omega),gc]
   have hle:=hI.le
   have hg:=hI.bZ
   cases is with
   |true=>
    rw[show WR (dY,true)=some .ret from rfl]
    simp only[oO]
    refine ou p6 ?_
    exact hK _ _ af dZ (fun j j1 j2=>by rw[hI.eq j (by omega),gl _ _ j1 j2]) (by rw[hI.eq mid (by omega),gm])
   |false=>
    rw[show WR (dY,false)=none from rfl]
    simp only[oO]
    refine ou p6 ?_
    refine hK _ _ af dZ (fun j j1 j2=> ?_) ?_
    ·(repeat(first|rfl|rw[ag]|rw[ah _ _ _ _ (by omega)]));rw[hI.eq j (by omega),gl _ _ j1 j2]
    ·(repeat(first|rfl|rw[ag]|rw[ah _ _ _ _ (by omega)]));rw[hI.eq mid (by omega),gm]
theorem I1{s:aJ}{b:List (Int×Tm)}(hb:∀p∈b,Vs s p.2)(lP:∀p∈b,p.2.fits)(n:Int)(t:Tm)(ht:Vs s t)(OP:t.fits){is:Bool}(Gw:is=true↔nZ b n t):
 aY Tryz.prog 120 [D0 b,t.d, .i n] (.ret [.bool is]):=by
 obtain⟨i1,m1,g1,g2⟩:=OI hb n ht
 have:is=i1:=by rw[Bool.eq_iff_iff,Gw,g2]
 subst this
 refine aY.aN mix KC aK ?_
 rw[NI]
 refine cQ ?_
 have hN:sQ b []<=b.length:=by unfold sQ;exact Nat.le_trans (List.length_filter_le _ _) LD
 refine bT (Gv hb lP n b.length t [] hN ht OP is m1 g1 _ _ 2 0 5 7 4 dZ rfl rfl rfl rfl rfl _ _ fun o' nx' w1 w2 w3 w4=> ?_)
 exact qG
structure BL (l:List TB):Prop where
 len:l.length<=100
 sz:∀x∈l,x.term.sz<=1000
theorem DB{b:List (Int×Tm)}(lP:∀p∈b,p.2.fits)(hle:∀p∈b,∃f r,pY f b p.2 40 12=some r){ok:Bool}(aP:ok=true↔∀p∈b,D1 b p.2):aY Tryz.prog 121 [D0 b] (.ret [.bool ok]):=by
 refine aY.aN mix KF aK ?_
 rw[NJ]
 simp+contextual (disch:=first|omega|simp only[go_sem,false_implies]) only[go_sem,wrap64,if_pos,lH]
 refine aL (fun i:List (Int×Tm)×Option (D×D)=>⟨bc [.d (D0 b), .ab, .ab, .ab, .ab, .ab, .ptr 2 0],aM (fun _=> .no) 2 (.oB (enc (D.int .i64) (oq i.1)) i.2),3⟩)
  (fun i=>(∀p∈i.1,p∈b)/\(ok=true↔∀p∈i.1,D1 b p.2)) (fun i=>i.1.length) (b,none) ⟨fun _ h=>h,aP⟩ ?_ ?_
 ·dsimp only
  refine bM.bP _ af af dZ (fun j hj=>rfl) ?_
  exact ec
 rintro⟨rest,last⟩ ⟨hr,ho⟩
 dsimp only at hr ho|-
 refine cQ ?_
 refine uC (fun h0=> ?_) fun i k x hm=> ?_
 ·subst h0
  have:ok=true:=ho.2 (fun p hp=>by cases hp)
  exact qI
 ·have lL:=List.mem_of_getElem? hm
  have GW:=hr _ lL
  obtain⟨f,r,hf⟩:=hle _ GW
  have hlen:(rest.eraseIdx i).length<rest.length:=by
   exact RM
  have uM:=sq hm
  refine cQ ?_
  refine aw (Gp f x 40 12 r (lP _ GW) lP af af hf) rfl ?_
  have cC:=B9 hf
  by_cases h0:r<0
  ·have uZ:decide (r<0)=true:=decide_eq_true h0
   have:ok=false:=by
    cases ok with
    |false=>rfl
    |true=>
     have:=cC.1 (ho.1 rfl _ lL)
     omega
   subst this
   exact Cj uZ
  ·have uZ:decide (r<0)=false:=decide_eq_false h0
   refine ou uZ ?_
   refine ax (rest.eraseIdx i,some (.int .i64 k,x.d)) ⟨fun p hp=>hr p (uM.mem_iff.1 (List.mem_cons_of_mem _ hp)),ho.trans ⟨fun h p hp=>h p (uM.mem_iff.1 (List.mem_cons_of_mem _ hp)),fun h p hp=> ?_⟩⟩ hlen (bM.bP _ (show 0<=3 from af) af dZ (fun j hj=> ?_) ?_)
   ·rcases List.mem_cons.1 (uM.mem_iff.2 hp)with rfl|hp
    ·exact cC.2 af
    ·exact h p hp
   ·by_cases e:j=2
    ·exact sO
    ·exact iA
   ·exact ec
structure Nt where
 a:Tm
 b:Tm
@[reducible] def Nt.d (n:Nt):D:= .agg [.i n.a.op, .i n.a.n, .sl (n.a.kids.map Tm.d), .i n.b.op, .i n.b.n, .sl (n.b.kids.map Tm.d)]
@[reducible] def Nt.row (n:Nt):List V:=[.d (.i n.a.op), .d (.i n.a.n), .d (.sl (n.a.kids.map Tm.d)), .d (.i n.b.op), .d (.i n.b.n), .d (.sl (n.b.kids.map Tm.d))]
@[reducible] def VL (m:Int×Int):D:= .agg [.i m.1, .i m.2]
structure mT where
 sig:aJ
 binds:List TB
 b8:List Nt
 marks:List (Int×Int)
@[reducible] def mT.d (s:mT):D:= .agg [.sl (s.sig.cons.map jX.d), .sl (s.sig.cA.map jX.d), .sl (s.binds.map TB.d), .sl (s.b8.map Nt.d), .sl (s.marks.map VL)]
@[reducible] def mT.row (s:mT):List V:=[.d (.sl (s.sig.cons.map jX.d)), .d (.sl (s.sig.cA.map jX.d)), .d (.sl (s.binds.map TB.d)), .d (.sl (s.b8.map Nt.d)), .d (.sl (s.marks.map VL))]
@[reducible] def mT.kd (s:mT) (b:List (Int×Tm)):D:= .agg [.sl (s.sig.cons.map jX.d), .sl (s.sig.cA.map jX.d), .sl (s.binds.map TB.d), .sl (s.b8.map Nt.d), .sl (s.marks.map VL),D0 b]
def jS(s:aJ)(t:Tm):Bool:=il s [t]&&la t
theorem sB(s:mT)(hs:s.sig.Fits)(b:List (Int×Tm))(t:Tm)(ht:t.Fin):aY Tryz.prog 99 [s.kd b,t.d] (.ret [.bool (jS s.sig t)]):=by
 refine aY.aN mix TL aK ?_
 rw[Zh]
 refine cQ ?_
 refine aw (Ax s.sig hs t ht) rfl ?_
 unfold jS
 cases h:il s.sig [t]with
 |false=>
  exact Qw
 |true=>
  exact Qw
theorem DC(s:mT){b:List (Int×Tm)}(hb:∀p∈b,p.2.fits)(n:Nt)(ha:n.a.fits)(Ex:n.b.fits){f:Nat}{x y:Tm}(hx:wI f b n.a=some x)(hy:wI f b n.b=some y)(fx:x.fits)(fy:y.fits)(zx:x.sz<=1000000)(zy:y.sz<=1000000):
 aY Tryz.prog 66 [s.kd b,n.d] (.ret [.bool (ig x y)]):=by
 refine aY.aN mix TH aK ?_
 rw[YX]
 refine cQ ?_
 refine hU (AJ hb f n.a x ha hx zx) ?_
 refine cQ ?_
 refine hU (AJ hb f n.b y Ex hy zy) ?_
 refine cQ ?_
 refine bp (IX x fx y fy) rfl ?_
 exact L1
def WT(b:List (Int×Tm))(n:Nt):Prop:=∃f x,wI f b n.a=some x/\wI f b n.b=some x
def tc(nb nn:Int):Int×Int->List (Int×Int)->Bool
 |_,[]=>true
 |l,m::ms=> !(decide (m.1<l.1)||decide (m.1>nb)||decide (m.2<l.2)||decide (m.2>nn))&&tc nb nn m ms
structure sC (s:aJ) (l:List TB):Prop where
 len:l.length<=20
 keys:((ay l).map (·.1)).Nodup
 ok:∀x∈l,(0<=x.var/\x.var<20)/\jS s x.term=true
 WO:Qo (ay l)
 ZE:∀x∈l,D1 (ay l) x.term
structure mc (s:mT):Prop where
 sig:kQ s.sig=true
 VM:s.b8.length<=12
 VN:s.marks.length<=8
 G1:sC s.sig s.binds
 b8:∀n∈s.b8,jS s.sig n.a=true/\jS s.sig n.b=true/\ ¬WT (ay s.binds) n
 marks:tc s.binds.length s.b8.length (0,0) s.marks=true
structure mT.Fin (s:mT):Prop where
 sig:s.sig.Fits
 bl:s.binds.length<=1000
 nl:s.b8.length<=1000
 ml:s.marks.length<=1000
 bt:∀x∈s.binds,x.term.Fin
 nt:∀n∈s.b8,n.a.Fin/\n.b.Fin
theorem lp{s:aJ}{t:Tm}(h:jS s t=true):Vs s t/\t.sz<=40/\t.mS<=12:=by
 unfold jS il at h
 simp only[Bool.and_eq_true,List.all_cons,List.all_nil,Bool.and_true]at h
 obtain⟨⟨_,h1⟩,h2⟩:=h
 rw[si]at h1
 rw[uA h1]at h2
 have h3:=IE h1
 unfold hZ at h1
 rw[Bool.and_eq_true]at h1
 exact⟨⟨h1.2,h2⟩,h3.2⟩
theorem gB{l:List TB}{p:Int×Tm}(h:p∈ay l):∃x∈l,p=(x.var,x.term):=by
 obtain⟨x,hx,rfl⟩:=List.mem_map.1 h
 exact⟨x,hx,rfl⟩
theorem jT{l:List TB}{x:TB}(h:x∈l):(x.var,x.term)∈ay l:=List.mem_map.2 ⟨x,h,rfl⟩
theorem yQ(l:List TB){k:Nat}{x:TB}(h:l[k]? =some x):ay (l.take (k+1))=ay (l.take k)++[(x.var,x.term)]:=by
 unfold ay
 rw[List.take_add_one,h,List.map_append];rfl
theorem wx{s:aJ}{l:List TB}(hk:((ay l).map (·.1)).Nodup)(ho:∀x∈l,(0<=x.var/\x.var<20)/\jS s x.term=true)(ha:Qo (ay l)):∃l' ρ R,qC s (ay l) l' ρ R/\sM s l':=
 OJ hk (fun p hp=>by
  obtain⟨x,hx,rfl⟩:=gB hp
  exact⟨(ho x hx).1,(lp (ho x hx).2).1⟩) ha
theorem Ce{s:aJ}{b:List (Int×Tm)}{l:List TB}{ρ:Int->Nat}{R:Nat}(h:qC s b l ρ R){n:Nt}(ha:Vs s n.a)(hb:Vs s n.b):WT b n↔dt (ay l) n.a=dt (ay l) n.b:=by
 have e1:=yN h _ n.a ha (Nat.le_refl _)
 have e2:=yN h _ n.b hb (Nat.le_refl _)
 constructor
 ·rintro⟨f,x,h1,h2⟩
  obtain⟨g,hg⟩:∃g,g=f+(R+3+((dt (ay l) n.a).sz+(dt (ay l) n.b).sz)):=⟨_,rfl⟩
  have k1:=ir h1 (show f<=g from af)
  have k2:=ir h2 (show f<=g from af)
  rw[ir e1 (show _<=g by omega)]at k1
  rw[ir e2 (show _<=g by omega)]at k2
  exact Option.some.inj (k1.trans k2.symm)
 ·intro h
  refine⟨R+3+((dt (ay l) n.a).sz+(dt (ay l) n.b).sz),dt (ay l) n.a,ir e1 af, ?_⟩
  rw[h]
  exact ir e2 af
theorem I2{F:Tm->Int->Option Int}:∀ {ks:List Tm} {n r:Int},n<0->wH F ks n=some r->r=n
 |[],n,r,_,h=>by cases h;rfl
 |k::ks,n,r,hn,h=>by
  simp only[wH]at h
  rw[if_pos hn]at h
  cases h;rfl
theorem Gx{F:Tm->Int->Option Int}{g:Tm->Nat}:∀ {ks:List Tm} {n r:Int},(∀k∈ks,∀m q,F k m=some q->0<=q->(g k:Int)=m - q)->wH F ks n=some r->0<=r->(((ks.map g).sum:Nat):Int)=n - r
 |[],n,r,_,h,_=>by cases h;simp
 |k::ks,n,r,hF,h,hr=>by
  have h0:=h
  simp only[wH]at h
  split at h
  ·cases h;omega
  ·cases e:F k n with
   |none=>rw[e]at h;cases h
   |some q=>
    rw[e]at h
    have hq:0<=q:=by
     rcases Int.lt_or_le q 0 with hq|hq
     ·have:=I2 hq h;omega
     ·exact hq
    have h1:=hF k aK n q e hq
    have h2:=Gx (g:=g) (fun y hy=>hF y lS) h hr
    rw[List.map_cons,List.sum_cons]
    omega
theorem Gy{s:aJ}{b:List (Int×Tm)}{l:List TB}{ρ:Int->Nat}{R:Nat}(h:qC s b l ρ R):∀ (f:Nat) (t:Tm) (n:Int) (d:Nat) (r:Int),Vs s t->pY f b t n d=some r->0<=r->((dt (ay l) t).sz:Int)=n - r
 |0,_,_,_,_,_,h,_=>by cases h
 |f+1,t,n,d,r,ht,hl,hr=>by
  simp only[pY]at hl
  obtain⟨x,a1,a2,a3,a4,_⟩:=h.root ht
  cases ha:pq f b t with
  |none=>rw[ha]at hl;cases hl
  |some y=>
  have e1:=iq a1 (show R+2<=f+(R+2)from af)
  rw[iq ha (show f<=f+(R+2) by omega)]at e1
  cases e1
  rw[ha]at hl
  cases d with
  |zero=>cases hl;omega
  |succ d=>
   dsimp only at hl
   have h1:=Gx (g:=fun k=>(dt (ay l) k).sz) (fun k hk m q hq ZF=>Gy h f k m d q (a2.yy hk) hq ZF) hl hr
   rw[<- a3]
   by_cases hx:x.op=1
   ·have e:=a2.eta hx
    have hk:x.kids=[]:=by rw[e];rfl
    have hv:dt (ay l) x=x:=by rw[jY a2 hx,show Lv (ay l) x.n= .mk 1 x.n [] by simp[Lv,(h.Gd _).1 (a4 hx)]];exact e.symm
    rw[hk]at h1
    rw[hv,Tm.lb,hk]
    simp[o8]at h1|-
    omega
   ·rw[ma hx,Tm.lb]
    have:o8 (Tm.mk x.op x.n (x.kids.map (dt (ay l)))).kids=(x.kids.map fun k=>(dt (ay l) k).sz).sum:=by
     show o8 (x.kids.map (dt (ay l)))=_
     unfold o8
     rw[List.map_map];rfl
    rw[this]
    omega
theorem OQ{s:aJ}{b:List (Int×Tm)}{l:List TB}{ρ:Int->Nat}{R:Nat}(h:qC s b l ρ R){t:Tm}(ht:Vs s t)(hf:D1 b t):(dt (ay l) t).sz<=40:=by
 obtain⟨f,r,h1,h2⟩:=hf
 have:=Gy h f t 40 12 r ht h1 h2
 omega
theorem VO{s:aJ}{b:List (Int×Tm)}(hb:∀v,(Lv b v).sz<=40):∀t:Tm,Vs s t->(dt b t).sz<=40*t.sz:=by
 refine Tm.fe fun t ih ht=> ?_
 by_cases h1:t.op=1
 ·rw[jY ht h1]
  have:=hb t.n
  have:=Tm.Aq t
  omega
 ·rw[ma h1,Tm.lb,Tm.lb t]
  show 1+o8 (t.kids.map (dt b))<=40*(1+o8 t.kids)
  have key:∀ks:List Tm,(∀k∈ks,(dt b k).sz<=40*k.sz)->o8 (ks.map (dt b))<=40*o8 ks:=by
   intro ks
   induction ks with
   |nil=>intro _;simp[o8]
   |cons k ks VJ=>
    intro h
    have h1:=h k aK
    have h2:=VJ fun y hy=>h y lS
    rw[List.map_cons,nT,nT]
    omega
  have:=key t.kids fun k hk=>ih k hk (ht.yy hk)
  omega
theorem qE{s:aJ}{b:List (Int×Tm)}{l:List TB}{ρ:Int->Nat}{R:Nat}(h:qC s b l ρ R)(hf:∀p∈b,D1 b p.2){t:Tm}(ht:Vs s t):(dt (ay l) t).sz<=40*t.sz:=by
 refine VO (fun v=> ?_) t ht
 cases hx:bW b v with
 |none=>
  have:Lv (ay l) v= .mk 1 v []:=by simp[Lv,(h.Gd v).1 hx]
  rw[this,Tm.lb]
  simp[Tm.kids,o8]
 |some x=>
  obtain⟨g1,g2,_⟩:=h.ok v x hx
  rw[g2]
  exact OQ h g1 (hf _ (dm hx))
end Go.Proofs.YtlhemmpklhhgoaaGreat
set_option maxHeartbeats 4000000
namespace Go.Proofs.YtlhemmpklhhgoaaGreat
def sN(o:Nat->aa)(nx:Nat)(s:mT)(m:aa):Nat->aa:=
 aM (aM (aM (aM o nx (.row s.row)) (nx+1) (.row [.a8, .a8, .a8, .a8, .a8, .d .eJ])) (nx+4) m) (nx+6) (.row (s.row++[.mp (nx+4)]))
theorem kpH_0(o:Nat->aa)(nx:Nat)(s:mT)(m:aa):sN o nx s m nx= .row s.row:=by
 unfold sN;rw[ah _ _ _ _ (by omega),ah _ _ _ _ (by omega),ah _ _ _ _ (by omega),ag]
theorem kpH_1(o:Nat->aa)(nx:Nat)(s:mT)(m:aa):sN o nx s m (nx+1)= .row [.a8, .a8, .a8, .a8, .a8, .d .eJ]:=by
 unfold sN;rw[ah _ _ _ _ (by omega),ah _ _ _ _ (by omega),ag]
theorem kpH_4(o:Nat->aa)(nx:Nat)(s:mT)(m:aa):sN o nx s m (nx+4)=m:=by
 unfold sN;rw[ah _ _ _ _ (by omega),ag]
theorem kpH_6(o:Nat->aa)(nx:Nat)(s:mT)(m:aa):sN o nx s m (nx+6)= .row (s.row++[.mp (nx+4)]):=by unfold sN;rw[ag]
theorem Gz(o:Nat->aa)(nx:Nat)(s:mT)(m:aa){j:Nat}(h0:j≠nx)(h1:j≠nx+1)(h4:j≠nx+4)(h6:j≠nx+6):sN o nx s m j=o j:=by
 unfold sN;rw[ah _ _ _ _ h6,ah _ _ _ _ h4,ah _ _ _ _ h1,ah _ _ _ _ h0]
theorem Cf(o:Nat->aa)(nx:Nat)(s:mT)(m m':aa)(j:Nat):aM (sN o nx s m) (nx+4) m' j=sN o nx s m' j:=by
 by_cases e:j=nx+4
 ·subst e;rw[ag,kpH_4]
 ·rw[ah _ _ _ _ e]
  unfold sN
  by_cases e6:j=nx+6
  ·subst e6;rw[ag,ag]
  ·rw[ah _ _ _ _ e6,ah _ _ _ _ e6,ah _ _ _ _ e,ah _ _ _ _ e]
theorem oe{o:Nat->aa}{nx:Nat}(hg:Good o nx)(s:mT){m:aa}(hm:m.refs=[]):Good (sN o nx s m) (nx+7):=by
 unfold sN
 refine Good.aM (Good.aM (Good.aM (Good.aM (hg.mono af) af rfl) af rfl) af (by rw[hm];rfl)) af Hd
theorem I3(o:Nat->aa)(nx:Nat)(s:mT)(j:Nat):
 aM (aM (aM (aM (aM o nx (.row s.row)) (nx+1) (.row [.a8, .a8, .a8, .a8, .a8, .d .eJ])) (nx+4) (lh [])) (nx+6) (.row [.a8, .a8, .a8, .a8, .a8, .d .eJ])) (nx+6) (.row (s.row++[.mp (nx+4)])) j=sN o nx s (lh []) j:=by
 unfold sN
 by_cases e:j=nx+6
 ·subst e;rw[ag,ag]
 ·rw[ah _ _ _ _ e,ah _ _ _ _ e,ah _ _ _ _ e]
set_option maxRecDepth 100000 in
theorem I4(s:mT)(hs:s.Fin)(o:Nat->aa)(nx:Nat)(hg:Good o nx)(K X:V->(Nat->aa)->Nat->Prop)
 (ZG:mc s->∀o' nx' id,nx<=nx'->Good o' nx'->(∀j,j<nx->o' j=o j)->o' id= .cO (enc (D.int .i64) (oq (ay s.binds)))->K (.bC [.agg (s.row++[.mp id]), .d (.bool true)]) o' nx')
 (Cs: ¬mc s->∀o' nx' id m,nx<=nx'->id<nx'->Good o' nx'->(∀j,j<nx->o' j=o j)->o' id=lh m\/o' id= .cO (enc (D.int .i64) (oq m))->K (.bC [.agg (s.row++[.mp id]), .d (.bool false)]) o' nx'):
 dV Tryz.prog 79 [.d s.d] o nx K X:=by
 refine dV.aN mix TJ aK ?_
 rw[Y8]
 refine wJ ?_
 refine aw (sb s.sig hs.sig) rfl ?_
 have qS:=hs.bl
 have vj:=hs.nl
 have DO:=hs.ml
 cases h1:kQ s.sig with
 |false=>
  simp+contextual (disch:=first|omega|simp only[go_sem,false_implies]) only[go_sem,wrap64,if_pos,ke,Nat.add_assoc,Nat.left_eq_add,Nat.add_eq_left,Nat.add_left_cancel_iff,List.length_map]
  refine Cs (fun h=> ?_) _ _ (nx+4) [] ?_ ?_ ?_ (fun j hj=> ?_) (.inl ?_)
  rotate_left
  ·omega
  ·omega
  ·exact dZ
  ·exact iA
  ·exact iA
  have:=h.sig
  rw[h1]at this;cases this
 |true=>
 by_cases h2:20<s.binds.length
 ·have pH:decide ((s.binds.length:Int)>20)=true:=by simp;omega
  simp+contextual (disch:=first|omega|simp only[go_sem,false_implies]) only[go_sem,wrap64,if_pos,ke,Nat.add_assoc,Nat.left_eq_add,Nat.add_eq_left,Nat.add_left_cancel_iff,List.length_map,pH]
  refine Cs (fun h=> ?_) _ _ (nx+4) [] ?_ ?_ ?_ (fun j hj=> ?_) (.inl ?_)
  rotate_left
  ·omega
  ·omega
  ·exact dZ
  ·exact iA
  ·exact iA
  have:=h.G1.len
  omega
 have pH:decide ((s.binds.length:Int)>20)=false:=by simp;omega
 by_cases h3:12<s.b8.length
 ·have pI:decide ((s.b8.length:Int)>12)=true:=by simp;omega
  simp+contextual (disch:=first|omega|simp only[go_sem,false_implies]) only[go_sem,wrap64,if_pos,ke,Nat.add_assoc,Nat.left_eq_add,Nat.add_eq_left,Nat.add_left_cancel_iff,List.length_map,pH,pI]
  refine Cs (fun h=> ?_) _ _ (nx+4) [] ?_ ?_ ?_ (fun j hj=> ?_) (.inl ?_)
  rotate_left
  ·omega
  ·omega
  ·exact dZ
  ·exact iA
  ·exact iA
  have:=h.VM
  omega
 have pI:decide ((s.b8.length:Int)>12)=false:=by simp;omega
 by_cases h4:8<s.marks.length
 ·have CL:decide ((s.marks.length:Int)>8)=true:=by simp;omega
  refine Qq pH pI CL ?_
  refine Cs (fun h=> ?_) _ _ (nx+4) [] ?_ ?_ ?_ (fun j hj=> ?_) (.inl ?_)
  rotate_left
  ·omega
  ·omega
  ·exact dZ
  ·exact iA
  ·exact iA
  have:=h.VN
  omega
 have CL:decide ((s.marks.length:Int)>8)=false:=by simp;omega
 refine Qq pH pI CL ?_
 have fin:∀ (m:List (Int×Tm)) (M:aa),(M=lh m\/M= .cO (enc (D.int .i64) (oq m)))->∀O n,nx+7<=n->Good O n->(∀j,j<nx+7->j≠nx+1->O j=sN o nx s M j)-> ¬mc s->K (.bC [.agg (s.row++[.mp (nx+4)]), .d (.bool false)]) O n:=fun m M hM O n i1 i2 i3 i4=>
  Cs i4 O n (nx+4) m af af i2 (fun j hj=>by rw[i3 j (by omega) (by omega),Gz _ _ _ _ (by omega) (by omega) (by omega) (by omega)]) (by rw[i3 (nx+4) (by omega) (by omega),kpH_4];exact hM)
 refine aL (fun k:Nat=>⟨bc [.ab, .ptr nx 0, .ptr (nx+1) 0, .ab, .ptr (nx+6) 0, .ab, .ab, .ab, .ab, .ab, .ab, .ab, .ab, .ab, .ab, .ab, .ab, .ab, .ab, .ab, .ab, .ab, .ab, .ab, .ab, .ab, .ab, .ab, .ab, .ab, .ab, .ab, .ab, .ab, .ab, .ab, .ab, .ab, .ab, .ab, .ab, .ab, .ab, .d (.sl (s.binds.map TB.d)), .d (.i s.binds.length), .d (.i k)],sN o nx s (lh (ay (s.binds.take k))),nx+7⟩)
  (fun k=>k<=s.binds.length/\((ay (s.binds.take k)).map (·.1)).Nodup/\∀x∈s.binds.take k,(0<=x.var/\x.var<20)/\jS s.sig x.term=true) (fun k=>s.binds.length - k) 0 ⟨Nat.zero_le _,List.nodup_nil,fun x hx=>by simp at hx⟩ (bM.bP _ (show nx<=nx+7 from af) af (oe hg s (by rfl)) (fun j hj=> ?_) ?_) (fun k hk=> ?_)
 ·exact I3 o nx s j
 ·exact ec
 obtain⟨hk,xr,aP⟩:=hk
 have IU:mc s->((ay (s.binds.take (k+1))).map (·.1)).Nodup:=fun h=>h.G1.keys.sublist (((List.take_sublist _ _).map _).map _)
 have Vv:=oe (m:=lh (ay (s.binds.take k))) hg s rfl
 have hg0:=hg
 clear hg
 have hg:=Vv
 have e0:=kpH_0 o nx s (lh (ay (s.binds.take k)))
 have e1:=kpH_1 o nx s (lh (ay (s.binds.take k)))
 have e4:=kpH_4 o nx s (lh (ay (s.binds.take k)))
 have e6:=kpH_6 o nx s (lh (ay (s.binds.take k)))
 refine O6 e0 e1 e4 e6 ?_
 refine ak (fun h5=> ?_) (fun h5=> ?_)
 ·replace h5:k<s.binds.length:=by simp at h5;omega
  obtain⟨x,hx⟩:=aH h5
  have gv:=List.mem_of_getElem? hx
  have ze:=yQ s.binds hx
  have hnk:∀ (P:Prop),(sC s.sig s.binds->P)->(mc s->P):=fun P h hs=>h hs.G1
  cases hl:bW (ay (s.binds.take k)) x.var with
  |some z=>
   obtain⟨jz,hj⟩:=jb hl
   simp+contextual (disch:=first|omega|simp only[go_sem,false_implies]) only[go_sem,wrap64,if_pos,e0,e1,e4,e6,hx,hj,List.length_map,Nat.add_assoc,Nat.left_eq_add,Nat.add_eq_left,Nat.add_left_cancel_iff]
   refine fin _ _ (.inl rfl) _ _ af dZ (fun j j1 j2=>by(repeat(first|rfl|rw[ag]|rw[ah _ _ _ _ (by omega)]))) (fun h=> ?_)
   have h7:=IU h
   rw[ze,List.map_append,List.nodup_append]at h7
   exact h7.2.2 x.var (List.mem_map.2 ⟨_,dm hl,rfl⟩) x.var aK rfl
  |none=>
   have VH:=fL hl
   by_cases h6:x.var<0
   ·have WU:decide (x.var<0)=true:=decide_eq_true h6
    refine Ls e0 e1 e4 e6 hx VH WU ?_
    refine fin _ _ (.inl rfl) _ _ af dZ (fun j j1 j2=>by(repeat(first|rfl|rw[ag]|rw[ah _ _ _ _ (by omega)]))) (fun h=> ?_)
    have:=(h.G1.ok x gv).1
    omega
   have WU:decide (x.var<0)=false:=decide_eq_false h6
   by_cases h7:20<=x.var
   ·have ZH:decide (x.var≥20)=true:=decide_eq_true h7
    refine Lr e0 e1 e4 e6 hx VH WU ZH ?_
    refine fin _ _ (.inl rfl) _ _ af dZ (fun j j1 j2=>by(repeat(first|rfl|rw[ag]|rw[ah _ _ _ _ (by omega)]))) (fun h=> ?_)
    have:=(h.G1.ok x gv).1
    omega
   have ZH:decide (x.var≥20)=false:=decide_eq_false h7
   refine Lr e0 e1 e4 e6 hx VH WU ZH ?_
   refine aw (sB s hs.sig (ay (s.binds.take k)) x.term (hs.bt x gv)) rfl ?_
   cases hv:jS s.sig x.term with
   |false=>
    refine O6 e0 e1 e4 e6 ?_
    refine fin _ _ (.inl rfl) _ _ af dZ (fun j j1 j2=>by(repeat(first|rfl|rw[ag]|rw[ah _ _ _ _ (by omega)]))) (fun h=> ?_)
    have:=(h.G1.ok x gv).2
    rw[hv]at this;cases this
   |true=>
    have has:=F9 (x:=x.term) hl
    refine Qr e0 e1 e4 e6 has ?_
    refine ax (k+1) ⟨h5, ?_,fun y hy=> ?_⟩ af (bM.bP _ (show nx<=nx+7 from af) af (oe hg0 s (by rfl)) (fun j hj=> ?_) ?_)
    ·rw[ze,List.map_append,List.nodup_append]
     refine⟨xr,aK,fun a ha c hc e=> ?_⟩
     simp at hc
     rw[e,hc]at ha
     exact nW.1 hl ha
    ·rw[List.take_add_one,hx]at hy
     rcases List.mem_append.1 hy with hy|hy
     ·exact aP y hy
     ·simp at hy
      subst hy
      exact⟨af,hv⟩
    ·have hj:j<nx+7:=hj
     rw[ze, <- Cf o nx s (lh (ay (s.binds.take k)))]
     by_cases e:j=nx+4
     ·exact sO
     ·exact iA
    ·exact ec
 ·replace h5:k=s.binds.length:=by simp at h5;omega
  subst h5
  rw[List.take_length]at xr aP e0 e1 e4 e6|-
  refine AV e0 e1 e4 e6 ?_
  obtain⟨b,hb⟩:∃b,b=ay s.binds:=⟨_,rfl⟩
  have lP:∀p∈b,p.2.fits:=fun p hp=>by
   rw[hb]at hp
   obtain⟨x,hx,rfl⟩:=gB hp
   exact(hs.bt x hx).fits
  have DK:∀p∈b,Vs s.sig p.2:=fun p hp=>by
   rw[hb]at hp
   obtain⟨x,hx,rfl⟩:=gB hp
   exact(lp (aP x hx).2).1
  rw[<- hb]at xr|-
  clear hg Vv
  have hg:=oe (m:= .cO (enc (D.int .i64) (oq b))) hg0 s (by rfl)
  have f0:=kpH_0 o nx s (.cO (enc (D.int .i64) (oq b)))
  have f1:=kpH_1 o nx s (.cO (enc (D.int .i64) (oq b)))
  have f4:=kpH_4 o nx s (.cO (enc (D.int .i64) (oq b)))
  have f6:=kpH_6 o nx s (.cO (enc (D.int .i64) (oq b)))
  clear e0 e1 e4 e6
  refine aL (fun i:List (Int×Tm)×Option (D×D)=>⟨bc [.ab, .ptr nx 0, .ptr (nx+1) 0, .ab, .ptr (nx+6) 0, .ab, .ab, .ab, .ab, .ab, .ab, .ab, .ab, .ab, .ab, .ab, .ab, .ab, .ab, .ab, .ab, .ab, .ab, .ab, .ab, .ab, .ab, .ab, .ab, .ab, .ab, .ab, .ab, .ab, .ab, .ab, .ab, .ab, .ab, .ab, .ab, .ab, .ab, .ab, .ab, .ab, .ab, .ab, .ab, .ab, .ab, .ab, .ab, .ab, .ab, .ab, .ab, .ab, .ab, .ab, .ab, .ab, .ab, .ab, .ab, .ab, .ab, .ab, .ab, .ab, .ab, .ab, .ab, .ab, .ab, .ab, .ab, .ab, .ab, .ab, .ab, .ab, .ab, .ab, .ab, .ptr (nx+10) 0],aM (sN o nx s (.cO (enc (D.int .i64) (oq b)))) (nx+10) (.oB (enc (D.int .i64) (oq i.1)) i.2),nx+11⟩)
   (fun i=>(∀p∈i.1,p∈b)/\∀p∈b,p∉i.1-> ¬nZ b p.1 p.2) (fun i=>i.1.length) (b,none) ⟨fun _ h=>h,fun p h h'=>absurd h h'⟩ (bM.bP _ (show nx<=nx+11 from af) af dZ (fun j hj=> ?_) ?_) ?_
  ·dsimp only
   by_cases e:j=nx+10
   ·subst e;rw[ag,ag]
   ·rw[ah _ _ _ _ e,ah _ _ _ _ e,Cf]
  ·exact ec
  rintro⟨rest,last⟩ ⟨hr,hd⟩
  dsimp only at hr hd|-
  refine AV f0 f1 f4 f6 ?_
  refine uC (fun h0=> ?_) fun i v x hm=> ?_
  ·subst h0
   have GA:Qo b:=fun v x hx=>hd (v,x) (dm hx) aK
   have qe:=wx (by rw[<- hb];exact xr) aP (by rw[<- hb];exact GA)
   rw[<- hb]at qe
   obtain⟨l',ρ,R,hS,hl⟩:=qe
   have hle:∀p∈b,∃f r,pY f b p.2 40 12=some r:=fun p hp=>by
    exact Ju
   obtain⟨fo,B0⟩:∃fo:Bool,fo=true↔∀p∈b,D1 b p.2:=by
    classical
    exact⟨decide (∀p∈b,D1 b p.2),aK⟩
   refine AV f0 f1 f4 f6 ?_
   refine aw (DB lP hle B0) rfl ?_
   cases fo with
   |false=>
    refine AV f0 f1 f4 f6 ?_
    refine fin _ _ (.inr rfl) _ _ af dZ (fun j j1 j2=>by(repeat(first|rfl|rw[ag]|rw[ah _ _ _ _ (by omega)]))) (fun h=> ?_)
    have:=B0.2 fun p hp=>by
     rw[hb]at hp|-
     obtain⟨x,hx,rfl⟩:=gB hp
     exact h.G1.ZE x hx
    cases this
   |true=>
    have Mo:sC s.sig s.binds:=⟨af,by rw[<- hb];exact xr,aP,by rw[<- hb];exact GA,fun x hx=>by rw[<- hb];exact B0.1 rfl _ (hb ▸ jT hx)⟩
    refine O6 f0 f1 f4 f6 ?_
    refine aL (fun k:Nat=>⟨bc [.ab, .ptr nx 0, .ptr (nx+1) 0, .ab, .ptr (nx+6) 0, .ab, .ab, .ab, .ab, .ab, .ab, .ab, .ab, .ab, .ab, .ab, .ab, .ab, .ab, .ab, .ab, .ab, .ab, .ab, .ab, .ab, .ab, .ab, .ab, .ab, .ab, .ab, .ab, .ab, .ab, .ab, .ab, .ab, .ab, .ab, .ab, .ab, .ab, .ab, .ab, .ab, .ab, .ab, .ab, .ab, .ab, .ab, .ab, .ab, .ab, .ab, .ab, .ab, .ab, .ab, .ab, .ab, .ab, .ab, .ab, .ab, .ab, .ab, .ab, .ab, .ab, .ab, .ab, .ab, .ab, .ab, .ab, .ab, .ab, .ab, .ab, .ab, .ab, .ab, .ab, .ab, .ab, .ab, .ab, .ab, .ab, .ab, .ab, .ab, .ab, .ab, .ab, .ab, .ab, .ab, .ab, .ab, .ab, .d (.sl (s.b8.map Nt.d)), .d (.i s.b8.length), .d (.i k)],sN o nx s (.cO (enc (D.int .i64) (oq b))),nx+7⟩)
     (fun k=>k<=s.b8.length/\∀n∈s.b8.take k,jS s.sig n.a=true/\jS s.sig n.b=true/\ ¬WT b n) (fun k=>s.b8.length - k) 0 ⟨Nat.zero_le _,fun n hn=>by simp at hn⟩ (bM.bP _ (show nx<=nx+7 from af) af hg (fun j hj=> ?_) ?_) (fun k hk=> ?_)
    ·have hj:j<nx+7:=hj
     exact iA
    ·exact ec
    obtain⟨hk,OR⟩:=hk
    refine O6 f0 f1 f4 f6 ?_
    refine ak (fun h6=> ?_) (fun h6=> ?_)
    ·replace h6:k<s.b8.length:=by simp at h6;omega
     obtain⟨n,hn⟩:=aH h6
     have wD:=List.mem_of_getElem? hn
     obtain⟨na,nb⟩:=hs.nt n wD
     refine Qr f0 f1 f4 f6 hn ?_
     refine aw (sB s hs.sig b n.a na) rfl ?_
     cases va:jS s.sig n.a with
     |false=>
      refine AV f0 f1 f4 f6 ?_
      refine fin _ _ (.inr rfl) _ _ af dZ (fun j j1 j2=>by(repeat(first|rfl|rw[ag]|rw[ah _ _ _ _ (by omega)]))) (fun h=> ?_)
      have:=(h.b8 n wD).1
      rw[va]at this;cases this
     |true=>
      refine AV f0 f1 f4 f6 ?_
      refine aw (sB s hs.sig b n.b nb) rfl ?_
      cases vb:jS s.sig n.b with
      |false=>
       refine AV f0 f1 f4 f6 ?_
       refine fin _ _ (.inr rfl) _ _ af dZ (fun j j1 j2=>by(repeat(first|rfl|rw[ag]|rw[ah _ _ _ _ (by omega)]))) (fun h=> ?_)
       have:=(h.b8 n wD).2.1
       rw[vb]at this;cases this
      |true=>
       obtain⟨a1,a2,a3⟩:=lp va
       obtain⟨b1,b2,b3⟩:=lp vb
       have cC:∀p∈b,D1 b p.2:=B0.1 rfl
       have za:=qE hS cC a1
       have zb:=qE hS cC b1
       have ua:wI (R+3+3200) b n.a=some (dt (ay l') n.a):=yN hS 3200 n.a a1 af
       have ub:wI (R+3+3200) b n.b=some (dt (ay l') n.b):=yN hS 3200 n.b b1 af
       have VP:=Ce (n:=n) hS a1 b1
       refine AV f0 f1 f4 f6 ?_
       refine aw (DC s lP n na.fits nb.fits ua ub (Tm.qB _ af) (Tm.qB _ af) af af) rfl ?_
       cases Be:ig (dt (ay l') n.a) (dt (ay l') n.b)with
       |true=>
        refine AV f0 f1 f4 f6 ?_
        refine fin _ _ (.inr rfl) _ _ af dZ (fun j j1 j2=>by(repeat(first|rfl|rw[ag]|rw[ah _ _ _ _ (by omega)]))) (fun h=> ?_)
        exact(h.b8 n wD).2.2 (hb ▸ VP.2 ((lF _ _).1 Be))
       |false=>
        refine AV f0 f1 f4 f6 ?_
        refine ax (k+1) ⟨h6,fun y hy=> ?_⟩ af (bM.bP _ (show nx<=nx+7 from af) af hg (fun j hj=> ?_) ?_)
        ·rw[List.take_add_one,hn]at hy
         rcases List.mem_append.1 hy with hy|hy
         ·exact OR y hy
         ·simp at hy
          subst hy
          refine⟨va,vb,fun h=> ?_⟩
          rw[(lF _ _).2 (VP.1 h)]at Be;cases Be
        ·have hj:j<nx+7:=hj
         exact iA
        ·exact ec
    ·replace h6:k=s.b8.length:=by simp at h6;omega
     subst h6
     rw[List.take_length]at OR
     refine O6 f0 f1 f4 f6 ?_
     refine aL (fun i:Nat×Int×Int=>⟨bc [.ab, .ptr nx 0, .ptr (nx+1) 0, .ab, .ptr (nx+6) 0, .ab, .ab, .ab, .ab, .ab, .ab, .ab, .ab, .ptr (nx+8) 0, .ab, .ab, .ab, .ab, .ab, .ab, .ab, .ab, .ab, .ab, .ab, .ab, .ab, .ab, .ab, .ab, .ab, .ab, .ab, .ab, .ab, .ab, .ab, .ab, .ab, .ab, .ab, .ab, .ab, .ab, .ab, .ab, .ab, .ab, .ab, .ab, .ab, .ab, .ab, .ab, .ab, .ab, .ab, .ab, .ab, .ab, .ab, .ab, .ab, .ab, .ab, .ab, .ab, .ab, .ab, .ab, .ab, .ab, .ab, .ab, .ab, .ab, .ab, .ab, .ab, .ab, .ab, .ab, .ab, .ab, .ab, .ab, .ab, .ab, .ab, .ab, .ab, .ab, .ab, .ab, .ab, .ab, .ab, .ab, .ab, .ab, .ab, .ab, .ab, .ab, .ab, .ab, .ab, .ab, .ab, .ab, .ab, .ab, .ab, .ab, .ab, .ab, .ab, .ab, .ab, .ab, .ab, .ab, .ab, .ab, .ab, .ab, .ab, .ab, .ab, .d (.sl (s.marks.map VL)), .d (.i s.marks.length), .d (.i i.1)],aM (sN o nx s (.cO (enc (D.int .i64) (oq b)))) (nx+8) (.row [.d (.i i.2.1), .d (.i i.2.2)]),nx+9⟩)
      (fun i=>i.1<=s.marks.length/\tc s.binds.length s.b8.length i.2 (s.marks.drop i.1)=tc s.binds.length s.b8.length (0,0) s.marks) (fun i=>s.marks.length - i.1) (0,0,0) ⟨Nat.zero_le _,rfl⟩ (bM.bP _ (show nx<=nx+9 from af) af dZ (fun j hj=>by(repeat(first|rfl|rw[ag]|rw[ah _ _ _ _ (by omega)]))) ?_) ?_
     ·exact ec
     rintro⟨k,l1,l2⟩ ⟨hk,js⟩
     dsimp only at hk js|-
     refine O6 f0 f1 f4 f6 ?_
     refine ak (fun h7=> ?_) (fun h7=> ?_)
     ·replace h7:k<s.marks.length:=by simp at h7;omega
      obtain⟨⟨m1,m2⟩,hm⟩:=aH h7
      have IY:s.marks.drop k=(m1,m2)::s.marks.drop (k+1):=by
       obtain⟨i1,i2⟩:=List.getElem?_eq_some_iff.1 hm
       exact Hc
      rw[IY,tc]at js
      dsimp only at js
      cases g1:decide (m1<l1)with
      |true=>
       rw[g1]at js
       simp only[Bool.true_or,Bool.or_true,Bool.not_true,Bool.false_and]at js
       refine Ls f0 f1 f4 f6 hm hm g1 ?_
       exact V5
      |false=>
      rw[g1]at js
      cases g2:decide (m1>(s.binds.length:Int))with
      |true=>
       rw[g2]at js
       simp only[Bool.true_or,Bool.or_true,Bool.not_true,Bool.false_and]at js
       refine Ls f0 f1 f4 f6 hm g1 g2 ?_
       exact V5
      |false=>
      rw[g2]at js
      cases g3:decide (m2<l2)with
      |true=>
       rw[g3]at js
       simp only[Bool.true_or,Bool.or_true,Bool.not_true,Bool.false_and]at js
       refine Lr f0 f1 f4 f6 hm g1 g2 g3 ?_
       exact V5
      |false=>
      rw[g3]at js
      cases g4:decide (m2>(s.b8.length:Int))with
      |true=>
       rw[g4]at js
       simp only[Bool.true_or,Bool.or_true,Bool.not_true,Bool.false_and]at js
       simp+contextual (disch:=first|omega|simp only[go_sem,false_implies]) only[go_sem,wrap64,if_pos,f0,f1,f4,f6,hm,g1,g2,g3,g4,List.length_map,Nat.add_assoc,Nat.left_eq_add,Nat.add_eq_left,Nat.add_left_cancel_iff]
       exact V5
      |false=>
      rw[g4]at js
      simp only[Bool.or_false,Bool.not_false,Bool.true_and]at js
      simp+contextual (disch:=first|omega|simp only[go_sem,false_implies]) only[go_sem,wrap64,if_pos,f0,f1,f4,f6,hm,g1,g2,g3,g4,List.length_map,Nat.add_assoc,Nat.left_eq_add,Nat.add_eq_left,Nat.add_left_cancel_iff]
      refine ax (k+1,m1,m2) ⟨h7,js⟩ qH (bM.bP _ (show nx<=nx+9 from af) af dZ (fun j hj=> ?_) ?_)
      ·have hj:j<nx+9:=hj
       by_cases e:j=nx+8
       ·exact sO
       ·exact iA
      ·exact ec
     ·replace h7:k=s.marks.length:=by simp at h7;omega
      subst h7
      rw[List.drop_length]at js
      refine AV f0 f1 f4 f6 ?_
      refine ZG ⟨h1,af,af,Mo,fun n hn=> ?_,js.symm⟩ _ _ (nx+4) af dZ (fun j hj=> ?_) ?_
      ·rw[<- hb];exact OR n hn
      ·(repeat(first|rfl|rw[ag]|rw[ah _ _ _ _ (by omega)]));exact Gz _ _ _ _ af af af af
      ·(repeat(first|rfl|rw[ag]|rw[ah _ _ _ _ (by omega)]));rw[f4,hb]
  ·have lL:=List.mem_of_getElem? hm
   have GW:=hr _ lL
   have uM:=sq hm
   have hlen:(rest.eraseIdx i).length<rest.length:=by
    exact RM
   obtain⟨is,Gw⟩:∃is:Bool,is=true↔nZ b v x:=by
    classical
    exact⟨decide (nZ b v x),aK⟩
   refine AV f0 f1 f4 f6 ?_
   refine aw (I1 DK lP v x (DK _ GW) (lP _ GW) Gw) rfl ?_
   cases is with
   |true=>
    refine AV f0 f1 f4 f6 ?_
    refine fin _ _ (.inr rfl) _ _ af dZ (fun j j1 j2=>by(repeat(first|rfl|rw[ag]|rw[ah _ _ _ _ (by omega)]))) (fun h=> ?_)
    exact h.G1.WO v x ((nX h.G1.keys).2 (hb ▸ GW)) (hb ▸ Gw.1 rfl)
   |false=>
    refine AV f0 f1 f4 f6 ?_
    refine ax (rest.eraseIdx i,some (.int .i64 v,x.d)) ⟨fun p hp=>hr p (uM.mem_iff.1 (List.mem_cons_of_mem _ hp)),fun p hp hpn=> ?_⟩ hlen (bM.bP _ (show nx<=nx+11 from af) af dZ (fun j hj=> ?_) ?_)
    ·by_cases e:p=(v,x)
     ·subst e
      exact fun h=>Bool.false_ne_true (Gw.2 h)
     ·exact hd p hp fun pD=>by
       rcases List.mem_cons.1 (uM.mem_iff.2 pD)with h|h
       ·exact e h
       ·exact hpn h
    ·have hj:j<nx+11:=hj
     by_cases e:j=nx+10
     ·exact sO
     ·exact iA
    ·exact ec
end Go.Proofs.YtlhemmpklhhgoaaGreat
namespace Go.Proofs.YtlhemmpklhhgoaaGreat
structure Srt (s:aJ) (l:List TB):Prop where
 Zx:l.Pairwise fun x y=>x.var<y.var
 ok:∀x∈l,(0<=x.var/\x.var<20)/\Vs s x.term
structure MS (b:List (Int×Tm)) (l:List TB):Prop where
 keys:(b.map (·.1)).Nodup
 lk:∀v,bW b v=bW (ay l) v
mutual
def Tm.GC:Tm->Prop
 | .mk _ _ kids=>kids.length<=1000/\Tm.GD kids
def Tm.GD:List Tm->Prop
 |[]=>True
 |k::l=>k.GC/\Tm.GD l
end
theorem Tm.yR:∀l:List Tm,Tm.GD l↔∀k∈l,k.GC
 |[]=>by simp[Tm.GD]
 |k::l=>by simp[Tm.GD,Tm.yR l]
theorem Tm.wy (t:Tm):t.GC↔t.kids.length<=1000/\∀k∈t.kids,k.GC:=by cases t;simp[Tm.GC,Tm.yR,Tm.kids]
theorem Tm.OS:∀t:Tm,t.sz<=1000->t.GC:=by
 refine Tm.fe fun t ih h=> ?_
 rw[Tm.wy]
 have:=nY t.kids
 have h2:=Tm.lb t
 exact⟨af,fun k hk=>ih k hk (by have:=Tm.Az hk;omega)⟩
theorem Tm.GF:∀t:Tm,t.GC->t.fits:=by
 refine Tm.fe fun t ih h=> ?_
 have h':=(Tm.wy t).1 h
 rw[Tm.bA]
 exact⟨af,fun k hk=>ih k hk (h'.2 k hk)⟩
theorem I5{s:aJ}{t:Tm}(hv:Vs s t):(c8 t).length<=20:=wb (fun n hn=>hv.range (((fH t).2 n).1 hn)) (fH t).1
theorem yS{s:aJ}:∀t:Tm,Vs s t->t.GC->aY Tryz.prog 141 [t.d] (.ret [.sl ((c8 t).map .i)]):=by
 refine Tm.fe fun t ih hv ht=> ?_
 have hw':=(Tm.wy t).1 ht
 refine aY.aN mix Uw aK ?_
 rw[Uv]
 by_cases h1:t.op=1
 ·refine ou h1 ?_
  rw[nV,if_pos h1]
  rfl
 ·have jD:(t.op==1)=false:=by simpa using h1
  have b1:(t.op !=8)=true:=by simpa using hv.n8
  refine ou jD ?_
  rw[nV,if_neg h1]
  refine aL (fun i:Nat×List Int=>⟨bc [.ab, .ptr 0 0, .ab, .d (.sl (i.2.map .i)), .d (.i i.1)],mI t.row,1⟩)
   (fun i=>i.1<=t.kids.length/\jR t.op t.n t.kids 0 []=jR t.op t.n (t.kids.drop i.1) i.1 i.2/\Dv i.2/\∀v∈i.2,0<=v/\v<20) (fun i=>t.kids.length - i.1) (0,[]) ⟨Nat.zero_le _,rfl,List.Pairwise.nil,fun _ h=>by cases h⟩
   (bM.Vl (fun _=>False) 1 _ af (lt1 (lr rfl Hd)) (fun j hj=>ah _ _ _ _ af) (fun _ h=>h.elim) ?_) ?_
  ·try dsimp only
   exact DF
  rintro⟨k,out⟩ ⟨hk,Gb,VQ,hrg⟩
  simp only at hk Gb VQ hrg
  refine cQ ?_
  refine ak (fun h2=> ?_) (fun h2=> ?_)
  ·simp at h2
   obtain⟨x,hx⟩:=aH h2
   have gv:=List.mem_of_getElem? hx
   have vx:=hv.yy gv
   have Wb:=I5 vx
   have IY:t.kids.drop k=x::t.kids.drop (k+1):=by
    obtain⟨h5,h6⟩:=List.getElem?_eq_some_iff.1 hx
    rw[List.drop_eq_getElem_cons h5,h6]
   have part:∀L:List Int,(∀v∈L,v∈c8 x)->Dv (mL t.op t.n k L out)/\∀v∈mL t.op t.n k L out,0<=v/\v<20:=fun L hL=>by
    obtain⟨q1,q2⟩:=lG t.op t.n k L out VQ
    refine⟨q1,fun v II=> ?_⟩
    rcases(q2 v).1 II with h|h
    ·exact hrg v h
    ·exact vx.range (((fH x).2 v).1 (hL v h.1))
   refine ou hx ?_
   refine cW (ih x gv vx (hw'.2 x gv)) ?_
   refine ou hx ?_
   refine aL (fun j:Nat=>⟨bc [.ab, .ptr 0 0, .ab, .d (.sl ((mL t.op t.n k ((c8 x).take j) out).map .i)), .d (.i k), .d (.sl ((c8 x).map .i)), .d (.i j)],mI t.row,1⟩)
    (fun j=>j<=(c8 x).length) (fun j=>(c8 x).length - j) 0 (Nat.zero_le _) (bM.d1 _ (b7 rfl) af rfl ?_) (fun j hj=> ?_)
   ·exact ec
   refine cQ ?_
   refine ak (fun h3=> ?_) (fun h3=> ?_)
   ·simp at h3
    obtain⟨v,II⟩:=aH h3
    have uW:=part ((c8 x).take j) (fun v hv=>List.mem_of_mem_take hv)
    have Hv:=wb uW.2 uW.1
    have hc:(t.op !=8||(k:Int)!=1||v !=t.n)=true:=by rw[b1];rfl
    simp+contextual (disch:=first|omega|simp only[go_sem,false_implies]) only[go_sem,wrap64,if_pos,II,b1]
    refine bg dU ?_
    refine ou II ?_
    refine cW (VD _ v af) ?_
    refine cQ ?_
    refine ax (j+1) h3 af (bM.d1 _ (b7 rfl) af rfl ?_)
    rw[Dx II,if_pos hc]
    exact ec
   ·simp at h3
    refine cQ ?_
    rw[List.take_of_length_le (by omega)]
    obtain⟨p1,p2⟩:=part (c8 x) (fun v hv=>hv)
    refine ax (k+1,mL t.op t.n k (c8 x) out) ⟨h2,by rw[Gb,IY];rfl,p1,p2⟩ qH (bM.d1 _ (b7 rfl) af rfl ?_)
    exact ec
  ·simp at h2
   refine cQ ?_
   rw[Gb,List.drop_eq_nil_of_le (by omega)]
   rfl
theorem GG(s:mT)(hs:s.Fin){ok:Bool}(aP:ok=true↔mc s):aY Tryz.prog 37 [s.d] (.ret [.i (if ok=true then 0 else 2)]):=by
 refine aY.aN mix YF aK ?_
 rw[c37]
 refine cQ ?_
 refine eF (I4 s hs _ _ dZ _ _ (fun h o' nx' id i1 i2 i3 i4=> ?_) (fun h o' nx' id m i1 i0 i2 i3 i4=> ?_))
 ·have:ok=true:=aP.2 h
  exact qI
 ·have:ok=false:=by
   cases ok with
   |false=>rfl
   |true=>exact absurd (aP.1 rfl) h
  exact qI
theorem AL(n low high:Int):aY Tryz.prog 77 [.i n, .i low, .i high] (.ret [.bool (c6 n low high)]):=by
 refine aY.aN mix Y6 aK ?_
 rw[c77]
 refine bX ?_
 rfl
theorem pf(s:aJ)(hs:s.Fits)(t:Tm)(ht:t.fits):aY Tryz.prog 39 [s.d,t.d] (.ret [.bool (hZ s t&&ey t)]):=by
 refine aY.aN mix YG aK ?_
 rw[c39]
 refine cQ ?_
 refine aw (On s hs t ht) rfl ?_
 cases h:hZ s t with
 |false=>exact qG
 |true=>
  refine cQ ?_
  refine aw (Ir t ht) rfl ?_
  exact qG
theorem AM{s:aJ}(h:kQ s=true)(t:Tm):jS s t=(hZ s t&&ey t):=by
 unfold jS il
 rw[h]
 simp only[List.all_cons,List.all_nil,Bool.and_true,Bool.true_and,si]
 cases h1:hZ s t with
 |false=>rfl
 |true=>rw[uA h1]
theorem og(l:List TB)(n:Int)(hl:l.length<=1000000):aY Tryz.prog 116 [.sl (l.map TB.d), .i n] (.ret [.i (findF l n)]):=by
 refine aY.aN mix Ua aK ?_
 rw[T9]
 refine cQ ?_
 refine aL (fun k:Nat=>⟨bc [.d (.sl (l.map TB.d)), .d (.i n), .ab, .ab, .ab, .d (.i k)],fun _=> .no,0⟩)
  (fun k=>k<=l.length/\∀j x,j<k->l[j]? =some x->x.var≠n) (fun k=>l.length - k) 0 ⟨Nat.zero_le _,fun _ _ h=>absurd h af⟩ (bM.d0 _ ?_) (fun k hk=> ?_)
 ·exact ec
 refine DE ?_
 refine ak (fun h2=> ?_) (fun h2=> ?_)
 ·simp at h2
  obtain⟨x,hx⟩:=aH h2
  refine sF hx ?_
  refine ak (fun h3=> ?_) (fun h3=> ?_)
  ·have pI:x.var=n:=by simpa using h3
   have:findF l n=k:=by
    have:l.findIdx? (·.var==n)=some k:=by
     rw[List.findIdx?_eq_some_iff_getElem]
     obtain⟨Hv,e⟩:=List.getElem?_eq_some_iff.1 hx
     refine⟨Hv,by rw[e];simpa using pI,fun j hj=> ?_⟩
     have:=hk.2 j _ hj (List.getElem?_eq_getElem af)
     simpa using this
    rw[findF,this]
   rw[this]
   exact qG
  ·have pI:x.var≠n:=by simpa using h3
   refine cQ ?_
   refine ax (k+1) ⟨h2,fun j y hj hy=> ?_⟩ af (bM.d0 _ ?_)
   ·by_cases e:j=k
    ·subst e;rw[hx]at hy;injection hy with hy;rw[<- hy];exact pI
    ·exact hk.2 j y af hy
   ·exact ec
 ·simp at h2
  have:findF l n= -1:=by
   have:l.findIdx? (·.var==n)=none:=by
    rw[List.findIdx?_eq_none_iff]
    intro x hx
    obtain⟨j,hj,e⟩:=List.getElem_of_mem hx
    have:=hk.2 j x af (by rw[List.getElem?_eq_getElem hj,e])
    simpa using this
   rw[findF,this]
  rw[this]
  exact qG
theorem Cg(l:List Int)(n:Int)(hl:l.length<=1000000):aY Tryz.prog 142 [.sl (l.map .i), .i n] (.ret [.bool (l.contains n)]):=by
 refine aY.aN mix Uy aK ?_
 rw[Ux]
 refine cQ ?_
 refine aL (fun k:Nat=>⟨bc [.d (.sl (l.map .i)), .d (.i n), .ab, .ab, .ab, .d (.i k)],fun _=> .no,0⟩)
  (fun k=>k<=l.length/\(l.take k).contains n=false) (fun k=>l.length - k) 0 ⟨Nat.zero_le _,aK⟩ (bM.d0 _ ?_) (fun k hk=> ?_)
 ·exact ec
 refine cQ ?_
 refine ak (fun h2=> ?_) (fun h2=> ?_)
 ·simp at h2
  obtain⟨x,hx⟩:=aH h2
  refine ou hx ?_
  refine ak (fun h3=> ?_) (fun h3=> ?_)
  ·refine cQ ?_
   have:l.contains n=true:=by
    rw[List.contains_iff_mem, <- (by simpa using h3:x=n)];exact List.mem_of_getElem? hx
   rw[this]
  ·refine cQ ?_
   refine ax (k+1) ⟨h2, ?_⟩ af (bM.d0 _ ?_)
   ·have h4: ¬n=x:=fun e=>by subst e;simp at h3
    have h5:=hk.2
    rw[List.take_add_one,hx]
    rw[Bool.eq_false_iff]at h5|-
    intro hc;apply h5
    rw[List.contains_iff_mem]at hc|-
    rcases List.mem_append.1 hc with hc|hc
    ·exact hc
    ·simp at hc;exact absurd hc h4
   ·exact ec
 ·simp at h2
  refine cQ ?_
  have:=hk.2
  rw[List.take_of_length_le (by omega)]at this
  rw[this]
def Lm(o:Nat->aa)(nx:Nat)(l:List Int):Nat->aa:=aM o nx (.arr 0 3 1 (l.map D.i))
theorem ilH_0(o:Nat->aa)(nx:Nat)(l:List Int):Lm o nx l nx= .arr 0 3 1 (l.map D.i):=by unfold Lm;rw[ag]
theorem pg(o:Nat->aa)(nx:Nat)(l:List Int){j:Nat}(h:j≠nx):Lm o nx l j=o j:=by unfold Lm;rw[ah _ _ _ _ h]
theorem pk{o:Nat->aa}{nx b:Nat}(MG:Good o nx)(hb:b<=nx){e:Nat->V}{so:Nat->aa}{m:Nat}(L:List V)(l:List Int){x:V}(gone:Nat->Prop)(M5:∀id,gone id->id<nx->o id= .no)
 (gx:mG so gone 3 1 (l.map D.i) x) (sr:∀j,j<nx->so j=o j\/o j= .no) (he:jO nx [⟨x,3,1,l.map D.i⟩] so gone e L 0):bM b ⟨e,so,m⟩ ⟨bc L,Lm o nx l,nx+1⟩:=by
 refine bM.Og gone x nx L hb (fun j hj=> ?_) (ilH_0 o nx l) gx (fun j hj=> ?_) (fun j h1 h2=>by rw[pg _ _ _ (by omega)];exact M5 j h1 h2) he
 ·rw[pg _ _ _ (by omega)]
  rcases sr j hj with h|h
  ·exact lr h (fun r hr=>MG.refs j r hr)
  ·rw[h];exact vV
 ·rw[pg _ _ _ (by omega)]
  exact MG.fresh j af
def WV(o:Nat->aa)(x:V)(l:List Int):Prop:=(x= .a8/\l=[])\/∃id ep,x= .osl id ep/\o id= .arr ep 3 1 (l.map D.i)
theorem GH:∀ (more l:List Int),(mM l more).length<=l.length+more.length
 |[],l=>by simp[mM]
 |u::more,l=>by
  have h1:(dk l u).length<=l.length+1:=by
   unfold dk
   split
   ·omega
   ·rw[List.length_append,List.length_singleton];omega
  have h2:=GH more (dk l u)
  show(mM (dk l u) more).length<=_
  rw[List.length_cons];omega
theorem WV.Ln {o:Nat->aa}{x:V}{l:List Int}(h:WV o x l):mG o (fun _=>True) 3 1 (l.map D.i) x:=by
 rcases h with⟨rfl,rfl⟩|⟨id,ep,rfl,ho⟩
 ·exact .inl ⟨rfl,rfl,dU⟩
 ·exact .inr ⟨id,ep,trivial,rfl,ho⟩
theorem GI(l more:List Int)(hl:l.length<=100000)(hm:more.length<=100000){x:V}{o:Nat->aa}{nx:Nat}(hg:Good o nx)(hx:WV o x l){K X:V->(Nat->aa)->Nat->Prop}
 (hK:∀y o' nx',nx<=nx'->Good o' nx'->(∀j,j<nx->(∀ep,x≠ .osl j ep)->o' j=o j)->WV o' y (mM l more)->K y o' nx'):dV Tryz.prog 140 [x, .d (.sl (more.map D.i))] o nx K X:=by
 refine dV.aN mix Uu aK ?_
 rw[Ut]
 refine wJ ?_
 obtain⟨o0,gone,c1,c2,c3,c4,c5⟩:∃ (o0:Nat->aa) (gone:Nat->Prop),Good o0 nx/\(∀j,j<nx->o j=o0 j\/o0 j= .no)/\(∀id,gone id->id<nx->o0 id= .no)/\mG o gone 3 1 (l.map D.i) x/\(∀j,j<nx->(∀ep,x≠ .osl j ep)->o0 j=o j):=by
  rcases hx with⟨rfl,rfl⟩|⟨id,ep,rfl,ho⟩
  ·exact⟨o,fun _=>False,hg,fun j _=> .inl rfl,fun _ h=>h.elim, .inl ⟨rfl,rfl,dU⟩,fun j _ _=>rfl⟩
  ·have aq:id<nx:=hg.lt (by rw[ho];exact aa.noConfusion)
   refine⟨aM o id .no,(· =id),hg.aM aq rfl,fun j hj=> ?_,fun j e _=>by rw[e,ag], .inr ⟨id,ep,rfl,rfl,ho⟩,fun j hj j7=> ?_⟩
   ·by_cases e:j=id
    ·subst e;rw[ag];exact .inr rfl
    ·rw[ah _ _ _ _ e];exact .inl rfl
   ·by_cases e:j=id
    ·subst e;exact absurd rfl (j7 ep)
    ·rw[ah _ _ _ _ e]
 refine aL (fun k:Nat=>⟨bc [.osl nx 0, .d (.sl (more.map D.i)), .ab, .ab, .ab, .d (.i k)],Lm o0 nx (mM l (more.take k)),nx+1⟩)
  (fun k=>k<=more.length) (fun k=>more.length - k) 0 (Nat.zero_le _) (pk c1 (Nat.le_refl _) _ (mM l []) gone c3 c4 c2 ?_) (fun k hk=> ?_)
 ·exact DF
 replace hk:k<=more.length:=hk
 have q0:=ilH_0 o0 nx (mM l (more.take k))
 have hlen:=GH (more.take k) l
 rw[List.length_take]at hlen
 refine Qs q0 ?_
 refine ak (fun h2=> ?_) (fun h2=> ?_)
 ·replace h2:k<more.length:=by simp at h2;omega
  obtain⟨v,hv⟩:=aH h2
  have ze:mM l (more.take (k+1))=dk (mM l (more.take k)) v:=by unfold mM;rw[List.take_add_one,hv,List.foldl_append];rfl
  simp+contextual (disch:=first|omega|simp only[go_sem,false_implies]) only[go_sem,wrap64,if_pos,q0,hv,List.length_map,Nat.add_assoc,Nat.left_eq_add,Nat.add_eq_left,Nat.add_left_cancel_iff]
  refine aw (Cg (mM l (more.take k)) v af) rfl ?_
  cases hc:(mM l (more.take k)).contains v with
  |true=>
   have e1:dk (mM l (more.take k)) v=mM l (more.take k):=by unfold dk;rw[if_pos hc]
   refine Qs q0 ?_
   refine ax (k+1) h2 af ?_
   rw[ze,e1]
   refine pk c1 (Nat.le_refl _) _ _ (fun id=>nx<=id) (fun id h1 h2=>af) (x:= .osl nx 0) (.inr ⟨nx,0,Nat.le_refl _,rfl,q0⟩) (fun j hj=> .inl (by rw[pg _ _ _ (by omega)])) ?_
   exact DF
  |false=>
   have e1:dk (mM l (more.take k)) v=mM l (more.take k)++[v]:=by unfold dk;rw[if_neg (by rw[hc];exact Bool.false_ne_true)]
   have nk:(mM l (more.take k)).length<=140737488355327/\((mM l (more.take k)).length+1)*8<=140737488355328:=af
   simp+contextual (disch:=first|omega|simp only[go_sem,false_implies]) only[go_sem,wrap64,if_pos,q0,hv,List.length_map,if_pos nk,Nat.add_assoc,Nat.left_eq_add,Nat.add_eq_left,Nat.add_left_cancel_iff]
   refine ax (k+1) h2 af ?_
   rw[ze,e1]
   refine pk c1 (Nat.le_refl _) _ _ (fun id=>nx<=id) (fun id h1 h2=>af) (x:= .osl nx 1) (.inr ⟨nx,1,Nat.le_refl _,rfl,by(repeat(first|rfl|rw[ag]|rw[ah _ _ _ _ (by omega)]));rw[List.map_append];rfl⟩) (fun j hj=> .inl (by(repeat(first|rfl|rw[ag]|rw[ah _ _ _ _ (by omega)]));rw[pg _ _ _ (by omega)])) ?_
   exact DF
 ·replace h2:k=more.length:=by simp at h2;omega
  subst h2
  rw[List.take_length]at q0|-
  refine Lt q0 ?_
  refine hK _ _ _ ?_ ?_ (fun j hj j7=> ?_) (.inr ⟨nx,0,rfl,q0⟩)
  ·omega
  ·unfold Lm;exact(c1.mono af).aM af rfl
  ·rw[pg _ _ _ (by omega)];exact c5 j hj j7
theorem IP.done {s:aJ}{b:List (Int×Tm)}{t:Tm}{all:List Int}(h:IP s b t all.length all)(n:Int):n∈all↔nZ b n t:=by
 refine⟨fun hn=>h.snd n hn,fun hr=> ?_⟩
 have key:∀x,nZ b n x->(∀v,fG v x=true->v∈all)->n∈all:=by
  intro x hr
  induction hr with
  |here h1=>exact fun hs=>hs _ h1
  |step h1 h2 _ ih=>
   intro hs
   refine ih fun u hu=> ?_
   obtain⟨j,hj⟩:=List.mem_iff_getElem?.1 (hs _ h1)
   exact h.cl j (List.getElem?_eq_some_iff.1 hj).1 _ _ hj h2 u hu
 exact key t hr h.fst
theorem AO{s:aJ}{l:List TB}(hl:l.length<=1000)(hb:∀p∈ay l,Vs s p.2)(hf:∀p∈ay l,p.2.GC)(n:Int)(t:Tm)(ht:Vs s t)(OP:t.GC){is:Bool}(Gw:is=true↔nZ (ay l) n t):
 aY Tryz.prog 117 [.sl (l.map TB.d),t.d, .i n] (.ret [.bool is]):=by
 have VR:∀t,Vs s t->(c8 t).length<=100000:=fun t ht=>by
  have hv:=fH t
  have:(c8 t).length<=20:=VG (Dw hv.1) fun v h=>ht.range ((hv.2 v).1 h)
  omega
 refine aY.aN mix Uc aK ?_
 rw[Ub]
 refine cQ ?_
 refine cW (yS t ht OP) ?_
 refine cQ ?_
 refine eF (GI [] (c8 t) aK (VR t ht) dZ (.inl ⟨rfl,rfl⟩) (fun y o' nx' w1 w2 w3 w4=> ?_))
 refine cQ ?_
 refine aL (fun i:Nat×List Int=>⟨bc [.d (.sl (l.map TB.d)), .ab, .d (.i n), .ab, .ab, .ab, .ab, .osl 0 0, .d (.i i.1)],Lm (fun _=> .no) 0 i.2,0+1⟩)
  (fun i=>IP s (ay l) t i.1 i.2) (fun i=>21 - i.1) (0,mM [] (c8 t)) (IP.zero ht) (pk Good.nil (Nat.le_refl _) _ _ (fun _=>True) (fun id _ h=>absurd h af) w4.Ln (fun j hj=>absurd hj af) ?_) ?_
 ·exact DF
 rintro⟨i,all⟩ hI
 dsimp only at hI|-
 have q0:=ilH_0 (fun _=> .no) 0 all
 have h20:=VG hI.nd hI.rg
 have hle:=hI.le
 refine sF q0 ?_
 refine ak (fun h2=> ?_) (fun h2=> ?_)
 ·replace h2:i<all.length:=by simp at h2;omega
  obtain⟨v,hv⟩:=aH h2
  refine O7 q0 hv ?_
  refine aw (og l v af) rfl ?_
  have gk:=hI.succ hb hv
  rcases wa l v with⟨g1,g2⟩|⟨k,x,g1,g2,g3⟩
  ·have GJ:decide (findF l v≥0)=false:=by simp;omega
   have e1:Gj (ay l) all v=all:=by unfold Gj;rw[g2]
   rw[e1]at gk
   refine O7 q0 GJ ?_
   refine ax (i+1,all) gk qH (pk Good.nil (Nat.le_refl _) _ _ (fun _=>True) (fun id _ h=>absurd h af) (x:= .osl 0 0) (.inr ⟨0,0,trivial,rfl,q0⟩) (fun j hj=>absurd hj af) ?_)
   exact DF
  ·have GJ:decide (((k:Nat):Int)≥0)=true:=aK
   have e1:Gj (ay l) all v=mM all (c8 x.term):=by unfold Gj;rw[g3]
   rw[e1]at gk
   have gv:=jT (List.mem_of_getElem? g2)
   refine G2 q0 g1 GJ g2 ?_
   refine cW (yS x.term (hb _ gv) (hf _ gv)) ?_
   refine sF q0 ?_
   refine eF (GI all (c8 x.term) af (VR _ (hb _ gv)) (Good.aM Good.nil af rfl) (.inr ⟨0,0,rfl,q0⟩) (fun y o2 nx2 u1 u2 u3 u4=> ?_))
   refine cQ ?_
   refine ax (i+1,mM all (c8 x.term)) gk qH (pk Good.nil (Nat.le_refl _) _ _ (fun _=>True) (fun id _ h=>absurd h af) u4.Ln (fun j hj=>absurd hj af) ?_)
   exact DF
 ·replace h2:i=all.length:=by simp at h2;omega
  subst h2
  have:is=all.contains n:=by rw[Bool.eq_iff_iff,Gw,List.contains_iff_mem];exact(hI.done n).symm
  refine sF q0 ?_
  refine aw (Cg all n af) rfl ?_
  rw[this]
  exact qG
end Go.Proofs.YtlhemmpklhhgoaaGreat
