/-
  A PART OF THE PROOF. Conditions: none.
-/
import Derived.Test.YtlhemmpklhhgoaaGreatQb16
set_option linter.unusedSimpArgs false
set_option linter.unusedVariables false
namespace Go.Proofs.YtlhemmpklhhgoaaGreat
section
theorem Qi{x:Tm}{yb vb base:Nat}{h h2:Nat->ab}{r:Bool}(hS:sD Tryz.prog 165 [.d x.d, .ptr yb 0, .ptr vb 0] base h h2 (.d (.bool r)))(hy:yb<base)(hv:vb<base)(ov:h vb= .row [.func (.func 165) [] [.ptr yb 0, .ptr vb 0]]):
 sD Tryz.prog 167 [.d x.d, .ptr vb 0] base h h2 (.d (.bool (!r))):=by
 intro o nx hI K X hK
 have hle:=hI.le
 have ho:o vb= .row [.func (.func 165) [] [.ptr yb 0, .ptr vb 0]]:=by rw[hI.eq vb hv,ov]
 have y1:∀k,vb≠nx+k:=fun k=>af
 have y2:vb≠nx:=af
 refine dA.aM mix Mg aK ?_
 rw[Pq]
 simp+contextual (disch:=first|omega|simp only[go_sem,false_implies]) only[go_sem,wrap64,if_pos,ho,y1,y2,Nat.add_assoc,Nat.left_eq_add,Nat.add_eq_left,Nat.add_left_cancel_iff]
 refine bX (hS _ _ ?_ _ _ fun o2 n2 m1 m2 m3=> ?_)
 ·exact hI.aI af af af rfl
 refine oQ ?_
 exact hK _ _ af (m2.mono af) fun id i1 i2=>by rw[m3 id i1 (by omega),ah _ _ _ _ (by omega)]
section
variable {σ:Type}(base sH:Nat)(H:σ->Nat->ab)(step:σ->Int->σ×Bool)(ok:σ->Prop)
theorem Hq:∀t:Tm,t.fits->(∀x∈pK t,∀s,ok s->(step s x).2=true->ok (step s x).1)->(∀x∈pK t,∀s,ok s->XS Tryz.prog sH [.d (.i x)] base (H s) (H (step s x).1) (.d (.bool (step s x).2)))->sH<base->
 ∀ (c:Nat) (o0:Nat->ab) (yb vb:Nat),base<=c->base<=yb->yb<c->base<=vb->vb<c->o0 yb= .row [.js sH]->o0 vb= .row [.func (.func 165) [] [.ptr yb 0, .ptr vb 0]]->
 ∀s,ok s->sD Tryz.prog 165 [.d t.d, .ptr yb 0, .ptr vb 0] c (ext base (H s) o0) (ext base (H (aD step s (pK t)).1) o0) (.d (.bool (aD step s (pK t)).2)):=by
 refine Tm.fk fun t ih hf aQ hR Ba c o0 yb vb hbc XT hy XU hv oy ov s mR=> ?_
 have tI:=(Tm.bD _).1 hf
 intro o nx hI K X hK
 have hle:=hI.le
 have Rx:o yb= .row [.js sH]:=by rw[hI.eq yb hy];unfold ext;rw[if_neg (by omega),oy]
 have PO:o vb= .row [.func (.func 165) [] [.ptr yb 0, .ptr vb 0]]:=by rw[hI.eq vb hv];unfold ext;rw[if_neg (by omega),ov]
 have y1:yb≠nx:=af
 have y2:∀k,yb≠nx+k:=fun k=>af
 have y3:vb≠nx:=af
 have y4:∀k,vb≠nx+k:=fun k=>af
 have qJ:=Hf t
 have hb:∀id,id<base->o id=H s id:=fun id au=>by rw[hI.eq id (by omega)];unfold ext;rw[if_pos au]
 have XW:ec base (H s) o nx:=⟨hI.cc,af,hb⟩
 have ED:∀id,base<=id->id<c->o id=o0 id:=fun id h1 h2=>by rw[hI.eq id h2];unfold ext;rw[if_neg (by omega)]
 refine dA.aM mix Me aK ?_
 rw[Po]
 by_cases h1:t.op=1
 ·have jR:(t.op==1)=true:=by simpa using h1
  rw[if_pos h1]at qJ
  have CN:aD step s (pK t)=step s t.n:=by
   rw[qJ]
   simp only[aD]
   generalize step s t.n=q
   obtain⟨a,b⟩:=q
   cases b<;>rfl
  simp+contextual (disch:=first|omega|simp only[go_sem,false_implies]) only[go_sem,wrap64,if_pos,jR,Rx,PO,y1,y2,y3,y4,Nat.add_assoc,Nat.left_eq_add,Nat.add_eq_left,Nat.add_left_cancel_iff]
  refine ql (hR t.n (by rw[qJ];simp) s mR _ _ ?_ _ _ fun o2 n2 m1 m2 m3=> ?_)
  ·exact XW.aI af af af rfl
  refine oQ ?_
  rw[CN]at hK
  have hold:∀id,base<=id->id<nx->o2 id=o id:=fun id h1 h2=>by rw[m3 id h1 (by omega),ah _ _ _ _ (by omega)]
  refine hK _ _ af ⟨m2.cc.mono af,af,fun id au=> ?_⟩ (fun id h1 h2=>hold id af h2)
  unfold ext
  split
  ·exact m2.eq id (by assumption)
  ·exact Ig
 ·have jR:(t.op==1)=false:=by simpa using h1
  rw[if_neg h1]at qJ
  have CN:aD step s (pK t)=aD (fun s k=>aD step s (pK k)) s t.kids:=by rw[qJ,sG]
  have tz:∀k∈t.kids,∀x∈pK k,x∈pK t:=fun k hk x hx=>by rw[qJ];exact List.mem_flatMap.2 ⟨k,hk,hx⟩
  simp+contextual (disch:=first|omega|simp only[go_sem,false_implies]) only[go_sem,wrap64,if_pos,jR,Rx,PO,y1,y2,y3,y4,Nat.add_assoc,Nat.left_eq_add,Nat.add_eq_left,Nat.add_left_cancel_iff]
  refine bX (zJ t.kids tI.1 167 [.ptr vb 0] (nx+8) (fun s=>ext base (H s) (aI o nx (.row t.row))) (fun s k=>aD step s (pK k)) ?_ ok ?_ ?_ s mR _ _ ?_ _ _ ?_)
  ·exact BM
  ·exact Sq
  ·intro k hk s' iI
   refine Qi (yb:=yb) (ih k hk (tI.2 k hk) (fun x hx=>aQ x (tz k hk x hx)) (fun x hx=>hR x (tz k hk x hx)) Ba (nx+8) _ yb vb af XT af XU af ?_ ?_ s' iI) af af ?_
   ·(repeat(first|rfl|rw[ae]|rw[ah _ _ _ _ (by omega)]));exact Rx
   ·(repeat(first|rfl|rw[ae]|rw[ah _ _ _ _ (by omega)]));exact PO
   ·unfold ext;rw[if_neg (by omega)];(repeat(first|rfl|rw[ae]|rw[ah _ _ _ _ (by omega)]));exact PO
  ·exact(XW.aI af af af rfl).ext af af
  ·intro o5 n5 p1 p2 p3
   refine cm ?_
   rw[<- CN]
   have hold:∀id,base<=id->id<nx->o5 id=o id:=fun id h1 h2=>by
    rw[p2.eq id (by omega)];unfold ext;rw[if_neg (by omega),ah _ _ _ _ (by omega)]
   refine hK _ _ af ⟨p2.cc.mono af,af,fun id au=> ?_⟩ (fun id h1 h2=>hold id af h2)
   rw[CN]
   unfold ext
   split
   ·rw[p2.eq id (by omega)];unfold ext;rw[if_pos (by assumption)]
   ·exact Ig
theorem Hr(t:Tm)(hf:t.fits)(aQ:∀x∈pK t,∀s,ok s->(step s x).2=true->ok (step s x).1)(hR:∀x∈pK t,∀s,ok s->XS Tryz.prog sH [.d (.i x)] base (H s) (H (step s x).1) (.d (.bool (step s x).2)))(Ba:sH<base)(tb:Nat)(EU:tb<base)(s:σ)(mR:ok s)(cy:H s tb= .row t.row):
 sD Tryz.prog 164 [.js sH, .ptr tb 0] base (H s) (H (aD step s (pK t)).1) (.bH []):=by
 intro o nx hI K X hK
 have hle:=hI.le
 have ot:o tb= .row t.row:=by rw[hI.eq tb EU,cy]
 have y1:tb≠nx:=af
 have y2:∀k,tb≠nx+k:=fun k=>af
 refine dA.aM mix Md aK ?_
 rw[Pm]
 simp+contextual only[go_sem,ot,y1,y2,Nat.add_assoc,Nat.left_eq_add,Nat.add_eq_left,Nat.add_left_cancel_iff]
 have hI1:ec base (H s) (aI (aI (aI o nx (.row [.js sH])) (nx+1) (.row [.d .bO])) (nx+1) (.row [.func (.func 165) [] [.ptr nx 0, .ptr (nx+1) 0]])) (nx+6):=by
  refine((hI.aI (i:=nx) (m:=nx+6) af af af ?_).aI (i:=nx+1) (m:=nx+6) af af af rfl).aI (i:=nx+1) af af af ?_
  ·simp[ab.refs,V.aP,V.refs];omega
  ·exact De
 refine bX (Hq base sH H step ok t hf aQ hR Ba (nx+6) _ nx (nx+1) af hle af af af ?_ ?_ s mR _ _ (hI1.ext (Nat.le_refl _) af) _ _ ?_)
 ·exact fq
 ·exact fq
 intro o2 n2 m1 m2 m3
 refine b8 ?_
 refine hK _ _ af ⟨m2.cc,af,fun id au=> ?_⟩ (fun id h1 h2=> ?_)
 ·rw[m2.eq id (by omega)];unfold ext;rw[if_pos au]
 ·exact KI
end
theorem Hs(t:Tm)(o:Nat->ab)(nx:Nat)(K X:V->(Nat->ab)->Nat->Prop)(h:K (.func (.func 164) [] [.ptr nx 0]) (aI o nx (.row t.row)) (nx+4)):dA Tryz.prog 149 [.d t.d] o nx K X:=by
 refine dA.aM mix L9 aK ?_
 rw[Ph]
 refine b8 ?_
 exact h
def Bu{σ:Type}(J:σ->Option iH)(step:σ->Int->σ)(s:σ)(x:Int):σ×Bool:=(step s x,(J (step s x)).isNone)
theorem zK{σ:Type}(t:Tm)(hf:t.fits){n bq:Nat}{gq:Operand}{ps:List Nat}{jg eS:IC}{Q:eT->S->Prop}{e:Nat->V}{o:Nat->ab}{nx tb:Nat}(env:List V)(he:ly e env 0)
 (Gi:ps.all (fun t=>decide (t<n))=true) (hl:ps.length=1) (hg:Good o nx) (hrefs:∀r∈V.aP env,r<nx) (ht:o tb= .row t.row)
 (G:σ->Nat->ab) (J:σ->Option iH) (step:σ->Int->σ) (ok:σ->Prop) (s0:σ) (mR:ok s0) (WH:J s0=none) (h0:∀id,id<nx->o id=G s0 id) (aQ:∀x∈pK t,∀s,ok s->J s=none->J (step s x)=none->ok (step s x))
 (rL:∀L,gC Tryz.prog n env ps jg eS L->(∀st pd m,nx<=m->(L st pd).refs.all (fun r=>decide (r<m))=true)->∀x∈pK t,∀s,ok s->J s=none->∀o3 n3,ec nx (G s) o3 n3->nx<n3->o3 nx=L .ready none->∀K X,
  (∀e' o' n' st pd,n3<=n'->ec nx (G (step s x)) o' n'->o' nx=L st pd->(∀id,nx<id->id<n3->o' id=o3 id)->jo nx K X (My (J (step s x))) ⟨e',o',n'⟩)->
  kq Tryz.prog n n3 true jg (pE Tryz.prog n n3 nx eS K X) ⟨n9 (ba env) ps [.d (.i x)],o3,n3⟩)
 (fj:∀o' n',ec nx (G (aD (Bu J step) s0 (pK t)).1) o' n'->pq Q (J (aD (Bu J step) s0 (pK t)).1) ⟨e,o',n'⟩):
 yG Tryz.prog n bq false gq ps jg eS Q ⟨e,o,nx⟩ (.func (.func 164) [] [.ptr tb 0]):=by
 refine GS env he (fun L hL=> ?_)
 have EU:tb<nx:=hg.lt (by rw[ht];exact ab.noConfusion)
 let H:σ->Nat->ab:=fun s id=>if id<nx then G s id else if id=nx then(match J s with|none=>L .ready none|some j=>L .done (some j))else .no
 have EE:∀s id,id<nx->H s id=G s id:=fun s id h=>if_pos h
 have JA:∀s,J s=none->H s nx=L .ready none:=fun s h=>by show(if nx<nx then _ else _)=_;rw[if_neg (by omega),if_pos rfl,h]
 have PQ:∀s j,J s=some j->H s nx=L .done (some j):=fun s j h=>by show(if nx<nx then _ else _)=_;rw[if_neg (by omega),if_pos rfl,h]
 have BG:∀st pd m,nx<=m->(L st pd).refs.all (fun r=>decide (r<m))=true:=fun st pd m hm=>by
  exact Ti
 refine Hr (nx+1) nx H (Bu J step) (fun s=>ok s/\J s=none) t hf (fun x hx s h1 h2=> ?_) (fun x hx s h1=> ?_) af tb af s0 ⟨mR,WH⟩ (by rw[EE _ _ EU, <- h0 _ EU,ht]) _ _ ⟨?_,Nat.le_refl _,fun id au=> ?_⟩ _ _ ?_
 ·have hj:J (step s x)=none:=by simpa[Bu]using h2
  exact⟨aQ x hx s h1.1 h1.2 hj,hj⟩
 ·intro o3 n3 hI K X hK
  have hle:=hI.le
  have PR:o3 nx=L .ready none:=by rw[hI.eq nx (by omega),JA s h1.2]
  refine yZ hL mix PR af Gi (by simp[hl]) ?_
  refine rL L hL BG x hx s h1.1 h1.2 o3 n3 ⟨hI.cc,af,fun id au=>by rw[hI.eq id (by omega),EE _ _ au]⟩ af PR K X (fun e' o' n' st pd k1 k2 k3 k4=> ?_)
  have key:∀st' pd' b,(J (step s x)).isNone=b->H (step s x) nx=L st' pd'->K (.d (.bool b)) (aI o' nx (L st' pd')) n':=fun st' pd' b hb hh=>by
   subst hb
   refine hK _ _ k1 ⟨k2.cc.aI af (BG _ _ _ af),af,fun id au=> ?_⟩ (fun id g1 g2=> ?_)
   ·by_cases tC:id=nx
    ·subst tC;rw[ae];exact hh.symm
    ·rw[ah _ _ _ _ tC]
     show o' id=H (step s x) id
     rw[EE _ _ (by omega)];exact k2.eq id af
   ·rw[ah _ _ _ _ (by omega)];exact k4 id af g2
  cases hj:J (step s x)with
  |none=>exact uY hL k3 (key _ _ _ tY (JA _ hj))
  |some j=>
   cases j with
   |ret=>exact sE hL k3 (key _ _ _ tY (PQ _ _ hj))
   |exit j=>exact qm hL k3 (key _ _ _ tY (PQ _ _ hj))
 ·exact(hg.mono af).aI af (BG _ _ _ af)
 ·by_cases tC:id=nx
  ·subst tC;rw[ae,JA _ WH]
  ·exact SH
 ·intro o' n' k1 k2 k3
  have hle:=k2.le
  generalize hsf:(aD (Bu J step) s0 (pK t)).1=sf at*
  have kk:∀st pd,ec nx (G sf) (aI o' nx (L st pd)) n':=fun st pd=>⟨k2.cc.aI af (BG _ _ _ af),af,fun id au=>by rw[ah _ _ _ _ (by omega),k2.eq id (by omega),EE _ _ au]⟩
  cases hj:J sf with
  |none=>
   refine⟨.ready,none,by rw[k2.eq nx (by omega),JA _ hj],(fun h=>by cases h), ?_⟩
   have:=fj _ _ (kk .exhausted none)
   rwa [hj]at this
  |some j=>
   refine⟨.done,some j,by rw[k2.eq nx (by omega),PQ _ _ hj],(fun h=>by cases h), ?_⟩
   have:=fj _ _ (kk .exhausted (some j))
   rwa [hj]at this
end
def iK(b:List (Int×Tm))(n:Int)(s:List Int×Bool)(v:Int):List Int×Bool:=if v=n then(s.1,true)else match bZ b v with
 |none=>(s.1,false)
 |some x=>if v∈s.1 then(s.1,false)else match H5 (b.length+1) b n x (dq s.1 v)with
  |some (is,m)=>(m,is)
  |none=>(s.1,false)
def X8(s:List Int×Bool):Option iH:=if s.2=true then some .ret else none
theorem oH{b:List (Int×Tm)}{n:Int}:∀ (vs met:List Int) (is:Bool) (m':List Int),Hg (H5 b.length b n) b n vs met=some (is,m')->(aD (Bu X8 (iK b n)) (met,false) vs).1=(m',is)
 |[],met,is,m',h=>by cases h;rfl
 |v::vs,met,is,m',h=>by
  simp only[Hg]at h
  simp only[aD,Bu]
  by_cases e:v=n
  ·rw[if_pos e]at h
   cases h
   have:iK b n (met,false) v=(met,true):=by unfold iK;rw[if_pos e]
   simp only[this];rfl
  ·rw[if_neg e]at h
   cases hl:bZ b v with
   |none=>
    rw[hl]at h
    have:iK b n (met,false) v=(met,false):=by unfold iK;rw[if_neg e,hl]
    simp only[this]
    exact oH vs met is m' h
   |some x=>
    rw[hl]at h
    dsimp only at h
    by_cases e2:v∈met
    ·rw[if_pos e2]at h
     have:iK b n (met,false) v=(met,false):=by unfold iK;rw[if_neg e,hl];dsimp only;rw[if_pos e2]
     simp only[this]
     exact oH vs met is m' h
    ·rw[if_neg e2]at h
     cases hF:H5 b.length b n x (dq met v)with
     |none=>rw[hF]at h;cases h
     |some q=>
      obtain⟨i,m⟩:=q
      rw[hF]at h
      have:iK b n (met,false) v=(m,i):=by unfold iK;rw[if_neg e,hl];dsimp only;rw[if_neg e2,zA hF (Nat.le_succ _)]
      simp only[this]
      cases i with
      |true=>cases h;rfl
      |false=>exact oH vs m is m' h
theorem Ht{s:aN}{b:List (Int×Tm)}(hb:∀p∈b,Vs s p.2)(mf:∀p∈b,p.2.fits)(n:Int):∀ (N:Nat) (t:Tm) (met:List Int),tx b met<=N->Vs s t->t.fits->∀ (is:Bool) (ej:List Int),H5 (b.length+1) b n t met=some (is,ej)->
 ∀ (o:Nat->ab) (nx nb bb mb fb mid:Nat),Good o nx->o nb= .row [.d (.i n)]->o bb= .row [.d (Bn b)]->o mb= .row [.mp mid]->o fb= .row [.func (.func 148) [] [.ptr nb 0, .ptr bb 0, .ptr mb 0, .ptr fb 0]]->o mid=Er met->
 ∀ (K X:V->(Nat->ab)->Nat->Prop),(∀o' nx',nx<=nx'->Good o' nx'->(∀j,j<nx->j≠mid->o' j=o j)->o' mid=Er ej->K (.d (.bool is)) o' nx')->
 dA Tryz.prog 148 [.d t.d, .ptr nb 0, .ptr bb 0, .ptr mb 0, .ptr fb 0] o nx K X:=by
 intro N
 induction N using Nat.strongRecOn with
 |ind N ihN=>
  intro t met hN ht Qj is ej hld o nx nb bb mb fb mid hg o1 o2 o3 o4 o5 K X hK
  have l1:nb<nx:=hg.lt (by rw[o1];exact ab.noConfusion)
  have l2:bb<nx:=hg.lt (by rw[o2];exact ab.noConfusion)
  have l3:mb<nx:=hg.lt (by rw[o3];exact ab.noConfusion)
  have l4:fb<nx:=hg.lt (by rw[o4];exact ab.noConfusion)
  have l5:mid<nx:=hg.lt (by rw[o5];exact ab.noConfusion)
  have d1:nb≠mid:=fun e=>by rw[e,o5]at o1;cases o1
  have d2:bb≠mid:=fun e=>by rw[e,o5]at o2;cases o2
  have d3:mb≠mid:=fun e=>by rw[e,o5]at o3;cases o3
  have d4:fb≠mid:=fun e=>by rw[e,o5]at o4;cases o4
  refine dA.aM mix L8 aK ?_
  rw[Pg]
  refine oQ ?_
  refine dY (Hs t _ _ _ _ ?_)
  refine oQ ?_
  obtain⟨O1,W1⟩:∃O1:Nat->ab,O1=aI (aI (aI o nx (ab.row [V.d (D.i t.op),V.d (D.i t.n),V.d (D.sl (List.map Tm.d t.kids))])) (nx+1) (ab.row [V.d (D.bool false)])) (nx+3) (ab.row t.row):=⟨_,rfl⟩
  have hgO:Good O1 (nx+7):=by rw[W1];exact ek
  have hOl:∀j,j<nx->O1 j=o j:=fun j hj=>by rw[W1];(repeat(first|rfl|rw[ae]|rw[ah _ _ _ _ (by omega)]))
  have aaA:O1 (nx+1)= .row [.d (.bool false)]:=by rw[W1];(repeat(first|rfl|rw[ae]|rw[ah _ _ _ _ (by omega)]))
  have hO3:O1 (nx+3)= .row t.row:=by rw[W1];(repeat(first|rfl|rw[ae]|rw[ah _ _ _ _ (by omega)]))
  rw[<- W1]
  obtain⟨G,hG⟩:∃G:List Int×Bool->Nat->ab,G=fun s=>aI (aI O1 (nx+1) (.row [.d (.bool s.2)])) mid (Er s.1):=⟨_,rfl⟩
  have gm:∀s,G s mid=Er s.1:=fun s=>by rw[hG];exact ae _ _ _
  have gc:∀s,G s (nx+1)= .row [.d (.bool s.2)]:=fun s=>by rw[hG];show aI _ mid _ _=_;rw[ah _ _ _ _ (by omega),ae]
  have ge:∀s j,j≠mid->j≠nx+1->G s j=O1 j:=fun s j j1 j2=>by rw[hG];show aI _ mid _ _=_;rw[ah _ _ _ _ j1,ah _ _ _ _ j2]
  have gl:∀s j,j<nx->j≠mid->G s j=o j:=fun s j j1 j2=>by rw[ge s j j2 (by omega),hOl j j1]
  refine zK (σ:=List Int×Bool) t Qj [.aa, .ptr nb 0, .ptr bb 0, .ptr mb 0, .ptr fb 0, .aa, .ptr (nx+1) 0] ?_ cA rfl hgO BM hO3
   G X8 (iK b n) (fun s=>tx b s.1<=N) (met,false) hN rfl (fun id au=> ?_) (fun x hx s' h1 h2 h3=> ?_) ?_ ?_
  ·exact Ic
  ·by_cases e1:id=mid
   ·subst e1;rw[gm,hOl id (by omega),o5]
   ·by_cases e2:id=nx+1
    ·subst e2;rw[gc,aaA]
    ·rw[ge _ _ e1 e2]
  ·obtain⟨m,fl⟩:=s'
   show tx b (iK b n (m,fl) x).1<=N
   have h1:tx b m<=N:=h1
   unfold iK
   by_cases e:x=n
   ·rw[if_pos e];exact h1
   ·rw[if_neg e]
    cases hl:bZ b x with
    |none=>exact h1
    |some y=>
     dsimp only
     by_cases e2:x∈m
     ·rw[if_pos e2];exact h1
     ·rw[if_neg e2]
      have hle:tx b (dq m x)<=b.length:=Nat.le_trans (Nat.le_of_lt (q8 hl e2)) R9
      obtain⟨i1,m1,g1,g2,g3⟩:=CW hb n b.length y (dq m x) hle (hb _ (dt hl))
      have ky:iK b n (m,fl) x=(m1,i1):=by unfold iK;rw[if_neg e,hl];dsimp only;rw[if_neg e2,g1]
      rw[g1]
      rw[ky]at h3
      cases i1 with
      |true=>cases h3
      |false=>
       have:=zB (b:=b) (g3 rfl).1
       have:=q8 hl e2
       show tx b m1<=N
       omega
  ·intro L hL BG v hv s' rK ER O3 n3 hI hn PR K' X' dC
   obtain⟨m,fl⟩:=s'
   have nj:fl=false:=by
    cases fl with
    |false=>rfl
    |true=>cases ER
   subst nj
   have rK:tx b m<=N:=rK
   simp only[n9]
   have hg:=hI.cc
   have hle:=hI.le
   have q1:O3 nb= .row [.d (.i n)]:=by rw[hI.eq nb (by omega),gl _ _ (by omega) d1,o1]
   have q2:O3 bb= .row [.d (Bn b)]:=by rw[hI.eq bb (by omega),gl _ _ (by omega) d2,o2]
   have q3:O3 mb= .row [.mp mid]:=by rw[hI.eq mb (by omega),gl _ _ (by omega) d3,o3]
   have q4:O3 fb= .row [.func (.func 148) [] [.ptr nb 0, .ptr bb 0, .ptr mb 0, .ptr fb 0]]:=by rw[hI.eq fb (by omega),gl _ _ (by omega) d4,o4]
   have q5:O3 mid=Er m:=by rw[hI.eq mid (by omega),gm]
   have q6:O3 (nx+1)= .row [.d (.bool false)]:=by rw[hI.eq (nx+1) (by omega),gc]
   have same:∀ (o':Nat->ab) (n':Nat) (s:List Int×Bool),Good o' n'->n3<=n'->(∀j,j<nx+7->o' j=aI (aI O3 (nx+1) (.row [.d (.bool s.2)])) mid (Er s.1) j)->ec (nx+7) (G s) o' n':=fun o' n' s k1 k2 k3=>⟨k1,af,fun j hj=>by
    rw[k3 j hj]
    by_cases e1:j=mid
    ·subst e1;rw[ae,gm]
    ·rw[ah _ _ _ _ e1]
     by_cases e2:j=nx+1
     ·subst e2;rw[ae,gc]
     ·rw[ah _ _ _ _ e2,hI.eq j hj,ge _ _ e1 e2,ge _ _ e1 e2]⟩
   have z1:∀k,nb≠n3+k:=fun k=>af
   have z2:∀k,bb≠n3+k:=fun k=>af
   have z3:∀k,mb≠n3+k:=fun k=>af
   have z4:∀k,fb≠n3+k:=fun k=>af
   have z5:∀k,mid≠n3+k:=fun k=>af
   have z6:∀k,nx+1≠n3+k:=fun k=>af
   refine cm ?_
   refine om hL (pd:=none) ?_ ?_
   ·(repeat(first|rfl|rw[ae]|rw[ah _ _ _ _ (by omega)]))
    exact PR
   refine Da q1 q2 q3 q4 q5 q6 ?_
   refine ak (fun h3=> ?_) (fun h3=> ?_)
   ·have qb:v=n:=by simpa using h3
    have ky:iK b n (m,false) v=(m,true):=by unfold iK;rw[if_pos qb]
    rw[ky]at dC
    refine Da q1 q2 q3 q4 q5 q6 ?_
    refine dC _ _ _ .busy none af (same _ _ _ ek af fun j hj=> ?_) fq (fun id h3 h4=>by(repeat(first|rfl|rw[ae]|rw[ah _ _ _ _ (by omega)])))
    by_cases e1:j=mid
    ·exact MZ
    ·by_cases e2:j=nx+1
     ·exact Ss
     ·exact fq
   ·have qb:v≠n:=by simpa using h3
    cases hl:bZ b v with
    |none=>
     have ky:iK b n (m,false) v=(m,false):=by unfold iK;rw[if_neg qb,hl]
     rw[ky]at dC
     cases hc:m.contains v
     all_goals
      simp+contextual (disch:=first|omega|simp only[go_sem,false_implies]) only[go_sem,wrap64,if_pos,q1,q2,q3,q4,q5,q6,lY,fV hl,hc]
      refine dC _ _ _ .busy none af (same _ _ _ ek af fun j hj=> ?_) fq (fun id h3 h4=>by(repeat(first|rfl|rw[ae]|rw[ah _ _ _ _ (by omega)])))
      by_cases e1:j=mid
      ·exact MZ
      ·by_cases e2:j=nx+1
       ·exact Sh
       ·exact fq
    |some y=>
     obtain⟨jy,hj⟩:=jr hl
     have Jy:=dt hl
     cases hc:m.contains v with
     |true=>
      have xl:v∈m:=List.contains_iff_mem.1 hc
      have ky:iK b n (m,false) v=(m,false):=by unfold iK;rw[if_neg qb,hl];dsimp only;rw[if_pos xl]
      rw[ky]at dC
      simp+contextual (disch:=first|omega|simp only[go_sem,false_implies]) only[go_sem,wrap64,if_pos,q1,q2,q3,q4,q5,q6,lY,hj,hc]
      refine dC _ _ _ .busy none af (same _ _ _ ek af fun j hj=> ?_) fq (fun id h3 h4=>by(repeat(first|rfl|rw[ae]|rw[ah _ _ _ _ (by omega)])))
      by_cases e1:j=mid
      ·exact MZ
      ·by_cases e2:j=nx+1
       ·exact Sh
       ·exact fq
     |false=>
      have xl:v∉m:=fun h=>by rw[List.contains_iff_mem.2 h]at hc;cases hc
      have bR:=q8 hl xl
      have NG:tx b (dq m v)<=b.length:=Nat.le_trans (Nat.le_of_lt bR) R9
      obtain⟨i1,m1,g1,_,_⟩:=CW hb n b.length y (dq m v) NG (hb _ Jy)
      have ky:iK b n (m,false) v=(m1,i1):=by unfold iK;rw[if_neg qb,hl];dsimp only;rw[if_neg xl,g1]
      rw[ky]at dC
      simp+contextual (disch:=first|omega|simp only[go_sem,false_implies]) only[go_sem,wrap64,if_pos,q1,q2,q3,q4,q5,q6,z1,z2,z3,z4,z5,z6,lY,hj,hc]
      refine bX (ihN _ af y (dq m v) (Nat.le_refl _) (hb _ Jy) (mf _ Jy) i1 m1 g1 _ _ nb bb mb fb mid ?_ ?_ ?_ ?_ ?_ ?_ _ _ fun X9 n4 w1 w2 w3 w4=> ?_)
      ·exact ek
      ·(repeat(first|rfl|rw[ae]|rw[ah _ _ _ _ (by omega)]));exact q1
      ·(repeat(first|rfl|rw[ae]|rw[ah _ _ _ _ (by omega)]));exact q2
      ·(repeat(first|rfl|rw[ae]|rw[ah _ _ _ _ (by omega)]));exact q3
      ·(repeat(first|rfl|rw[ae]|rw[ah _ _ _ _ (by omega)]));exact q4
      ·exact fq
      have p7:X9 (nx+7)=L .busy none:=by rw[w3 (nx+7) (by omega) (by omega)];(repeat(first|rfl|rw[ae]|rw[ah _ _ _ _ (by omega)]))
      have p6:X9 (nx+1)= .row [.d (.bool false)]:=by rw[w3 (nx+1) (by omega) (by omega)];(repeat(first|rfl|rw[ae]|rw[ah _ _ _ _ (by omega)]));exact q6
      have pj:∀j,j<nx+7->j≠mid->X9 j=O3 j:=fun j j1 j2=>by rw[w3 j (by omega) j2];(repeat(first|rfl|rw[ae]|rw[ah _ _ _ _ (by omega)]))
      have ph:∀j,nx+7<j->j<n3->X9 j=O3 j:=fun j j1 j2=>by rw[w3 j (by omega) (by omega)];(repeat(first|rfl|rw[ae]|rw[ah _ _ _ _ (by omega)]))
      clear hg
      have hg:=w2
      cases i1 with
      |true=>
       refine mg p6 ?_
       refine dC _ _ _ .busy none af (same _ _ _ ek af fun j hj=> ?_) (by(repeat(first|rfl|rw[ae]|rw[ah _ _ _ _ (by omega)]))<;>exact p7) (fun id h3 h4=>by(repeat(first|rfl|rw[ae]|rw[ah _ _ _ _ (by omega)]))<;>exact ph id h3 h4)
       by_cases e1:j=mid
       ·exact Si
       ·by_cases e2:j=nx+1
        ·exact Ss
        ·exact Sl
      |false=>
       refine mg p6 ?_
       refine dC _ _ _ .busy none af (same _ _ _ ek af fun j hj=> ?_) p7 (fun id h3 h4=>ph id h3 h4)
       by_cases e1:j=mid
       ·exact Si
       ·by_cases e2:j=nx+1
        ·subst e2;(repeat(first|rfl|rw[ae]|rw[ah _ _ _ _ (by omega)]));exact p6
        ·exact Sl
  ·intro o' n' hI
   rw[oH (pK t) met is ej hld]at hI|-
   have p6:o' (nx+1)= .row [.d (.bool is)]:=by rw[hI.eq (nx+1) (by omega),gc]
   have hle:=hI.le
   have hg:=hI.cc
   cases is with
   |true=>
    rw[show X8 (ej,true)=some .ret from rfl]
    simp only[pq]
    refine mg p6 ?_
    exact hK _ _ af ek (fun j j1 j2=>by rw[hI.eq j (by omega),gl _ _ j1 j2]) (by rw[hI.eq mid (by omega),gm])
   |false=>
    rw[show X8 (ej,false)=none from rfl]
    simp only[pq]
    refine mg p6 ?_
    refine hK _ _ af ek (fun j j1 j2=> ?_) ?_
    ·(repeat(first|rfl|rw[ae]|rw[ah _ _ _ _ (by omega)]));rw[hI.eq j (by omega),gl _ _ j1 j2]
    ·(repeat(first|rfl|rw[ae]|rw[ah _ _ _ _ (by omega)]));rw[hI.eq mid (by omega),gm]
theorem J0{s:aN}{b:List (Int×Tm)}(hb:∀p∈b,Vs s p.2)(mf:∀p∈b,p.2.fits)(n:Int)(t:Tm)(ht:Vs s t)(Qj:t.fits){is:Bool}(Hu:is=true↔oE b n t):
 aX Tryz.prog 120 [Bn b,t.d, .i n] (.ret [.bool is]):=by
 obtain⟨i1,m1,g1,g2⟩:=Qd hb n ht
 have:is=i1:=by rw[Bool.eq_iff_iff,Hu,g2]
 subst this
 refine aX.aM mix L0 aK ?_
 rw[O6]
 refine cm ?_
 have hN:tx b []<=b.length:=by unfold tx;exact Nat.le_trans (List.length_filter_le _ _) M0
 refine bX (Ht hb mf n b.length t [] hN ht Qj is m1 g1 _ _ 2 0 5 7 4 ek rfl rfl rfl rfl rfl _ _ fun o' nx' w1 w2 w3 w4=> ?_)
 exact nq
structure BL (l:List TB):Prop where
 len:l.length<=100
 sz:∀x∈l,x.term.sz<=1000
theorem Ey{b:List (Int×Tm)}(mf:∀p∈b,p.2.fits)(hle:∀p∈b,∃f r,qs f b p.2 40 12=some r){ok:Bool}(aQ:ok=true↔∀p∈b,EV b p.2):aX Tryz.prog 121 [Bn b] (.ret [.bool ok]):=by
 refine aX.aM mix L1 aK ?_
 rw[O7]
 simp+contextual (disch:=first|omega|simp only[go_sem,false_implies]) only[go_sem,wrap64,if_pos,lY]
 refine aH (fun i:List (Int×Tm)×Option (D×D)=>⟨ba [.d (Bn b), .aa, .aa, .aa, .aa, .aa, .ptr 2 0],aI (fun _=> .no) 2 (.oX (enc (D.int .i64) (oD i.1)) i.2),3⟩)
  (fun i=>(∀p∈i.1,p∈b)/\(ok=true↔∀p∈i.1,EV b p.2)) (fun i=>i.1.length) (b,none) ⟨fun _ h=>h,aQ⟩ ?_ ?_
 ·dsimp only
  exact Nq
 rintro⟨rest,last⟩ ⟨hr,ho⟩
 dsimp only at hr ho|-
 refine cm ?_
 refine vf (fun h0=> ?_) fun i k x hm=> ?_
 ·subst h0
  have:ok=true:=ho.2 (fun p hp=>by cases hp)
  exact vo
 ·have l9:=List.mem_of_getElem? hm
  have HZ:=hr _ l9
  obtain⟨f,r,hf⟩:=hle _ HZ
  have hlen:(rest.eraseIdx i).length<rest.length:=by
   exact Te
  have vr:=sS hm
  refine cm ?_
  refine ao (Hn f x 40 12 r (mf _ HZ) mf af af hf) rfl ?_
  have cI:=CX hf
  by_cases h0:r<0
  ·have vI:decide (r<0)=true:=decide_eq_true h0
   have:ok=false:=by
    cases ok with
    |false=>rfl
    |true=>
     have:=cI.1 (ho.1 rfl _ l9)
     omega
   subst this
   exact xq vI
  ·have vI:decide (r<0)=false:=decide_eq_false h0
   refine mg vI ?_
   refine aw (rest.eraseIdx i,some (.int .i64 k,x.d)) ⟨fun p hp=>hr p (vr.mem_iff.1 (List.mem_cons_of_mem _ hp)),ho.trans ⟨fun h p hp=>h p (vr.mem_iff.1 (List.mem_cons_of_mem _ hp)),fun h p hp=> ?_⟩⟩ hlen (bG.bU _ (show 0<=3 from af) af ek (fun j hj=> ?_) ?_)
   ·rcases List.mem_cons.1 (vr.mem_iff.2 hp)with rfl|hp
    ·exact cI.2 af
    ·exact h p hp
   ·by_cases e:j=2
    ·exact tv
    ·exact fq
   ·exact dQ
structure Nt where
 a:Tm
 b:Tm
@[reducible] def Nt.d (n:Nt):D:= .agg [.i n.a.op, .i n.a.n, .sl (n.a.kids.map Tm.d), .i n.b.op, .i n.b.n, .sl (n.b.kids.map Tm.d)]
@[reducible] def Nt.row (n:Nt):List V:=[.d (.i n.a.op), .d (.i n.a.n), .d (.sl (n.a.kids.map Tm.d)), .d (.i n.b.op), .d (.i n.b.n), .d (.sl (n.b.kids.map Tm.d))]
@[reducible] def qt (m:Int×Int):D:= .agg [.i m.1, .i m.2]
structure eu where
 sig:aN
 binds:List TB
 aV:List Nt
 marks:List (Int×Int)
@[reducible] def eu.d (s:eu):D:= .agg [.sl (s.sig.cons.map dZ.d), .sl (s.sig.bF.map dZ.d), .sl (s.binds.map TB.d), .sl (s.aV.map Nt.d), .sl (s.marks.map qt)]
@[reducible] def eu.row (s:eu):List V:=[.d (.sl (s.sig.cons.map dZ.d)), .d (.sl (s.sig.bF.map dZ.d)), .d (.sl (s.binds.map TB.d)), .d (.sl (s.aV.map Nt.d)), .d (.sl (s.marks.map qt))]
@[reducible] def eu.kd (s:eu) (b:List (Int×Tm)):D:= .agg [.sl (s.sig.cons.map dZ.d), .sl (s.sig.bF.map dZ.d), .sl (s.binds.map TB.d), .sl (s.aV.map Nt.d), .sl (s.marks.map qt),Bn b]
def ki(s:aN)(t:Tm):Bool:=iC s [t]&&lC t
theorem s5(s:eu)(hs:s.sig.Fits)(b:List (Int×Tm))(t:Tm)(ht:t.Fin):aX Tryz.prog 99 [s.kd b,t.d] (.ret [.bool (ki s.sig t)]):=by
 refine aX.aM mix U7 aK ?_
 rw[c99]
 refine cm ?_
 refine ao (Bk s.sig hs t ht) rfl ?_
 unfold ki
 cases h:iC s.sig [t]with
 |false=>
  exact RR
 |true=>
  exact RR
theorem Ez(s:eu){b:List (Int×Tm)}(hb:∀p∈b,p.2.fits)(n:Nt)(ha:n.a.fits)(Fs:n.b.fits){f:Nat}{x y:Tm}(hx:tt f b n.a=some x)(hy:tt f b n.b=some y)(fx:x.fits)(fy:y.fits)(zx:x.sz<=1000000)(zy:y.sz<=1000000):
 aX Tryz.prog 66 [s.kd b,n.d] (.ret [.bool (iA x y)]):=by
 refine aX.aM mix U1 aK ?_
 rw[c66]
 refine cm ?_
 refine cU (xa hb f n.a x ha hx zx) ?_
 refine cm ?_
 refine cU (xa hb f n.b y Fs hy zy) ?_
 refine cm ?_
 refine bc (JW x fx y fy) rfl ?_
 exact Np
def Ya(b:List (Int×Tm))(n:Nt):Prop:=∃f x,tt f b n.a=some x/\tt f b n.b=some x
def qK(nb nn:Int):Int×Int->List (Int×Int)->Bool
 |_,[]=>true
 |l,m::ms=> !(decide (m.1<l.1)||decide (m.1>nb)||decide (m.2<l.2)||decide (m.2>nn))&&qK nb nn m ms
structure s6 (s:aN) (l:List TB):Prop where
 len:l.length<=20
 keys:((ay l).map (·.1)).Nodup
 ok:∀x∈l,(0<=x.var/\x.var<20)/\ki s x.term=true
 X6:RG (ay l)
 frm:∀x∈l,EV (ay l) x.term
structure fm (s:eu):Prop where
 sig:j5 s.sig=true
 Qk:s.aV.length<=12
 EA:s.marks.length<=8
 EX:s6 s.sig s.binds
 aV:∀n∈s.aV,ki s.sig n.a=true/\ki s.sig n.b=true/\ ¬Ya (ay s.binds) n
 marks:qK s.binds.length s.aV.length (0,0) s.marks=true
structure eu.Fin (s:eu):Prop where
 sig:s.sig.Fits
 bl:s.binds.length<=1000
 nl:s.aV.length<=1000
 ml:s.marks.length<=1000
 bt:∀x∈s.binds,x.term.Fin
 nt:∀n∈s.aV,n.a.Fin/\n.b.Fin
theorem iG{s:aN}{t:Tm}(h:ki s t=true):Vs s t/\t.sz<=40/\t.mD<=12:=by
 unfold ki iC at h
 simp only[Bool.and_eq_true,List.all_cons,List.all_nil,Bool.and_true]at h
 obtain⟨⟨_,h1⟩,h2⟩:=h
 rw[sP]at h1
 rw[vc h1]at h2
 have h3:=JJ h1
 unfold iz at h1
 rw[Bool.and_eq_true]at h1
 exact⟨⟨h1.2,h2⟩,h3.2⟩
theorem gN{l:List TB}{p:Int×Tm}(h:p∈ay l):∃x∈l,p=(x.var,x.term):=by
 obtain⟨x,hx,rfl⟩:=List.mem_map.1 h
 exact⟨x,hx,rfl⟩
theorem kj{l:List TB}{x:TB}(h:x∈l):(x.var,x.term)∈ay l:=List.mem_map.2 ⟨x,h,rfl⟩
theorem zL(l:List TB){k:Nat}{x:TB}(h:l[k]? =some x):ay (l.take (k+1))=ay (l.take k)++[(x.var,x.term)]:=by
 unfold ay
 rw[List.take_add_one,h,List.map_append];rfl
theorem xb{s:aN}{l:List TB}(hk:((ay l).map (·.1)).Nodup)(ho:∀x∈l,(0<=x.var/\x.var<20)/\ki s x.term=true)(ha:RG (ay l)):∃l' ρ R,qZ s (ay l) l' ρ R/\tq s l':=
 Qe hk (fun p hp=>by
  obtain⟨x,hx,rfl⟩:=gN hp
  exact⟨(ho x hx).1,(iG (ho x hx).2).1⟩) ha
theorem C2{s:aN}{b:List (Int×Tm)}{l:List TB}{ρ:Int->Nat}{R:Nat}(h:qZ s b l ρ R){n:Nt}(ha:Vs s n.a)(hb:Vs s n.b):Ya b n↔dy (ay l) n.a=dy (ay l) n.b:=by
 have e1:=zI h _ n.a ha (Nat.le_refl _)
 have e2:=zI h _ n.b hb (Nat.le_refl _)
 constructor
 ·rintro⟨f,x,h1,h2⟩
  obtain⟨g,hg⟩:∃g,g=f+(R+3+((dy (ay l) n.a).sz+(dy (ay l) n.b).sz)):=⟨_,rfl⟩
  have k1:=iF h1 (show f<=g from af)
  have k2:=iF h2 (show f<=g from af)
  rw[iF e1 (show _<=g by omega)]at k1
  rw[iF e2 (show _<=g by omega)]at k2
  exact Option.some.inj (k1.trans k2.symm)
 ·intro h
  refine⟨R+3+((dy (ay l) n.a).sz+(dy (ay l) n.b).sz),dy (ay l) n.a,iF e1 af, ?_⟩
  rw[h]
  exact iF e2 af
theorem J1{F:Tm->Int->Option Int}:∀ {ks:List Tm} {n r:Int},n<0->xp F ks n=some r->r=n
 |[],n,r,_,h=>by cases h;rfl
 |k::ks,n,r,hn,h=>by
  simp only[xp]at h
  rw[if_pos hn]at h
  cases h;rfl
theorem Hv{F:Tm->Int->Option Int}{g:Tm->Nat}:∀ {ks:List Tm} {n r:Int},(∀k∈ks,∀m q,F k m=some q->0<=q->(g k:Int)=m - q)->xp F ks n=some r->0<=r->(((ks.map g).sum:Nat):Int)=n - r
 |[],n,r,_,h,_=>by cases h;simp
 |k::ks,n,r,hF,h,hr=>by
  have h0:=h
  simp only[xp]at h
  split at h
  ·cases h;omega
  ·cases e:F k n with
   |none=>rw[e]at h;cases h
   |some q=>
    rw[e]at h
    have hq:0<=q:=by
     rcases Int.lt_or_le q 0 with hq|hq
     ·have:=J1 hq h;omega
     ·exact hq
    have h1:=hF k aK n q e hq
    have h2:=Hv (g:=g) (fun y hy=>hF y mj) h hr
    rw[List.map_cons,List.sum_cons]
    omega
theorem Hw{s:aN}{b:List (Int×Tm)}{l:List TB}{ρ:Int->Nat}{R:Nat}(h:qZ s b l ρ R):∀ (f:Nat) (t:Tm) (n:Int) (d:Nat) (r:Int),Vs s t->qs f b t n d=some r->0<=r->((dy (ay l) t).sz:Int)=n - r
 |0,_,_,_,_,_,h,_=>by cases h
 |f+1,t,n,d,r,ht,hl,hr=>by
  simp only[qs]at hl
  obtain⟨x,a1,a2,a3,a4,_⟩:=h.root ht
  cases ha:oN f b t with
  |none=>rw[ha]at hl;cases hl
  |some y=>
  have e1:=iE a1 (show R+2<=f+(R+2)from af)
  rw[iE ha (show f<=f+(R+2) by omega)]at e1
  cases e1
  rw[ha]at hl
  cases d with
  |zero=>cases hl;omega
  |succ d=>
   dsimp only at hl
   have h1:=Hv (g:=fun k=>(dy (ay l) k).sz) (fun k hk m q hq hq0=>Hw h f k m d q (a2.zj hk) hq hq0) hl hr
   rw[<- a3]
   by_cases hx:x.op=1
   ·have e:=a2.eta hx
    have hk:x.kids=[]:=by rw[e];rfl
    have hv:dy (ay l) x=x:=by rw[ku a2 hx,show Lv (ay l) x.n= .mk 1 x.n [] by simp[Lv,(h.Hc _).1 (a4 hx)]];exact e.symm
    rw[hk]at h1
    rw[hv,Tm.lD,hk]
    simp[pG]at h1|-
    omega
   ·rw[mG hx,Tm.lD]
    have:pG (Tm.mk x.op x.n (x.kids.map (dy (ay l)))).kids=(x.kids.map fun k=>(dy (ay l) k).sz).sum:=by
     show pG (x.kids.map (dy (ay l)))=_
     unfold pG
     rw[List.map_map];rfl
    rw[this]
    omega
theorem Ql{s:aN}{b:List (Int×Tm)}{l:List TB}{ρ:Int->Nat}{R:Nat}(h:qZ s b l ρ R){t:Tm}(ht:Vs s t)(hf:EV b t):(dy (ay l) t).sz<=40:=by
 obtain⟨f,r,h1,h2⟩:=hf
 have:=Hw h f t 40 12 r ht h1 h2
 omega
theorem W2{s:aN}{b:List (Int×Tm)}(hb:∀v,(Lv b v).sz<=40):∀t:Tm,Vs s t->(dy b t).sz<=40*t.sz:=by
 refine Tm.fk fun t ih ht=> ?_
 by_cases h1:t.op=1
 ·rw[ku ht h1]
  have:=hb t.n
  have:=Tm.Be t
  omega
 ·rw[mG h1,Tm.lD,Tm.lD t]
  show 1+pG (t.kids.map (dy b))<=40*(1+pG t.kids)
  have key:∀ks:List Tm,(∀k∈ks,(dy b k).sz<=40*k.sz)->pG (ks.map (dy b))<=40*pG ks:=by
   intro ks
   induction ks with
   |nil=>intro _;simp[pG]
   |cons k ks W0=>
    intro h
    have h1:=h k aK
    have h2:=W0 fun y hy=>h y mj
    rw[List.map_cons,ow,ow]
    omega
  have:=key t.kids fun k hk=>ih k hk (ht.zj hk)
  omega
theorem ra{s:aN}{b:List (Int×Tm)}{l:List TB}{ρ:Int->Nat}{R:Nat}(h:qZ s b l ρ R)(hf:∀p∈b,EV b p.2){t:Tm}(ht:Vs s t):(dy (ay l) t).sz<=40*t.sz:=by
 refine W2 (fun v=> ?_) t ht
 cases hx:bZ b v with
 |none=>
  have:Lv (ay l) v= .mk 1 v []:=by simp[Lv,(h.Hc v).1 hx]
  rw[this,Tm.lD]
  simp[Tm.kids,pG]
 |some x=>
  obtain⟨g1,g2,_⟩:=h.ok v x hx
  rw[g2]
  exact Ql h g1 (hf _ (dt hx))
end Go.Proofs.YtlhemmpklhhgoaaGreat
set_option maxHeartbeats 4000000
namespace Go.Proofs.YtlhemmpklhhgoaaGreat
def tu(o:Nat->ab)(nx:Nat)(s:eu)(m:ab):Nat->ab:=
 aI (aI (aI (aI o nx (.row s.row)) (nx+1) (.row [.aE, .aE, .aE, .aE, .aE, .d .eQ])) (nx+4) m) (nx+6) (.row (s.row++[.mp (nx+4)]))
theorem kpH_0(o:Nat->ab)(nx:Nat)(s:eu)(m:ab):tu o nx s m nx= .row s.row:=by
 unfold tu;rw[ah _ _ _ _ (by omega),ah _ _ _ _ (by omega),ah _ _ _ _ (by omega),ae]
theorem kpH_1(o:Nat->ab)(nx:Nat)(s:eu)(m:ab):tu o nx s m (nx+1)= .row [.aE, .aE, .aE, .aE, .aE, .d .eQ]:=by
 unfold tu;rw[ah _ _ _ _ (by omega),ah _ _ _ _ (by omega),ae]
theorem kpH_4(o:Nat->ab)(nx:Nat)(s:eu)(m:ab):tu o nx s m (nx+4)=m:=by
 unfold tu;rw[ah _ _ _ _ (by omega),ae]
theorem kpH_6(o:Nat->ab)(nx:Nat)(s:eu)(m:ab):tu o nx s m (nx+6)= .row (s.row++[.mp (nx+4)]):=by unfold tu;rw[ae]
theorem Hx(o:Nat->ab)(nx:Nat)(s:eu)(m:ab){j:Nat}(h0:j≠nx)(h1:j≠nx+1)(h4:j≠nx+4)(h6:j≠nx+6):tu o nx s m j=o j:=by
 unfold tu;rw[ah _ _ _ _ h6,ah _ _ _ _ h4,ah _ _ _ _ h1,ah _ _ _ _ h0]
theorem C3(o:Nat->ab)(nx:Nat)(s:eu)(m m':ab)(j:Nat):aI (tu o nx s m) (nx+4) m' j=tu o nx s m' j:=by
 by_cases e:j=nx+4
 ·subst e;rw[ae,kpH_4]
 ·rw[ah _ _ _ _ e]
  unfold tu
  by_cases e6:j=nx+6
  ·subst e6;rw[ae,ae]
  ·rw[ah _ _ _ _ e6,ah _ _ _ _ e6,ah _ _ _ _ e,ah _ _ _ _ e]
theorem oI{o:Nat->ab}{nx:Nat}(hg:Good o nx)(s:eu){m:ab}(hm:m.refs=[]):Good (tu o nx s m) (nx+7):=by
 unfold tu
 refine Good.aI (Good.aI (Good.aI (Good.aI (hg.mono af) af rfl) af rfl) af (by rw[hm];rfl)) af De
theorem J2(o:Nat->ab)(nx:Nat)(s:eu)(j:Nat):
 aI (aI (aI (aI (aI o nx (.row s.row)) (nx+1) (.row [.aE, .aE, .aE, .aE, .aE, .d .eQ])) (nx+4) (lF [])) (nx+6) (.row [.aE, .aE, .aE, .aE, .aE, .d .eQ])) (nx+6) (.row (s.row++[.mp (nx+4)])) j=tu o nx s (lF []) j:=by
 unfold tu
 by_cases e:j=nx+6
 ·subst e;rw[ae,ae]
 ·rw[ah _ _ _ _ e,ah _ _ _ _ e,ah _ _ _ _ e]
set_option maxRecDepth 100000 in
theorem C4(s:eu)(hs:s.Fin)(o:Nat->ab)(nx:Nat)(hg:Good o nx)(K X:V->(Nat->ab)->Nat->Prop)
 (Hy:fm s->∀o' nx' id,nx<=nx'->Good o' nx'->(∀j,j<nx->o' j=o j)->o' id= .cM (enc (D.int .i64) (oD (ay s.binds)))->K (.bH [.agg (s.row++[.mp id]), .d (.bool true)]) o' nx')
 (Dm: ¬fm s->∀o' nx' id m,nx<=nx'->id<nx'->Good o' nx'->(∀j,j<nx->o' j=o j)->o' id=lF m\/o' id= .cM (enc (D.int .i64) (oD m))->K (.bH [.agg (s.row++[.mp id]), .d (.bool false)]) o' nx'):
 dA Tryz.prog 79 [.d s.d] o nx K X:=by
 refine dA.aM mix U5 aK ?_
 rw[c79]
 refine oQ ?_
 refine ao (sL s.sig hs.sig) rfl ?_
 have rv:=hs.bl
 have vV:=hs.nl
 have B5:=hs.ml
 cases h1:j5 s.sig with
 |false=>
  simp+contextual (disch:=first|omega|simp only[go_sem,false_implies]) only[go_sem,wrap64,if_pos,kD,Nat.add_assoc,Nat.left_eq_add,Nat.add_eq_left,Nat.add_left_cancel_iff,List.length_map]
  refine Dm (fun h=> ?_) _ _ (nx+4) [] ?_ ?_ ?_ (fun j hj=> ?_) (.inl ?_)
  rotate_left
  ·omega
  ·omega
  ·exact ek
  ·exact fq
  ·exact fq
  have:=h.sig
  rw[h1]at this;cases this
 |true=>
 by_cases h2:20<s.binds.length
 ·have qa:decide ((s.binds.length:Int)>20)=true:=by simp;omega
  simp+contextual (disch:=first|omega|simp only[go_sem,false_implies]) only[go_sem,wrap64,if_pos,kD,Nat.add_assoc,Nat.left_eq_add,Nat.add_eq_left,Nat.add_left_cancel_iff,List.length_map,qa]
  refine Dm (fun h=> ?_) _ _ (nx+4) [] ?_ ?_ ?_ (fun j hj=> ?_) (.inl ?_)
  rotate_left
  ·omega
  ·omega
  ·exact ek
  ·exact fq
  ·exact fq
  have:=h.EX.len
  omega
 have qa:decide ((s.binds.length:Int)>20)=false:=by simp;omega
 by_cases h3:12<s.aV.length
 ·have qb:decide ((s.aV.length:Int)>12)=true:=by simp;omega
  simp+contextual (disch:=first|omega|simp only[go_sem,false_implies]) only[go_sem,wrap64,if_pos,kD,Nat.add_assoc,Nat.left_eq_add,Nat.add_eq_left,Nat.add_left_cancel_iff,List.length_map,qa,qb]
  refine Dm (fun h=> ?_) _ _ (nx+4) [] ?_ ?_ ?_ (fun j hj=> ?_) (.inl ?_)
  rotate_left
  ·omega
  ·omega
  ·exact ek
  ·exact fq
  ·exact fq
  have:=h.Qk
  omega
 have qb:decide ((s.aV.length:Int)>12)=false:=by simp;omega
 by_cases h4:8<s.marks.length
 ·have DF:decide ((s.marks.length:Int)>8)=true:=by simp;omega
  refine RJ qa qb DF ?_
  refine Dm (fun h=> ?_) _ _ (nx+4) [] ?_ ?_ ?_ (fun j hj=> ?_) (.inl ?_)
  rotate_left
  ·omega
  ·omega
  ·exact ek
  ·exact fq
  ·exact fq
  have:=h.EA
  omega
 have DF:decide ((s.marks.length:Int)>8)=false:=by simp;omega
 refine RJ qa qb DF ?_
 have fin:∀ (m:List (Int×Tm)) (M:ab),(M=lF m\/M= .cM (enc (D.int .i64) (oD m)))->∀O n,nx+7<=n->Good O n->(∀j,j<nx+7->j≠nx+1->O j=tu o nx s M j)-> ¬fm s->K (.bH [.agg (s.row++[.mp (nx+4)]), .d (.bool false)]) O n:=fun m M hM O n i1 i2 i3 i4=>
  Dm i4 O n (nx+4) m af af i2 (fun j hj=>by rw[i3 j (by omega) (by omega),Hx _ _ _ _ (by omega) (by omega) (by omega) (by omega)]) (by rw[i3 (nx+4) (by omega) (by omega),kpH_4];exact hM)
 refine aH (fun k:Nat=>⟨ba [.aa, .ptr nx 0, .ptr (nx+1) 0, .aa, .ptr (nx+6) 0, .aa, .aa, .aa, .aa, .aa, .aa, .aa, .aa, .aa, .aa, .aa, .aa, .aa, .aa, .aa, .aa, .aa, .aa, .aa, .aa, .aa, .aa, .aa, .aa, .aa, .aa, .aa, .aa, .aa, .aa, .aa, .aa, .aa, .aa, .aa, .aa, .aa, .aa, .d (.sl (s.binds.map TB.d)), .d (.i s.binds.length), .d (.i k)],tu o nx s (lF (ay (s.binds.take k))),nx+7⟩)
  (fun k=>k<=s.binds.length/\((ay (s.binds.take k)).map (·.1)).Nodup/\∀x∈s.binds.take k,(0<=x.var/\x.var<20)/\ki s.sig x.term=true) (fun k=>s.binds.length - k) 0 ⟨Nat.zero_le _,List.nodup_nil,fun x hx=>by simp at hx⟩ (bG.bU _ (show nx<=nx+7 from af) af (oI hg s (by rfl)) (fun j hj=> ?_) ?_) (fun k hk=> ?_)
 ·exact J2 o nx s j
 ·exact dQ
 obtain⟨hk,x8,aQ⟩:=hk
 have JT:fm s->((ay (s.binds.take (k+1))).map (·.1)).Nodup:=fun h=>h.EX.keys.sublist (((List.take_sublist _ _).map _).map _)
 have WL:=oI (m:=lF (ay (s.binds.take k))) hg s rfl
 have hg0:=hg
 clear hg
 have hg:=WL
 have e0:=kpH_0 o nx s (lF (ay (s.binds.take k)))
 have e1:=kpH_1 o nx s (lF (ay (s.binds.take k)))
 have e4:=kpH_4 o nx s (lF (ay (s.binds.take k)))
 have e6:=kpH_6 o nx s (lF (ay (s.binds.take k)))
 refine Kk e0 e1 e4 e6 ?_
 refine ak (fun h5=> ?_) (fun h5=> ?_)
 ·replace h5:k<s.binds.length:=by simp at h5;omega
  obtain⟨x,hx⟩:=aF h5
  have gI:=List.mem_of_getElem? hx
  have vh:=zL s.binds hx
  have hnk:∀ (P:Prop),(s6 s.sig s.binds->P)->(fm s->P):=fun P h hs=>h hs.EX
  cases hl:bZ (ay (s.binds.take k)) x.var with
  |some z=>
   obtain⟨jz,hj⟩:=jr hl
   refine RK e0 e1 e4 e6 hx hj ?_
   refine fin _ _ (.inl rfl) _ _ af ek (fun j j1 j2=>by(repeat(first|rfl|rw[ae]|rw[ah _ _ _ _ (by omega)]))) (fun h=> ?_)
   have h7:=JT h
   rw[vh,List.map_append,List.nodup_append]at h7
   exact h7.2.2 x.var (List.mem_map.2 ⟨_,dt hl,rfl⟩) x.var aK rfl
  |none=>
   have WY:=fV hl
   by_cases h6:x.var<0
   ·have Yb:decide (x.var<0)=true:=decide_eq_true h6
    refine ML e0 e1 e4 e6 hx WY Yb ?_
    refine fin _ _ (.inl rfl) _ _ af ek (fun j j1 j2=>by(repeat(first|rfl|rw[ae]|rw[ah _ _ _ _ (by omega)]))) (fun h=> ?_)
    have:=(h.EX.ok x gI).1
    omega
   have Yb:decide (x.var<0)=false:=decide_eq_false h6
   by_cases h7:20<=x.var
   ·have h7':decide (x.var≥20)=true:=decide_eq_true h7
    refine MK e0 e1 e4 e6 hx WY Yb h7' ?_
    refine fin _ _ (.inl rfl) _ _ af ek (fun j j1 j2=>by(repeat(first|rfl|rw[ae]|rw[ah _ _ _ _ (by omega)]))) (fun h=> ?_)
    have:=(h.EX.ok x gI).1
    omega
   have h7':decide (x.var≥20)=false:=decide_eq_false h7
   refine MK e0 e1 e4 e6 hx WY Yb h7' ?_
   refine ao (s5 s hs.sig (ay (s.binds.take k)) x.term (hs.bt x gI)) rfl ?_
   cases hv:ki s.sig x.term with
   |false=>
    refine Kk e0 e1 e4 e6 ?_
    refine fin _ _ (.inl rfl) _ _ af ek (fun j j1 j2=>by(repeat(first|rfl|rw[ae]|rw[ah _ _ _ _ (by omega)]))) (fun h=> ?_)
    have:=(h.EX.ok x gI).2
    rw[hv]at this;cases this
   |true=>
    have has:=G8 (x:=x.term) hl
    refine QB e0 e1 e4 e6 has ?_
    refine aw (k+1) ⟨h5, ?_,fun y hy=> ?_⟩ af (bG.bU _ (show nx<=nx+7 from af) af (oI hg0 s (by rfl)) (fun j hj=> ?_) ?_)
    ·rw[vh,List.map_append,List.nodup_append]
     refine⟨x8,aK,fun a ha c hc e=> ?_⟩
     simp at hc
     rw[e,hc]at ha
     exact oA.1 hl ha
    ·rw[List.take_add_one,hx]at hy
     rcases List.mem_append.1 hy with hy|hy
     ·exact aQ y hy
     ·simp at hy
      subst hy
      exact⟨af,hv⟩
    ·have hj:j<nx+7:=hj
     rw[vh, <- C3 o nx s (lF (ay (s.binds.take k)))]
     by_cases e:j=nx+4
     ·exact tv
     ·exact fq
    ·exact dQ
 ·replace h5:k=s.binds.length:=by simp at h5;omega
  subst h5
  rw[List.take_length]at x8 aQ e0 e1 e4 e6|-
  refine BF e0 e1 e4 e6 ?_
  obtain⟨b,hb⟩:∃b,b=ay s.binds:=⟨_,rfl⟩
  have mf:∀p∈b,p.2.fits:=fun p hp=>by
   rw[hb]at hp
   obtain⟨x,hx,rfl⟩:=gN hp
   exact(hs.bt x hx).fits
  have EH:∀p∈b,Vs s.sig p.2:=fun p hp=>by
   rw[hb]at hp
   obtain⟨x,hx,rfl⟩:=gN hp
   exact(iG (aQ x hx).2).1
  rw[<- hb]at x8|-
  clear hg WL
  have hg:=oI (m:= .cM (enc (D.int .i64) (oD b))) hg0 s (by rfl)
  have f0:=kpH_0 o nx s (.cM (enc (D.int .i64) (oD b)))
  have f1:=kpH_1 o nx s (.cM (enc (D.int .i64) (oD b)))
  have f4:=kpH_4 o nx s (.cM (enc (D.int .i64) (oD b)))
  have f6:=kpH_6 o nx s (.cM (enc (D.int .i64) (oD b)))
  clear e0 e1 e4 e6
  refine aH (fun i:List (Int×Tm)×Option (D×D)=>⟨ba [.aa, .ptr nx 0, .ptr (nx+1) 0, .aa, .ptr (nx+6) 0, .aa, .aa, .aa, .aa, .aa, .aa, .aa, .aa, .aa, .aa, .aa, .aa, .aa, .aa, .aa, .aa, .aa, .aa, .aa, .aa, .aa, .aa, .aa, .aa, .aa, .aa, .aa, .aa, .aa, .aa, .aa, .aa, .aa, .aa, .aa, .aa, .aa, .aa, .aa, .aa, .aa, .aa, .aa, .aa, .aa, .aa, .aa, .aa, .aa, .aa, .aa, .aa, .aa, .aa, .aa, .aa, .aa, .aa, .aa, .aa, .aa, .aa, .aa, .aa, .aa, .aa, .aa, .aa, .aa, .aa, .aa, .aa, .aa, .aa, .aa, .aa, .aa, .aa, .aa, .aa, .ptr (nx+10) 0],aI (tu o nx s (.cM (enc (D.int .i64) (oD b)))) (nx+10) (.oX (enc (D.int .i64) (oD i.1)) i.2),nx+11⟩)
   (fun i=>(∀p∈i.1,p∈b)/\∀p∈b,p∉i.1-> ¬oE b p.1 p.2) (fun i=>i.1.length) (b,none) ⟨fun _ h=>h,fun p h h'=>absurd h h'⟩ (bG.bU _ (show nx<=nx+11 from af) af ek (fun j hj=> ?_) ?_) ?_
  ·dsimp only
   by_cases e:j=nx+10
   ·subst e;rw[ae,ae]
   ·rw[ah _ _ _ _ e,ah _ _ _ _ e,C3]
  ·exact dQ
  rintro⟨rest,last⟩ ⟨hr,hd⟩
  dsimp only at hr hd|-
  refine BF f0 f1 f4 f6 ?_
  refine vf (fun h0=> ?_) fun i v x hm=> ?_
  ·subst h0
   have Hz:RG b:=fun v x hx=>hd (v,x) (dt hx) aK
   have qB:=xb (by rw[<- hb];exact x8) aQ (by rw[<- hb];exact Hz)
   rw[<- hb]at qB
   obtain⟨l',ρ,R,hS,hl⟩:=qB
   have hle:∀p∈b,∃f r,qs f b p.2 40 12=some r:=fun p hp=>by
    exact KK
   obtain⟨fo,CN⟩:∃fo:Bool,fo=true↔∀p∈b,EV b p.2:=by
    classical
    exact⟨decide (∀p∈b,EV b p.2),aK⟩
   refine BF f0 f1 f4 f6 ?_
   refine ao (Ey mf hle CN) rfl ?_
   cases fo with
   |false=>
    refine BF f0 f1 f4 f6 ?_
    refine fin _ _ (.inr rfl) _ _ af ek (fun j j1 j2=>by(repeat(first|rfl|rw[ae]|rw[ah _ _ _ _ (by omega)]))) (fun h=> ?_)
    have:=CN.2 fun p hp=>by
     rw[hb]at hp|-
     obtain⟨x,hx,rfl⟩:=gN hp
     exact h.EX.frm x hx
    cases this
   |true=>
    have NM:s6 s.sig s.binds:=⟨af,by rw[<- hb];exact x8,aQ,by rw[<- hb];exact Hz,fun x hx=>by rw[<- hb];exact CN.1 rfl _ (hb ▸ kj hx)⟩
    refine Kk f0 f1 f4 f6 ?_
    refine aH (fun k:Nat=>⟨ba [.aa, .ptr nx 0, .ptr (nx+1) 0, .aa, .ptr (nx+6) 0, .aa, .aa, .aa, .aa, .aa, .aa, .aa, .aa, .aa, .aa, .aa, .aa, .aa, .aa, .aa, .aa, .aa, .aa, .aa, .aa, .aa, .aa, .aa, .aa, .aa, .aa, .aa, .aa, .aa, .aa, .aa, .aa, .aa, .aa, .aa, .aa, .aa, .aa, .aa, .aa, .aa, .aa, .aa, .aa, .aa, .aa, .aa, .aa, .aa, .aa, .aa, .aa, .aa, .aa, .aa, .aa, .aa, .aa, .aa, .aa, .aa, .aa, .aa, .aa, .aa, .aa, .aa, .aa, .aa, .aa, .aa, .aa, .aa, .aa, .aa, .aa, .aa, .aa, .aa, .aa, .aa, .aa, .aa, .aa, .aa, .aa, .aa, .aa, .aa, .aa, .aa, .aa, .aa, .aa, .aa, .aa, .aa, .aa, .d (.sl (s.aV.map Nt.d)), .d (.i s.aV.length), .d (.i k)],tu o nx s (.cM (enc (D.int .i64) (oD b))),nx+7⟩)
     (fun k=>k<=s.aV.length/\∀n∈s.aV.take k,ki s.sig n.a=true/\ki s.sig n.b=true/\ ¬Ya b n) (fun k=>s.aV.length - k) 0 ⟨Nat.zero_le _,fun n hn=>by simp at hn⟩ (bG.bU _ (show nx<=nx+7 from af) af hg (fun j hj=> ?_) ?_) (fun k hk=> ?_)
    ·have hj:j<nx+7:=hj
     exact fq
    ·exact dQ
    obtain⟨hk,Qm⟩:=hk
    refine Kk f0 f1 f4 f6 ?_
    refine ak (fun h6=> ?_) (fun h6=> ?_)
    ·replace h6:k<s.aV.length:=by simp at h6;omega
     obtain⟨n,hn⟩:=aF h6
     have xk:=List.mem_of_getElem? hn
     obtain⟨na,nb⟩:=hs.nt n xk
     refine QB f0 f1 f4 f6 hn ?_
     refine ao (s5 s hs.sig b n.a na) rfl ?_
     cases va:ki s.sig n.a with
     |false=>
      refine BF f0 f1 f4 f6 ?_
      refine fin _ _ (.inr rfl) _ _ af ek (fun j j1 j2=>by(repeat(first|rfl|rw[ae]|rw[ah _ _ _ _ (by omega)]))) (fun h=> ?_)
      have:=(h.aV n xk).1
      rw[va]at this;cases this
     |true=>
      refine BF f0 f1 f4 f6 ?_
      refine ao (s5 s hs.sig b n.b nb) rfl ?_
      cases vb:ki s.sig n.b with
      |false=>
       refine BF f0 f1 f4 f6 ?_
       refine fin _ _ (.inr rfl) _ _ af ek (fun j j1 j2=>by(repeat(first|rfl|rw[ae]|rw[ah _ _ _ _ (by omega)]))) (fun h=> ?_)
       have:=(h.aV n xk).2.1
       rw[vb]at this;cases this
      |true=>
       obtain⟨a1,a2,a3⟩:=iG va
       obtain⟨b1,b2,b3⟩:=iG vb
       have cI:∀p∈b,EV b p.2:=CN.1 rfl
       have za:=ra hS cI a1
       have zb:=ra hS cI b1
       have ua:tt (R+3+3200) b n.a=some (dy (ay l') n.a):=zI hS 3200 n.a a1 af
       have ub:tt (R+3+3200) b n.b=some (dy (ay l') n.b):=zI hS 3200 n.b b1 af
       have W3:=C2 (n:=n) hS a1 b1
       refine BF f0 f1 f4 f6 ?_
       refine ao (Ez s mf n na.fits nb.fits ua ub (Tm.iY _ af) (Tm.iY _ af) af af) rfl ?_
       cases xh:iA (dy (ay l') n.a) (dy (ay l') n.b)with
       |true=>
        refine BF f0 f1 f4 f6 ?_
        refine fin _ _ (.inr rfl) _ _ af ek (fun j j1 j2=>by(repeat(first|rfl|rw[ae]|rw[ah _ _ _ _ (by omega)]))) (fun h=> ?_)
        exact(h.aV n xk).2.2 (hb ▸ W3.2 ((lW _ _).1 xh))
       |false=>
        refine BF f0 f1 f4 f6 ?_
        refine aw (k+1) ⟨h6,fun y hy=> ?_⟩ af (bG.bU _ (show nx<=nx+7 from af) af hg (fun j hj=> ?_) ?_)
        ·rw[List.take_add_one,hn]at hy
         rcases List.mem_append.1 hy with hy|hy
         ·exact Qm y hy
         ·simp at hy
          subst hy
          refine⟨va,vb,fun h=> ?_⟩
          rw[(lW _ _).2 (W3.1 h)]at xh;cases xh
        ·have hj:j<nx+7:=hj
         exact fq
        ·exact dQ
    ·replace h6:k=s.aV.length:=by simp at h6;omega
     subst h6
     rw[List.take_length]at Qm
     refine Kk f0 f1 f4 f6 ?_
     refine aH (fun i:Nat×Int×Int=>⟨ba [.aa, .ptr nx 0, .ptr (nx+1) 0, .aa, .ptr (nx+6) 0, .aa, .aa, .aa, .aa, .aa, .aa, .aa, .aa, .ptr (nx+8) 0, .aa, .aa, .aa, .aa, .aa, .aa, .aa, .aa, .aa, .aa, .aa, .aa, .aa, .aa, .aa, .aa, .aa, .aa, .aa, .aa, .aa, .aa, .aa, .aa, .aa, .aa, .aa, .aa, .aa, .aa, .aa, .aa, .aa, .aa, .aa, .aa, .aa, .aa, .aa, .aa, .aa, .aa, .aa, .aa, .aa, .aa, .aa, .aa, .aa, .aa, .aa, .aa, .aa, .aa, .aa, .aa, .aa, .aa, .aa, .aa, .aa, .aa, .aa, .aa, .aa, .aa, .aa, .aa, .aa, .aa, .aa, .aa, .aa, .aa, .aa, .aa, .aa, .aa, .aa, .aa, .aa, .aa, .aa, .aa, .aa, .aa, .aa, .aa, .aa, .aa, .aa, .aa, .aa, .aa, .aa, .aa, .aa, .aa, .aa, .aa, .aa, .aa, .aa, .aa, .aa, .aa, .aa, .aa, .aa, .aa, .aa, .aa, .aa, .aa, .aa, .d (.sl (s.marks.map qt)), .d (.i s.marks.length), .d (.i i.1)],aI (tu o nx s (.cM (enc (D.int .i64) (oD b)))) (nx+8) (.row [.d (.i i.2.1), .d (.i i.2.2)]),nx+9⟩)
      (fun i=>i.1<=s.marks.length/\qK s.binds.length s.aV.length i.2 (s.marks.drop i.1)=qK s.binds.length s.aV.length (0,0) s.marks) (fun i=>s.marks.length - i.1) (0,0,0) ⟨Nat.zero_le _,rfl⟩ (bG.bU _ (show nx<=nx+9 from af) af ek (fun j hj=>by(repeat(first|rfl|rw[ae]|rw[ah _ _ _ _ (by omega)]))) ?_) ?_
     ·exact dQ
     rintro⟨k,l1,l2⟩ ⟨hk,jd⟩
     dsimp only at hk jd|-
     refine Kk f0 f1 f4 f6 ?_
     refine ak (fun h7=> ?_) (fun h7=> ?_)
     ·replace h7:k<s.marks.length:=by simp at h7;omega
      obtain⟨⟨m1,m2⟩,hm⟩:=aF h7
      have JX:s.marks.drop k=(m1,m2)::s.marks.drop (k+1):=by
       obtain⟨i1,i2⟩:=List.getElem?_eq_some_iff.1 hm
       exact Il
      rw[JX,qK]at jd
      dsimp only at jd
      cases g1:decide (m1<l1)with
      |true=>
       rw[g1]at jd
       simp only[Bool.true_or,Bool.or_true,Bool.not_true,Bool.false_and]at jd
       refine ML f0 f1 f4 f6 hm hm g1 ?_
       exact Xk
      |false=>
      rw[g1]at jd
      cases g2:decide (m1>(s.binds.length:Int))with
      |true=>
       rw[g2]at jd
       simp only[Bool.true_or,Bool.or_true,Bool.not_true,Bool.false_and]at jd
       refine ML f0 f1 f4 f6 hm g1 g2 ?_
       exact Xk
      |false=>
      rw[g2]at jd
      cases g3:decide (m2<l2)with
      |true=>
       rw[g3]at jd
       simp only[Bool.true_or,Bool.or_true,Bool.not_true,Bool.false_and]at jd
       refine MK f0 f1 f4 f6 hm g1 g2 g3 ?_
       exact Xk
      |false=>
      rw[g3]at jd
      cases g4:decide (m2>(s.aV.length:Int))with
      |true=>
       rw[g4]at jd
       simp only[Bool.true_or,Bool.or_true,Bool.not_true,Bool.false_and]at jd
       simp+contextual (disch:=first|omega|simp only[go_sem,false_implies]) only[go_sem,wrap64,if_pos,f0,f1,f4,f6,hm,g1,g2,g3,g4,List.length_map,Nat.add_assoc,Nat.left_eq_add,Nat.add_eq_left,Nat.add_left_cancel_iff]
       exact Xk
      |false=>
      rw[g4]at jd
      simp only[Bool.or_false,Bool.not_false,Bool.true_and]at jd
      simp+contextual (disch:=first|omega|simp only[go_sem,false_implies]) only[go_sem,wrap64,if_pos,f0,f1,f4,f6,hm,g1,g2,g3,g4,List.length_map,Nat.add_assoc,Nat.left_eq_add,Nat.add_eq_left,Nat.add_left_cancel_iff]
      refine aw (k+1,m1,m2) ⟨h7,jd⟩ rh (bG.bU _ (show nx<=nx+9 from af) af ek (fun j hj=> ?_) ?_)
      ·have hj:j<nx+9:=hj
       by_cases e:j=nx+8
       ·exact tv
       ·exact fq
      ·exact dQ
     ·replace h7:k=s.marks.length:=by simp at h7;omega
      subst h7
      rw[List.drop_length]at jd
      refine BF f0 f1 f4 f6 ?_
      refine Hy ⟨h1,af,af,NM,fun n hn=> ?_,jd.symm⟩ _ _ (nx+4) af ek (fun j hj=> ?_) ?_
      ·rw[<- hb];exact Qm n hn
      ·(repeat(first|rfl|rw[ae]|rw[ah _ _ _ _ (by omega)]));exact Hx _ _ _ _ af af af af
      ·(repeat(first|rfl|rw[ae]|rw[ah _ _ _ _ (by omega)]));rw[f4,hb]
  ·have l9:=List.mem_of_getElem? hm
   have HZ:=hr _ l9
   have vr:=sS hm
   have hlen:(rest.eraseIdx i).length<rest.length:=by
    exact Te
   obtain⟨is,Hu⟩:∃is:Bool,is=true↔oE b v x:=by
    classical
    exact⟨decide (oE b v x),aK⟩
   refine BF f0 f1 f4 f6 ?_
   refine ao (J0 EH mf v x (EH _ HZ) (mf _ HZ) Hu) rfl ?_
   cases is with
   |true=>
    refine BF f0 f1 f4 f6 ?_
    refine fin _ _ (.inr rfl) _ _ af ek (fun j j1 j2=>by(repeat(first|rfl|rw[ae]|rw[ah _ _ _ _ (by omega)]))) (fun h=> ?_)
    exact h.EX.X6 v x ((oB h.EX.keys).2 (hb ▸ HZ)) (hb ▸ Hu.1 rfl)
   |false=>
    refine BF f0 f1 f4 f6 ?_
    refine aw (rest.eraseIdx i,some (.int .i64 v,x.d)) ⟨fun p hp=>hr p (vr.mem_iff.1 (List.mem_cons_of_mem _ hp)),fun p hp hpn=> ?_⟩ hlen (bG.bU _ (show nx<=nx+11 from af) af ek (fun j hj=> ?_) ?_)
    ·by_cases e:p=(v,x)
     ·subst e
      exact fun h=>Bool.false_ne_true (Hu.2 h)
     ·exact hd p hp fun pY=>by
       rcases List.mem_cons.1 (vr.mem_iff.2 pY)with h|h
       ·exact e h
       ·exact hpn h
    ·have hj:j<nx+11:=hj
     by_cases e:j=nx+10
     ·exact tv
     ·exact fq
    ·exact dQ
end Go.Proofs.YtlhemmpklhhgoaaGreat
namespace Go.Proofs.YtlhemmpklhhgoaaGreat
structure Srt (s:aN) (l:List TB):Prop where
 srt:l.Pairwise fun x y=>x.var<y.var
 ok:∀x∈l,(0<=x.var/\x.var<20)/\Vs s x.term
structure MS (b:List (Int×Tm)) (l:List TB):Prop where
 keys:(b.map (·.1)).Nodup
 lk:∀v,bZ b v=bZ (ay l) v
theorem s7(l:List TB)(hl:l.length<=1000000)(hf:∀x∈l,x.term.fits):aX Tryz.prog 60 [.sl (l.map TB.d), .sl (l.map TB.d)] (.ret [.bool true]):=by
 refine aX.aM mix UZ aK ?_
 rw[Z6]
 simp+contextual (disch:=first|omega|simp only[go_sem,false_implies]) only[go_sem,wrap64,if_pos,List.length_map,bne_self_eq_false]
 refine aH (fun k:Nat=>⟨ba [.d (.sl (l.map TB.d)), .d (.sl (l.map TB.d)), .aa, .aa, .aa, .d (.i k)],fun _=> .no,0⟩)
  (fun k=>k<=l.length) (fun k=>l.length - k) 0 (Nat.zero_le _) (bG.d0 _ ?_) (fun k hk=> ?_)
 ·exact dQ
 refine zZ ?_
 refine ak (fun h2=> ?_) (fun h2=> ?_)
 ·simp at h2
  obtain⟨x,hx⟩:=aF h2
  have Ca:=wM x.term (hf x (List.mem_of_getElem? hx)) x.term (hf x (List.mem_of_getElem? hx))
  rw[m9]at Ca
  refine MN hx ?_
  refine bc Ca rfl ?_
  exact SZ
 ·exact nq
mutual
def Tm.HA:Tm->Prop
 | .mk _ _ kids=>kids.length<=1000/\Tm.HB kids
def Tm.HB:List Tm->Prop
 |[]=>True
 |k::l=>k.HA/\Tm.HB l
end
theorem Tm.zM:∀l:List Tm,Tm.HB l↔∀k∈l,k.HA
 |[]=>by simp[Tm.HB]
 |k::l=>by simp[Tm.HB,Tm.zM l]
theorem Tm.xc (t:Tm):t.HA↔t.kids.length<=1000/\∀k∈t.kids,k.HA:=by cases t;simp[Tm.HA,Tm.zM,Tm.kids]
theorem Tm.Qn:∀t:Tm,t.sz<=1000->t.HA:=by
 refine Tm.fk fun t ih h=> ?_
 rw[Tm.xc]
 have:=oC t.kids
 have h2:=Tm.lD t
 exact⟨af,fun k hk=>ih k hk (by have:=Tm.Bm hk;omega)⟩
theorem Tm.HC:∀t:Tm,t.HA->t.fits:=by
 refine Tm.fk fun t ih h=> ?_
 have h':=(Tm.xc t).1 h
 rw[Tm.bD]
 exact⟨af,fun k hk=>ih k hk (h'.2 k hk)⟩
theorem J3{s:aN}{t:Tm}(hv:Vs s t):(dc t).length<=20:=wU (fun n hn=>hv.range (((fS t).2 n).1 hn)) (fS t).1
theorem zN{s:aN}:∀t:Tm,Vs s t->t.HA->aX Tryz.prog 141 [t.d] (.ret [.sl ((dc t).map .i)]):=by
 refine Tm.fk fun t ih hv ht=> ?_
 have hw':=(Tm.xc t).1 ht
 refine aX.aM mix VN aK ?_
 rw[VM]
 by_cases h1:t.op=1
 ·refine mg h1 ?_
  rw[oz,if_pos h1]
  rfl
 ·have jR:(t.op==1)=false:=by simpa using h1
  have b1:(t.op !=8)=true:=by simpa using hv.n8
  refine mg jR ?_
  rw[oz,if_neg h1]
  refine aH (fun i:Nat×List Int=>⟨ba [.aa, .ptr 0 0, .aa, .d (.sl (i.2.map .i)), .d (.i i.1)],mZ t.row,1⟩)
   (fun i=>i.1<=t.kids.length/\ke t.op t.n t.kids 0 []=ke t.op t.n (t.kids.drop i.1) i.1 i.2/\Es i.2/\∀v∈i.2,0<=v/\v<20) (fun i=>t.kids.length - i.1) (0,[]) ⟨Nat.zero_le _,rfl,List.Pairwise.nil,fun _ h=>by cases h⟩
   (bG.WB (fun _=>False) 1 _ af (lt1 (gP rfl De)) (fun j hj=>ah _ _ _ _ af) (fun _ h=>h.elim) ?_) ?_
  ·try dsimp only
   exact z7
  rintro⟨k,out⟩ ⟨hk,Ha,W4,hrg⟩
  simp only at hk Ha W4 hrg
  refine cm ?_
  refine ak (fun h2=> ?_) (fun h2=> ?_)
  ·simp at h2
   obtain⟨x,hx⟩:=aF h2
   have gI:=List.mem_of_getElem? hx
   have vx:=hv.zj gI
   have Xq:=J3 vx
   have JX:t.kids.drop k=x::t.kids.drop (k+1):=by
    obtain⟨h5,h6⟩:=List.getElem?_eq_some_iff.1 hx
    rw[List.drop_eq_getElem_cons h5,h6]
   have part:∀L:List Int,(∀v∈L,v∈dc x)->Es (ng t.op t.n k L out)/\∀v∈ng t.op t.n k L out,0<=v/\v<20:=fun L hL=>by
    obtain⟨q1,q2⟩:=lX t.op t.n k L out W4
    refine⟨q1,fun v JM=> ?_⟩
    rcases(q2 v).1 JM with h|h
    ·exact hrg v h
    ·exact vx.range (((fS x).2 v).1 (hL v h.1))
   refine mg hx ?_
   refine bE (ih x gI vx (hw'.2 x gI)) ?_
   refine mg hx ?_
   refine aH (fun j:Nat=>⟨ba [.aa, .ptr 0 0, .aa, .d (.sl ((ng t.op t.n k ((dc x).take j) out).map .i)), .d (.i k), .d (.sl ((dc x).map .i)), .d (.i j)],mZ t.row,1⟩)
    (fun j=>j<=(dc x).length) (fun j=>(dc x).length - j) 0 (Nat.zero_le _) (bG.d1 _ (cf rfl) af rfl ?_) (fun j hj=> ?_)
   ·exact dQ
   refine cm ?_
   refine ak (fun h3=> ?_) (fun h3=> ?_)
   ·simp at h3
    obtain⟨v,JM⟩:=aF h3
    have vF:=part ((dc x).take j) (fun v hv=>List.mem_of_mem_take hv)
    have IB:=wU vF.2 vF.1
    have hc:(t.op !=8||(k:Int)!=1||v !=t.n)=true:=by rw[b1];rfl
    refine Ib JM b1 ?_
    refine aR cA ?_
    refine mg JM ?_
    refine bE (WU _ v af) ?_
    refine cm ?_
    refine aw (j+1) h3 af (bG.d1 _ (cf rfl) af rfl ?_)
    rw[Eu JM,if_pos hc]
    exact dQ
   ·simp at h3
    refine cm ?_
    rw[List.take_of_length_le (by omega)]
    obtain⟨p1,p2⟩:=part (dc x) (fun v hv=>hv)
    refine aw (k+1,ng t.op t.n k (dc x) out) ⟨h2,by rw[Ha,JX];rfl,p1,p2⟩ rh (bG.d1 _ (cf rfl) af rfl ?_)
    exact dQ
  ·simp at h2
   refine cm ?_
   rw[Ha,List.drop_eq_nil_of_le (by omega)]
   rfl
theorem Bv(n low high:Int):aX Tryz.prog 77 [.i n, .i low, .i high] (.ret [.bool (da n low high)]):=by
 refine aX.aM mix aag aK ?_
 rw[c77]
 refine b8 ?_
 rfl
theorem pL(s:aN)(hs:s.Fits)(t:Tm)(ht:t.fits):aX Tryz.prog 39 [s.d,t.d] (.ret [.bool (iz s t&&eG t)]):=by
 refine aX.aM mix ZT aK ?_
 rw[c39]
 refine cm ?_
 refine ao (PN s hs t ht) rfl ?_
 cases h:iz s t with
 |false=>exact nq
 |true=>
  refine cm ?_
  refine ao (Jx t ht) rfl ?_
  exact nq
theorem Bw{s:aN}(h:j5 s=true)(t:Tm):ki s t=(iz s t&&eG t):=by
 unfold ki iC
 rw[h]
 simp only[List.all_cons,List.all_nil,Bool.and_true,Bool.true_and,sP]
 cases h1:iz s t with
 |false=>rfl
 |true=>rw[vc h1]
theorem oJ(l:List TB)(n:Int)(hl:l.length<=1000000):aX Tryz.prog 116 [.sl (l.map TB.d), .i n] (.ret [.i (findF l n)]):=by
 refine aX.aM mix Vq aK ?_
 rw[Vp]
 refine cm ?_
 refine aH (fun k:Nat=>⟨ba [.d (.sl (l.map TB.d)), .d (.i n), .aa, .aa, .aa, .d (.i k)],fun _=> .no,0⟩)
  (fun k=>k<=l.length/\∀j x,j<k->l[j]? =some x->x.var≠n) (fun k=>l.length - k) 0 ⟨Nat.zero_le _,fun _ _ h=>absurd h af⟩ (bG.d0 _ ?_) (fun k hk=> ?_)
 ·exact dQ
 refine zZ ?_
 refine ak (fun h2=> ?_) (fun h2=> ?_)
 ·simp at h2
  obtain⟨x,hx⟩:=aF h2
  refine re hx ?_
  refine ak (fun h3=> ?_) (fun h3=> ?_)
  ·have qb:x.var=n:=by simpa using h3
   have:findF l n=k:=by
    have:l.findIdx? (·.var==n)=some k:=by
     rw[List.findIdx?_eq_some_iff_getElem]
     obtain⟨IB,e⟩:=List.getElem?_eq_some_iff.1 hx
     refine⟨IB,by rw[e];simpa using qb,fun j hj=> ?_⟩
     have:=hk.2 j _ hj (List.getElem?_eq_getElem af)
     simpa using this
    rw[findF,this]
   rw[this]
   exact nq
  ·have qb:x.var≠n:=by simpa using h3
   refine cm ?_
   refine aw (k+1) ⟨h2,fun j y hj hy=> ?_⟩ af (bG.d0 _ ?_)
   ·by_cases e:j=k
    ·subst e;rw[hx]at hy;injection hy with hy;rw[<- hy];exact qb
    ·exact hk.2 j y af hy
   ·exact dQ
 ·simp at h2
  have:findF l n= -1:=by
   have:l.findIdx? (·.var==n)=none:=by
    rw[List.findIdx?_eq_none_iff]
    intro x hx
    obtain⟨j,hj,e⟩:=List.getElem_of_mem hx
    have:=hk.2 j x af (by rw[List.getElem?_eq_getElem hj,e])
    simpa using this
   rw[findF,this]
  rw[this]
  exact nq
theorem C5(l:List Int)(n:Int)(hl:l.length<=1000000):aX Tryz.prog 142 [.sl (l.map .i), .i n] (.ret [.bool (l.contains n)]):=by
 refine aX.aM mix VP aK ?_
 rw[VO]
 refine cm ?_
 refine aH (fun k:Nat=>⟨ba [.d (.sl (l.map .i)), .d (.i n), .aa, .aa, .aa, .d (.i k)],fun _=> .no,0⟩)
  (fun k=>k<=l.length/\(l.take k).contains n=false) (fun k=>l.length - k) 0 ⟨Nat.zero_le _,aK⟩ (bG.d0 _ ?_) (fun k hk=> ?_)
 ·exact dQ
 refine cm ?_
 refine ak (fun h2=> ?_) (fun h2=> ?_)
 ·simp at h2
  obtain⟨x,hx⟩:=aF h2
  refine mg hx ?_
  refine ak (fun h3=> ?_) (fun h3=> ?_)
  ·refine cm ?_
   have:l.contains n=true:=by
    rw[List.contains_iff_mem, <- (by simpa using h3:x=n)];exact List.mem_of_getElem? hx
   rw[this]
  ·refine cm ?_
   refine aw (k+1) ⟨h2, ?_⟩ af (bG.d0 _ ?_)
   ·have h4: ¬n=x:=fun e=>by subst e;simp at h3
    have h5:=hk.2
    rw[List.take_add_one,hx]
    rw[Bool.eq_false_iff]at h5|-
    intro hc;apply h5
    rw[List.contains_iff_mem]at hc|-
    rcases List.mem_append.1 hc with hc|hc
    ·exact hc
    ·simp at hc;exact absurd hc h4
   ·exact dQ
 ·simp at h2
  refine cm ?_
  have:=hk.2
  rw[List.take_of_length_le (by omega)]at this
  rw[this]
def MD(o:Nat->ab)(nx:Nat)(l:List Int):Nat->ab:=aI o nx (.arr 0 3 1 (l.map D.i))
theorem ilH_0(o:Nat->ab)(nx:Nat)(l:List Int):MD o nx l nx= .arr 0 3 1 (l.map D.i):=by unfold MD;rw[ae]
theorem pM(o:Nat->ab)(nx:Nat)(l:List Int){j:Nat}(h:j≠nx):MD o nx l j=o j:=by unfold MD;rw[ah _ _ _ _ h]
theorem pN{o:Nat->ab}{nx b:Nat}(N4:Good o nx)(hb:b<=nx){e:Nat->V}{so:Nat->ab}{m:Nat}(L:List V)(l:List Int){x:V}(gone:Nat->Prop)(Gn:∀id,gone id->id<nx->o id= .no)
 (gx:j7 so gone 3 1 (l.map D.i) x) (sr:∀j,j<nx->so j=o j\/o j= .no) (he:jq nx [⟨x,3,1,l.map D.i⟩] so gone e L 0):bG b ⟨e,so,m⟩ ⟨ba L,MD o nx l,nx+1⟩:=by
 refine bG.GR gone x nx L hb (fun j hj=> ?_) (ilH_0 o nx l) gx (fun j hj=> ?_) (fun j h1 h2=>by rw[pM _ _ _ (by omega)];exact Gn j h1 h2) he
 ·rw[pM _ _ _ (by omega)]
  rcases sr j hj with h|h
  ·exact gP h (fun r hr=>N4.refs j r hr)
  ·rw[h];exact wL
 ·rw[pM _ _ _ (by omega)]
  exact N4.fresh j af
def Yc(o:Nat->ab)(x:V)(l:List Int):Prop:=(x= .aE/\l=[])\/∃id ep,x= .osl id ep/\o id= .arr ep 3 1 (l.map D.i)
theorem HD:∀ (more l:List Int),(nh l more).length<=l.length+more.length
 |[],l=>by simp[nh]
 |u::more,l=>by
  have h1:(dq l u).length<=l.length+1:=by
   unfold dq
   split
   ·omega
   ·rw[List.length_append,List.length_singleton];omega
  have h2:=HD more (dq l u)
  show(nh (dq l u) more).length<=_
  rw[List.length_cons];omega
theorem Yc.ME {o:Nat->ab}{x:V}{l:List Int}(h:Yc o x l):j7 o (fun _=>True) 3 1 (l.map D.i) x:=by
 rcases h with⟨rfl,rfl⟩|⟨id,ep,rfl,ho⟩
 ·exact .inl ⟨rfl,rfl,cA⟩
 ·exact .inr ⟨id,ep,trivial,rfl,ho⟩
theorem HE(l more:List Int)(hl:l.length<=100000)(hm:more.length<=100000){x:V}{o:Nat->ab}{nx:Nat}(hg:Good o nx)(hx:Yc o x l){K X:V->(Nat->ab)->Nat->Prop}
 (hK:∀y o' nx',nx<=nx'->Good o' nx'->(∀j,j<nx->(∀ep,x≠ .osl j ep)->o' j=o j)->Yc o' y (nh l more)->K y o' nx'):dA Tryz.prog 140 [x, .d (.sl (more.map D.i))] o nx K X:=by
 refine dA.aM mix VL aK ?_
 rw[VK]
 refine oQ ?_
 obtain⟨o0,gone,c1,c2,c3,c4,c5⟩:∃ (o0:Nat->ab) (gone:Nat->Prop),Good o0 nx/\(∀j,j<nx->o j=o0 j\/o0 j= .no)/\(∀id,gone id->id<nx->o0 id= .no)/\j7 o gone 3 1 (l.map D.i) x/\(∀j,j<nx->(∀ep,x≠ .osl j ep)->o0 j=o j):=by
  rcases hx with⟨rfl,rfl⟩|⟨id,ep,rfl,ho⟩
  ·exact⟨o,fun _=>False,hg,fun j _=> .inl rfl,fun _ h=>h.elim, .inl ⟨rfl,rfl,cA⟩,fun j _ _=>rfl⟩
  ·have au:id<nx:=hg.lt (by rw[ho];exact ab.noConfusion)
   refine⟨aI o id .no,(· =id),hg.aI au rfl,fun j hj=> ?_,fun j e _=>by rw[e,ae], .inr ⟨id,ep,rfl,rfl,ho⟩,fun j hj kA=> ?_⟩
   ·by_cases e:j=id
    ·subst e;rw[ae];exact .inr rfl
    ·rw[ah _ _ _ _ e];exact .inl rfl
   ·by_cases e:j=id
    ·subst e;exact absurd rfl (kA ep)
    ·rw[ah _ _ _ _ e]
 refine aH (fun k:Nat=>⟨ba [.osl nx 0, .d (.sl (more.map D.i)), .aa, .aa, .aa, .d (.i k)],MD o0 nx (nh l (more.take k)),nx+1⟩)
  (fun k=>k<=more.length) (fun k=>more.length - k) 0 (Nat.zero_le _) (pN c1 (Nat.le_refl _) _ (nh l []) gone c3 c4 c2 ?_) (fun k hk=> ?_)
 ·exact z7
 replace hk:k<=more.length:=hk
 have q0:=ilH_0 o0 nx (nh l (more.take k))
 have hlen:=HD (more.take k) l
 rw[List.length_take]at hlen
 refine RL q0 ?_
 refine ak (fun h2=> ?_) (fun h2=> ?_)
 ·replace h2:k<more.length:=by simp at h2;omega
  obtain⟨v,hv⟩:=aF h2
  have vh:nh l (more.take (k+1))=dq (nh l (more.take k)) v:=by unfold nh;rw[List.take_add_one,hv,List.foldl_append];rfl
  simp+contextual (disch:=first|omega|simp only[go_sem,false_implies]) only[go_sem,wrap64,if_pos,q0,hv,List.length_map,Nat.add_assoc,Nat.left_eq_add,Nat.add_eq_left,Nat.add_left_cancel_iff]
  refine ao (C5 (nh l (more.take k)) v af) rfl ?_
  cases hc:(nh l (more.take k)).contains v with
  |true=>
   have e1:dq (nh l (more.take k)) v=nh l (more.take k):=by unfold dq;rw[if_pos hc]
   refine RL q0 ?_
   refine aw (k+1) h2 af ?_
   rw[vh,e1]
   refine pN c1 (Nat.le_refl _) _ _ (fun id=>nx<=id) (fun id h1 h2=>af) (x:= .osl nx 0) (.inr ⟨nx,0,Nat.le_refl _,rfl,q0⟩) (fun j hj=> .inl (by rw[pM _ _ _ (by omega)])) ?_
   exact z7
  |false=>
   have e1:dq (nh l (more.take k)) v=nh l (more.take k)++[v]:=by unfold dq;rw[if_neg (by rw[hc];exact Bool.false_ne_true)]
   have jB:(nh l (more.take k)).length<=140737488355327/\((nh l (more.take k)).length+1)*8<=140737488355328:=af
   simp+contextual (disch:=first|omega|simp only[go_sem,false_implies]) only[go_sem,wrap64,if_pos,q0,hv,List.length_map,if_pos jB,Nat.add_assoc,Nat.left_eq_add,Nat.add_eq_left,Nat.add_left_cancel_iff]
   refine aw (k+1) h2 af ?_
   rw[vh,e1]
   refine pN c1 (Nat.le_refl _) _ _ (fun id=>nx<=id) (fun id h1 h2=>af) (x:= .osl nx 1) (.inr ⟨nx,1,Nat.le_refl _,rfl,by(repeat(first|rfl|rw[ae]|rw[ah _ _ _ _ (by omega)]));rw[List.map_append];rfl⟩) (fun j hj=> .inl (by(repeat(first|rfl|rw[ae]|rw[ah _ _ _ _ (by omega)]));rw[pM _ _ _ (by omega)])) ?_
   exact z7
 ·replace h2:k=more.length:=by simp at h2;omega
  subst h2
  rw[List.take_length]at q0|-
  refine MM q0 ?_
  refine hK _ _ _ ?_ ?_ (fun j hj kA=> ?_) (.inr ⟨nx,0,rfl,q0⟩)
  ·omega
  ·unfold MD;exact(c1.mono af).aI af rfl
  ·rw[pM _ _ _ (by omega)];exact c5 j hj kA
theorem JR.done {s:aN}{b:List (Int×Tm)}{t:Tm}{all:List Int}(h:JR s b t all.length all)(n:Int):n∈all↔oE b n t:=by
 refine⟨fun hn=>h.snd n hn,fun hr=> ?_⟩
 have key:∀x,oE b n x->(∀v,fR v x=true->v∈all)->n∈all:=by
  intro x hr
  induction hr with
  |here h1=>exact fun hs=>hs _ h1
  |step h1 h2 _ ih=>
   intro hs
   refine ih fun u hu=> ?_
   obtain⟨j,hj⟩:=List.mem_iff_getElem?.1 (hs _ h1)
   exact h.cl j (List.getElem?_eq_some_iff.1 hj).1 _ _ hj h2 u hu
 exact key t hr h.fst
theorem Bx{s:aN}{l:List TB}(hl:l.length<=1000)(hb:∀p∈ay l,Vs s p.2)(hf:∀p∈ay l,p.2.HA)(n:Int)(t:Tm)(ht:Vs s t)(Qj:t.HA){is:Bool}(Hu:is=true↔oE (ay l) n t):
 aX Tryz.prog 117 [.sl (l.map TB.d),t.d, .i n] (.ret [.bool is]):=by
 have W5:∀t,Vs s t->(dc t).length<=100000:=fun t ht=>by
  have hv:=fS t
  have:(dc t).length<=20:=WX (Et hv.1) fun v h=>ht.range ((hv.2 v).1 h)
  omega
 refine aX.aM mix Vt aK ?_
 rw[Vr]
 refine cm ?_
 refine bE (zN t ht Qj) ?_
 refine cm ?_
 refine dY (HE [] (dc t) aK (W5 t ht) ek (.inl ⟨rfl,rfl⟩) (fun y o' nx' w1 w2 w3 w4=> ?_))
 refine cm ?_
 refine aH (fun i:Nat×List Int=>⟨ba [.d (.sl (l.map TB.d)), .aa, .d (.i n), .aa, .aa, .aa, .aa, .osl 0 0, .d (.i i.1)],MD (fun _=> .no) 0 i.2,0+1⟩)
  (fun i=>JR s (ay l) t i.1 i.2) (fun i=>21 - i.1) (0,nh [] (dc t)) (JR.zero ht) (pN Good.nil (Nat.le_refl _) _ _ (fun _=>True) (fun id _ h=>absurd h af) w4.ME (fun j hj=>absurd hj af) ?_) ?_
 ·exact z7
 rintro⟨i,all⟩ hI
 dsimp only at hI|-
 have q0:=ilH_0 (fun _=> .no) 0 all
 have h20:=WX hI.nd hI.rg
 have hle:=hI.le
 refine re q0 ?_
 refine ak (fun h2=> ?_) (fun h2=> ?_)
 ·replace h2:i<all.length:=by simp at h2;omega
  obtain⟨v,hv⟩:=aF h2
  refine C9 q0 hv ?_
  refine ao (oJ l v af) rfl ?_
  have gD:=hI.succ hb hv
  rcases wT l v with⟨g1,g2⟩|⟨k,x,g1,g2,g3⟩
  ·have HG:decide (findF l v≥0)=false:=by simp;omega
   have e1:Hi (ay l) all v=all:=by unfold Hi;rw[g2]
   rw[e1]at gD
   refine C9 q0 HG ?_
   refine aw (i+1,all) gD rh (pN Good.nil (Nat.le_refl _) _ _ (fun _=>True) (fun id _ h=>absurd h af) (x:= .osl 0 0) (.inr ⟨0,0,trivial,rfl,q0⟩) (fun j hj=>absurd hj af) ?_)
   exact z7
  ·have HG:decide (((k:Nat):Int)≥0)=true:=aK
   have e1:Hi (ay l) all v=nh all (dc x.term):=by unfold Hi;rw[g3]
   rw[e1]at gD
   have gI:=kj (List.mem_of_getElem? g2)
   refine H8 q0 g1 HG g2 ?_
   refine bE (zN x.term (hb _ gI) (hf _ gI)) ?_
   refine re q0 ?_
   refine dY (HE all (dc x.term) af (W5 _ (hb _ gI)) (Good.aI Good.nil af rfl) (.inr ⟨0,0,rfl,q0⟩) (fun y o2 nx2 u1 u2 u3 u4=> ?_))
   refine cm ?_
   refine aw (i+1,nh all (dc x.term)) gD rh (pN Good.nil (Nat.le_refl _) _ _ (fun _=>True) (fun id _ h=>absurd h af) u4.ME (fun j hj=>absurd hj af) ?_)
   exact z7
 ·replace h2:i=all.length:=by simp at h2;omega
  subst h2
  have:is=all.contains n:=by rw[Bool.eq_iff_iff,Hu,List.contains_iff_mem];exact(hI.done n).symm
  refine re q0 ?_
  refine ao (C5 all n af) rfl ?_
  rw[this]
  exact nq
end Go.Proofs.YtlhemmpklhhgoaaGreat
