/-
  A PART. Conditions: none.
-/
import Derived.Test.YtnkamdiiakdkgaaGreatEe16
set_option linter.unusedSimpArgs false
set_option linter.unusedVariables false
set_option maxHeartbeats 8000000
namespace Go.Proofs.YtnkamdiiakdkgaaGreat
def zo{σ:Type}(step:σ->Tm->σ×Bool):σ->List Tm->Int->Int
 |_,[],_=> -1
 |s,x::l,k=>if(step s x).2=true then zo step (step s x).1 l (k+1)else k
theorem JO{σ:Type}(step:σ->Tm->σ×Bool):∀ (l:List Tm) (s:σ) (k:Int),0<=k->(0<=zo step s l k↔(aA step s l).2=false)
 |[],_,_,_=>by simp[zo,aA]
 |x::l,s,k,hk=>by
  have ih:=JO step l (step s x).1 (k+1) ae
  by_cases h:(step s x).2=true
  ·simp only[zo,aA,h,if_true];exact ih
  ·simp[zo,aA,h,hk]
theorem aaJ{σ:Type}(l:List Tm)(hl:l.length<=9223372036854775807)(g:Nat)(aX:List V)(base:Nat)(H:σ->Nat->aa)(step:σ->Tm->σ×Bool)(hc:∀r∈V.aM aX,r<base)(ok:σ->Prop)(bp:∀x∈l,∀s,ok s->(step s x).2=true->ok (step s x).1)
 (h:∀x∈l,∀s,ok s->mh Tryz.prog g (.d x.d::aX) base (H s) (H (step s x).1) (.d (.bool (!(step s x).2)))) (s:σ) (kO:ok s):
 mh Tryz.prog 150 [.d (.sl (l.map Tm.d)), .func (.func g) [] aX] base (H s) (H (aA step s l).1) (.d (.i (zo step s l 0))):=by
 intro o nx hI K X hK
 have jb:∀r∈V.aM aX,r<nx:=fun r hr=>Nat.lt_of_lt_of_le (hc r hr) hI.le
 refine cX.aI mix WH aJ ?_
 rw[Z7]
 refine dc ?_
 refine aw (fun i:Nat×σ×(Nat->aa)×Nat=>⟨aT [.d (.sl (l.map Tm.d)), .func (.func g) [] aX, .ag, .ag, .ag, .ag, .ag, .d (.i l.length), .d (.i i.1)],i.2.2.1,i.2.2.2⟩)
  (fun i=>i.1<=l.length/\dv base (H i.2.1) i.2.2.1 i.2.2.2/\nx<=i.2.2.2/\(∀id,base<=id->id<nx->i.2.2.1 id=o id)/\aA step s l=aA step i.2.1 (l.drop i.1)/\ok i.2.1/\zo step s l 0=zo step i.2.1 (l.drop i.1) i.1) (fun i=>l.length - i.1) (0,s,o,nx)
  ⟨Nat.zero_le _,hI,Nat.le_refl _,fun _ _ _=>rfl,rfl,kO,rfl⟩ ?_ ?_
 ·exact RF
 rintro⟨k,s',o',nx'⟩ ⟨hk,yW,hn,c8,hf,kB,Dk⟩
 simp only at hk yW hn c8 hf kB Dk
 refine dc ?_
 refine aj (fun h1=> ?_) (fun h1=> ?_)
 ·simp at h1
  obtain⟨x,hx⟩:=az h1
  have dR:=List.mem_of_getElem? hx
  have hd:l.drop k=x::l.drop (k+1):=by
   exact zw6
  rw[hd]at hf Dk
  simp only[aA,zo]at hf Dk
  refine yU hx ?_
  refine ij (h x dR s' kB _ _ (yW.mono ae) _ _ fun o2 n2 m1 m2 m3=> ?_)
  cases hb:(step s' x).2 with
  |true=>
   rw[hb]at hf Dk
   simp only[if_true]at hf Dk
   refine ba ?_
   have AD:∀r∈V.aM aX,r<n2+1+1:=fun r hr=>by have:=jb r hr;omega
   exact zw9
  |false=>
   exact UK
 ·exact UX
theorem uY{σ:Type}(l:List Tm)(hl:l.length<=9223372036854775807)(g:Nat)(aX:List V)(base:Nat)(H:σ->Nat->aa)(step:σ->Tm->σ×Bool)(hc:∀r∈V.aM aX,r<base)(ok:σ->Prop)(bp:∀x∈l,∀s,ok s->(step s x).2=true->ok (step s x).1)
 (h:∀x∈l,∀s,ok s->mh Tryz.prog g (.d x.d::aX) base (H s) (H (step s x).1) (.d (.bool (!(step s x).2)))) (s:σ) (kO:ok s):
 mh Tryz.prog 106 [.d (.sl (l.map Tm.d)), .func (.func g) [] aX] base (H s) (H (aA step s l).1) (.d (.bool (!(aA step s l).2))):=by
 intro o nx hI K X hK
 have jb:∀r∈V.aM aX,r<nx:=fun r hr=>Nat.lt_of_lt_of_le (hc r hr) hI.le
 refine cX.aI mix Wo aJ ?_
 rw[ZQ]
 refine ir ?_
 refine bg (aaJ l hl g aX base H step hc ok bp h s kO _ _ ?_ _ _ fun o2 n2 m1 m2 m3=> ?_)
 ·exact hI.mono ae
 refine ir ?_
 have e:decide (0<=zo step s l 0)= !(aA step s l).2:=by
  have:=JO step l s 0 ae
  exact Vd
 rw[e]
 exact Un
section
theorem agu{x:Tm}{g:Nat}{aX:List V}{base c bx:Nat}{h h2 O:Nat->aa}{r:Bool}(hS:mh Tryz.prog g (.d x.d::aX) base h h2 (.d (.bool r)))(hb:base<=bx)(Rb:bx<c)(hO:O bx= .row [.func (.func g) [] aX])(hc:∀r∈V.aM aX,r<base):
 mh Tryz.prog 161 [.d x.d, .ptr bx 0] c (ext base h O) (ext base h2 O) (.d (.bool (!r))):=by
 intro o nx hI K X hK
 have hle:=hI.le
 have jb:∀r∈V.aM aX,r<nx:=fun r hr=>by have:=hc r hr;omega
 have ho:o bx= .row [.func (.func g) [] aX]:=by
  rw[hI.eq bx Rb];unfold ext;rw[if_neg (by omega),hO]
 have y1:∀k,bx≠nx+k:=fun k=>ae
 have y2:bx≠nx:=ae
 refine cX.aI mix WN aJ ?_
 rw[aad]
 refine gu (ak ho (ak y1 y2)) ?_
 refine ij ((hS.ext (by omega:base<=c) O) _ _ ?_ _ _ fun o2 n2 m1 m2 m3=> ?_)
 ·exact hI.au ae ae ae rfl
 refine ir ?_
 exact acH
theorem AK{σ:Type}(l:List Tm)(hl:l.length<=9223372036854775807)(g:Nat)(aX:List V)(base:Nat)(H:σ->Nat->aa)(step:σ->Tm->σ×Bool)(hc:∀r∈V.aM aX,r<base)(ok:σ->Prop)(bp:∀x∈l,∀s,ok s->(step s x).2=true->ok (step s x).1)
 (h:∀x∈l,∀s,ok s->mh Tryz.prog g (.d x.d::aX) base (H s) (H (step s x).1) (.d (.bool (step s x).2))) (s:σ) (kO:ok s):
 mh Tryz.prog 133 [.d (.sl (l.map Tm.d)), .func (.func g) [] aX] base (H s) (H (aA step s l).1) (.d (.bool (aA step s l).2)):=by
 intro o nx hI K X hK
 have hle:=hI.le
 have jb:∀r∈V.aM aX,r<nx:=fun r hr=>Nat.lt_of_lt_of_le (hc r hr) hI.le
 refine cX.aI mix WA aJ ?_
 rw[Z1]
 refine ir ?_
 refine bg (uY l hl 161 [.ptr nx 0] (nx+1) (fun s=>ext base (H s) (au o nx (.row [.func (.func g) [] aX]))) step ra ok bp (fun x hx s hs=>agu (h x hx s hs) hle ae (af _ _ _) hc) s kO _ _ ?_ _ _ fun o2 n2 m1 m2 m3=> ?_)
 ·have hr:(aa.row [V.func (.func g) [] aX]).refs.all (fun r=>decide (r<nx+4))=true:=by
   rw[List.all_eq_true]
   intro r hr
   have h1:r∈V.aM aX:=by simpa[aa.refs,V.aM,V.refs]using hr
   have:=jb r h1
   simp;omega
  exact Uu
 refine ir ?_
 refine hK _ _ ae ⟨(m2.mono ae).bE,by have:=m2.le;omega,fun id aq=> ?_⟩ fun id i1 i2=> ?_
 ·exact M0
 ·exact T8
mutual
def gK:Tm->List Tm
 | .mk op n kids=> .mk op n kids::S9 kids
def S9:List Tm->List Tm
 |[]=>[]
 |k::l=>gK k++S9 l
end
theorem AL:∀l:List Tm,S9 l=l.flatMap gK
 |[]=>rfl
 |k::l=>by rw[S9,AL l];rfl
theorem jL(t:Tm):gK t=t::t.kids.flatMap gK:=by cases t;rw[gK,AL];rfl
section
variable {σ:Type}(base nY:Nat)(H:σ->Nat->aa)(step:σ->Tm->σ×Bool)(ok:σ->Prop)
theorem PH:∀t:Tm,t.fits->(∀x∈gK t,∀s,ok s->(step s x).2=true->ok (step s x).1)->(∀x∈gK t,∀s,ok s->RoC Tryz.prog nY [.d x.d] base (H s) (H (step s x).1) (.d (.bool (step s x).2)))->nY<base->
 ∀ (c:Nat) (o0:Nat->aa) (yb vb:Nat),base<=c->base<=yb->yb<c->base<=vb->vb<c->o0 yb= .row [.jI nY]->o0 vb= .row [.func (.func 178) [] [.ptr yb 0, .ptr vb 0]]->
 ∀s,ok s->mh Tryz.prog 178 [.d t.d, .ptr yb 0, .ptr vb 0] c (ext base (H s) o0) (ext base (H (aA step s (gK t)).1) o0) (.d (.bool (aA step s (gK t)).2)):=by
 refine Tm.eJ fun t ih hf bp hR xS c o0 yb vb Rb Ri hy Rj hv oy ov s kO=> ?_
 have l0:=(Tm.bK _).1 hf
 intro o nx hI K X hK
 have hle:=hI.le
 have S0:o yb= .row [.jI nY]:=by rw[hI.eq yb hy];unfold ext;rw[if_neg (by omega),oy]
 have S1:o vb= .row [.func (.func 178) [] [.ptr yb 0, .ptr vb 0]]:=by rw[hI.eq vb hv];unfold ext;rw[if_neg (by omega),ov]
 have y1:yb≠nx:=ae
 have y2:∀k,yb≠nx+k:=fun k=>ae
 have y3:vb≠nx:=ae
 have y4:∀k,vb≠nx+k:=fun k=>ae
 refine cX.aI mix WZ aJ ?_
 rw[aao]
 refine yU (ak S0 (ak S1 (ak y1 (ak y2 (ak y3 y4))))) ?_
 have qw:=jL t
 have dH:∀k∈t.kids,∀x∈gK k,x∈gK t:=fun k hk x hx=>by
  exact UA
 have hb:∀id,id<base->o id=H s id:=fun id aq=>by rw[hI.eq id (by omega)];unfold ext;rw[if_pos aq]
 have hIb:dv base (H s) o nx:=⟨hI.bE,ae,hb⟩
 refine o6 (hR t Dj s kO _ _ (hIb.au (i:=nx) (m:=nx+4) ae ae ae rfl) _ _ fun o2 n2 m1 m2 m3=> ?_)
 have k0:o2 nx= .row t.row:=by rw[m3 nx (by omega) (by omega),af]
 have hold:∀id,base<=id->id<nx->o2 id=o id:=fun id h1 h2=>by rw[m3 id h1 (by omega),ab _ _ _ _ (by omega)]
 have Gl:∀id,base<=id->id<c->o id=o0 id:=fun id h1 h2=>by rw[hI.eq id h2];unfold ext;rw[if_neg (by omega)]
 cases ET:(step s t).2 with
 |false=>
  refine fX ET ?_
  have AE:aA step s (gK t)=((step s t).1,false):=by rw[qw,aA,if_neg (by rw[ET];exact Bool.false_ne_true)]
  rw[AE]at hK
  refine hK _ _ ae ⟨m2.bE.mono ae,ae,fun id aq=> ?_⟩ (fun id h1 h2=>hold id ae h2)
  unfold ext
  split
  ·exact m2.eq id re
  ·exact MZ
 |true=>
  have AE:aA step s (gK t)=aA (fun s k=>aA step s (gK k)) (step s t).1 t.kids:=by rw[qw,aA,if_pos ET,xR]
  have q0:o2 yb= .row [.jI nY]:=by rw[hold yb Ri (by omega),S0]
  have q1:o2 vb= .row [.func (.func 178) [] [.ptr yb 0, .ptr vb 0]]:=by rw[hold vb Rj (by omega),S1]
  refine fX (ak ET (ak k0 q1)) ?_
  have m0:=m2.le
  refine bg (AK t.kids l0.1 178 [.ptr yb 0, .ptr vb 0] n2 (fun s=>ext base (H s) o2) (fun s k=>aA step s (gK k)) ?_ ok ?_ ?_ (step s t).1 (bp t Dj s kO ET) _ _ ?_ _ _ ?_)
  ·simp[V.aM,V.refs];omega
  ·exact Ud
  ·intro k hk s' j7
   exact ih k hk (l0.2 k hk) (fun x hx=>bp x (dH k hk x hx)) (fun x hx=>hR x (dH k hk x hx)) xS n2 o2 yb vb ae Ri ae Rj ae q0 q1 s' j7
  ·exact(m2.mono ae).ext ae ae
  ·intro o5 n5 p1 p2 p3
   refine dc ?_
   rw[<- AE]
   refine hK _ _ ae ⟨p2.bE.mono ae,ae,fun id aq=> ?_⟩ (fun id h1 h2=> ?_)
   ·rw[p2.eq id (by omega), <- AE]
    unfold ext
    split
    ·rfl
    ·exact MZ
   ·exact U9
theorem LX(t:Tm)(hf:t.fits)(bp:∀x∈gK t,∀s,ok s->(step s x).2=true->ok (step s x).1)(hR:∀x∈gK t,∀s,ok s->RoC Tryz.prog nY [.d x.d] base (H s) (H (step s x).1) (.d (.bool (step s x).2)))(xS:nY<base)(tb:Nat)(Gs:tb<base)(s:σ)(kO:ok s)(bD:H s tb= .row t.row):
 mh Tryz.prog 177 [.jI nY, .ptr tb 0] base (H s) (H (aA step s (gK t)).1) (.cc []):=by
 intro o nx hI K X hK
 have hle:=hI.le
 have ot:o tb= .row t.row:=by rw[hI.eq tb Gs,bD]
 have y1:tb≠nx:=ae
 have y2:∀k,tb≠nx+k:=fun k=>ae
 refine cX.aI mix WY aJ ?_
 rw[aan]
 refine yU (ak ot (ak y1 y2)) ?_
 have EU:dv base (H s) (au (au (au o nx (.row [.jI nY])) (nx+1) (.row [.d .cK])) (nx+1) (.row [.func (.func 178) [] [.ptr nx 0, .ptr (nx+1) 0]])) (nx+6):=by
  refine((hI.au (i:=nx) (m:=nx+6) ae ae ae ?_).au (i:=nx+1) (m:=nx+6) ae ae ae rfl).au (i:=nx+1) ae ae ae ?_
  ·exact M3
  ·exact n8
 refine bg (PH base nY H step ok t hf bp hR xS (nx+6) _ nx (nx+1) ae hle ae ae ae ?_ ?_ s kO _ _ (EU.ext (Nat.le_refl _) ae) _ _ ?_)
 ·exact cH
 ·exact cH
 intro o2 n2 m1 m2 m3
 refine dc ?_
 refine hK _ _ ae ⟨m2.bE,ae,fun id aq=> ?_⟩ (fun id h1 h2=> ?_)
 ·exact M0
 ·exact Yc
end
theorem AM(t:Tm)(o:Nat->aa)(nx:Nat)(K X:V->(Nat->aa)->Nat->Prop)(h:K (.func (.func 177) [] [.ptr nx 0]) (au o nx (.row t.row)) (nx+4)):cX Tryz.prog 162 [.d t.d] o nx K X:=by
 refine cX.aI mix WO aJ ?_
 rw[aae]
 refine dc ?_
 exact h
def Cp{σ:Type}(J:σ->Option lC)(step:σ->Tm->σ)(s:σ)(x:Tm):σ×Bool:=(step s x,(J (step s x)).isNone)
theorem sA{σ:Type}(t:Tm)(hf:t.fits){n bq:Nat}{gq:Operand}{ps:List Nat}{jM fm:IC}{Q:fW->S->Prop}{e:Nat->V}{o:Nat->aa}{nx tb:Nat}(env:List V)(he:nL e env 0)
 (pL:ps.all (fun t=>decide (t<n))=true) (hl:ps.length=1) (hg:Good o nx) (hrefs:∀r∈V.aM env,r<nx) (ht:o tb= .row t.row)
 (G:σ->Nat->aa) (J:σ->Option lC) (step:σ->Tm->σ) (ok:σ->Prop) (s0:σ) (kO:ok s0) (hJ0:J s0=none) (h0:∀id,id<nx->o id=G s0 id) (bp:∀x∈gK t,∀s,ok s->J s=none->J (step s x)=none->ok (step s x))
 (qJ:∀L,kZ Tryz.prog n env ps jM fm L->(∀st pd m,nx<=m->(L st pd).refs.all (fun r=>decide (r<m))=true)->∀x∈gK t,∀s,ok s->J s=none->∀o3 n3,dv nx (G s) o3 n3->nx<n3->o3 nx=L .ready none->∀K X,
  (∀e' o' n' st pd,n3<=n'->dv nx (G (step s x)) o' n'->o' nx=L st pd->(∀id,nx<id->id<n3->o' id=o3 id)->kX nx K X (PA (J (step s x))) ⟨e',o',n'⟩)->
  lz Tryz.prog n n3 true jM (qR Tryz.prog n n3 nx fm K X) ⟨oP (aT env) ps [.d x.d],o3,n3⟩)
 (iw:∀o' n',dv nx (G (aA (Cp J step) s0 (gK t)).1) o' n'->qI Q (J (aA (Cp J step) s0 (gK t)).1) ⟨e,o',n'⟩):
 B0 Tryz.prog n bq false gq ps jM fm Q ⟨e,o,nx⟩ (.func (.func 177) [] [.ptr tb 0]):=by
 refine Hu env he (fun L hL=> ?_)
 have Gs:tb<nx:=hg.lt NB
 let H:σ->Nat->aa:=fun s id=>if id<nx then G s id else if id=nx then(match J s with|none=>L .ready none|some j=>L .done (some j))else .no
 have Kz:∀s id,id<nx->H s id=G s id:=fun s id h=>if_pos h
 have Q0:∀s,J s=none->H s nx=L .ready none:=fun s h=>by show(if nx<nx then _ else _)=_;rw[if_neg (by omega),if_pos rfl,h]
 have XJ:∀s j,J s=some j->H s nx=L .done (some j):=fun s j h=>by show(if nx<nx then _ else _)=_;rw[if_neg (by omega),if_pos rfl,h]
 have zA:∀st pd m,nx<=m->(L st pd).refs.all (fun r=>decide (r<m))=true:=fun st pd m hm=>by
  exact X7
 refine LX (nx+1) nx H (Cp J step) (fun s=>ok s/\J s=none) t hf (fun x hx s h1 h2=> ?_) (fun x hx s h1=> ?_) ae tb ae s0 ⟨kO,hJ0⟩ Nz _ _ ⟨?_,Nat.le_refl _,fun id aq=> ?_⟩ _ _ ?_
 ·have hj:J (step s x)=none:=by simpa[Cp]using h2
  exact⟨bp x hx s h1.1 h1.2 hj,hj⟩
 ·intro o3 n3 hI K X hK
  have hle:=hI.le
  have MO:o3 nx=L .ready none:=by rw[hI.eq nx (by omega),Q0 s h1.2]
  refine xO hL mix MO ae pL (by simp[hl]) ?_
  refine qJ L hL zA x hx s h1.1 h1.2 o3 n3 ⟨hI.bE,ae,fun id aq=>by rw[hI.eq id (by omega),Kz _ _ aq]⟩ ae MO K X (fun e' o' n' st pd k1 k2 k3 k4=> ?_)
  have key:∀st' pd' b,(J (step s x)).isNone=b->H (step s x) nx=L st' pd'->K (.d (.bool b)) (au o' nx (L st' pd')) n':=fun st' pd' b hb hh=>by
   subst hb
   refine hK _ _ k1 ⟨k2.bE.au ae (zA _ _ _ ae),ae,fun id aq=> ?_⟩ (fun id g1 g2=> ?_)
   ·by_cases tf:id=nx
    ·exact Nk
    ·rw[ab _ _ _ _ tf]
     show o' id=H (step s x) id
     exact Nb
   ·exact M7
  cases hj:J (step s x)with
  |none=>exact XM
  |some j=>
   cases j with
   |ret=>exact XK
   |exit j=>exact XI
 ·exact XL
 ·by_cases tf:id=nx
  ·exact Ns
  ·exact XH
 ·intro o' n' k1 k2 k3
  have hle:=k2.le
  generalize hsf:(aA (Cp J step) s0 (gK t)).1=sf at*
  have kk:∀st pd,dv nx (G sf) (au o' nx (L st pd)) n':=fun st pd=>⟨k2.bE.au ae (zA _ _ _ ae),ae,fun id aq=>by rw[ab _ _ _ _ (by omega),k2.eq id (by omega),Kz _ _ aq]⟩
  cases hj:J sf with
  |none=>
   refine⟨.ready,none,by rw[k2.eq nx (by omega),Q0 _ hj],(fun h=>by cases h), ?_⟩
   have:=iw _ _ (kk .exhausted none)
   rwa [hj]at this
  |some j=>
   refine⟨.done,some j,by rw[k2.eq nx (by omega),XJ _ _ hj],(fun h=>by cases h), ?_⟩
   have:=iw _ _ (kk .exhausted (some j))
   rwa [hj]at this
end
section
def LY(l:List (D×D)):List (Int×D):=l.map fun p=>((match p.1 with| .int _ n=>n|_=>0),p.2)
def isI(l:List (D×D)):Bool:=l.all fun p=>match p.1 with| .int .i64 _=>true|_=>false
@[go_sem] theorem ag3 (m:List (Int×D)):LY (enc (D.int .i64) m)=m:=by
  unfold LY enc;rw[List.map_map];simp[Function.comp_def]
@[go_sem] theorem ag4 (m:List (Int×D)):isI (enc (D.int .i64) m)=true:=by simp[isI,enc]
@[go_sem] theorem ag5:isI []=true:=rfl
@[go_sem] theorem ag6:LY []=[]:=rfl
theorem Cq:∀ {l:List (D×D)},isI l=true->enc (D.int .i64) (LY l)=l
 |[],_=>rfl
 |(k,x)::l,h=>by
  simp only[isI,List.all_cons,Bool.and_eq_true]at h
  have ih:=Cq (l:=l) h.2
  obtain⟨n,h1⟩:∃n,k= .int .i64 n:=by
   have h1:=h.1
   split at h1
   ·exact⟨_,rfl⟩
   ·cases h1
  subst h1
  simp only[enc,LY,List.map_cons]at ih|-
  rw[ih]
def o8(l:List Int):List (Int×D):=l.map fun n=>(n, .bool true)
@[go_sem] theorem agv:o8 []=[]:=rfl
def Cr(l:List Int)(n:Int):List Int:=if l.contains n=true then l else l++[n]
theorem PI{l:List Int}{n k:Int}:k∈Cr l n↔k∈l\/k=n:=by
 unfold Cr
 split
 ·rename_i h
  have:n∈l:=by simpa using h
  constructor
  ·exact .inl
  ·rintro(h|rfl)<;>assumption
 ·simp
theorem sB:∀ (l:List Int) (n:Int) (i:Nat),gW n (o8 l) i=(l.findIdx? (· ==n)).map fun j=>(i+j,D.bool true)
 |[],n,i=>rfl
 |x::l,n,i=>by
  have ih:=sB l n (i+1)
  simp only[o8,List.map_cons,gW,List.findIdx?_cons]at ih|-
  by_cases h:n=x
  ·subst h;simp
  ·have h2: ¬x=n:=fun e=>h e.symm
   simp only[beq_iff_eq,h,h2,if_false,ih,Option.map_map,Function.comp_def]
   congr 1;funext j;congr 1;omega
@[go_sem] theorem ace (l:List Int) (n:Int):zl n (.bool true) (o8 l)=o8 (Cr l n):=by
  unfold zl Cr
  rw[sB]
  cases h:l.findIdx? (· ==n)with
  |none=>
   have:l.contains n=false:=by
    rw[List.findIdx?_eq_none_iff]at h
    rw[Bool.eq_false_iff];intro hc
    have:=h n (by simpa using hc)
    simp at this
   simp only[Option.map_none,this,Bool.false_eq_true,if_false]
   simp[o8]
  |some j=>
   rw[List.findIdx?_eq_some_iff_getElem]at h
   obtain⟨hj,he,_⟩:=h
   have e:l[j]=n:=by simpa using he
   have:l.contains n=true:=by rw[List.contains_iff_mem, <- e];exact List.getElem_mem hj
   simp only[Option.map_some,this,if_true,Nat.zero_add]
   apply List.ext_getElem?
   intro k
   rw[List.getElem?_set]
   split
   ·rename_i hk;subst hk;simp[o8,hj,e]
   ·rfl
def agw(l:List Int)(n:Int):List Int:=match l.findIdx? (· ==n)with|some j=>l.eraseIdx j|none=>l
theorem ny{α β:Type}(f:α->β):∀ (l:List α) (j:Nat),(l.map f).eraseIdx j=(l.eraseIdx j).map f
 |[],_=>rfl
 |_::_,0=>rfl
 |x::l,j+1=>by simp[ny f l j]
@[go_sem] theorem acf (l:List Int) (n:Int):ags n (o8 l)=o8 (agw l n):=by
  unfold ags agw
  rw[sB]
  cases h:l.findIdx? (· ==n)with
  |none=>simp
  |some j=>simp only[Option.map_some,Nat.zero_add];exact ny _ _ _
section
variable {P:Program}{o:Nat->aa}{t:TypeId}{id:Nat}{n:Int}{v:V}
def tW(P:Program)(kt:TypeId):Bool:=match bz P kt with|some .int=>true|_=>false
theorem AO{kt:TypeId}(h:tW P kt=true):bz P kt=some .int:=by
 unfold tW at h;split at h
 ·assumption
 ·cases h
@[go_sem] theorem acg {kt:TypeId} (h:bz P kt=some .int):tW P kt=true:=by unfold tW;rw[h]
def aaK(P:Program)(o:Nat->aa)(t:TypeId)(id:Nat)(n:Int)(v:V):Option gM:=
 match rq P t,dS o v,o id with
 |some (kt,_),some vd, .map Gd Ge l=>match tW P kt&&isI l&&v.ids.all (· !=id)with
  |true=>some (.cc [],bY o v.ids++[(id, .map Gd Ge (enc (D.int .i64) (zl n vd (LY l))))],id::v.ids)
  |false=>sx P o t (.mp id) (.d (.int .i64 n)) v
 |_,_,_=>sx P o t (.mp id) (.d (.int .i64 n)) v
@[go_sem high] theorem aaL:gI P o t (.mp id) (.d (.int .i64 n)) v=aaK P o t id n v:=by
  unfold aaK
  split
  ·rename_i kt vt vd Gd Ge l h1 h2 h3
   split
   ·rename_i hc
    simp only[Bool.and_eq_true]at hc
    obtain⟨⟨c1,c2⟩,c3⟩:=hc
    have c4:=AO c1
    have c5:dS o (.d (.int .i64 n))=some (.int .i64 n):=rfl
    have hl:=Cq c2
    unfold gI
    simp only[h1,c5,h2,qj,h3]
    rw[if_pos ⟨rfl,JK c4 n,rfl,c3⟩]
    conv=>lhs;rw[<- hl]
    rw[EW c4]
    unfold zl
    cases gW n (LY l) 0 with
    |none=>simp[zm,enc]
    |some p=>simp[zm,JL,D.same,nH]
   ·exact AH ..
  ·exact AH ..
attribute [go_sem] aaK
def isS(l:List (D×D)):Bool:=l.all fun p=>match p.2 with| .bool true=>true|_=>false
@[go_sem] theorem ag7 (l:List Int):isS (enc (D.int .i64) (o8 l))=true:=by simp[isS,enc,o8]
@[go_sem] theorem ag8:isS []=true:=rfl
theorem JP:∀ {m:List (Int×D)},isS (enc (D.int .i64) m)=true->o8 (m.map (·.1))=m
 |[],_=>rfl
 |(k,x)::m,h=>by
  simp only[isS,enc,List.map_cons,List.all_cons,Bool.and_eq_true]at h
  have ih:=JP (m:=m) h.2
  have h1:x= .bool true:=by
   have h1:=h.1
   split at h1
   ·rfl
   ·cases h1
  simp only[o8,List.map_cons]at ih|-
  rw[ih,h1]
def PJ(P:Program)(o:Nat->aa)(t:TypeId)(m:V)(n:Int)(ok:Bool):Option gM:=
 match rq P t with
 |some (kt,vt)=>match zeroV P vt with
  |some (.d (.bool false))=>match rr o m with
   |some (rd,l)=>match tW P kt&&isI l&&isS l with
    |true=>some (match ok with|true=> .cc [.d (.bool (((LY l).map (·.1)).contains n)), .d (.bool (((LY l).map (·.1)).contains n))]|false=> .d (.bool (((LY l).map (·.1)).contains n)),[],rd)
    |false=>xU P o t m (.d (.int .i64 n)) ok
   |none=>xU P o t m (.d (.int .i64 n)) ok
  |_=>xU P o t m (.d (.int .i64 n)) ok
 |none=>xU P o t m (.d (.int .i64 n)) ok
@[go_sem] theorem PK (l:List Int):((o8 l).map (·.1))=l:=by simp[o8,Function.comp_def]
@[go_sem high] theorem agx {m:V} {ok:Bool}:jq P o t m (.d (.int .i64 n)) ok=PJ P o t m n ok:=by
  unfold PJ
  split
  ·rename_i kt vt h1
   split
   ·rename_i hz
    split
    ·rename_i rd l h
     split
     ·rename_i hc
      simp only[Bool.and_eq_true]at hc
      have c4:=AO hc.1.1
      have hl:=Cq hc.1.2
      have hs:o8 ((LY l).map (·.1))=LY l:=JP (by rw[hl];exact hc.2)
      have c5:dS o (.d (.int .i64 n))=some (.int .i64 n):=rfl
      unfold jq
      simp only[h1,c5,h]
      rw[if_pos ⟨rfl,JK c4 n⟩]
      conv=>lhs;rw[<- hl]
      rw[EW c4, <- hs,sB,PK]
      generalize (LY l).map (·.1)=l'
      cases hf:l'.findIdx? (· ==n)with
      |none=>
       have:l'.contains n=false:=by
        rw[List.findIdx?_eq_none_iff]at hf
        rw[Bool.eq_false_iff];intro hc
        have:=hf n (by simpa using hc)
        simp at this
       cases ok<;>simp only[Option.map_none,zm,hz,this,if_true,Bool.false_eq_true,if_false]
      |some j=>
       rw[List.findIdx?_eq_some_iff_getElem]at hf
       obtain⟨hj,he,_⟩:=hf
       have e:l'[j]=n:=by simpa using he
       have:l'.contains n=true:=by rw[List.contains_iff_mem, <- e];exact List.getElem_mem hj
       cases ok<;>simp only[Option.map_some,zm,this,if_true,Bool.false_eq_true,if_false]
     ·exact pM ..
    ·exact pM ..
   ·exact pM ..
  ·exact pM ..
attribute [go_sem] PJ
end
attribute [go_sem] List.head?_cons
end
theorem PL{o:Nat->aa}{nx:Nat}{Δ:List (Nat×aa)}(h:∀x∈Δ,x.1<nx):(hp o nx).put Δ=hp (put o Δ) nx:=by
 simp only[Hp.put,hp]
 congr 1
 funext j
 simp only[List.mem_map,eq_iff_iff]
 exact⟨fun h2=>h2.elim (fun h=>h) fun⟨x,hx,e⟩=>e ▸ h x hx, .inl⟩
theorem PM(a b:List Tm)(ha:a.length<=9223372036854775807)(hb:b.length<=9223372036854775807)(g:Nat)(h:∀x∈a,∀y∈b,aW Tryz.prog g [x.d,y.d] (.ret [.bool (iK x y)]))(o:Nat->aa)(nx:Nat)(hg:Good o nx)(K X:V->(Nat->aa)->Nat->Prop)
 (hK:∀o' nx',nx<=nx'->Good o' nx'->(∀j,j<nx->o' j=o j)->K (.d (.bool (a.length==b.length&&jR a b))) o' nx'):
 cX Tryz.prog 149 [.d (.sl (a.map Tm.d)), .d (.sl (b.map Tm.d)), .func (.func g) [] []] o nx K X:=by
 refine cX.aI mix WG aJ ?_
 rw[Z6]
 refine ir ?_
 refine aj (fun h1=> ?_) (fun h1=> ?_)
 ·refine ba ?_
  have:(a.length==b.length&&jR a b)=false:=by
   have:(a.length==b.length)=false:=by
    rw[Bool.eq_false_iff];intro h
    simp at h;simp[h]at h1
   rw[this];rfl
  rw[this]at hK
  exact hK _ _ ae (hg.mono ae) (fun _ _=>rfl)
 ·have hl:a.length=b.length:=by simp at h1;omega
  have RZ:(a.length==b.length)=true:=by simpa using hl
  rw[RZ,Bool.true_and]at hK
  refine ir ?_
  refine aw (fun k:Nat=>⟨aT (.d (.sl (a.map Tm.d)):: .d (.sl (b.map Tm.d)):: .func (.func g) [] []::gr [.ag, .ag, .ag, .ag, .d (.sl (a.map Tm.d)), .d (.i a.length), .d (.i k)]),o,nx⟩)
   (fun k=>k<=a.length/\∀i,i<k->∀x y,a[i]? =some x->b[i]? =some y->iK x y=true) (fun k=>a.length - k) 0 ⟨Nat.zero_le _,fun i h=>ae⟩ (aZ.aV _ (Nat.le_refl _) ae hg (fun _ _=>rfl) ?_) (fun k hk=> ?_)
  ·exact bZ
  refine ba ?_
  refine aj (fun h2=> ?_) (fun h2=> ?_)
  ·simp at h2
   obtain⟨x,hx⟩:=az h2
   obtain⟨y,hy⟩:=az (l:=b) (k:=k) ae
   refine gu (ak hx hy) ?_
   refine aF (h x (List.mem_of_getElem? hx) y (List.mem_of_getElem? hy)) rfl ?_
   refine ba ?_
   refine aj (fun h3=> ?_) (fun h3=> ?_)
   ·refine ba ?_
    simp at h3
    have:jR a b=false:=by
     rw[Bool.eq_false_iff];intro h4
     have:=(mM _ _ hl).1 h4 k x y hx hy
     rw[h3]at this;cases this
    rw[this]at hK
    refine hK _ _ ae ?_ (fun j hj=>cH)
    exact eW
   ·refine ba ?_
    simp at h3
    refine ai (k+1) ⟨h2,fun i hi u v hu hv=> ?_⟩ ae (aZ.aV _ (Nat.le_refl _) ae hg (fun j hj=>cH) ?_)
    ·by_cases e:i=k
     ·subst e
      rw[hx]at hu;rw[hy]at hv
      exact Uz
     ·exact hk.2 i ae u v hu hv
    ·exact bZ
  ·refine ba ?_
   simp at h2
   have:jR a b=true:=(mM _ _ hl).2 fun i x y hx hy=>hk.2 i (by have:=(List.getElem?_eq_some_iff.1 hx).1;omega) x y hx hy
   rw[this]at hK
   exact hK _ _ ae (hg.mono ae) (fun _ _=>rfl)
def lk:List (Int×Int)->Int->Option Int
 |[],_=>none
 |p::m,v=>if p.1=v then some p.2 else lk m v
abbrev Keys(m:List (Int×Int)):Prop:=(m.map (·.1)).Nodup
theorem JQ{m:List (Int×Int)}{v k:Int}(hk:Keys m):lk m v=some k↔(v,k)∈m:=by
 induction m with
 |nil=>simp[lk]
 |cons p m ih=>
  rw[Keys,List.map_cons,List.nodup_cons]at hk
  simp only[lk,List.mem_cons]
  by_cases h:p.1=v
  ·rw[if_pos h]
   constructor
   ·intro e;injection e with e;exact .inl (by rw[<- h, <- e])
   ·rintro(e|e)
    ·rw[<- e]
    ·exact absurd (h ▸ List.mem_map.2 ⟨_,e,rfl⟩) hk.1
  ·rw[if_neg h,ih hk.2]
   constructor
   ·exact .inr
   ·rintro(e|e)
    ·exact absurd (by rw[<- e]) h
    ·exact e
def ints(m:List (Int×Int)):List (Int×D):=m.map fun p=>(p.1,D.i p.2)
theorem tX:∀ (m:List (Int×Int)) (v:Int) (i:Nat),(match gW v (ints m) i with|some (_,x)=>some x|none=>none)=(lk m v).map D.i
 |[],v,i=>rfl
 |p::m,v,i=>by
  have ih:=tX m v (i+1)
  simp only[ints,List.map_cons,gW,lk]at ih|-
  by_cases h:v=p.1
  ·subst h;simp
  ·have h2: ¬p.1=v:=fun e=>h e.symm
   simp only[beq_iff_eq,h,h2,if_false]
   exact ih
theorem nz{m:List (Int×Int)}{v k:Int}(h:lk m v=some k):∃j,gW v (ints m) 0=some (j,D.i k):=by
 have:=tX m v 0
 rw[h]at this
 cases ha:gW v (ints m) 0 with
 |none=>rw[ha]at this;cases this
 |some p=>obtain⟨j,x⟩:=p;rw[ha]at this;simp at this;exact⟨j,by rw[this]⟩
theorem nA{m:List (Int×Int)}{v:Int}(h:lk m v=none):gW v (ints m) 0=none:=by
 have:=tX m v 0
 rw[h]at this
 cases ha:gW v (ints m) 0 with
 |none=>rfl
 |some p=>obtain⟨j,x⟩:=p;rw[ha]at this;cases this
def iy(m:List (Int×Int))(v:Int):Int:=(lk m v).getD 0
def mb:List (Int×Int)->Int->Int->List (Int×Int)
 |[],v,w=>[(v,w)]
 |p::m,v,w=>if p.1=v then(v,w)::m else p::mb m v w
theorem E0(v:Int):∀ (m:List (Int×D)) (i:Nat),gW v m (i+1)=(gW v m i).map fun p=>(p.1+1,p.2)
 |[],_=>rfl
 |p::m,i=>by
  have ih:=E0 v m (i+1)
  simp only[gW]
  by_cases h:(v==p.1)=true
  ·simp[h]
  ·simp only[h,if_false];exact ih
theorem LZ{v:Int}{p:Int×D}{m:List (Int×D)}{x:D}(h: ¬v=p.1):zl v x (p::m)=p::zl v x m:=by
 have hb: ¬ ((v==p.1)=true):=by simpa using h
 unfold zl
 simp only[gW,hb,if_false]
 rw[E0]
 cases gW v m 0 with
 |none=>rfl
 |some q=>obtain⟨i,y⟩:=q;rfl
theorem mN:∀ (m:List (Int×Int)) (v w:Int),zl v (D.i w) (ints m)=ints (mb m v w)
 |[],v,w=>by simp[zl,gW,ints,mb]
 |p::m,v,w=>by
  have ih:=mN m v w
  by_cases h:p.1=v
  ·subst h
   simp[zl,gW,ints,mb]
  ·have h': ¬v=p.1:=fun e=>h e.symm
   have e2:ints (p::m)=(p.1,D.i p.2)::ints m:=rfl
   rw[e2,LZ h',ih]
   simp[mb,h,ints]
def vA(m:List (Int×Int))(v:Int):List (Int×Int):=mb m v (IntKind.i64.wrap (iy m v+1))
@[reducible] def sC (m:List (Int×Int)):aa:= .map 3 3 (enc (D.int .i64) (ints m))
def ew(op:Int)(m:List (Int×Int))(x:Tm):List (Int×Int):=if x.op=op then vA m x.n else m
def agy(R:List (Int×Int)->Prop)(o:Nat->aa)(nx:Nat)(K:V->(Nat->aa)->Nat->Prop):Prop:=
 ∀o' nx' id m,nx<=id->id<nx'->Good o' nx'->(∀j,j<nx->o' j=o j)->o' id=sC m->R m->K (.mp id) o' nx'
theorem aaM(t:Tm)(ht:t.fits)(o:Nat->aa)(nx:Nat)(hg:Good o nx)(K X:V->(Nat->aa)->Nat->Prop)
 (hK:agy (fun m=>m=(gK t).foldl (ew 8) []) o nx K):cX Tryz.prog 136 [.d t.d] o nx K X:=by
 refine cX.aI mix WD aJ ?_
 rw[Z4]
 refine ir ?_
 refine eU (AM t _ _ _ _ ?_)
 refine ir ?_
 have hG:∀j,j<nx+10->au (au (au (au (au o nx (.row [.d (.i t.op), .d (.i t.n), .d (.sl (t.kids.map Tm.d))])) (nx+2) (.map 3 3 [])) (nx+3) (.row [.d .iY])) (nx+3) (.row [.mp (nx+2)])) (nx+6) (.row t.row) j=au (au (au (au o nx (.row t.row)) (nx+3) (.row [.mp (nx+2)])) (nx+6) (.row t.row)) (nx+2) (sC []) j:=by
  intro j _
  exact Rv
 refine sA (σ:=List (Int×Int)) t ht [.ag, .ptr nx 0, .ag, .ptr (nx+3) 0] ?_ bG rfl eW ra (af _ _ _)
  (fun s=>au (au (au (au o nx (.row t.row)) (nx+3) (.row [.mp (nx+2)])) (nx+6) (.row t.row)) (nx+2) (sC s)) (fun _=>none) (ew 8) (fun _=>True) [] trivial rfl hG (fun _ _ _ _ _ _=>trivial) ?_ ?_
 ·exact Kw
 ·intro L hL zA x hx s' _ _ o3 n3 hI hn MO K' X' de
  simp only[oP]
  have hg:=hI.bE
  have hle:=hI.le
  have q1:o3 (nx+3)= .row [.mp (nx+2)]:=by rw[hI.eq (nx+3) (by omega)];(repeat first|rfl|rw[af]|rw[ab _ _ _ _ (by omega)])
  have q2:o3 (nx+2)=sC s':=by rw[hI.eq (nx+2) (by omega)];(repeat first|rfl|rw[af]|rw[ab _ _ _ _ (by omega)])
  refine ba ?_
  refine mL hL (pd:=none) ?_ ?_
  ·(repeat first|rfl|rw[af]|rw[ab _ _ _ _ (by omega)])
   exact MO
  refine cz (ak q1 q2) ?_
  have z1:nx≠n3:=ae
  have z2:∀k,nx≠n3+k:=fun k=>ae
  have z3:nx+2≠n3:=ae
  have z4:nx+3≠n3:=ae
  have same:∀ (o':Nat->aa) (n':Nat) (l:List (Int×Int)),Good o' n'->n3<=n'->(∀j,j<nx+10->o' j=au o3 (nx+2) (sC l) j)->dv (nx+10) (au (au (au (au o nx (.row t.row)) (nx+3) (.row [.mp (nx+2)])) (nx+6) (.row t.row)) (nx+2) (sC l)) o' n':=fun o' n' l k1 k2 k3=>⟨k1,ae,fun j hj=>by
   rw[k3 j hj]
   by_cases e:j=nx+2
   ·subst e;rw[af,af]
   ·rw[ab _ _ _ _ e,ab _ _ _ _ e,hI.eq j hj,ab _ _ _ _ e]⟩
  refine aj (fun h3=> ?_) (fun h3=> ?_)
  ·have qF:x.op=8:=by simpa using h3
   have hp:ew 8 s' x=vA s' x.n:=by unfold ew;rw[if_pos qF]
   rw[hp]at de
   cases MP:lk s' x.n with
   |none=>
    have hc:vA s' x.n=mb s' x.n (0+1):=by unfold vA iy;rw[MP];rfl
    rw[hc]at de
    refine gu (ak q1 (ak q2 (ak z1 (ak z2 (ak z3 (ak z4 (ak (nA MP) @mN))))))) ?_
    refine de _ _ _ .busy none ae (same _ _ _ eW ae fun j hj=> ?_) cH (fun j h3 h4=>cH)
    by_cases e:j=nx+2
    ·exact Da
    ·exact cH
   |some c=>
    obtain⟨k,hk⟩:=nz MP
    have hc:vA s' x.n=mb s' x.n (IntKind.i64.wrap (c+1)):=by unfold vA iy;rw[MP];rfl
    rw[hc]at de
    refine gu (ak q1 (ak q2 (ak z1 (ak z2 (ak z3 (ak z4 (ak hk @mN))))))) ?_
    refine de _ _ _ .busy none ae (same _ _ _ eW ae fun j hj=> ?_) cH (fun j h3 h4=>cH)
    by_cases e:j=nx+2
    ·exact Da
    ·exact cH
  ·have hp:ew 8 s' x=s':=by unfold ew;rw[if_neg (by simpa using h3)]
   rw[hp]at de
   refine ba ?_
   refine de _ _ _ .busy none ae (same _ _ _ eW ae fun j hj=> ?_) cH (fun j h3 h4=>cH)
   by_cases e:j=nx+2
   ·exact U2
   ·exact cH
 ·intro o' n' hI
  have hle:=hI.le
  simp only[qI]
  have q1:o' (nx+3)= .row [.mp (nx+2)]:=by rw[hI.eq (nx+3) (by omega)];(repeat first|rfl|rw[af]|rw[ab _ _ _ _ (by omega)])
  refine cz q1 ?_
  have AE:∀ (l:List Tm) (m:List (Int×Int)),(aA (Cp (fun _=>none) (ew 8)) m l).1=l.foldl (ew 8) m:=by
   intro l
   induction l with
   |nil=>intro m;rfl
   |cons y l ih=>intro m;simp only[aA,Cp,Option.isNone_none,if_true];exact ih _
  rw[AE]at hI
  refine hK _ _ _ _ ae ae (hI.bE.mono ae) (fun j hj=> ?_) (by rw[hI.eq (nx+2) (by omega),af]) rfl
  rw[hI.eq j (by omega)];(repeat first|rfl|rw[af]|rw[ab _ _ _ _ (by omega)])
theorem E1(l:List Tm)(hl:l.length<=1000000)(hf:∀t∈l,t.fits)(o:Nat->aa)(nx:Nat)(hg:Good o nx)(K X:V->(Nat->aa)->Nat->Prop)
 (hK:agy (fun m=>m=(l.flatMap gK).foldl (ew 1) []) o nx K):cX Tryz.prog 135 [.d (.sl (l.map Tm.d))] o nx K X:=by
 refine cX.aI mix WC aJ ?_
 rw[Z3]
 refine Rr ?_
 let Hm:List (Int×Int)->Nat->aa:=fun m=>au (au o (nx+2) (.row [.mp (nx+1)])) (nx+1) (sC m)
 have jZ:∀m,Good (Hm m) (nx+7):=fun m=>((hg.mono ae).au ae n8).au ae rfl
 have Yq:∀m,Hm m (nx+1)=sC m:=fun m=>af _ _ _
 have RY:∀m,Hm m (nx+2)= .row [.mp (nx+1)]:=fun m=>by show au _ (nx+1) _ (nx+2)=_;rw[ab _ _ _ _ (by omega),af]
 have zc:∀m j,j≠nx+1->Hm m j=Hm [] j:=fun m j h=>by show au _ (nx+1) _ j=au _ (nx+1) _ j;rw[ab _ _ _ _ h,ab _ _ _ _ h]
 refine aw (fun i:Nat×List (Int×Int)=>⟨aT [.ag, .ag, .ag, .ptr (nx+2) 0, .ag, .ag, .ag, .ag, .d (.sl (l.map Tm.d)), .d (.i l.length), .d (.i i.1)],Hm i.2,nx+7⟩)
  (fun i=>i.1<=l.length/\i.2=((l.take i.1).flatMap gK).foldl (ew 1) []) (fun i=>l.length - i.1) (0,[]) ⟨Nat.zero_le _,rfl⟩ (aZ.aV _ (show nx<=nx+7 from ae) ae (jZ _) (fun j hj=> ?_) ?_) ?_
 ·show _=au (au o (nx+2) (.row [.mp (nx+1)])) (nx+1) (sC []) j
  exact Rv
 ·exact bZ
 rintro⟨k,m⟩ ⟨hk,hm⟩
 simp only at hk hm
 refine ba ?_
 refine aj (fun h2=> ?_) (fun h2=> ?_)
 ·simp at h2
  obtain⟨x,hx⟩:=az h2
  have dR:=List.mem_of_getElem? hx
  have mi:((l.take (k+1)).flatMap gK).foldl (ew 1) []=(gK x).foldl (ew 1) m:=by
   rw[List.take_add_one,hx,hm];simp
  have aiW:=jZ m
  have e1:=Yq m
  have e2:=RY m
  have e3:=zc m
  clear_value Hm
  refine gu hx ?_
  refine eU (AM x _ _ _ _ ?_)
  refine ir ?_
  let G:List (Int×Int)->Nat->aa:=fun s=>au (au (au (Hm m) (nx+10) (.row x.row)) (nx+13) (.row x.row)) (nx+1) (sC s)
  have hG:∀j,j<nx+17->au (au (au (Hm m) (nx+10) (.row [.d (.int .i64 0), .d (.int .i64 0), .aU])) (nx+10) (.row [.d (.i x.op), .d (.i x.n), .d (.sl (x.kids.map Tm.d))])) (nx+13) (.row x.row) j=G m j:=by
   intro j _
   show _=au (au (au (Hm m) (nx+10) (.row x.row)) (nx+13) (.row x.row)) (nx+1) (sC m) j
   by_cases e:j=nx+1
   ·subst e;(repeat first|rfl|rw[af]|rw[ab _ _ _ _ (by omega)])
    exact e1
   ·rw[ab _ (nx+1) _ _ e,dW]
  have gm:∀s,G s (nx+1)=sC s:=fun s=>af _ _ _
  have g2:∀s,G s (nx+2)= .row [.mp (nx+1)]:=fun s=>by
   show au _ (nx+1) _ (nx+2)=_
   rw[ab _ _ _ _ (by omega),ab _ _ _ _ (by omega),ab _ _ _ _ (by omega)];exact e2
  have g3:∀s s' j,j≠nx+1->G s j=G s' j:=fun s s' j h=>by show au _ (nx+1) _ j=au _ (nx+1) _ j;rw[ab _ _ _ _ h,ab _ _ _ _ h]
  have g4:∀s j,j<nx+7->j≠nx+1->G s j=Hm m j:=fun s j h h'=>by
   show au _ (nx+1) _ j=_
   rw[ab _ _ _ _ h',ab _ _ _ _ (by omega),ab _ _ _ _ (by omega)]
  clear_value G
  have hg:=aiW
  refine sA (σ:=List (Int×Int)) x (hf x dR) [.ag, .ag, .ag, .ptr (nx+2) 0, .ag, .ag, .ag, .ag, .d (.sl (l.map Tm.d)), .d (.i l.length), .d (.i k)] ?_ bG rfl eW ra (af _ _ _)
   G (fun _=>none) (ew 1) (fun _=>True) m trivial rfl hG (fun _ _ _ _ _ _=>trivial) ?_ ?_
  ·exact Kw
  ·intro L hL zA y hy s' _ _ o3 n3 hI hn MO K' X' de
   simp only[oP]
   have hg:=hI.bE
   have hle:=hI.le
   have q1:o3 (nx+2)= .row [.mp (nx+1)]:=by rw[hI.eq (nx+2) (by omega),g2]
   have q2:o3 (nx+1)=sC s':=by rw[hI.eq (nx+1) (by omega),gm]
   have z1:nx≠n3:=ae
   have z2:∀k,nx≠n3+k:=fun k=>ae
   have z3:nx+2≠n3:=ae
   have z4:nx+1≠n3:=ae
   have same:∀ (o':Nat->aa) (n':Nat) (l:List (Int×Int)),Good o' n'->n3<=n'->(∀j,j<nx+17->o' j=au o3 (nx+1) (sC l) j)->dv (nx+17) (G l) o' n':=fun o' n' l k1 k2 k3=>⟨k1,ae,fun j hj=>by
    rw[k3 j hj]
    by_cases e:j=nx+1
    ·subst e;rw[af,gm]
    ·rw[ab _ _ _ _ e,hI.eq j hj];exact g3 _ _ _ e⟩
   refine ba ?_
   refine mL hL (pd:=none) ?_ ?_
   ·(repeat first|rfl|rw[af]|rw[ab _ _ _ _ (by omega)])
    exact MO
   refine cz (ak q1 q2) ?_
   refine aj (fun h3=> ?_) (fun h3=> ?_)
   ·have qF:y.op=1:=by simpa using h3
    have hp:ew 1 s' y=vA s' y.n:=by unfold ew;rw[if_pos qF]
    rw[hp]at de
    cases MP:lk s' y.n with
    |none=>
     have hc:vA s' y.n=mb s' y.n (0+1):=by unfold vA iy;rw[MP];rfl
     rw[hc]at de
     refine gu (ak q1 (ak q2 (ak z1 (ak z2 (ak z3 (ak z4 (ak (nA MP) @mN))))))) ?_
     refine de _ _ _ .busy none ae (same _ _ _ eW ae fun j hj=> ?_) cH (fun j h3 h4=>cH)
     by_cases e:j=nx+1
     ·exact Da
     ·exact cH
    |some c=>
     obtain⟨q,hq⟩:=nz MP
     have hc:vA s' y.n=mb s' y.n (IntKind.i64.wrap (c+1)):=by unfold vA iy;rw[MP];rfl
     rw[hc]at de
     refine gu (ak q1 (ak q2 (ak z1 (ak z2 (ak z3 (ak z4 (ak hq @mN))))))) ?_
     refine de _ _ _ .busy none ae (same _ _ _ eW ae fun j hj=> ?_) cH (fun j h3 h4=>cH)
     by_cases e:j=nx+1
     ·exact Da
     ·exact cH
   ·have hp:ew 1 s' y=s':=by unfold ew;rw[if_neg (by simpa using h3)]
    rw[hp]at de
    refine ba ?_
    refine de _ _ _ .busy none ae (same _ _ _ eW ae fun j hj=> ?_) cH (fun j h3 h4=>cH)
    by_cases e:j=nx+1
    ·exact U2
    ·exact cH
  ·intro o' n' hI
   have hle:=hI.le
   simp only[qI]
   have AE:∀ (l:List Tm) (m:List (Int×Int)),(aA (Cp (fun _=>none) (ew 1)) m l).1=l.foldl (ew 1) m:=by
    intro l
    induction l with
    |nil=>intro m;rfl
    |cons y l ih=>intro m;simp only[aA,Cp,Option.isNone_none,if_true];exact ih _
   rw[AE]at hI
   refine ba ?_
   refine ai (k+1,(gK x).foldl (ew 1) m) ⟨h2,mi.symm⟩ jr (aZ.aV _ (show nx<=nx+7 from ae) ae (jZ _) (fun j hj=> ?_) ?_)
   ·rw[hI.eq j (by omega)]
    by_cases e:j=nx+1
    ·subst e;rw[gm,Yq]
    ·rw[g4 _ _ hj e,e3 j e];exact(zc _ j e).symm
   ·exact bZ
 ·simp at h2
  rw[List.take_of_length_le h2]at hm
  refine cz RY ?_
  exact hK _ _ _ _ ae ae ((jZ _).mono ae) (fun j hj=>by show au _ (nx+1) _ j=_;rw[ab _ _ _ _ (by omega),ab _ _ _ _ (by omega)]) (Yq m) hm
section
section
variable {B:Nat->Prop}{w:World}
end
theorem aW.uZ {P:Program}{f:FuncId}{ds:List D}{out:D}(h:cX P f (ds.map .d) (fun _=> .no) 0 (fun v o _=>∃x,dS o v=some x/\∀B w val,D.den B w x val->D.den B w out val) (fun _ _ _=>False)):aW P f ds (.ret [out]):=by
 refine⟨h.1,fun M w vals hM hd=> ?_⟩
 let cY:Place:=fun _=> .nilFunc
 have tJ:∀b, ¬cw cY (hp (fun _=> .no) 0) b:=by rintro b ⟨id,hl,_⟩;simp[hp,aa.live]at hl
 refine(h.2 M cY w vals (mB cY hM) ((V.cA _ _).2 (D.aQ (w:=w) (w':=w) (B:=M) (fun b _ hB=>⟨rfl,fun h=>h.elim hB (tJ b)⟩) _ _ hd))).mono ?_
 rintro e w' ⟨aH,o',nx',v,k1,k2,k3⟩
 have uI:ed (fun _=>False) w w':=⟨k2.keep.os,k2.keep.tape,k2.keep.output,k2.keep.size,fun k hk _=>k2.keep.block k hk (tJ k)⟩
 refine⟨uI, ?_⟩
 cases e with
 |outgrown=>exact k3.elim
 |panicked ch=>obtain⟨_,_,_,h⟩:=k3;exact h.elim
 |returned val=>
  obtain⟨g1,x,g2,g3⟩:=k3
  obtain⟨f1,f2,f3,f4,f5⟩:=cW k1 v.ids (fun id aq=>b9 v val g1 id aq)
  have h3:=eG f1 (o:=o') v x val (fun id aq=>f3 id aq) g2 (V.aS f2 _ _ g1)
  exact g3 _ _ _ (D.aS (w:=w') (w':=w') (fun k _ hB=>⟨rfl,fun hM=>hB (.inl hM)⟩) x val h3)
end
@[reducible] def PN (m:List (Int×Int)):D:= .mp ((enc (D.int .i64) (ints m)).map (·.1)) ((enc (D.int .i64) (ints m)).map (·.2))
theorem sD(m:List (Int×Int)):(((enc (D.int .i64) (ints m)).map (·.1)).zip ((enc (D.int .i64) (ints m)).map (·.2)))=enc (D.int .i64) (ints m):=S5 _ _
def ey(op:Int)(l:List Tm):List (Int×Int):=(l.flatMap gK).foldl (ew op) []
theorem aaN(t:Tm)(ht:t.fits):aW Tryz.prog 136 [t.d] (.ret [PN (ey 8 [t])]):=by
 refine aW.uZ (aaM t ht _ _ eW _ _ fun o' nx' id m _ _ _ _ ho hm=> ?_)
 refine⟨_,by simp only[dS,ho];rfl,fun B w val h=> ?_⟩
 have e:m=ey 8 [t]:=by rw[hm];simp[ey]
 rw[<- e];exact h
theorem u0(l:List Tm)(hl:l.length<=1000000)(hf:∀t∈l,t.fits):aW Tryz.prog 135 [.sl (l.map Tm.d)] (.ret [PN (ey 1 l)]):=by
 refine aW.uZ (E1 l hl hf _ _ eW _ _ fun o' nx' id m _ _ _ _ ho hm=> ?_)
 refine⟨_,by simp only[dS,ho];rfl,fun B w val h=> ?_⟩
 have e:m=ey 1 l:=hm
 rw[<- e];exact h
theorem vZ(o:Nat->aa)(m:List (Int×Int))(v:Int):jq Tryz.prog o 172 (.d (PN m)) (.d (.int .i64 v)) false=some (.d (.i (iy m v)),[],[]):=by
 cases h:lk m v with
 |none=>
  have e:iy m v=0:=by unfold iy;rw[h];rfl
  rw[e]
  exact s9 (ak (nA h) @sD)
 |some c=>
  have e:iy m v=c:=by unfold iy;rw[h];rfl
  obtain⟨j,hj⟩:=nz h
  rw[e]
  exact s9 (ak hj @sD)
theorem x5(l:List Int)(hl:l.length<=1000000)(o:Nat->aa)(fr:Nat):BO Tryz.prog 76 [.d (.sl (l.map .i))] [] o fr (.osl fr 0) [(fr, .arr 0 3 1 (l.map .i))]:=by
 refine BO.OT (ds:=[.sl (l.map .i)]) ?_
 refine cX.aI mix ZK aJ ?_
 rw[c76]
 have hu:Tryz.prog.underlying 37=some (.slice 3):=aK
 cases l with
 |nil=>
  have heq:∀O,ux Tryz.prog O 37 true (.d (.sl [])) .aU=some .fl:=by
   intro O
   unfold ux
   rw[hu]
   rfl
  simp only[List.map_cons,List.map_nil]
  refine cz heq ?_
  simp only[List.isEmpty_nil,if_true]
  refine cz heq ?_
  exact .inl ⟨3,1,rfl,af _ _ _⟩
 |cons a l=>
  have heq:∀O,ux Tryz.prog O 37 true (.d (.sl (D.i a::l.map D.i))) .aU=some (.d (.bool false)):=by
   intro O
   unfold ux
   rw[hu]
   rfl
  simp only[List.map_cons,List.map_nil]
  refine cz heq ?_
  simp only[List.isEmpty_nil,if_true]
  refine cz heq ?_
  rw[List.length_cons]at hl
  rw[if_pos (by omega)]
  refine ba ?_
  exact .inl ⟨3,1,rfl,af _ _ _⟩
def ixF:List Int->Int->Int->Int
 |[],_,_=> -1
 |x::l,v,k=>if v=x then k else ixF l v (k+1)
theorem PO:∀ (l:List Int) (v k:Int),0<=k->(decide (0<=ixF l v k)=l.contains v)
 |[],v,k,_=>rfl
 |x::l,v,k,hk=>by
  have ih:=PO l v (k+1) ae
  unfold ixF
  by_cases h:v=x
  ·rw[if_pos h];subst h;simp[hk]
  ·rw[if_neg h,ih];simp[List.contains_cons,h]
theorem PQ(l:List Int)(hl:l.length<=1000000)(v:Int):aW Tryz.prog 179 [.sl (l.map .i), .i v] (.ret [.i (ixF l v 0)]):=by
 refine aW.aI mix W0 aJ ?_
 rw[aap]
 refine mW ?_
 refine aw (fun k:Nat=>⟨aT [.d (.sl (l.map .i)), .d (.i v), .ag, .ag, .ag, .ag, .ag, .d (.i l.length), .d (.i k)],fun _=> .no,1⟩)
  (fun k=>k<=l.length/\ixF l v 0=ixF (l.drop k) v k) (fun k=>l.length - k) 0 ⟨Nat.zero_le _,rfl⟩ (aZ.aV _ (show 0<=1 from ae) ae eW (fun _ _=>rfl) ?_) (fun k hk=> ?_)
 ·exact bZ
 obtain⟨hk,vg⟩:=hk
 refine ba ?_
 refine aj (fun h2=> ?_) (fun h2=> ?_)
 ·simp at h2
  obtain⟨x,hx⟩:=az h2
  have hd:l.drop k=x::l.drop (k+1):=by
   obtain⟨g1,g2⟩:=List.getElem?_eq_some_iff.1 hx
   exact Np
  rw[hd]at vg
  simp only[ixF]at vg
  refine cz hx ?_
  refine aj (fun h3=> ?_) (fun h3=> ?_)
  ·have qF:v=x:=by simpa using h3
   rw[if_pos qF]at vg
   refine ba ?_
   rw[vg]
  ·have qF: ¬v=x:=by simpa using h3
   rw[if_neg qF]at vg
   refine ba ?_
   refine ai (k+1) ⟨h2,vg⟩ ae (aZ.aV _ (show 0<=1 from ae) ae eW (fun _ _=>rfl) ?_)
   exact bZ
 ·exact Ve
theorem E2(l:List Int)(hl:l.length<=1000000)(v:Int):aW Tryz.prog 163 [.sl (l.map .i), .i v] (.ret [.bool (l.contains v)]):=by
 refine aW.aI mix WQ aJ ?_
 rw[aaf]
 refine ba ?_
 refine aF (PQ l hl v) rfl ?_
 refine ba ?_
 rw[PO l v 0 (by omega)]
mutual
def Cs(m:List (Int×Int)):Tm->List Int->Bool
 | .mk op n kids,pO=>if op=1 then(iy m n==0||pO.contains n)else sE m op n kids 0 pO
def sE(m:List (Int×Int))(op n:Int):List Tm->Nat->List Int->Bool
 |[],_,_=>true
 |k::l,i,pO=>Cs m k (if op=8/\i=1 then pO++[n]else pO)&&sE m op n l (i+1) pO
end
theorem JR(m:List (Int×Int))(t:Tm)(pO:List Int):Cs m t pO=if t.op=1 then(iy m t.n==0||pO.contains t.n)else sE m t.op t.n t.kids 0 pO:=by cases t;rw[Cs];rfl
theorem PR(m:List (Int×Int)):∀t:Tm,t.fits->∀pO:List Int,pO.length+t.nK<=1000000->aW Tryz.prog 137 [t.d,PN m, .sl (pO.map .i)] (.ret [.bool (Cs m t pO)]):=by
 refine Tm.eJ fun t ih hf pO hb=> ?_
 have l0:=(Tm.bK _).1 hf
 refine aW.aI mix WE aJ ?_
 rw[Z5,JR]
 by_cases h1:t.op=1
 ·have nS:(t.op==1)=true:=by simpa using h1
  rw[if_pos h1]
  cases hc:(iy m t.n==0)with
  |true=>
   exact s9 (ak nS (ak hc @vZ))
  |false=>
   refine cz (ak nS (ak hc @vZ)) ?_
   refine aF (E2 pO ae t.n) rfl ?_
   exact s9 hc
 ·have nS:(t.op==1)=false:=by simpa using h1
  rw[if_neg h1]
  refine dY nS ?_
  refine aw (fun k:Nat=>⟨aT (.ag:: .d (PN m):: .d (.sl (pO.map .i)):: .ptr 0 0::gr (gr [.ag, .ag, .ag, .ag, .ag, .d (.sl (t.kids.map Tm.d)), .d (.i t.kids.length), .d (.i k)])),au (fun _=> .no) 0 (.row [.d (.i t.op), .d (.i t.n), .d (.sl (t.kids.map Tm.d))]),1⟩)
   (fun k=>k<=t.kids.length/\sE m t.op t.n t.kids 0 pO=sE m t.op t.n (t.kids.drop k) k pO) (fun k=>t.kids.length - k) 0 ⟨Nat.zero_le _,rfl⟩ (aZ.aV _ (show 0<=1 from ae) ae eW (fun _ _=>rfl) ?_) (fun k hk=> ?_)
  ·exact bZ
  obtain⟨hk,vg⟩:=hk
  have oj:=l0.1
  refine ba ?_
  refine aj (fun h2=> ?_) (fun h2=> ?_)
  ·simp at h2
   obtain⟨x,hx⟩:=az h2
   have dR:=List.mem_of_getElem? hx
   have hd:t.kids.drop k=x::t.kids.drop (k+1):=by
    obtain⟨g1,g2⟩:=List.getElem?_eq_some_iff.1 hx
    exact Np
   have hh:=Tm.pI dR
   rw[hd]at vg
   simp only[sE]at vg
   refine cz hx ?_
   refine aj (fun h3=> ?_) (fun h3=> ?_)
   ·have qF:t.op=8/\k=1:=by
     simp at h3
     exact⟨h3.1,ae⟩
    rw[if_pos qF]at vg
    refine ba ?_
    refine tR rfl (x5 pO ae _ _) ?_
    refine ba ?_
    refine aB bG ?_
    refine ba ?_
    have e:List.map D.i pO++[D.i t.n]=(pO++[t.n]).map D.i:=aJ
    rw[e]
    refine aF (ih x dR (l0.2 x dR) (pO++[t.n]) iA) rfl ?_
    refine ba ?_
    cases hs:Cs m x (pO++[t.n])with
    |false=>
     rw[hs,Bool.false_and]at vg
     refine cz hs ?_
     rw[vg]
    |true=>
     exact adf
   ·have qF: ¬ (t.op=8/\k=1):=by
     simp at h3
     intro⟨h4,h5⟩
     exact h3 h4 ae
    rw[if_neg qF]at vg
    refine ba ?_
    refine aF (ih x dR (l0.2 x dR) pO ae) rfl ?_
    refine ba ?_
    cases hs:Cs m x pO with
    |false=>
     rw[hs,Bool.false_and]at vg
     refine cz hs ?_
     rw[vg]
    |true=>
     exact adf
  ·exact Ve
mutual
def HE(v:Int):Tm->Bool
 | .mk op n kids=>if op=1 then n==v else sF v op n kids 0
def sF(v op n:Int):List Tm->Nat->Bool
 |[],_=>false
 |k::l,i=>(HE v k&& !(op==8&&i==1&&n==v))||sF v op n l (i+1)
end
theorem x6(v:Int)(t:Tm):HE v t=if t.op=1 then t.n==v else sF v t.op t.n t.kids 0:=by cases t;rfl
@[reducible] def Ta (l:List Int):aa:= .map 3 4 (enc (D.int .i64) (o8 l))
def vB(l:List Int)(x:Tm×Int):Bool:=(x.1.op !=1&&x.1.op !=3)||(x.1.op==1&&l.contains x.1.n)
def mO(s:List Int×Bool)(x:Tm×Int):List Int×Bool:=(if vB s.1 x=true then s.1 else if x.1.op=1 then Cr s.1 x.1.n else s.1, !vB s.1 x)
def pJ(s:List Int×Bool):Option lC:=if s.2=true then none else some .ret
def zp(t:Tm):Bool:=(aA (vX pJ mO) ([],true) (pre t 1)).2
theorem E3(s:cB)(hs:s.Fits)(t:Tm)(ht:t.Fin):aW Tryz.prog 132 [s.d,t.d] (.ret [.bool (gk s [t]&&zp t), .i (qe (gk s [t]))]):=by
 refine aW.aI mix Wz aJ ?_
 rw[Z0]
 refine ba ?_
 refine aF (JM s hs [t] aJ (fun x hx=>by simp at hx;subst hx;exact ht)) rfl ?_
 cases h1:gk s [t]with
 |false=>exact MW
 |true=>
  refine ir ?_
  refine eU (EV t _ _ _ _ ?_)
  refine ir ?_
  refine uV (σ:=List Int×Bool) t ht.fits ht.nK [.ag, .ag, .ag, .ag, .ptr 2 0, .ptr 3 0, .ptr 10 0] ?_ bG rfl eW ra (af _ _ _)
   (fun b=>au (au (au (au (au (au (au (au (fun _=> .no) 0 (.row s.row)) 1 (.row t.row)) 2 (.row [.d (.bool false)])) 3 (.row [.d (.i 0)])) 6 (.arr 0 55 3 [t.d])) 10 (.row [.mp 9])) 13 (.row t.row)) 9 (Ta b.1)) pJ mO (fun _=>True) ([],true) trivial rfl (fun id aq=> ?_) (fun _ _ _ _ _ _=>trivial) ?_ ?_
  ·exact Kw
  ·exact Rv
  ·intro L hL zA x hx s' h1 h2 o3 n3 hI hn ho K X de
   simp only[oP]
   have hg:=hI.bE
   have q1:o3 10= .row [.mp 9]:=hI.eq 10 ae
   have q2:o3 9=Ta s'.1:=hI.eq 9 ae
   have q3:o3 2= .row [.d (.bool false)]:=hI.eq 2 ae
   have q4:o3 3= .row [.d (.i 0)]:=hI.eq 3 ae
   refine ba ?_
   refine mL hL (pd:=none) ?_ ?_
   ·(repeat first|rfl|rw[af]|rw[ab _ _ _ _ (by omega)])
    exact ho
   refine cz (ak q1 q2) ?_
   have hv:vB s'.1 x=((x.1.op !=1&&x.1.op !=3)||(x.1.op==1&&s'.1.contains x.1.n)):=rfl
   rw[<- hv]
   have same:∀ (o':Nat->aa) (n':Nat) (l:List Int),Good o' n'->n3<=n'->(∀id,id<17->o' id=au o3 9 (Ta l) id)->dv 17 (au (au (au (au (au (au (au (au (fun _=> .no) 0 (.row s.row)) 1 (.row t.row)) 2 (.row [.d (.bool false)])) 3 (.row [.d (.i 0)])) 6 (.arr 0 55 3 [t.d])) 10 (.row [.mp 9])) 13 (.row t.row)) 9 (Ta l)) o' n':=fun o' n' l k1 k2 k3=>⟨k1,by have:=hI.le;omega,fun id aq=>by
    rw[k3 id aq]
    by_cases e:id=9
    ·subst e;rw[af,af]
    ·rw[ab _ _ _ _ e,ab _ _ _ _ e,hI.eq id aq,ab _ _ _ _ e]⟩
   cases hb:vB s'.1 x with
   |true=>
    have hp:mO s' x=(s'.1,false):=by simp[mO,hb]
    rw[hp]at de
    refine cz (ak q3 q4) ?_
    refine de _ _ _ .busy none ae (same _ _ _ eW ae fun id aq=> ?_) cH (fun id h3 h4=>cH)
    by_cases e9:id=9
    ·exact U0
    ·by_cases e2:id=2
     ·subst e2;(repeat first|rfl|rw[af]|rw[ab _ _ _ _ (by omega)])
      exact q3.symm
     ·by_cases e3:id=3
      ·subst e3;(repeat first|rfl|rw[af]|rw[ab _ _ _ _ (by omega)])
       exact q4.symm
      ·exact cH
   |false=>
    refine cz (ak q1 q2) ?_
    refine aj (fun h3=> ?_) (fun h3=> ?_)
    ·have qF:x.1.op=1:=by simpa using h3
     have hp:mO s' x=(Cr s'.1 x.1.n,true):=by simp[mO,hb,qF]
     rw[hp]at de
     refine cz (ak q1 q2) ?_
     refine de _ _ _ .busy none ae (same _ _ _ eW ae fun id aq=> ?_) cH (fun id h3 h4=>cH)
     by_cases e9:id=9
     ·subst e9;(repeat first|rfl|rw[af]|rw[ab _ _ _ _ (by omega)])
     ·exact cH
    ·have qF: ¬x.1.op=1:=by simpa using h3
     have hp:mO s' x=(s'.1,true):=by simp[mO,hb,qF]
     rw[hp]at de
     refine ba ?_
     refine de _ _ _ .busy none ae (same _ _ _ eW ae fun id aq=> ?_) cH (fun id h3 h4=>cH)
     by_cases e9:id=9
     ·exact U0
     ·exact cH
  ·intro o' n' hI
   have hJ:=Co pJ mO (pre t 1) ([],true) rfl
   have hpf:zp t=(pJ (aA (vX pJ mO) ([],true) (pre t 1)).1).isNone:=hJ
   have q0:o' 2= .row [.d (.bool false)]:=hI.eq 2 ae
   have q1:o' 3= .row [.d (.i 0)]:=hI.eq 3 ae
   rw[hpf]
   generalize (aA (vX pJ mO) ([],true) (pre t 1)).1=sf at*
   obtain⟨l,b⟩:=sf
   cases b<;>(simp only[pJ,if_true,if_false,Bool.false_eq_true,qI];simp+contextual (disch:=first|omega|simp only[go_sem,false_implies]) only[go_sem,wrap64,if_pos,q0,q1];simp[qe])
structure Rl where
 fn:Int
 aC:List Tm
 rhs:Tm
 vars:Int
@[reducible] def Rl.row (r:Rl):List V:=[.d (.i r.fn), .d (.sl (r.aC.map Tm.d)), .d (.i r.rhs.op), .d (.i r.rhs.n), .d (.sl (r.rhs.kids.map Tm.d)), .d (.i r.vars)]
@[reducible] def Rl.d (r:Rl):D:= .agg [.i r.fn, .sl (r.aC.map Tm.d), .i r.rhs.op, .i r.rhs.n, .sl (r.rhs.kids.map Tm.d), .i r.vars]
structure Rl.Fin (r:Rl):Prop where
 aC:r.aC.length<=1000000
 all:∀t∈r.aC,t.Fin
 rhs:r.rhs.Fin
theorem E4(l:List Tm)(hl:l.length<=9223372036854775807)(g:Nat)(aX:List V)(base:Nat)(h:Nat->aa)(p:Tm->Bool)(hc:∀r∈V.aM aX,r<base)
 (hp:∀x∈l,mh Tryz.prog g (.d x.d::aX) base h h (.d (.bool (p x)))):mh Tryz.prog 133 [.d (.sl (l.map Tm.d)), .func (.func g) [] aX] base h h (.d (.bool (l.all p))):=by
 have:=AK l hl g aX base (fun _:Unit=>h) (fun _ x=>((),p x)) hc (fun _=>True) (fun _ _ _ _ _=>trivial) (fun x hx _ _=>hp x hx) () trivial
 exact Nx
def lU(s:cB)(t:Tm):Bool:=gk s [t]&&zp t
theorem Tb(s:cB)(hs:s.Fits)(t:Tm)(ht:t.Fin)(base sp:Nat)(h:Nat->aa)(yN:h sp= .row s.row)(hb:sp<base):mh Tryz.prog 131 [.d t.d, .ptr sp 0] base h h (.d (.bool (lU s t))):=by
 intro o nx hI K X hK
 have hle:=hI.le
 have hg:=hI.bE
 have q0:o sp= .row s.row:=by rw[hI.eq sp hb,yN]
 refine cX.aI mix Wy aJ ?_
 rw[ZZ]
 refine cz q0 ?_
 refine aF (E3 s hs t ht) rfl ?_
 cases hr:gk s [t]with
 |false=>
  have e:lU s t=false:=by simp[lU,hr]
  exact adn
 |true=>
  have e:lU s t=zp t:=by simp[lU,hr]
  exact adn
theorem tY{K:V->List (Nat×aa)->Prop}{id:Nat}{l:List (Int×Int)}(h0:l=[]->K (.cc [.d (.bool false)]) [])
 (h1:∀ (i:Nat) n k,l[i]? =some (n,k)->K (.cc [.d (.bool true), .d (.int .i64 n), .d (D.i k)]) [(id, .pW (enc (D.int .i64) (ints (l.eraseIdx i))) (some (.int .i64 n,D.i k)))]):Je K id (enc (D.int .i64) (ints l)):=by
 refine LN _ (fun h=>h0 ?_) fun i k x h=> ?_
 ·cases l with
  |nil=>rfl
  |cons x l=>simp[ints]at h
 ·unfold ints at h|-
  rw[List.getElem?_map]at h
  cases hl:l[i]? with
  |none=>rw[hl]at h;cases h
  |some n=>
   rw[hl]at h
   simp at h
   obtain⟨rfl,rfl⟩:=h
   have:=h1 i n.1 n.2 hl
   rw[ny]
   exact this
theorem tZ{α:Type}{l:List α}{i:Nat}{n:α}(p:α->Bool)(h:l[i]? =some n):l.all p=(p n&&(l.eraseIdx i).all p):=by
 have hp:l.Perm (n::l.eraseIdx i):=by
  obtain⟨hi,e⟩:=List.getElem?_eq_some_iff.1 h
  have yN:l=l.take i++n::l.drop (i+1):=by rw[<- e,List.getElem_cons_drop,List.take_append_drop]
  rw[List.eraseIdx_eq_take_drop_succ]
  conv=>lhs;rw[yN]
  exact List.perm_middle
 rw[Bool.eq_iff_iff,List.all_eq_true,Bool.and_eq_true,List.all_eq_true]
 constructor
 ·intro h1
  exact⟨h1 _ (hp.mem_iff.2 aJ),fun x hx=>h1 x (hp.mem_iff.2 oh)⟩
 ·rintro⟨h1,h2⟩ x hx
  rcases List.mem_cons.1 (hp.mem_iff.1 hx)with e|e
  ·rw[e];exact h1
  ·exact h2 x e
theorem ua{α:Type}{l:List α}{i:Nat}{n:α}(h:l[i]? =some n):(l.eraseIdx i).length+1=l.length:=by
 obtain⟨hi,e⟩:=List.getElem?_eq_some_iff.1 h
 rw[List.length_eraseIdx];simp[hi];omega
def nM(s:cB)(r:Rl):Bool:=decide (0<=r.fn)&&(match s.bX[r.fn.toNat]? with|some f=>(r.aC.length:Int)==f.args|none=>false)&&decide (0<=r.vars)&&decide (r.vars<=20)&&r.aC.all (lU s)&&gk s [r.rhs]
def fG(s:cB)(r:Rl):Bool:=nM s r&&(ey 1 r.aC).all (fun p=>decide (p.2<=1)&&decide (p.1<r.vars))&&(ey 1 [r.rhs]).all (fun p=>decide (p.1<r.vars))&&
 (ey 8 [r.rhs]).all (fun p=>decide (p.2<=1)&&decide (p.1<r.vars)&&decide (iy (ey 1 r.aC) p.1<=0))&&Cs (ey 8 [r.rhs]) r.rhs []
theorem Ct{R:List Nat}{o:Nat->aa}{id:Nat}(h:id∈R):zg R o id=o id:=by simp[zg,h]
theorem L1{R:List Nat}{o:Nat->aa}{nx:Nat}(cS:∀id∈R,id<nx)(mY:∀id∈R,∀j∈(o id).refs,j∈R):Good (zg R o) nx:=by
 refine⟨fun id aq=> ?_,fun id r hr=> ?_⟩
 ·have:id∉R:=fun hm=>by have:=cS id hm;omega
  simp[zg,this]
 ·by_cases aq:id∈R
  ·rw[Ct aq]at hr;exact cS r (mY id aq r hr)
  ·have:zg R o id= .no:=by simp[zg,aq]
   rw[this]at hr;cases hr
theorem Tc(s:cB)(hs:s.Fits)(l:List Tm)(hl:l.length<=1000000)(hf:∀t∈l,t.Fin){o:Nat->aa}(ho:o 0= .row s.row):
 zh Tryz.prog 133 [.d (.sl (l.map Tm.d)), .func (.func 131) [] [.ptr 0 0]] [0] o (.ret [.bool (l.all (lU s))]) []:=by
 have cS:∀j∈[0],j<1:=aJ
 have mY:∀k∈[0],∀j∈(o k).refs,j∈[0]:=by
  intro k hk j hj
  simp at hk
  subst hk
  rw[ho]at hj;simp[aa.refs,V.aM,V.refs]at hj
 refine zh.jP cS ra mY aJ aJ ?_
 refine E4 l ae 131 [.ptr 0 0] 1 (zg [0] o) (lU s) ra (fun x hx=>Tb s hs x (hf x hx) 1 0 _ ((Ct aJ).trans ho) ae) _ _ ⟨L1 cS mY,Nat.le_refl _,fun _ _=>rfl⟩ _ _ fun o2 n2 m1 m2 m3=> ?_
 refine⟨fun k hk=> ?_,[.d (.bool (l.all (lU s)))],[.bool (l.all (lU s))],rfl,rfl,rfl,fun k hk=>by simp[V.bC,V.ids]at hk⟩
 simp at hk
 subst hk
 rw[m2.eq 0 (by omega),Ct (by simp)];rfl
set_option maxHeartbeats 1000000 in
theorem Td(s:cB)(hs:s.Fits)(r:Rl)(hr:r.Fin):aW Tryz.prog 100 [s.d,r.d] (.ret [.bool (fG s r)]):=by
 have MQ:=hr.aC
 refine aW.aI mix Wj aJ ?_
 rw[ZM]
 have hlf:=hs.lf
 have fin:∀ {b:Bool},nM s r=b->b=false->fG s r=false:=fun h1 h2=>by unfold fG;rw[h1,h2];rfl
 by_cases f1:r.fn<0
 ·have L2:decide (r.fn<0)=true:=by simpa using f1
  have e:fG s r=false:=fin (b:=false) (by unfold nM;rw[decide_eq_false (by omega: ¬0<=r.fn)];rfl) rfl
  refine zy L2 ?_
  exact UI
 have L2:decide (r.fn<0)=false:=by simpa using f1
 by_cases f2:(s.bX.length:Int)<=r.fn
 ·have JS:decide ((s.bX.length:Int)<=r.fn)=true:=by simpa using f2
  have e:fG s r=false:=fin (b:=false) (by unfold nM;rw[List.getElem?_eq_none (by omega:s.bX.length<=r.fn.toNat)];simp) rfl
  refine zy (ak L2 JS) ?_
  exact UI
 have JS:decide ((s.bX.length:Int)<=r.fn)=false:=by simpa using f2
 obtain⟨f,hf⟩:∃f,s.bX[r.fn.toNat]? =some f:=⟨_,List.getElem?_eq_getElem ae⟩
 by_cases f3: ¬ (r.aC.length:Int)=f.args
 ·have f3':((r.aC.length:Int)!=f.args)=true:=by simpa using f3
  have e:fG s r=false:=fin (b:=false) (by unfold nM;rw[hf];simp[f3]) rfl
  refine zy (ak L2 (ak JS (ak hf f3'))) ?_
  exact UI
 have f3':((r.aC.length:Int)!=f.args)=false:=by simpa using f3
 by_cases f4:r.vars<0
 ·have f4':decide (r.vars<0)=true:=by simpa using f4
  have e:fG s r=false:=fin (b:=false) (by unfold nM;rw[decide_eq_false (by omega: ¬0<=r.vars)];simp) rfl
  refine zy (ak L2 (ak JS (ak hf (ak f3' f4')))) ?_
  exact UI
 have f4':decide (r.vars<0)=false:=by simpa using f4
 by_cases f5:20<r.vars
 ·have f5':decide (20<r.vars)=true:=by simpa using f5
  have e:fG s r=false:=fin (b:=false) (by unfold nM;rw[decide_eq_false (by omega: ¬r.vars<=20)];simp) rfl
  refine zy (ak L2 (ak JS (ak hf (ak f3' (ak f4' f5'))))) ?_
  exact UI
 have f5':decide (20<r.vars)=false:=by simpa using f5
 have hh:nM s r=(r.aC.all (lU s)&&gk s [r.rhs]):=by
  unfold nM
  rw[hf]
  have g3:(r.aC.length:Int)=f.args:=by simpa using f3
  simp[g3,show 0<=r.fn by omega,show 0<=r.vars by omega,show r.vars<=20 by omega]
 refine zy (ak L2 (ak JS (ak hf (ak f3' (ak f4' f5'))))) ?_
 refine oU (rd:=[0]) rfl (Tc s hs r.aC MQ hr.all ?_) ?_
 ·exact cH
 cases h6:r.aC.all (lU s)with
 |false=>
  have e:fG s r=false:=fin hh (by rw[h6];rfl)
  refine ba ?_
  exact UI
 |true=>
  refine ba ?_
  refine aY (S8 s hs r.rhs hr.rhs) rfl ?_
  cases h7:gk s [r.rhs]with
  |false=>
   have e:fG s r=false:=fin hh (by rw[h6,h7];rfl)
   refine Gh ?_
   exact UI
  |true=>
   refine Gh ?_
   refine aB (aD rfl) ?_
   refine ba ?_
   have hR:fG s r=((ey 1 r.aC).all (fun p=>decide (p.2<=1)&&decide (p.1<r.vars))&&(ey 1 [r.rhs]).all (fun p=>decide (p.1<r.vars))&&
    (ey 8 [r.rhs]).all (fun p=>decide (p.2<=1)&&decide (p.1<r.vars)&&decide (iy (ey 1 r.aC) p.1<=0))&&Cs (ey 8 [r.rhs]) r.rhs []):=by
    unfold fG;rw[hh,h6,h7];rfl
   refine cf (u0 r.aC MQ (fun t ht=>(hr.all t ht).fits)) ?_
   refine ba ?_
   refine cf (aaN r.rhs hr.rhs.fits) ?_
   refine ba ?_
   refine aB (aD rfl) ?_
   refine cz @sD ?_
   refine aw (fun i:List (Int×Int)×Option (D×D)=>⟨aT (.ag:: .ag:: .ag:: .ptr 1 0:: .ag:: .ag:: .d (PN (ey 1 r.aC)):: .d (PN (ey 8 [r.rhs]))::gr (gr (gr (gr (gr (gr (gr [.ag, .ag, .ag, .ag, .ag, .ptr 62 0]))))))),au (au (au (fun _=> .no) 0 (.row [.d (.sl (s.cons.map jX.d)), .d (.sl (s.bX.map jX.d))])) 1 (.row [.d (.i r.fn), .d (.sl (r.aC.map Tm.d)), .d (.i r.rhs.op), .d (.i r.rhs.n), .d (.sl (r.rhs.kids.map Tm.d)), .d (.i r.vars)])) 62 (.pW (enc (D.int .i64) (ints i.1)) i.2),63⟩)
    (fun i=>(ey 1 r.aC).all (fun p=>decide (p.2<=1)&&decide (p.1<r.vars))=i.1.all (fun p=>decide (p.2<=1)&&decide (p.1<r.vars))) (fun i=>i.1.length) (ey 1 r.aC,none) rfl (aZ.aV _ (show 0<=63 from ae) ae eW (fun j hj=>cH) ?_) ?_
   ·exact bZ
   rintro⟨rest,last⟩ hA
   simp only at hA
   refine ba ?_
   refine tY (fun LG=> ?_) fun i n k hm=> ?_
   ·subst LG
    simp only[List.all_nil]at hA
    refine ir ?_
    refine br (u0 [r.rhs] aJ (fun t ht=>by simp at ht;subst ht;exact hr.rhs.fits)) ?_
    refine gu @sD ?_
    refine aw (fun i:List (Int×Int)×Option (D×D)=>⟨aT (.ag:: .ag:: .ag:: .ptr 1 0:: .ag:: .ag:: .d (PN (ey 1 r.aC)):: .d (PN (ey 8 [r.rhs]))::gr (gr (gr (gr (gr (gr (gr (gr (gr [.ag, .ag, .ag, .ag, .ag, .ag, .ag, .ptr 69 0]))))))))),au (au (au (au (au (fun _=> .no) 0 (.row [.d (.sl (s.cons.map jX.d)), .d (.sl (s.bX.map jX.d))])) 1 (.row [.d (.i r.fn), .d (.sl (r.aC.map Tm.d)), .d (.i r.rhs.op), .d (.i r.rhs.n), .d (.sl (r.rhs.kids.map Tm.d)), .d (.i r.vars)])) 62 (.pW (enc (D.int .i64) (ints [])) last)) 67 (.qg 0 [r.rhs.d])) 69 (.pW (enc (D.int .i64) (ints i.1)) i.2),70⟩)
     (fun i=>(ey 1 [r.rhs]).all (fun p=>decide (p.1<r.vars))=i.1.all (fun p=>decide (p.1<r.vars))) (fun i=>i.1.length) (ey 1 [r.rhs],none) rfl (aZ.aV _ (show 0<=70 from ae) ae eW (fun j hj=>by first|(rw[dW];done)|(repeat first|rfl|rw[af]|rw[ab _ _ _ _ (by omega)])|exact zy9) ?_) ?_
    ·exact bZ
    rintro⟨rest,agz⟩ hB
    simp only at hB
    refine ba ?_
    refine tY (fun LG=> ?_) fun i n k hm=> ?_
    ·subst LG
     simp only[List.all_nil]at hB
     refine gu @sD ?_
     refine aw (fun i:List (Int×Int)×Option (D×D)=>⟨aT (.ag:: .ag:: .ag:: .ptr 1 0:: .ag:: .ag:: .d (PN (ey 1 r.aC)):: .d (PN (ey 8 [r.rhs]))::gr (gr (gr (gr (gr (gr (gr (gr (gr (gr (gr [.ag, .ptr 73 0]))))))))))),au (au (au (au (au (au (fun _=> .no) 0 (.row [.d (.sl (s.cons.map jX.d)), .d (.sl (s.bX.map jX.d))])) 1 (.row [.d (.i r.fn), .d (.sl (r.aC.map Tm.d)), .d (.i r.rhs.op), .d (.i r.rhs.n), .d (.sl (r.rhs.kids.map Tm.d)), .d (.i r.vars)])) 62 (.pW (enc (D.int .i64) (ints [])) last)) 67 (.qg 0 [r.rhs.d])) 69 (.pW (enc (D.int .i64) (ints [])) agz)) 73 (.pW (enc (D.int .i64) (ints i.1)) i.2),74⟩)
      (fun i=>(ey 8 [r.rhs]).all (fun p=>decide (p.2<=1)&&decide (p.1<r.vars)&&decide (iy (ey 1 r.aC) p.1<=0))=i.1.all (fun p=>decide (p.2<=1)&&decide (p.1<r.vars)&&decide (iy (ey 1 r.aC) p.1<=0))) (fun i=>i.1.length) (ey 8 [r.rhs],none) rfl (aZ.aV _ (show 0<=74 from ae) ae eW (fun j hj=>cH) ?_) ?_
     ·exact bZ
     rintro⟨rest,ajo⟩ hC
     simp only at hC
     refine ba ?_
     refine tY (fun LG=> ?_) fun i n k hm=> ?_
     ·subst LG
      simp only[List.all_nil]at hC
      refine ir ?_
      refine aF (PR (ey 8 [r.rhs]) r.rhs hr.rhs.fits [] (by have:=hr.rhs.nK;simp;omega)) rfl ?_
      refine ba ?_
      rw[hR,hA,hB,hC];rfl
     ·have hle:=ua hm
      rw[tZ (fun p=>decide (p.2<=1)&&decide (p.1<r.vars)&&decide (iy (ey 1 r.aC) p.1<=0)) hm]at hC
      simp only at hC
      have bad:(decide (k<=1)&&decide (n<r.vars)&&decide (iy (ey 1 r.aC) n<=0))=false->fG s r=false:=fun e2=>by rw[hR,hC,e2];simp
      by_cases g1:1<k
      ·have g1':decide (1<k)=true:=by simpa using g1
       have e:=bad (by rw[decide_eq_false (by omega: ¬k<=1)];rfl)
       refine gu g1' ?_
       rw[e]
      have g1':decide (1<k)=false:=by simpa using g1
      by_cases g2:r.vars<=n
      ·have g2':decide (r.vars<=n)=true:=by simpa using g2
       have e:=bad (by rw[decide_eq_false (by omega: ¬n<r.vars)];simp)
       refine gu (ak g1' g2') ?_
       rw[e]
      have g2':decide (r.vars<=n)=false:=by simpa using g2
      by_cases g3:0<iy (ey 1 r.aC) n
      ·have g3':decide (0<iy (ey 1 r.aC) n)=true:=by simpa using g3
       have e:=bad (by rw[decide_eq_false (by omega: ¬iy (ey 1 r.aC) n<=0)];simp)
       refine gu (ak g1' (ak g2' (ak g3' @vZ))) ?_
       rw[e]
      have g3':decide (0<iy (ey 1 r.aC) n)=false:=by simpa using g3
      have e2:(decide (k<=1)&&decide (n<r.vars)&&decide (iy (ey 1 r.aC) n<=0))=true:=by
       simp;omega
      rw[e2,Bool.true_and]at hC
      refine gu (ak g1' (ak g2' (ak g3' @vZ))) ?_
      refine ai (rest.eraseIdx i,some (.int .i64 n,D.i k)) hC jr (aZ.aV _ (show 0<=74 from ae) ae eW (fun j hj=>by first|(rw[dW];done)|(repeat first|rfl|rw[af]|rw[ab _ _ _ _ (by omega)])) ?_)
      exact bZ
    ·have hle:=ua hm
     rw[tZ (fun p=>decide (p.1<r.vars)) hm]at hB
     simp only at hB
     refine ir ?_
     refine aj (fun h3=> ?_) (fun h3=> ?_)
     ·have e:fG s r=false:=by
       have e2:decide (n<r.vars)=false:=by
        simp at h3|-;omega
       rw[hR,hB,e2];simp
      exact ac5
     ·have e2:decide (n<r.vars)=true:=by
       simp at h3|-;omega
      rw[e2,Bool.true_and]at hB
      refine ba ?_
      refine ai (rest.eraseIdx i,some (.int .i64 n,D.i k)) hB jr (aZ.aV _ (show 0<=70 from ae) ae eW (fun j hj=>by first|(rw[dW];done)|(repeat first|rfl|rw[af]|rw[ab _ _ _ _ (by omega)])) ?_)
      exact bZ
   ·have hle:=ua hm
    rw[tZ (fun p=>decide (p.2<=1)&&decide (p.1<r.vars)) hm]at hA
    simp only at hA
    refine ir ?_
    refine aj (fun h3=> ?_) (fun h3=> ?_)
    ·have e:fG s r=false:=by
      have e2:(decide (k<=1)&&decide (n<r.vars))=false:=by
       simp at h3|-;omega
      rw[hR,hA,e2];simp
     exact ac5
    ·have e2:(decide (k<=1)&&decide (n<r.vars))=true:=by
      simp at h3|-;omega
     rw[e2,Bool.true_and]at hA
     refine ba ?_
     refine ai (rest.eraseIdx i,some (.int .i64 n,D.i k)) hA jr (aZ.aV _ (show 0<=63 from ae) ae eW (fun j hj=>by first|rw[dW]|(repeat first|rfl|rw[af]|rw[ab _ _ _ _ (by omega)])) ?_)
     exact bZ
def zq{σ α:Type}(step:σ->α->σ×Bool):σ->List α->Int->Int
 |_,[],_=> -1
 |s,x::l,k=>if(step s x).2=true then zq step (step s x).1 l (k+1)else k
theorem JT{σ α:Type}(step:σ->α->σ×Bool):∀ (l:List α) (s:σ) (k:Int),0<=k->(0<=zq step s l k↔(aA step s l).2=false)
 |[],_,_,_=>by simp[zq,aA]
 |x::l,s,k,hk=>by
  have ih:=JT step l (step s x).1 (k+1) ae
  by_cases h:(step s x).2=true
  ·simp only[zq,aA,h,if_true];exact ih
  ·simp[zq,aA,h,hk]
theorem aaO{σ:Type}(l:List Rl)(hl:l.length<=9223372036854775807)(g:Nat)(aX:List V)(base:Nat)(H:σ->Nat->aa)(step:σ->Rl->σ×Bool)(hc:∀r∈V.aM aX,r<base)(ok:σ->Prop)(bp:∀x∈l,∀s,ok s->(step s x).2=true->ok (step s x).1)
 (h:∀x∈l,∀s,ok s->mh Tryz.prog g (.d x.d::aX) base (H s) (H (step s x).1) (.d (.bool (!(step s x).2)))) (s:σ) (kO:ok s):
 mh Tryz.prog 158 [.d (.sl (l.map Rl.d)), .func (.func g) [] aX] base (H s) (H (aA step s l).1) (.d (.i (zq step s l 0))):=by
 intro o nx hI K X hK
 have jb:∀r∈V.aM aX,r<nx:=fun r hr=>Nat.lt_of_lt_of_le (hc r hr) hI.le
 refine cX.aI mix WK aJ ?_
 rw[aaa]
 refine dc ?_
 refine aw (fun i:Nat×σ×(Nat->aa)×Nat=>⟨aT [.d (.sl (l.map Rl.d)), .func (.func g) [] aX, .ag, .ag, .ag, .ag, .ag, .d (.i l.length), .d (.i i.1)],i.2.2.1,i.2.2.2⟩)
  (fun i=>i.1<=l.length/\dv base (H i.2.1) i.2.2.1 i.2.2.2/\nx<=i.2.2.2/\(∀id,base<=id->id<nx->i.2.2.1 id=o id)/\aA step s l=aA step i.2.1 (l.drop i.1)/\ok i.2.1/\zq step s l 0=zq step i.2.1 (l.drop i.1) i.1) (fun i=>l.length - i.1) (0,s,o,nx)
  ⟨Nat.zero_le _,hI,Nat.le_refl _,fun _ _ _=>rfl,rfl,kO,rfl⟩ ?_ ?_
 ·exact RF
 rintro⟨k,s',o',nx'⟩ ⟨hk,yW,hn,c8,hf,kB,Dk⟩
 simp only at hk yW hn c8 hf kB Dk
 refine dc ?_
 refine aj (fun h1=> ?_) (fun h1=> ?_)
 ·simp at h1
  obtain⟨x,hx⟩:=az h1
  have dR:=List.mem_of_getElem? hx
  have hd:l.drop k=x::l.drop (k+1):=by
   exact zw6
  rw[hd]at hf Dk
  simp only[aA,zq]at hf Dk
  refine yU hx ?_
  refine ij (h x dR s' kB _ _ (yW.mono ae) _ _ fun o2 n2 m1 m2 m3=> ?_)
  cases hb:(step s' x).2 with
  |true=>
   rw[hb]at hf Dk
   simp only[if_true]at hf Dk
   refine ba ?_
   have AD:∀r∈V.aM aX,r<n2+1+1:=fun r hr=>by have:=jb r hr;omega
   exact zw9
  |false=>
   exact UK
 ·exact UX
theorem E5{σ:Type}(l:List Rl)(hl:l.length<=9223372036854775807)(g:Nat)(aX:List V)(base:Nat)(H:σ->Nat->aa)(step:σ->Rl->σ×Bool)(hc:∀r∈V.aM aX,r<base)(ok:σ->Prop)(bp:∀x∈l,∀s,ok s->(step s x).2=true->ok (step s x).1)
 (h:∀x∈l,∀s,ok s->mh Tryz.prog g (.d x.d::aX) base (H s) (H (step s x).1) (.d (.bool (!(step s x).2)))) (s:σ) (kO:ok s):
 mh Tryz.prog 129 [.d (.sl (l.map Rl.d)), .func (.func g) [] aX] base (H s) (H (aA step s l).1) (.d (.bool (!(aA step s l).2))):=by
 intro o nx hI K X hK
 have jb:∀r∈V.aM aX,r<nx:=fun r hr=>Nat.lt_of_lt_of_le (hc r hr) hI.le
 refine cX.aI mix Ww aJ ?_
 rw[ZX]
 refine ir ?_
 refine bg (aaO l hl g aX base H step hc ok bp h s kO _ _ ?_ _ _ fun o2 n2 m1 m2 m3=> ?_)
 ·exact hI.mono ae
 refine ir ?_
 have e:decide (0<=zq step s l 0)= !(aA step s l).2:=by
  have:=JT step l s 0 ae
  exact Vd
 rw[e]
 exact Un
theorem agA{x:Rl}{g:Nat}{aX:List V}{base c bx:Nat}{h h2 O:Nat->aa}{r:Bool}(hS:mh Tryz.prog g (.d x.d::aX) base h h2 (.d (.bool r)))(hb:base<=bx)(Rb:bx<c)(hO:O bx= .row [.func (.func g) [] aX])(hc:∀r∈V.aM aX,r<base):
 mh Tryz.prog 130 [.d x.d, .ptr bx 0] c (ext base h O) (ext base h2 O) (.d (.bool (!r))):=by
 intro o nx hI K X hK
 have hle:=hI.le
 have jb:∀r∈V.aM aX,r<nx:=fun r hr=>by have:=hc r hr;omega
 have ho:o bx= .row [.func (.func g) [] aX]:=by
  rw[hI.eq bx Rb];unfold ext;rw[if_neg (by omega),hO]
 have y1:∀k,bx≠nx+k:=fun k=>ae
 have y2:bx≠nx:=ae
 refine cX.aI mix Wx aJ ?_
 rw[ZY]
 refine gu (ak ho (ak y1 y2)) ?_
 refine ij ((hS.ext (by omega:base<=c) O) _ _ ?_ _ _ fun o2 n2 m1 m2 m3=> ?_)
 ·exact hI.au ae ae ae rfl
 refine ir ?_
 exact acH
theorem L3{σ:Type}(l:List Rl)(hl:l.length<=9223372036854775807)(g:Nat)(aX:List V)(base:Nat)(H:σ->Nat->aa)(step:σ->Rl->σ×Bool)(hc:∀r∈V.aM aX,r<base)(ok:σ->Prop)(bp:∀x∈l,∀s,ok s->(step s x).2=true->ok (step s x).1)
 (h:∀x∈l,∀s,ok s->mh Tryz.prog g (.d x.d::aX) base (H s) (H (step s x).1) (.d (.bool (step s x).2))) (s:σ) (kO:ok s):
 mh Tryz.prog 98 [.d (.sl (l.map Rl.d)), .func (.func g) [] aX] base (H s) (H (aA step s l).1) (.d (.bool (aA step s l).2)):=by
 intro o nx hI K X hK
 have hle:=hI.le
 have jb:∀r∈V.aM aX,r<nx:=fun r hr=>Nat.lt_of_lt_of_le (hc r hr) hI.le
 refine cX.aI mix ae5 aJ ?_
 rw[c98]
 refine ir ?_
 refine bg (E5 l hl 130 [.ptr nx 0] (nx+1) (fun s=>ext base (H s) (au o nx (.row [.func (.func g) [] aX]))) step ra ok bp (fun x hx s hs=>agA (h x hx s hs) hle ae (af _ _ _) hc) s kO _ _ ?_ _ _ fun o2 n2 m1 m2 m3=> ?_)
 ·have hr:(aa.row [V.func (.func g) [] aX]).refs.all (fun r=>decide (r<nx+4))=true:=by
   rw[List.all_eq_true]
   intro r hr
   have h1:r∈V.aM aX:=by simpa[aa.refs,V.aM,V.refs]using hr
   have:=jb r h1
   simp;omega
  exact Uu
 refine ir ?_
 refine hK _ _ ae ⟨(m2.mono ae).bE,by have:=m2.le;omega,fun id aq=> ?_⟩ fun id i1 i2=> ?_
 ·exact M0
 ·exact T8
theorem Cu(l:List Rl)(hl:l.length<=9223372036854775807)(g:Nat)(aX:List V)(base:Nat)(h:Nat->aa)(p:Rl->Bool)(hc:∀r∈V.aM aX,r<base)
 (hp:∀x∈l,mh Tryz.prog g (.d x.d::aX) base h h (.d (.bool (p x)))):mh Tryz.prog 98 [.d (.sl (l.map Rl.d)), .func (.func g) [] aX] base h h (.d (.bool (l.all p))):=by
 have:=L3 l hl g aX base (fun _:Unit=>h) (fun _ x=>((),p x)) hc (fun _=>True) (fun _ _ _ _ _=>trivial) (fun x hx _ _=>hp x hx) () trivial
 exact Nx
structure Pg where
 sig:cB
 rules:List Rl
@[reducible] def Pg.row (p:Pg):List V:=[.d (.sl (p.sig.cons.map jX.d)), .d (.sl (p.sig.bX.map jX.d)), .d (.sl (p.rules.map Rl.d))]
@[reducible] def Pg.d (p:Pg):D:= .agg [.sl (p.sig.cons.map jX.d), .sl (p.sig.bX.map jX.d), .sl (p.rules.map Rl.d)]
structure Pg.Fin (p:Pg):Prop where
 sig:p.sig.Fits
 len:p.rules.length<=9223372036854775807
 all:∀r∈p.rules,r.Fin
def nN(p:Pg):Bool:=decide (p.rules.length<=16)&&(ke p.sig&&p.rules.all (fG p.sig))
theorem L4(p:Pg)(hp:p.Fin)(r:Rl)(hr:r∈p.rules)(base sp:Nat)(h:Nat->aa)(yN:h sp= .row p.row)(hb:sp<base):mh Tryz.prog 99 [.d r.d, .ptr sp 0] base h h (.d (.bool (fG p.sig r))):=by
 intro o nx hI K X hK
 have hle:=hI.le
 have hg:=hI.bE
 have q0:o sp= .row p.row:=by rw[hI.eq sp hb,yN]
 refine cX.aI mix ae6 aJ ?_
 rw[c99]
 refine cz q0 ?_
 refine aF (Td p.sig hp.sig r (hp.all r hr)) rfl ?_
 exact adw
theorem PS(p:Pg)(hp:p.Fin):aW Tryz.prog 71 [p.d] (.ret [.bool (nN p)]):=by
 have hl:=hp.len
 refine aW.aI mix ae1 aJ ?_
 rw[c71]
 unfold nN
 by_cases h0: ¬p.rules.length<=16
 ·have RW:decide ((p.rules.length:Int)<=16)=false:=by simp;omega
  have aaP:decide (p.rules.length<=16)=false:=by simp;omega
  refine dY RW ?_
  rw[aaP];rfl
 have RW:decide ((p.rules.length:Int)<=16)=true:=by simp;omega
 have aaP:decide (p.rules.length<=16)=true:=by simp;omega
 rw[aaP,Bool.true_and]
 refine dY RW ?_
 refine aF (xV p.sig hp.sig) rfl ?_
 cases h1:ke p.sig with
 |false=>
  refine Gh ?_
  try simp
 |true=>
  refine Gh ?_
  refine bg (Cu p.rules hl 99 [.ptr 0 0] 1 (au (fun _=> .no) 0 (.row p.row)) (fG p.sig) ra (fun x hx=>L4 p hp x hx 1 0 _ (af _ _ _) ae) _ _ ⟨eW,ae,fun id aq=>rfl⟩ _ _ fun o2 n2 m1 m2 m3=> ?_)
  refine ba ?_
  try simp
theorem PT(p:Pg)(hp:p.Fin):aW Tryz.prog 40 [p.d] (.ret [.i (qe (nN p))]):=by
 refine aW.aI mix aeS aJ ?_
 rw[c40]
 refine ba ?_
 refine aF (PS p hp) rfl ?_
 cases h1:nN p with
 |false=>exact MW
 |true=>exact MW
def lA(op v:Int)(xs:List Tm):Nat:=xs.countP fun x=>x.op==op&&x.n==v
theorem JU:∀ (m:List (Int×Int)) (v w u:Int),lk (mb m v w) u=if v=u then some w else lk m u
 |[],v,w,u=>by simp only[mb,lk]
 |p::m,v,w,u=>by
  have ih:=JU m v w u
  unfold mb
  by_cases h:p.1=v
  ·rw[if_pos h]
   simp only[lk]
   by_cases h2:v=u
   ·simp[h2]
   ·have: ¬p.1=u:=by rw[h];exact h2
    simp[h2,this]
  ·rw[if_neg h]
   simp only[lk]
   by_cases h2:p.1=u
   ·have: ¬v=u:=by intro e;exact h (h2.trans e.symm)
    simp[h2,this]
   ·simp only[h2,if_false];exact ih
theorem E6:∀ (m:List (Int×Int)) (v w u:Int),u∈(mb m v w).map (·.1)↔u=v\/u∈m.map (·.1)
 |[],v,w,u=>by simp[mb]
 |p::m,v,w,u=>by
  have ih:=E6 m v w u
  unfold mb
  by_cases h:p.1=v
  ·rw[if_pos h];simp[h]
  ·rw[if_neg h,List.map_cons,List.mem_cons,ih,List.map_cons,List.mem_cons]
   constructor
   ·rintro(h1|h1|h1)<;>simp[h1]
   ·rintro(h1|h1|h1)<;>simp[h1]
theorem AP:∀ (m:List (Int×Int)) (v w:Int),Keys m->Keys (mb m v w)
 |[],v,w,_=>by simp[mb,Keys]
 |p::m,v,w,hk=>by
  have IE:p.1∉m.map (·.1)/\Keys m:=by
   unfold Keys at hk|-
   rwa [List.map_cons,List.nodup_cons]at hk
  have ih:=AP m v w IE.2
  unfold mb
  by_cases h:p.1=v
  ·rw[if_pos h]
   unfold Keys
   rw[List.map_cons,List.nodup_cons]
   exact⟨by rw[<- h];exact IE.1,IE.2⟩
  ·rw[if_neg h]
   unfold Keys
   rw[List.map_cons,List.nodup_cons]
   exact⟨fun hm=>by
    rcases(E6 m v w p.1).1 hm with e|e
    ·exact h e
    ·exact IE.1 e,ih⟩
theorem HH(op:Int):∀ (xs:List Tm) (m:List (Int×Int)) (c:Int->Nat),Keys m->(∀v,lk m v=if c v=0 then none else some (c v:Int))->(∀v,c v+xs.length<=1000000)->
 Keys (xs.foldl (ew op) m)/\∀v,lk (xs.foldl (ew op) m) v=if c v+lA op v xs=0 then none else some ((c v+lA op v xs:Nat):Int)
 |[],m,c,hk,hl,_=>⟨hk,fun v=>by rw[List.foldl_nil,hl v];rfl⟩
 |x::xs,m,c,hk,hl,hb=>by
  simp only[List.foldl_cons]
  by_cases h:x.op=op
  ·have hg:iy m x.n=(c x.n:Int):=by
    unfold iy;rw[hl];split
    ·next h0=>rw[h0];rfl
    ·rfl
   have Yw:=hb x.n
   simp only[List.length_cons]at Yw hb
   have e1:ew op m x=mb m x.n ((c x.n+1:Nat):Int):=by
    unfold ew vA
    rw[if_pos h,hg,wrap64 (by omega) (by omega)]
    push_cast;rfl
   rw[e1]
   have ih:=HH op xs (mb m x.n ((c x.n+1:Nat):Int)) (fun v=>c v+if x.n=v then 1 else 0) (AP _ _ _ hk) (fun v=>by
    rw[JU]
    by_cases e:x.n=v
    ·subst e;simp
    ·simp[e,hl v]) (fun v=>by have:=hb v;split<;>omega)
   refine⟨ih.1,fun v=> ?_⟩
   rw[ih.2 v]
   have e2:(c v+if x.n=v then 1 else 0)+lA op v xs=c v+lA op v (x::xs):=by
    unfold lA
    rw[List.countP_cons]
    by_cases e:x.n=v<;>simp[h,e]<;>omega
   rw[e2]
  ·have e1:ew op m x=m:=by unfold ew;rw[if_neg h]
   rw[e1]
   have ih:=HH op xs m c hk hl (fun v=>by have:=hb v;simp at this;omega)
   refine⟨ih.1,fun v=> ?_⟩
   rw[ih.2 v]
   have e2:lA op v (x::xs)=lA op v xs:=by
    unfold lA
    rw[List.countP_cons];simp[h]
   rw[e2]
def pP(l:List Tm):List Tm:=l.flatMap gK
theorem JV(op:Int)(l:List Tm)(hb:(pP l).length<=1000000):Keys (ey op l)/\∀v,lk (ey op l) v=if lA op v (pP l)=0 then none else some (lA op v (pP l):Int):=by
 have:=HH op (pP l) [] (fun _=>0) List.nodup_nil (fun v=>by simp[lk]) (fun v=>by simpa using hb)
 refine⟨this.1,fun v=> ?_⟩
 have h:=this.2 v
 rw[Nat.zero_add]at h
 exact h
theorem E7(op:Int)(l:List Tm)(hb:(pP l).length<=1000000)(v:Int):iy (ey op l) v=(lA op v (pP l):Int):=by
 unfold iy
 rw[(JV op l hb).2 v]
 split
 ·next h=>rw[h];rfl
 ·rfl
theorem x7(op:Int)(l:List Tm)(hb:(pP l).length<=1000000)(p:Int×Int->Bool):(ey op l).all p=true↔∀v,0<lA op v (pP l)->p (v,(lA op v (pP l):Int))=true:=by
 obtain⟨hk,hl⟩:=JV op l hb
 rw[List.all_eq_true]
 constructor
 ·intro h v hv
  refine h _ ((JQ hk).1 ?_)
  rw[hl v,if_neg (by omega)]
 ·rintro h ⟨v,c⟩ hm
  have h1:=(JQ hk).2 hm
  rw[hl v]at h1
  split at h1
  ·cases h1
  ·next h0=>
   injection h1 with h1
   have:=h v ae
   rw[h1]at this
   exact this
end Go.Proofs.YtnkamdiiakdkgaaGreat
