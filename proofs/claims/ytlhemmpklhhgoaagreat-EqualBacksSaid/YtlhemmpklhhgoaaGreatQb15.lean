/-
  A PART OF THE PROOF. Conditions: none.
-/
import Derived.Shelf.Sort.Plain
import Derived.Shelf.Slices.In.SortNone
import Derived.Test.YtlhemmpklhhgoaaGreatQb14
set_option linter.unusedSimpArgs false
set_option linter.unusedVariables false
namespace Go.Proofs.YtlhemmpklhhgoaaGreat
section
theorem ze{σ:Type}(l:List Tm)(hl:l.length<=9223372036854775807)(g:Nat)(cz:List V)(base:Nat)(H:σ->Nat->ab)(step:σ->Tm->σ×Bool)(hc:∀r∈V.aP cz,r<base)(ok:σ->Prop)(aQ:∀x∈l,∀s,ok s->(step s x).2=true->ok (step s x).1)
 (h:∀x∈l,∀s,ok s->sD Tryz.prog g (.d x.d::cz) base (H s) (H (step s x).1) (.d (.bool (step s x).2))) (s:σ) (mR:ok s):
 sD Tryz.prog 169 [.d (.sl (l.map Tm.d)), .func (.func g) [] cz] base (H s) (H (aD step s l).1) (.d (.bool (aD step s l).2)):=by
 intro o nx hI K X hK
 have jB:∀r∈V.aP cz,r<nx:=fun r hr=>Nat.lt_of_lt_of_le (hc r hr) hI.le
 refine dA.aM mix Mh aK ?_
 rw[Pr]
 refine b8 ?_
 refine aH (fun i:Nat×σ×(Nat->ab)×Nat=>⟨ba [.aa, .func (.func g) [] cz, .aa, .aa, .aa, .aa, .aa, .d (.sl (l.map Tm.d)), .d (.i l.length), .d (.i i.1)],i.2.2.1,i.2.2.2⟩)
  (fun i=>i.1<=l.length/\ec base (H i.2.1) i.2.2.1 i.2.2.2/\nx<=i.2.2.2/\(∀id,base<=id->id<nx->i.2.2.1 id=o id)/\aD step s l=aD step i.2.1 (l.drop i.1)/\ok i.2.1) (fun i=>l.length - i.1) (0,s,o,nx)
  ⟨Nat.zero_le _,hI,Nat.le_refl _,fun _ _ _=>rfl,rfl,mR⟩ ?_ ?_
 ·exact Ni
 rintro⟨k,s',o',nx'⟩ ⟨hk,HV,hn,cI,hf,sF⟩
 simp only at hk HV hn cI hf sF
 refine b8 ?_
 refine ak (fun h1=> ?_) (fun h1=> ?_)
 ·simp at h1
  obtain⟨x,hx⟩:=aF h1
  have gI:=List.mem_of_getElem? hx
  have hd:l.drop k=x::l.drop (k+1):=by
   exact Nc
  refine MT hx ?_
  have YW:=HV.le
  refine gh (h x gI s' sF _ _ (?_:ec base (H s') _ (nx'+7)) _ _ fun o2 n2 m1 m2 m3=> ?_)
  ·exact R5
  have GW:∀id,base<=id->id<nx->o2 id=o id:=fun id h2 h3=>by
   exact Sg
  refine b8 ?_
  refine ak (fun h2=> ?_) (fun h2=> ?_)
  ·refine b8 ?_
   simp at h2
   have:aD step s l=((step s' x).1,false):=by rw[hf,hd,aD,if_neg (by rw[h2];exact Bool.false_ne_true)]
   rw[this]at hK
   exact hK _ _ af (m2.mono af) GW
  ·refine b8 ?_
   simp at h2
   have:aD step s l=aD step (step s' x).1 (l.drop (k+1)):=by rw[hf,hd,aD,if_pos h2]
   refine aw (k+1,(step s' x).1,o2,n2) ⟨h1,m2,by dsimp only;omega,GW,this,aQ x gI s' sF h2⟩ rh ?_
   dsimp only
   have Mx:∀r∈V.aP cz,r<n2:=fun r hr=>by have:=jB r hr;omega
   refine bG.bU _ af af m2.cc (fun _ _=>rfl) ?_
   exact dQ
 ·exact S3
theorem wO{α σ:Type}(step:σ->α->σ×Bool)(a b:List α):∀s,aD step s (a++b)=if(aD step s a).2=true then aD step (aD step s a).1 b else((aD step s a).1,false):=by
 induction a with
 |nil=>intro s;simp[aD]
 |cons x a ih=>
  intro s
  simp only[List.cons_append,aD]
  split
  ·exact ih _
  ·rename_i h;simp
theorem sG{α β σ:Type}(step:σ->β->σ×Bool)(f:α->List β)(l:List α):∀s,aD step s (l.flatMap f)=aD (fun s x=>aD step s (f x)) s l:=by
 induction l with
 |nil=>intro s;rfl
 |cons x l ih=>intro s;simp only[List.flatMap_cons,wO,aD,ih]
theorem xu{α σ:Type}{step:σ->α->σ×Bool}{ok:σ->Prop}:∀ (l:List α),(∀x∈l,∀s,ok s->(step s x).2=true->ok (step s x).1)->∀s,ok s->(aD step s l).2=true->ok (aD step s l).1
 |[],_,s,h,_=>h
 |x::l,aQ,s,h,h2=>by
  simp only[aD]at h2|-
  split at h2
  ·rename_i hb
   rw[if_pos hb]
   exact xu l (fun y hy=>aQ y mj) _ (aQ x aK s h hb) h2
  ·cases h2
def XS(P:Program)(sH:Nat)(args:List V)(base:Nat)(h h2:Nat->ab)(v:V):Prop:=
 ∀o nx,ec base h o nx->∀K X,WE base h2 v o nx K->c6 P sH args o nx K X
section
variable {σ:Type}(base sH:Nat)(H:σ->Nat->ab)(step:σ->Tm×Int->σ×Bool)(ok:σ->Prop)
theorem Jz:∀t:Tm,t.fits->∀d:Int,0<=d->d+t.mD<=1000000->(∀x∈pre t d,∀s,ok s->(step s x).2=true->ok (step s x).1)->(∀x∈pre t d,∀s,ok s->XS Tryz.prog sH [.d x.1.d, .d (.i x.2)] base (H s) (H (step s x).1) (.d (.bool (step s x).2)))->sH<base->
 ∀ (c:Nat) (o0:Nat->ab) (yb vb:Nat),base<=c->base<=yb->yb<c->base<=vb->vb<c->o0 yb= .row [.js sH]->o0 vb= .row [.func (.func 173) [] [.ptr yb 0, .ptr vb 0]]->
 ∀s,ok s->sD Tryz.prog 173 [.d t.d, .d (.i d), .ptr yb 0, .ptr vb 0] c (ext base (H s) o0) (ext base (H (aD step s (pre t d)).1) o0) (.d (.bool (aD step s (pre t d)).2)):=by
 refine Tm.fk fun t ih hf d hd0 hd aQ hR Ba c o0 yb vb hbc XT hy XU hv oy ov s mR=> ?_
 have tI:=(Tm.bD _).1 hf
 intro o nx hI K X hK
 have hle:=hI.le
 have Rx:o yb= .row [.js sH]:=by rw[hI.eq yb hy];unfold ext;rw[if_neg (by omega),oy]
 have PO:o vb= .row [.func (.func 173) [] [.ptr yb 0, .ptr vb 0]]:=by rw[hI.eq vb hv];unfold ext;rw[if_neg (by omega),ov]
 have y1:yb≠nx:=af
 have y2:∀k,yb≠nx+k:=fun k=>af
 have y3:vb≠nx:=af
 have y4:∀k,vb≠nx+k:=fun k=>af
 refine dA.aM mix Ml aK ?_
 rw[Pv]
 simp+contextual only[go_sem,Rx,PO,y1,y2,y3,y4,Nat.add_assoc,Nat.left_eq_add,Nat.add_eq_left,Nat.add_left_cancel_iff]
 have qJ:=lg t d
 have tz:∀k∈t.kids,∀x∈pre k (d+1),x∈pre t d:=fun k hk x hx=>by
  rw[qJ];exact List.mem_cons_of_mem _ (List.mem_flatMap.2 ⟨k,hk,hx⟩)
 have hb:∀id,id<base->o id=H s id:=fun id au=>by rw[hI.eq id (by omega)];unfold ext;rw[if_pos au]
 have XW:ec base (H s) o nx:=⟨hI.cc,af,hb⟩
 refine ql (hR (t,d) (by rw[qJ];simp) s mR _ _ ((XW.aI (i:=nx) (m:=nx+6) af af af rfl).aI (i:=nx+1) af af af rfl) _ _ fun o2 n2 m1 m2 m3=> ?_)
 have k0:o2 nx= .row t.row:=by rw[m3 nx (by omega) (by omega),ah _ _ _ _ (by omega),ae]
 have k1:o2 (nx+1)= .row [.d (.i d)]:=by rw[m3 (nx+1) (by omega) (by omega),ae]
 have hold:∀id,base<=id->id<nx->o2 id=o id:=fun id h1 h2=>by rw[m3 id h1 (by omega),ah _ _ _ _ (by omega),ah _ _ _ _ (by omega)]
 have ED:∀id,base<=id->id<c->o id=o0 id:=fun id h1 h2=>by rw[hI.eq id h2];unfold ext;rw[if_neg (by omega)]
 cases EH:(step s (t,d)).2 with
 |false=>
  refine jb EH ?_
  have CN:aD step s (pre t d)=((step s (t,d)).1,false):=by rw[qJ,aD,if_neg (by rw[EH];exact Bool.false_ne_true)]
  rw[CN]at hK
  refine hK _ _ af ⟨m2.cc.mono af,af,fun id au=> ?_⟩ (fun id h1 h2=>hold id af h2)
  unfold ext
  split
  ·exact m2.eq id (by assumption)
  ·exact Ig
 |true=>
  have CN:aD step s (pre t d)=aD (fun s k=>aD step s (pre k (d+1))) (step s (t,d)).1 t.kids:=by rw[qJ,aD,if_pos EH,sG]
  simp+contextual only[go_sem,EH,k0,k1]
  have q0:o2 yb= .row [.js sH]:=by rw[hold yb XT (by omega),Rx]
  have q1:o2 vb= .row [.func (.func 173) [] [.ptr yb 0, .ptr vb 0]]:=by rw[hold vb XU (by omega),PO]
  have m0:=m2.le
  refine bX (ze t.kids tI.1 174 [.ptr vb 0, .ptr (nx+1) 0] n2 (fun s=>ext base (H s) o2) (fun s k=>aD step s (pre k (d+1))) ?_ ok ?_ ?_ (step s (t,d)).1 (aQ (t,d) (by rw[qJ];simp) s mR EH) _ _ ?_ _ _ ?_)
  ·exact BM
  ·exact Sq
  ·intro k hk s' iI o3 n3 XX K3 X3 hK3
   have l3:=XX.le
   have r0:o3 vb= .row [.func (.func 173) [] [.ptr yb 0, .ptr vb 0]]:=by rw[XX.eq vb (by omega)];unfold ext;rw[if_neg (by omega),q1]
   have r1:o3 (nx+1)= .row [.d (.i d)]:=by rw[XX.eq (nx+1) (by omega)];unfold ext;rw[if_neg (by omega),k1]
   have y5:vb≠n3:=af
   have y6:∀k,vb≠n3+k:=fun k=>af
   have y7:nx+1≠n3:=af
   have y8:∀k,nx+1≠n3+k:=fun k=>af
   have hh:=Tm.wz hk
   refine dA.aM mix Mm aK ?_
   rw[Pw]
   simp+contextual only[go_sem,r0,r1,y5,y6,y7,y8]
   rw[wrap64 (n:=d+1) (by omega) (by omega)]
   refine bX (ih k hk (tI.2 k hk) (d+1) af af (fun x hx=>aQ x (tz k hk x hx)) (fun x hx=>hR x (tz k hk x hx)) Ba n2 o2 yb vb af XT af XU af q0 q1 s' iI _ _ (XX.aI (i:=n3) (m:=n3+6) af af af rfl) _ _ fun o4 n4 p1 p2 p3=> ?_)
   refine b8 ?_
   refine hK3 _ _ af (p2.mono af) (fun id h1 h2=> ?_)
   rw[p3 id h1 (by omega),ah _ _ _ _ (by omega)]
  ·exact(m2.mono af).ext af af
  ·intro o5 n5 p1 p2 p3
   refine b8 ?_
   rw[<- CN]
   refine hK _ _ af ⟨p2.cc.mono af,af,fun id au=> ?_⟩ (fun id h1 h2=> ?_)
   ·rw[p2.eq id (by omega), <- CN]
    unfold ext
    split
    ·rfl
    ·exact Ig
   ·rw[p2.eq id (by omega)]
    unfold ext
    rw[if_neg (by omega),hold id (by omega) h2]
theorem GX(t:Tm)(hf:t.fits)(hd:t.mD<=900000)(aQ:∀x∈pre t 1,∀s,ok s->(step s x).2=true->ok (step s x).1)(hR:∀x∈pre t 1,∀s,ok s->XS Tryz.prog sH [.d x.1.d, .d (.i x.2)] base (H s) (H (step s x).1) (.d (.bool (step s x).2)))(Ba:sH<base)(tb:Nat)(EU:tb<base)(s:σ)(mR:ok s)(cy:H s tb= .row t.row):
 sD Tryz.prog 172 [.js sH, .ptr tb 0] base (H s) (H (aD step s (pre t 1)).1) (.bH []):=by
 intro o nx hI K X hK
 have hle:=hI.le
 have ot:o tb= .row t.row:=by rw[hI.eq tb EU,cy]
 have y1:tb≠nx:=af
 have y2:∀k,tb≠nx+k:=fun k=>af
 refine dA.aM mix Mk aK ?_
 rw[Pu]
 simp+contextual only[go_sem,ot,y1,y2,Nat.add_assoc,Nat.left_eq_add,Nat.add_eq_left,Nat.add_left_cancel_iff]
 have hI1:ec base (H s) (aI (aI (aI o nx (.row [.js sH])) (nx+1) (.row [.d .bO])) (nx+1) (.row [.func (.func 173) [] [.ptr nx 0, .ptr (nx+1) 0]])) (nx+6):=by
  refine((hI.aI (i:=nx) (m:=nx+6) af af af ?_).aI (i:=nx+1) (m:=nx+6) af af af rfl).aI (i:=nx+1) af af af ?_
  ·simp[ab.refs,V.aP,V.refs];omega
  ·exact De
 refine bX (Jz base sH H step ok t hf 1 af af aQ hR Ba (nx+6) _ nx (nx+1) af hle af af af ?_ ?_ s mR _ _ (hI1.ext (Nat.le_refl _) af) _ _ ?_)
 ·exact fq
 ·exact fq
 intro o2 n2 m1 m2 m3
 refine b8 ?_
 refine hK _ _ af ⟨m2.cc,af,fun id au=> ?_⟩ (fun id h1 h2=> ?_)
 ·rw[m2.eq id (by omega)];unfold ext;rw[if_pos au]
 ·exact KI
end
theorem sI(t:Tm)(o:Nat->ab)(nx:Nat)(K X:V->(Nat->ab)->Nat->Prop)(h:K (.func (.func 172) [] [.ptr nx 0]) (aI o nx (.row t.row)) (nx+4)):dA Tryz.prog 159 [.d t.d] o nx K X:=by
 refine dA.aM mix Mb aK ?_
 rw[Pk]
 refine b8 ?_
 exact h
end
def My:Option iH->eT
 |none=> .normal
 |some .ret=> .ret
 |some (.exit j)=> .exit j
def tp{σ:Type}(J:σ->Option iH)(step:σ->Tm×Int->σ)(s:σ)(x:Tm×Int):σ×Bool:=(step s x,(J (step s x)).isNone)
theorem wP{σ:Type}(J:σ->Option iH)(step:σ->Tm×Int->σ):∀ (l:List (Tm×Int)) (s:σ),J s=none->(aD (tp J step) s l).2=(J (aD (tp J step) s l).1).isNone
 |[],s,h=>by simp[aD,h]
 |x::l,s,h=>by
  simp only[aD]
  split
  ·rename_i hb
   exact wP J step l _ (by simpa[tp]using hb)
  ·rename_i hb
   cases hj:J (step s x)with
   |none=>exact absurd (by simp[tp,hj]) hb
   |some j=>simp[tp,hj]
theorem lB{σ:Type}(t:Tm)(hf:t.fits)(hd:t.mD<=900000){n bq:Nat}{gq:Operand}{ps:List Nat}{jg eS:IC}{Q:eT->S->Prop}{e:Nat->V}{o:Nat->ab}{nx tb:Nat}(env:List V)(he:ly e env 0)
 (Gi:ps.all (fun t=>decide (t<n))=true) (hl:ps.length=2) (hg:Good o nx) (hrefs:∀r∈V.aP env,r<nx) (ht:o tb= .row t.row)
 (G:σ->Nat->ab) (J:σ->Option iH) (step:σ->Tm×Int->σ) (ok:σ->Prop) (s0:σ) (mR:ok s0) (WH:J s0=none) (h0:∀id,id<nx->o id=G s0 id) (aQ:∀x∈pre t 1,∀s,ok s->J s=none->J (step s x)=none->ok (step s x))
 (rL:∀L,gC Tryz.prog n env ps jg eS L->(∀st pd m,nx<=m->(L st pd).refs.all (fun r=>decide (r<m))=true)->∀x∈pre t 1,∀s,ok s->J s=none->∀o3 n3,ec nx (G s) o3 n3->nx<n3->o3 nx=L .ready none->∀K X,
  (∀e' o' n' st pd,n3<=n'->ec nx (G (step s x)) o' n'->o' nx=L st pd->(∀id,nx<id->id<n3->o' id=o3 id)->jo nx K X (My (J (step s x))) ⟨e',o',n'⟩)->
  kq Tryz.prog n n3 true jg (pE Tryz.prog n n3 nx eS K X) ⟨n9 (ba env) ps [.d x.1.d, .d (.i x.2)],o3,n3⟩)
 (fj:∀o' n',ec nx (G (aD (tp J step) s0 (pre t 1)).1) o' n'->pq Q (J (aD (tp J step) s0 (pre t 1)).1) ⟨e,o',n'⟩):
 yG Tryz.prog n bq false gq ps jg eS Q ⟨e,o,nx⟩ (.func (.func 172) [] [.ptr tb 0]):=by
 refine GS env he (fun L hL=> ?_)
 have EU:tb<nx:=hg.lt (by rw[ht];exact ab.noConfusion)
 let H:σ->Nat->ab:=fun s id=>if id<nx then G s id else if id=nx then(match J s with|none=>L .ready none|some j=>L .done (some j))else .no
 have EE:∀s id,id<nx->H s id=G s id:=fun s id h=>if_pos h
 have JA:∀s,J s=none->H s nx=L .ready none:=fun s h=>by show(if nx<nx then _ else _)=_;rw[if_neg (by omega),if_pos rfl,h]
 have PQ:∀s j,J s=some j->H s nx=L .done (some j):=fun s j h=>by show(if nx<nx then _ else _)=_;rw[if_neg (by omega),if_pos rfl,h]
 have BG:∀st pd m,nx<=m->(L st pd).refs.all (fun r=>decide (r<m))=true:=fun st pd m hm=>by
  exact Ti
 refine GX (nx+1) nx H (tp J step) (fun s=>ok s/\J s=none) t hf hd (fun x hx s h1 h2=> ?_) (fun x hx s h1=> ?_) af tb af s0 ⟨mR,WH⟩ (by rw[EE _ _ EU, <- h0 _ EU,ht]) _ _ ⟨?_,Nat.le_refl _,fun id au=> ?_⟩ _ _ ?_
 ·have hj:J (step s x)=none:=by simpa[tp]using h2
  exact⟨aQ x hx s h1.1 h1.2 hj,hj⟩
 ·intro o3 n3 hI K X hK
  have hle:=hI.le
  have PR:o3 nx=L .ready none:=by rw[hI.eq nx (by omega),JA s h1.2]
  refine yZ hL mix PR af Gi (by simp[hl]) ?_
  refine rL L hL BG x hx s h1.1 h1.2 o3 n3 ⟨hI.cc,af,fun id au=>by rw[hI.eq id (by omega),EE _ _ au]⟩ af PR K X (fun e' o' n' st pd k1 k2 k3 k4=> ?_)
  have key:∀st' pd' b,(J (step s x)).isNone=b->H (step s x) nx=L st' pd'->K (.d (.bool b)) (aI o' nx (L st' pd')) n':=fun st' pd' b hb hh=>by
   subst hb
   refine hK _ _ k1 ⟨k2.cc.aI af (BG _ _ _ af),af,fun id au=> ?_⟩ (fun id g1 g2=> ?_)
   ·by_cases tC:id=nx
    ·subst tC;rw[ae];exact hh.symm
    ·rw[ah _ _ _ _ tC]
     show o' id=H (step s x) id
     rw[EE _ _ (by omega)];exact k2.eq id af
   ·rw[ah _ _ _ _ (by omega)];exact k4 id af g2
  cases hj:J (step s x)with
  |none=>exact uY hL k3 (key _ _ _ tY (JA _ hj))
  |some j=>
   cases j with
   |ret=>exact sE hL k3 (key _ _ _ tY (PQ _ _ hj))
   |exit j=>exact qm hL k3 (key _ _ _ tY (PQ _ _ hj))
 ·exact(hg.mono af).aI af (BG _ _ _ af)
 ·by_cases tC:id=nx
  ·subst tC;rw[ae,JA _ WH]
  ·exact SH
 ·intro o' n' k1 k2 k3
  have hle:=k2.le
  generalize hsf:(aD (tp J step) s0 (pre t 1)).1=sf at*
  have kk:∀st pd,ec nx (G sf) (aI o' nx (L st pd)) n':=fun st pd=>⟨k2.cc.aI af (BG _ _ _ af),af,fun id au=>by rw[ah _ _ _ _ (by omega),k2.eq id (by omega),EE _ _ au]⟩
  cases hj:J sf with
  |none=>
   refine⟨.ready,none,by rw[k2.eq nx (by omega),JA _ hj],(fun h=>by cases h), ?_⟩
   have:=fj _ _ (kk .exhausted none)
   rwa [hj]at this
  |some j=>
   refine⟨.done,some j,by rw[k2.eq nx (by omega),PQ _ _ hj],(fun h=>by cases h), ?_⟩
   have:=fj _ _ (kk .exhausted (some j))
   rwa [hj]at this
theorem eU(n low high:Int):aX Tryz.prog 146 [.i n, .i low, .i high] (.ret [.bool (da n low high)]):=by
 refine aX.aM mix L6 aK ?_
 rw[Pc]
 refine b8 ?_
 rfl
theorem Bb(s:aN)(t:Tm)(h:t.op=1):aX Tryz.prog 194 [s.d,t.d] (.ret [.bool (a8 s t)]):=by
 have hn:a8 s t=(da t.n 0 19&&(t.kids.length:Int)==0):=by simp[a8,h,Bool.and_comm]
 refine aX.aM mix Mp aK ?_
 rw[Pz]
 exact Nj
theorem Ed(s:aN)(t:Tm)(h:t.op=2):aX Tryz.prog 195 [s.d,t.d] (.ret [.bool (a8 s t)]):=by
 have hn:a8 s t=(da t.n (-1000000) 1000000&&(t.kids.length:Int)==0):=by simp[a8,h,Bool.and_comm]
 refine aX.aM mix Mq aK ?_
 rw[PA]
 exact Nj
theorem WI(s:aN)(t:Tm)(h:t.op=8):aX Tryz.prog 199 [s.d,t.d] (.ret [.bool (a8 s t)]):=by
 have hn:a8 s t=(da t.n 0 19&&(t.kids.length:Int)==2):=by simp[a8,h,Bool.and_comm]
 refine aX.aM mix Mu aK ?_
 rw[PE]
 exact Nj
theorem PS(s:aN)(t:Tm)(h:t.op=6\/t.op=7\/t.op=9\/t.op=10\/t.op=11\/t.op=12\/t.op=13\/t.op=14\/t.op=15):aX Tryz.prog 200 [s.d,t.d] (.ret [.bool (a8 s t)]):=by
 have hn:a8 s t=(t.n==0&&(t.kids.length:Int)==2):=by
  rcases h with h|h|h|h|h|h|h|h|h<;>simp[a8,h,da,Bool.and_comm]
 refine aX.aM mix Mv aK ?_
 rw[PF]
 refine b8 ?_
 rw[hn]
theorem WJ(s:aN)(t:Tm)(hs:s.Fits)(h:t.op=3):aX Tryz.prog 196 [s.d,t.d] (.ret [.bool (a8 s t)]):=by
 have hn:a8 s t=(da t.n 0 (s.cons.length - 1)&&(t.kids.length:Int)==fI s.cons t.n):=by simp[a8,h]
 refine aX.aM mix Mr aK ?_
 rw[PB]
 refine b8 ?_
 rw[wrap64 (by have:=hs.lc;omega) (by have:=hs.lc;omega)]
 refine bc (eU _ _ _) rfl ?_
 cases hI:da t.n 0 (s.cons.length - 1)with
 |false=>
  exact Nh
 |true=>
  exact Yt
theorem WK(s:aN)(t:Tm)(hs:s.Fits)(h:t.op=4):aX Tryz.prog 197 [s.d,t.d] (.ret [.bool (a8 s t)]):=by
 have hn:a8 s t=(da t.n 0 (s.bF.length - 1)&&(t.kids.length:Int)==fI s.bF t.n):=by simp[a8,h]
 refine aX.aM mix Ms aK ?_
 rw[PC]
 refine b8 ?_
 rw[wrap64 (by have:=hs.lf;omega) (by have:=hs.lf;omega)]
 refine bc (eU _ _ _) rfl ?_
 cases hI:da t.n 0 (s.bF.length - 1)with
 |false=>
  exact Nh
 |true=>
  exact Yt
theorem PT(s:aN)(t:Tm)(hs:s.Fits)(h:t.op=5):aX Tryz.prog 198 [s.d,t.d] (.ret [.bool (a8 s t)]):=by
 have hn:a8 s t=(da t.n 0 (s.bF.length - 1)&&decide ((t.kids.length:Int)<fI s.bF t.n)):=by simp[a8,h]
 refine aX.aM mix Mt aK ?_
 rw[PD]
 refine b8 ?_
 rw[wrap64 (by have:=hs.lf;omega) (by have:=hs.lf;omega)]
 refine bc (eU _ _ _) rfl ?_
 cases hI:da t.n 0 (s.bF.length - 1)with
 |false=>
  exact Nh
 |true=>
  exact Yt
@[reducible] def rf (n:Nat):V:= .func (.func n) [] []
@[reducible] def aas:List V:=[.d .bO,rf 194,rf 195,rf 196,rf 197,rf 198, .d .bO, .d .bO,rf 199, .d .bO, .d .bO, .d .bO, .d .bO, .d .bO, .d .bO, .d .bO]
@[reducible] def Bc:List V:=[.d .bO,rf 194,rf 195,rf 196,rf 197,rf 198,rf 200,rf 200,rf 199,rf 200,rf 200,rf 200,rf 200,rf 200,rf 200,rf 200]
def EZ(k:Nat):List V:=Bc.take k++aas.drop k
theorem funcOf{P:Program}{t:TypeId}(h:(match P.underlying t with|some (.func _ _ _)=>true|_=>false)=true):∃a b c,P.underlying t=some (.func a b c):=by
 split at h
 ·exact⟨_,_,_,by assumption⟩
 ·cases h
@[go_sem] theorem aat (o:Nat->ab) (l7:Bool):th Tryz.prog o 209 l7 (.d .bO) (.d .bO)=some (.d (.bool true)):=by
  exact Kz
@[go_sem] theorem aau (o:Nat->ab) (l7:Bool) (f:Fn) (x y:List V):th Tryz.prog o 209 l7 (.func f x y) (.d .bO)=some (.d (.bool false)):=by
  exact Kz
theorem JB(base:Nat)(h:Nat->ab):sD Tryz.prog 187 [] base h h (.agg Bc):=by
 intro o nx hI K X hK
 have hle:=hI.le
 refine dA.aM mix Mo aK ?_
 rw[Py]
 simp+contextual only[go_sem,Nat.add_assoc,Nat.left_eq_add,Nat.add_eq_left,Nat.add_left_cancel_iff]
 refine aH (fun k:Nat=>⟨ba [.ptr nx 0, .ptr (nx+2) 0, .aa, .aa, .d (.i k)],aI (aI o nx (.row (List.replicate 16 (.d .bO)))) (nx+2) (.row (EZ k)),nx+5⟩)
  (fun k=>k<=16) (fun k=>16 - k) 0 (Nat.zero_le _) ?_ (fun k hk=> ?_)
 ·refine bG.bU _ af af ?_ (fun id au=> ?_) ?_
  ·exact((hI.cc.mono af).aI af rfl).aI af rfl
  ·rw[qY];rfl
  ·exact dQ
 have hg:∀k,k<16->Good (aI (aI o nx (.row (List.replicate 16 (.d .bO)))) (nx+2) (.row (EZ (k+1)))) (nx+5):=fun k hk=>
  ((hI.cc.mono af).aI af rfl).aI af (by
    rcases(by omega:k=0\/k=1\/k=2\/k=3\/k=4\/k=5\/k=6\/k=7\/k=8\/k=9\/k=10\/k=11\/k=12\/k=13\/k=14\/k=15)with rfl|rfl|rfl|rfl|rfl|rfl|rfl|rfl|rfl|rfl|rfl|rfl|rfl|rfl|rfl|rfl<;>rfl)
 by_cases aav:k=16
 ·subst aav
  refine RN ?_
  refine hK _ _ ?_ ⟨?_, ?_,fun id au=> ?_⟩ (fun id h1 h2=> ?_)
  rotate_left
  ·exact(((hI.cc.mono af).aI af rfl).aI af rfl).aI af rfl
  ·omega
  ·(repeat(first|rfl|rw[ae]|rw[ah _ _ _ _ (by omega)]))
   exact hI.eq id au
  ·exact fq
  ·omega
 ·have WL:=hg k af
  obtain⟨k1,K9⟩:∃k1,k1=k+1:=⟨_,rfl⟩
  rw[<- K9]at WL
  rcases(by omega:k=0\/k=1\/k=2\/k=3\/k=4\/k=5\/k=6\/k=7\/k=8\/k=9\/k=10\/k=11\/k=12\/k=13\/k=14\/k=15)with rfl|rfl|rfl|rfl|rfl|rfl|rfl|rfl|rfl|rfl|rfl|rfl|rfl|rfl|rfl|rfl
  all_goals
   refine RN ?_
   refine aw k1 af af (bG.bU _ af af WL (fun id au=> ?_) ?_)
   all_goals subst K9
   ·first|rfl|(rw[qY];rfl)
   ·exact dQ
def GY(n:Int):Nat:=if n=1 then 194 else if n=2 then 195 else if n=3 then 196 else if n=4 then 197 else if n=5 then 198 else if n=8 then 199 else 200
theorem PU(s:aN)(t:Tm)(hs:s.Fits)(h:da t.op 1 15=true):aX Tryz.prog (GY t.op) [s.d,t.d] (.ret [.bool (a8 s t)])/\Bc[t.op.toNat]? =some (rf (GY t.op))/\0<=t.op/\t.op<16:=by
 simp[da]at h
 rcases(by omega:t.op=1\/t.op=2\/t.op=3\/t.op=4\/t.op=5\/t.op=8\/(t.op=6\/t.op=7\/t.op=9\/t.op=10\/t.op=11\/t.op=12\/t.op=13\/t.op=14\/t.op=15))with h|h|h|h|h|h|h
 ·exact⟨by rw[h];exact Bb s t h,by rw[h];rfl,af,af⟩
 ·exact⟨by rw[h];exact Ed s t h,by rw[h];rfl,af,af⟩
 ·exact⟨by rw[h];exact WJ s t hs h,by rw[h];rfl,af,af⟩
 ·exact⟨by rw[h];exact WK s t hs h,by rw[h];rfl,af,af⟩
 ·exact⟨by rw[h];exact PT s t hs h,by rw[h];rfl,af,af⟩
 ·exact⟨by rw[h];exact WI s t h,by rw[h];rfl,af,af⟩
 ·have hp:=PS s t h
  rcases h with h|h|h|h|h|h|h|h|h<;>exact⟨by rw[h];exact hp,by rw[h];rfl,af,af⟩
def mc(s:aN)(n:Int)(x:Tm×Int):Bool:=decide (40<n+1)||decide (12<x.2)|| !da x.1.op 1 15|| !a8 s x.1
def fg(s:aN)(n:Int×Bool)(x:Tm×Int):Int×Bool:=(n.1+1, !mc s n.1 x)
def fJ(n:Int×Bool):Option iH:=if n.2=true then none else some .ret
def j8(s:aN)(t:Tm):Bool:=(aD (tp fJ (fg s)) (0,true) (pre t 1)).2
theorem GZ(s:aN)(hs:s.Fits)(t:Tm)(hf:t.fits)(hd:t.mD<=900000):aX Tryz.prog 171 [s.d,t.d] (.ret [.bool (j8 s t)]):=by
 refine aX.aM mix Mj aK ?_
 rw[Pt]
 refine b8 ?_
 refine dY (JB 3 _ _ _ (?_:ec 3 (aI (aI (aI (fun _=> .no) 0 (.row s.row)) 1 (.row t.row)) 2 (.row [.d (.bool false)])) _ 3) _ _ fun o2 n2 m1 m2 m3=> ?_)
 ·exact⟨ek,Nat.le_refl _,fun _ _=>rfl⟩
 have p0:o2 0= .row s.row:=m2.eq 0 af
 have p1:o2 1= .row t.row:=m2.eq 1 af
 have p2:o2 2= .row [.d (.bool false)]:=m2.eq 2 af
 have e0:0≠n2:=af
 have e1:1≠n2:=af
 have e2:2≠n2:=af
 have e3:∀k,0≠n2+k:=fun k=>af
 have e4:∀k,1≠n2+k:=fun k=>af
 have e5:∀k,2≠n2+k:=fun k=>af
 simp+contextual only[go_sem,p0,p1,p2,e0,e1,e2,e3,e4,e5,Nat.add_assoc,Nat.left_eq_add,Nat.add_eq_left,Nat.add_left_cancel_iff]
 refine dY (sI t _ _ _ _ ?_)
 refine b8 ?_
 have hG0:∀n,Good (aI (aI (aI (aI (aI (aI o2 n2 (.row (List.replicate 16 (.d .bO)))) (n2+1) (.row [.d (.i 0)])) n2 (.row Bc)) (n2+1) (.row [.d (.i 0)])) (n2+5) (.row t.row)) (n2+1) (.row [.d (.i n)])) (n2+9):=fun n=>by
  have hg:=m2.cc
  exact ek
 refine lB t hf hd [.aa, .aa, .ptr 0 0, .aa, .ptr 2 0, .ptr n2 0, .ptr (n2+1) 0] ?_ cA rfl ?_ BM (ae _ _ _)
  (fun s=>aI (aI (aI (aI (aI (aI o2 n2 (.row (List.replicate 16 (.d .bO)))) (n2+1) (.row [.d (.i 0)])) n2 (.row Bc)) (n2+1) (.row [.d (.i 0)])) (n2+5) (.row t.row)) (n2+1) (.row [.d (.i s.1)]))
  fJ (fg s) (fun s=>0<=s.1/\s.1<=40) (0,true) ⟨cA,cA⟩ rfl ?_ ?_ ?_ ?_
 ·exact Ic
 ·have hg:=m2.cc
  exact ek
 ·intro id au
  by_cases h:id=n2+1
  ·subst h;(repeat(first|rfl|rw[ae]|rw[ah _ _ _ _ (by omega)]))
  ·rw[ah _ _ _ _ h];rfl
 ·intro x hx s' h1 h2 h3
  have:mc s s'.1 x=false:=by simpa[fJ,fg]using h3
  simp[mc]at this
  simp only[fg]
  omega
 ·intro L hL BG x hx s' h1 h2 o3 n3 hI hn ho K X dC
  simp only[n9]
  have hg:=hI.cc
  have q0:o3 0= .row s.row:=by
   rw[hI.eq 0 (by omega)];(repeat(first|rfl|rw[ae]|rw[ah _ _ _ _ (by omega)]))
   exact p0
  have q2:o3 2= .row [.d (.bool false)]:=by
   exact S8
  have q3:o3 n2= .row Bc:=by rw[hI.eq n2 (by omega)];(repeat(first|rfl|rw[ae]|rw[ah _ _ _ _ (by omega)]))
  have q4:o3 (n2+1)= .row [.d (.i s'.1)]:=by rw[hI.eq (n2+1) (by omega)];(repeat(first|rfl|rw[ae]|rw[ah _ _ _ _ (by omega)]))
  have fin:∀ (o':Nat->ab) (n':Nat),(∀id,id<n2+5+4->o' id=aI o3 (n2+1) (.row [.d (.i (s'.1+1))]) id)->Good o' n'->n3<=n'->ec (n2+5+4) (aI (aI (aI (aI (aI (aI o2 n2 (.row (List.replicate 16 (.d .bO)))) (n2+1) (.row [.d (.i 0)])) n2 (.row Bc)) (n2+1) (.row [.d (.i 0)])) (n2+5) (.row t.row)) (n2+1) (.row [.d (.i (fg s s' x).1)])) o' n':=by
   intro o' n' k1 k2 k3
   refine⟨k2,af,fun id au=> ?_⟩
   rw[k1 id au]
   by_cases h:id=n2+1
   ·subst h;rw[ae,ae];rfl
   ·rw[ah _ _ _ _ h,ah _ _ _ _ h,hI.eq id au,ah _ _ _ _ h]
  refine b8 ?_
  refine om hL (pd:=none) ?_ ?_
  ·(repeat(first|rfl|rw[ae]|rw[ah _ _ _ _ (by omega)]))
   exact ho
  cases c1:decide (40<s'.1+1)with
  |true=>
   have hJ:fJ (fg s s' x)=some .ret:=by simp[fJ,fg,mc,c1]
   rw[hJ]at dC
   simp+contextual (disch:=first|omega|simp only[go_sem,false_implies]) only[go_sem,wrap64,if_pos,q0,q2,q3,q4,c1]
   exact Yp
  |false=>
  cases c2:decide (12<x.2)with
  |true=>
   have hJ:fJ (fg s s' x)=some .ret:=by simp[fJ,fg,mc,c2]
   rw[hJ]at dC
   refine Da q0 q2 q3 q4 c1 c2 ?_
   exact Yp
  |false=>
  cases c3:da x.1.op 1 15 with
  |false=>
   have hJ:fJ (fg s s' x)=some .ret:=by simp[fJ,fg,mc,c3]
   rw[hJ]at dC
   refine Da q0 q2 q3 q4 c1 c2 ?_
   refine bc (eU _ _ _) rfl ?_
   simp+contextual (disch:=first|omega|simp only[go_sem,false_implies]) only[go_sem,wrap64,if_pos,q0,q2,q3,q4,c1,c2,c3]
   exact Yp
  |true=>
  obtain⟨r1,r2,r3,r4⟩:=PU s x.1 hs c3
  refine Da q0 q2 q3 q4 c1 c2 ?_
  refine bc (eU _ _ _) rfl ?_
  simp+contextual (disch:=first|omega|simp only[go_sem,false_implies]) only[go_sem,wrap64,if_pos,q0,q2,q3,q4,c1,c2,c3,r2,r3,r4,Nat.mul_one]
  refine bc r1 rfl ?_
  simp+contextual (disch:=first|omega|simp only[go_sem,false_implies]) only[go_sem,wrap64,if_pos,q0,q2,q3,q4,c1,c2,c3]
  refine aR (bp rfl) ?_
  cases c4:a8 s x.1 with
  |false=>
   have hJ:fJ (fg s s' x)=some .ret:=by simp[fJ,fg,mc,c4]
   rw[hJ]at dC
   simp+contextual (disch:=first|omega|simp only[go_sem,false_implies]) only[go_sem,wrap64,if_pos,q2,c4]
   refine dC _ _ _ .busy none af (fin _ _ (fun id au=>MY) ek af) fq (fun id h3 h4=>by(repeat(first|rfl|rw[ae]|rw[ah _ _ _ _ (by omega)])))
  |true=>
   have hJ:fJ (fg s s' x)=none:=by simp[fJ,fg,mc,c1,c2,c3,c4]
   rw[hJ]at dC
   simp+contextual (disch:=first|omega|simp only[go_sem,false_implies]) only[go_sem,wrap64,if_pos,c4]
   refine dC _ _ _ .busy none af (fin _ _ (fun id au=>MY) ek af) fq (fun id h3 h4=>by(repeat(first|rfl|rw[ae]|rw[ah _ _ _ _ (by omega)])))
 ·intro o' n' hI
  have q2:o' 2= .row [.d (.bool false)]:=by
   exact S8
  rw[show j8 s t=(fJ (aD (tp fJ (fg s)) (0,true) (pre t 1)).1).isNone from wP _ _ _ _ rfl]
  generalize (aD (tp fJ (fg s)) (0,true) (pre t 1)).1=sf at*
  cases hj:fJ sf with
  |none=>
   simp only[pq]
   refine mg q2 ?_
   rfl
  |some j=>
   have:j= .ret:=by
    unfold fJ at hj;split at hj
    ·cases hj
    ·injection hj with hj;exact hj.symm
   subst this
   simp only[pq]
   refine mg q2 ?_
   rfl
section
def enc{κ:Type}(kf:κ->D)(m:List (κ×D)):List (D×D):=m.map fun p=>(kf p.1,p.2)
def gM{κ:Type}[BEq κ](k:κ):List (κ×D)->Nat->Option (Nat×D)
 |[],_=>none
 |p::m,i=>if(k==p.1)=true then some (i,p.2)else gM k m (i+1)
def Ee{κ:Type}[BEq κ](k:κ)(x:D)(m:List (κ×D)):List (κ×D):=match gM k m 0 with|some (i,_)=>m.set i (k,x)|none=>m++[(k,x)]
def WM{κ:Type}[BEq κ](k:κ)(m:List (κ×D)):List (κ×D):=match gM k m 0 with|some (i,_)=>m.eraseIdx i|none=>m
def tN(d:D)(r:Option (Nat×D)):Option (Nat×D×D):=match r with|some (i,x)=>some (i,d,x)|none=>none
@[go_sem] theorem Ry (d:D) (i:Nat) (x:D):tN d (some (i,x))=some (i,d,x):=rfl
@[go_sem] theorem Rz (d:D):tN d none=none:=rfl
section
variable {P:Program}{kt:TypeId}
theorem JC(h:bw P kt=some .int)(a b:Int):nk P 100 kt (.int .i64 a) (.int .i64 b)=some (a==b):=by simp[nk,h]
theorem JD(h:bw P kt=some .str)(a b:List UInt8):nk P 100 kt (.str a) (.str b)=some (a==b):=by simp[nk,h]
@[go_sem] theorem CO (h:bw P kt=some .int) (a:Int):l8 P 100 kt (.int .i64 a)=true:=by simp[l8,h]
@[go_sem] theorem XY (h:bw P kt=some .str) (a:List UInt8):l8 P 100 kt (.str a)=true:=by simp[l8,h]
theorem sJ{κ:Type}[BEq κ][LawfulBEq κ](kf:κ->D)(he:∀a b,nk P 100 kt (kf a) (kf b)=some (a==b))(k:κ):∀ (m:List (κ×D)) (i:Nat),findD P kt (kf k) (enc kf m) i=some (tN (kf k) (gM k m i))
 |[],_=>rfl
 |p::m,i=>by
  have ih:=sJ kf he k m (i+1)
  simp only[enc,List.map_cons,findD,he,gM]at ih|-
  by_cases h:k=p.1
  ·subst h;simp[tN]
  ·have:(k==p.1)=false:=by simpa using h
   simp only[this,Bool.false_eq_true,if_false];exact ih
@[go_sem] theorem zf (h:bw P kt=some .int) (k:Int) (m:List (Int×D)):findD P kt (.int .i64 k) (enc (.int .i64) m) 0=some (tN (.int .i64 k) (gM k m 0)):=sJ (.int .i64) (JC h) k m 0
@[go_sem] theorem WN (h:bw P kt=some .str) (k:List UInt8) (m:List (List UInt8×D)):findD P kt (.str k) (enc .str m) 0=some (tN (.str k) (gM k m 0)):=sJ .str (JD h) k m 0
end
section
variable {κ:Type}(kf:κ->D)
theorem G0(m:List (κ×D))(k:κ)(x:D):enc kf m++[(kf k,x)]=enc kf (m++[(k,x)]):=by simp[enc]
theorem CP(m:List (κ×D))(i:Nat)(k:κ)(x:D):(enc kf m).set i (kf k,x)=enc kf (m.set i (k,x)):=by simp[enc,List.map_set]
theorem uZ:∀ (m:List (κ×D)) (i:Nat),(enc kf m).eraseIdx i=enc kf (m.eraseIdx i)
 |[],i=>rfl
 |p::m,0=>rfl
 |p::m,i+1=>by
  have:=uZ m i
  simp only[enc,List.map_cons,List.eraseIdx_cons_succ]at this|-
  rw[this]
theorem JE(m:List (κ×D)):(((enc kf m).map (·.1)).zip ((enc kf m).map (·.2)))=enc kf m:=by
 induction m with
 |nil=>rfl
 |cons p m ih=>simp only[enc,List.map_cons,List.zip_cons_cons]at ih|-;rw[ih]
theorem Eg{K:V->List (Nat×ab)->Prop}{id:Nat}{m:List (κ×D)}(h0:m=[]->K (.bH [.d (.bool false)]) [])
 (h1:∀ (i:Nat) k x,m[i]? =some (k,x)->K (.bH [.d (.bool true), .d (kf k), .d x]) [(id, .oX (enc kf (m.eraseIdx i)) (some (kf k,x)))]):Co K id (enc kf m):=by
 refine⟨fun h=>h0 ?_,fun i k x h=> ?_⟩
 ·cases m with
  |nil=>rfl
  |cons p m=>simp[enc]at h
 ·simp only[enc,List.getElem?_map]at h
  cases hm:m[i]? with
  |none=>rw[hm]at h;cases h
  |some p=>
   rw[hm]at h
   simp at h
   obtain⟨rfl,rfl⟩:=h
   have:=h1 i p.1 p.2 (by rw[hm])
   rwa [<- uZ]at this
end
theorem zg{κ:Type}[BEq κ][LawfulBEq κ]{k:κ}:∀ {m:List (κ×D)} {i j:Nat} {x:D},gM k m i=some (j,x)->i<=j/\m[j - i]? =some (k,x)
 |[],_,_,_,h=>by cases h
 |p::m,i,j,x,h=>by
  simp only[gM]at h
  split at h
  ·rename_i hk
   injection h with h;injection h with h1 h2
   subst h1;subst h2
   exact⟨Nat.le_refl _,by simp[(by simpa using hk:k=p.1)]⟩
  ·obtain⟨h1,h2⟩:=zg h
   refine⟨af, ?_⟩
   rw[show j - i=(j - (i+1))+1 by omega]
   simpa using h2
theorem u0{κ:Type}[BEq κ][LawfulBEq κ]{k:κ}:∀ {m:List (κ×D)} {i:Nat},gM k m i=none↔∀p∈m,p.1≠k
 |[],_=>by simp[gM]
 |p::m,i=>by
  simp only[gM]
  split
  ·rename_i hk
   simp[(by simpa using hk:k=p.1)]
  ·rename_i hk
   rw[u0]
   have:p.1≠k:=fun e=>hk (by simp[e])
   simp[this]
def oq(P:Program)(o:Nat->ab)(t:TypeId)(m k v:V):Option eD:=
 match pa P t,dv o k,dv o v,mu o m with
 |some (kt,_),some kd,some vd,some (some (id,BW,BX),l)=>if k.ids=[]/\l8 P 100 kt kd=true/\jh kd=true/\v.ids.all (· !=id)=true then match findD P kt kd l 0 with
  |some (some (i,k',_))=>if k'.same kd=true then some (.bH [],bP o v.ids++[(id, .map BW BX (l.set i (kd,vd)))],id::v.ids)else none
  |some none=>some (.bH [],bP o v.ids++[(id, .map BW BX (l++[(kd,vd)]))],id::v.ids)
  |none=>none
  else none
 |_,_,_,_=>none
@[go_sem low] theorem u5 (P:Program) (o:Nat->ab) (t:TypeId) (m v:V) (k:D):ew P o t m (.d k) v=oq P o t m (.d k) v:=by unfold ew oq;rfl
def sK(P:Program)(o:Nat->ab)(t:TypeId)(m k:V)(ok:Bool):Option eD:=
 match pa P t,dv o k,nB o m with
 |some (kt,vt),some kd,some (rd,l)=>if k.ids=[]/\l8 P 100 kt kd=true then match findD P kt kd l 0 with
  |some (some (_,_,x))=>some (if ok=true then .bH [.d x, .d (.bool true)]else .d x,[],rd)
  |some none=>match zeroV P vt with
   |some z=>some (if ok=true then .bH [z, .d (.bool false)]else z,[],rd)
   |none=>none
  |none=>none
  else none
 |_,_,_=>none
@[go_sem low] theorem lV (P:Program) (o:Nat->ab) (t:TypeId) (m:V) (k:D) (ok:Bool):gK P o t m (.d k) ok=sK P o t m (.d k) ok:=by unfold gK sK;rfl
attribute [go_sem] sK oq lN kH kI mw my kJ nB mu Yz mq jh D.same
end
theorem dec_lt{l:List UInt8}{i:Nat}{b:UInt8}(hb:l[i]? =some b)(h:b.toNat<128):Utf8.decode ⟨⟨l⟩⟩ i=(b.toNat,1):=by
 have e:(ByteArray.mk ⟨l⟩).get! i=b:=by
  show(Array.mk l)[i]! =b
  simp[hb]
 simp only[Utf8.decode,Nat.add_zero,e]
 rw[if_pos h]
theorem PV{l:List UInt8}{i:Nat}{b:UInt8}(hb:l[i]? =some b)(h:128<=b.toNat):128<=(Utf8.decode ⟨⟨l⟩⟩ i).1:=by
 have e:(ByteArray.mk ⟨l⟩).get! i=b:=by
  show(Array.mk l)[i]! =b
  simp[hb]
 simp only[Utf8.decode,Nat.add_zero,e]
 rw[if_neg (by omega)]
 split
 ·split<;>simp_all[Utf8.runeError]
 ·split
  ·split
   ·rename_i h3;simp at h3;omega
   ·simp[Utf8.runeError]
  ·split
   ·split
    ·rename_i h3;simp at h3;omega
    ·simp[Utf8.runeError]
   ·simp[Utf8.runeError]
def JF(r:Int):Bool:=decide (97<=r)&&decide (r<=122)||decide (65<=r)&&decide (r<=90)
theorem G1(b:UInt8):JF b.toNat=letterF b:=by
 rw[Bool.eq_iff_iff]
 simp[JF,letterF]
theorem Eh(s:List UInt8)(hs:s.length<=9223372036854775807):aX Tryz.prog 145 [.str s] (.ret [.bool (iy s)]):=by
 refine aX.aM mix L5 aK ?_
 rw[Pb]
 refine oQ ?_
 refine aH (fun k:Nat=>⟨ba [.d (.str s), .aa, .aa, .aa, .aa, .aa, .ptr 2 0],aI (fun _=> .no) 2 (.vy s k),3⟩)
  (fun k=>k<=s.length/\(s.take k).all letterF=true) (fun k=>s.length - k) 0 ⟨Nat.zero_le _,aK⟩ (bG.bU _ af af (Good.nil.aI af rfl) (fun _ _=>rfl) ?_) (fun k hk=> ?_)
 ·exact dQ
 by_cases h2:k<s.length
 ·obtain⟨b,hb⟩:=aF h2
  by_cases h3:b.toNat<128
  ·simp+contextual (disch:=first|omega|simp only[go_sem,false_implies]) only[go_sem,wrap64,if_pos,Nat.add_assoc,Nat.left_eq_add,Nat.add_eq_left,Nat.add_left_cancel_iff,h2,dec_lt hb h3]
   have hr:=G1 b
   simp only[JF]at hr
   rw[hr]
   cases hl:letterF b with
   |true=>
    refine cm ?_
    refine aw (k+1) ⟨h2,lz hb hk.2 hl⟩ af (bG.bU _ af af (Good.nil.aI af rfl) (fun _ _=>by rw[qY]) ?_)
    exact dQ
   |false=>
    refine cm ?_
    simp[iy,jI hb hl]
  ·have hr:letterF b=false:=by
    rw[<- G1];simp[JF];omega
   have hd:=PV hb af
   refine MM h2 ?_
   have:(decide (97<=((Utf8.decode ⟨⟨s⟩⟩ k).1:Int))&&decide (((Utf8.decode ⟨⟨s⟩⟩ k).1:Int)<=122)||decide (65<=((Utf8.decode ⟨⟨s⟩⟩ k).1:Int))&&decide (((Utf8.decode ⟨⟨s⟩⟩ k).1:Int)<=90))=false:=by
    rw[Bool.eq_false_iff];intro h;simp at h;omega
   rw[this]
   refine cm ?_
   simp[iy,jI hb hr]
 ·refine MM h2 ?_
  refine ao (eU _ _ _) rfl ?_
  refine cm ?_
  rw[iy,lA hk.2 (by omega),Bool.true_and]
theorem zh{σ:Type}(l:List dZ)(hl:l.length<=9223372036854775807)(g:Nat)(cz:List V)(base:Nat)(H:σ->Nat->ab)(step:σ->dZ->σ×Bool)(hc:∀r∈V.aP cz,r<base)(ok:σ->Prop)(aQ:∀x∈l,∀s,ok s->(step s x).2=true->ok (step s x).1)
 (h:∀x∈l,∀s,ok s->sD Tryz.prog g (.d x.d::cz) base (H s) (H (step s x).1) (.d (.bool (step s x).2))) (s:σ) (mR:ok s):
 sD Tryz.prog 147 [.d (.sl (l.map dZ.d)), .func (.func g) [] cz] base (H s) (H (aD step s l).1) (.d (.bool (aD step s l).2)):=by
 intro o nx hI K X hK
 have jB:∀r∈V.aP cz,r<nx:=fun r hr=>Nat.lt_of_lt_of_le (hc r hr) hI.le
 refine dA.aM mix L7 aK ?_
 rw[Pf]
 refine b8 ?_
 refine aH (fun i:Nat×σ×(Nat->ab)×Nat=>⟨ba [.aa, .func (.func g) [] cz, .aa, .aa, .aa, .aa, .aa, .d (.sl (l.map dZ.d)), .d (.i l.length), .d (.i i.1)],i.2.2.1,i.2.2.2⟩)
  (fun i=>i.1<=l.length/\ec base (H i.2.1) i.2.2.1 i.2.2.2/\nx<=i.2.2.2/\(∀id,base<=id->id<nx->i.2.2.1 id=o id)/\aD step s l=aD step i.2.1 (l.drop i.1)/\ok i.2.1) (fun i=>l.length - i.1) (0,s,o,nx)
  ⟨Nat.zero_le _,hI,Nat.le_refl _,fun _ _ _=>rfl,rfl,mR⟩ ?_ ?_
 ·exact Ni
 rintro⟨k,s',o',nx'⟩ ⟨hk,HV,hn,cI,hf,sF⟩
 simp only at hk HV hn cI hf sF
 refine b8 ?_
 refine ak (fun h1=> ?_) (fun h1=> ?_)
 ·simp at h1
  obtain⟨x,hx⟩:=aF h1
  have gI:=List.mem_of_getElem? hx
  have hd:l.drop k=x::l.drop (k+1):=by
   exact Nc
  refine MT hx ?_
  have YW:=HV.le
  refine gh (h x gI s' sF _ _ (?_:ec base (H s') _ (nx'+7)) _ _ fun o2 n2 m1 m2 m3=> ?_)
  ·exact R5
  have GW:∀id,base<=id->id<nx->o2 id=o id:=fun id h2 h3=>by
   exact Sg
  refine b8 ?_
  refine ak (fun h2=> ?_) (fun h2=> ?_)
  ·refine b8 ?_
   simp at h2
   have:aD step s l=((step s' x).1,false):=by rw[hf,hd,aD,if_neg (by rw[h2];exact Bool.false_ne_true)]
   rw[this]at hK
   exact hK _ _ af (m2.mono af) GW
  ·refine b8 ?_
   simp at h2
   have:aD step s l=aD step (step s' x).1 (l.drop (k+1)):=by rw[hf,hd,aD,if_pos h2]
   refine aw (k+1,(step s' x).1,o2,n2) ⟨h1,m2,by dsimp only;omega,GW,this,aQ x gI s' sF h2⟩ rh ?_
   dsimp only
   have Mx:∀r∈V.aP cz,r<n2:=fun r hr=>by have:=jB r hr;omega
   refine bG.bU _ af af m2.cc (fun _ _=>rfl) ?_
   exact dQ
 ·exact S3
def m7(l:List (List UInt8)):List (List UInt8×D):=l.map fun s=>(s, .bool true)
theorem Ei(l:List (List UInt8))(s:List UInt8):m7 l++[(s, .bool true)]=m7 (l++[s]):=by simp[m7]
theorem Ej{l:List (List UInt8)}{s:List UInt8}{i:Nat}{x:D}(h:gM s (m7 l) 0=some (i,x)):x= .bool true/\(m7 l).set i (s, .bool true)=m7 l/\l.any (· ==s)=true:=by
 obtain⟨_,h2⟩:=zg h
 rw[Nat.sub_zero]at h2
 simp only[m7,List.getElem?_map]at h2
 cases hl:l[i]? with
 |none=>rw[hl]at h2;cases h2
 |some y=>
  rw[hl]at h2
  simp at h2
  obtain⟨rfl,rfl⟩:=h2
  refine⟨rfl, ?_, ?_⟩
  ·apply List.ext_getElem?
   intro j
   rw[List.getElem?_set]
   split
   ·rename_i e;subst e
    obtain⟨bR,hy⟩:=List.getElem?_eq_some_iff.1 hl
    simp[m7,bR,hy]
   ·rfl
  ·exact List.any_eq_true.2 ⟨y,List.mem_of_getElem? hl,aK⟩
theorem Ek{l:List (List UInt8)}{s:List UInt8}(h:gM s (m7 l) 0=none):l.any (· ==s)=false:=by
 rw[u0]at h
 rw[List.any_eq_false]
 intro x hx hs
 have:=h (x, .bool true) (by simp[m7];exact hx)
 simp at hs;exact this hs
def JG(bs:List (List UInt8))(x:dZ):Bool:= !bs.any (· ==x.name)&&iy x.name&&da x.args 0 4
def fQ(bs:List (List UInt8))(x:dZ):List (List UInt8)×Bool:=(if bs.any (· ==x.name)=true then bs else bs++[x.name],JG bs x)
theorem PW(x:dZ)(hx:x.name.length<=9223372036854775807)(base mp id:Nat)(h:Nat->ab)(hmp:h mp= .row [.mp id])(h1:mp<base)(h2:id<base)(h3:id≠mp)(bs:List (List UInt8)):
 sD Tryz.prog 144 [.d x.d, .ptr mp 0] base (aI h id (.map 9 4 (enc .str (m7 bs)))) (aI h id (.map 9 4 (enc .str (m7 (fQ bs x).1)))) (.d (.bool (fQ bs x).2)):=by
 intro o nx hI K X hK
 have hle:=hI.le
 have hg:=hI.cc
 have q0:o mp= .row [.mp id]:=by rw[hI.eq mp h1,ah _ _ _ _ (by omega),hmp]
 have q1:o id= .map 9 4 (enc .str (m7 bs)):=by rw[hI.eq id h2,ae]
 refine dA.aM mix L4 aK ?_
 rw[Pa]
 cases ha:gM x.name (m7 bs) 0 with
 |none=>
  have hn:=Ek ha
  have hs:fQ bs x=(bs++[x.name],iy x.name&&da x.args 0 4):=by simp[fQ,JG,hn]
  rw[hs]at hK
  refine EY q0 q1 ha ?_
  refine ao (Eh _ hx) rfl ?_
  refine cm ?_
  refine fH (eO [.bool (da x.args 0 4)] ?_ ?_)
  ·refine cm ?_
   exact fun _=>eU _ _ _
  refine cm ?_
  rw[G0,Ei]
  refine hK _ _ af ⟨ek,af,fun j hj=> ?_⟩ (fun j g1 g2=>by(repeat(first|rfl|rw[ae]|rw[ah _ _ _ _ (by omega)])))
  ·by_cases e:j=id
   ·exact tv
   ·exact Sf
 |some p=>
  obtain⟨i,y⟩:=p
  obtain⟨rfl,e1,hn⟩:=Ej ha
  have hs:fQ bs x=(bs,false):=by simp[fQ,JG,hn]
  rw[hs]at hK
  refine EY q0 q1 ha ?_
  rw[CP,e1]
  refine hK _ _ af ⟨ek,af,fun j hj=> ?_⟩ (fun j g1 g2=>by(repeat(first|rfl|rw[ae]|rw[ah _ _ _ _ (by omega)])))
  ·by_cases e:j=id
   ·exact tv
   ·exact Sf
theorem m8:∀ (l:List dZ) (bs:List (List UInt8)),match bS l bs with|some B=>aD fQ bs l=(B,true)|none=>(aD fQ bs l).2=false
 |[],bs=>rfl
 |x::l,bs=>by
  have ih:=m8 l (bs++[x.name])
  simp only[bS,aD,fQ,JG]
  by_cases h1:bs.any (· ==x.name)=true
  ·simp[h1]
  ·simp only[Bool.not_eq_true]at h1
   simp only[h1,Bool.false_eq_true,if_false,Bool.not_false,Bool.true_and]
   by_cases h2:(iy x.name&&da x.args 0 4)=true
   ·have h3: ¬ ((!iy x.name|| !da x.args 0 4)=true):=by simp at h2;simp[h2]
    rw[if_neg h3,if_pos h2]
    exact ih
   ·have h3:(!iy x.name|| !da x.args 0 4)=true:=by
     cases hn:iy x.name<;>simp_all
    rw[if_pos h3,if_neg h2]
def kD(ok:Bool):Int:=if ok=true then 0 else 2
@[reducible] def El (s:aN) (bs:List (List UInt8)):Nat->ab:=aI (aI (aI (fun _=> .no) 0 (.row s.row)) 3 (.row [.mp 2])) 2 (.map 9 4 (enc .str (m7 bs)))
theorem sL(s:aN)(hs:s.Fits):aX Tryz.prog 119 [s.d] (.ret [.i (kD (j5 s))]):=by
 refine aX.aM mix LZ aK ?_
 rw[O5]
 refine oQ ?_
 refine ao (eU _ _ _) rfl ?_
 refine oQ ?_
 cases h1:(!da s.cons.length 2 12||decide (8<(s.bF.length:Int)))with
 |true=>
  have:j5 s=false:=by simp only[j5,h1,if_true]
  refine mg h1 ?_
  simp[this,kD]
 |false=>
  have Lc:=m8 s.cons []
  have WO:∀ (l:List dZ),(∀x∈l,x.name.length<=9223372036854775807)->∀x∈l,∀bs,True->sD Tryz.prog 144 (.d x.d::[.ptr 3 0]) 4 (El s bs) (El s (fQ bs x).1) (.d (.bool (fQ bs x).2)):=fun l hl x hx bs _=>
   PW x (hl x hx) 4 3 2 (aI (aI (fun _=> .no) 0 (.row s.row)) 3 (.row [.mp 2])) (ae _ _ _) af af af bs
  simp[da]at h1
  obtain⟨a,b,r,hc⟩:∃a b r,s.cons=a::b::r:=by
   match h:s.cons with
   |[]=>exact BR
   |[a]=>exact BR
   |a::b::r=>exact⟨a,b,r,rfl⟩
  have jR:(!da s.cons.length 2 12||decide (8<(s.bF.length:Int)))=false:=by simp[da];omega
  have zd:j5 s=if(!kB a fB|| !kB b tB)=true then false else match bS s.cons []with
   |none=>false
   |some l=>(bS s.bF l).isSome:=by
   unfold j5
   rw[if_neg (by rw[jR];exact Bool.false_ne_true),hc]
   dsimp only
   rfl
  refine mg jR ?_
  refine bX (zh s.cons hs.lc 144 [.ptr 3 0] 4 (El s) fQ xw (fun _=>True) (fun _ _ _ _ _=>trivial) (WO s.cons hs.nc) [] trivial _ _ ⟨?_,af,fun id au=> ?_⟩ _ _ fun o2 n2 m1 m2 m3=> ?_)
  ·exact ek
  ·rcases(by omega:id=0\/id=1\/id=2\/id=3)with rfl|rfl|rfl|rfl<;>rfl
  have p0:∀ {bs:List (List UInt8)} {o:Nat->ab} {n:Nat},ec 4 (El s bs) o n->o 0= .row s.row:=fun h=>h.eq 0 af
  have p3:∀ {bs:List (List UInt8)} {o:Nat->ab} {n:Nat},ec 4 (El s bs) o n->o 3= .row [.mp 2]:=fun h=>h.eq 3 af
  cases hn:bS s.cons []with
  |none=>
   rw[hn]at Lc
   simp only at Lc
   rw[Lc]
   refine oQ ?_
   rw[zd,hn]
   split<;>rfl
  |some B=>
   rw[hn]at Lc
   simp only at Lc
   rw[Lc]at m2|-
   simp+contextual (disch:=first|omega|simp only[go_sem,false_implies]) only[go_sem,wrap64,if_pos,Nat.add_assoc,Nat.left_eq_add,Nat.add_eq_left,Nat.add_left_cancel_iff,p0 m2]
   refine bX (zh s.bF hs.lf 144 [.ptr 3 0] 4 (El s) fQ xw (fun _=>True) (fun _ _ _ _ _=>trivial) (WO s.bF hs.nf) B trivial _ _ (m2.mono af) _ _ fun o4 n4 k1 k2 k3=> ?_)
   have HW:=m8 s.bF B
   cases hf:bS s.bF B with
   |none=>
    rw[hf]at HW
    simp only at HW
    rw[HW]
    refine oQ ?_
    rw[zd,hn]
    simp only[hf]
    split<;>rfl
   |some C=>
    rw[hf]at HW
    simp only at HW
    rw[HW]at k2|-
    simp+contextual (disch:=first|omega|simp only[go_sem,false_implies]) only[go_sem,wrap64,if_pos,Nat.add_assoc,Nat.left_eq_add,Nat.add_eq_left,Nat.add_left_cancel_iff,p0 k2,hc]
    have Mz:j5 s= !(!kB a fB|| !kB b tB):=by
     rw[zd,hn];simp only[hf]
     cases(!kB a fB|| !kB b tB)<;>rfl
    refine ak (fun h5=> ?_) (fun h5=> ?_)
    ·refine cm ?_
     have EJ:(!kB a fB|| !kB b tB)=true:=h5
     rw[Mz,EJ];rfl
    ·refine cm ?_
     have EJ:(!kB a fB|| !kB b tB)=false:=h5
     rw[Mz,EJ];rfl
def iC(s:aN)(l:List Tm):Bool:=j5 s&&l.all (j8 s)
theorem u6{α:Type}(p:α->Bool):∀ (l:List α) (u:Unit),aD (fun _ x=>((),p x)) u l=((),l.all p)
 |[],_=>rfl
 |x::l,u=>by
  simp only[aD,List.all_cons,u6 p l]
  cases p x<;>rfl
theorem Bd(l:List Tm)(hl:l.length<=9223372036854775807)(g:Nat)(cz:List V)(base:Nat)(h:Nat->ab)(p:Tm->Bool)(hc:∀r∈V.aP cz,r<base)
 (hp:∀x∈l,sD Tryz.prog g (.d x.d::cz) base h h (.d (.bool (p x)))):sD Tryz.prog 169 [.d (.sl (l.map Tm.d)), .func (.func g) [] cz] base h h (.d (.bool (l.all p))):=by
 have:=ze l hl g cz base (fun _:Unit=>h) (fun _ x=>((),p x)) hc (fun _=>True) (fun _ _ _ _ _=>trivial) (fun x hx _ _=>hp x hx) () trivial
 simpa only[u6]using this
structure Tm.Fin (t:Tm):Prop where
 fits:t.fits
 mD:t.mD<=900000
theorem G2(s:aN)(hs:s.Fits)(t:Tm)(ht:t.Fin)(base sp:Nat)(h:Nat->ab)(KT:h sp= .row s.row)(hb:sp<base):sD Tryz.prog 170 [.d t.d, .ptr sp 0] base h h (.d (.bool (j8 s t))):=by
 intro o nx hI K X hK
 have hle:=hI.le
 have hg:=hI.cc
 have q0:o sp= .row s.row:=by rw[hI.eq sp hb,KT]
 refine dA.aM mix Mi aK ?_
 rw[Ps]
 refine mg q0 ?_
 refine ao (GZ s hs t ht.fits ht.mD) rfl ?_
 refine cm ?_
 exact hK _ _ af ⟨ek,af,fun j hj=>by rw[ah _ _ _ _ (by omega),hI.eq j hj]⟩ (fun j g1 g2=>by(repeat(first|rfl|rw[ae]|rw[ah _ _ _ _ (by omega)])))
theorem JH(s:aN)(hs:s.Fits)(l:List Tm)(hl:l.length<=9223372036854775807)(hf:∀t∈l,t.Fin):aX Tryz.prog 158 [s.d, .sl (l.map Tm.d)] (.ret [.bool (iC s l)]):=by
 refine aX.aM mix Ma aK ?_
 rw[Pj]
 refine cm ?_
 refine ao (sL s hs) rfl ?_
 cases h1:j5 s with
 |false=>
  refine RQ ?_
  simp[iC,h1]
 |true=>
  refine RQ ?_
  refine bX (Bd l hl 170 [.ptr 0 0] 1 (aI (fun _=> .no) 0 (.row s.row)) (j8 s) xw (fun x hx=>G2 s hs x (hf x hx) 1 0 _ (ae _ _ _) af) _ _ ⟨ek,af,fun id au=>rfl⟩ _ _ fun o2 n2 m1 m2 m3=> ?_)
  refine cm ?_
  simp[iC,h1]
def ou(x:Tm×Int):Bool:=decide (3<x.1.op)&&x.1.op !=5
def vJ(b:Bool):Option iH:=if b=true then none else some .ret
def lC(t:Tm):Bool:=(aD (tp vJ (fun _ x=> !ou x)) true (pre t 1)).2
theorem Em(t:Tm)(ht:t.Fin):aX Tryz.prog 160 [t.d] (.ret [.bool (lC t)]):=by
 refine aX.aM mix Mc aK ?_
 rw[Pl]
 refine cm ?_
 refine dY (sI t _ _ _ _ ?_)
 refine cm ?_
 refine lB t ht.fits ht.mD [.aa, .aa, .ptr 1 0] ?_ cA rfl ek xw (ae _ _ _)
  (fun _=>aI (aI (aI (fun _=> .no) 0 (.row t.row)) 1 (.row [.d (.bool false)])) 3 (.row t.row)) vJ (fun _ x=> !ou x) (fun _=>True) true trivial rfl (fun id au=>rfl) (fun _ _ _ _ _ _=>trivial) ?_ ?_
 ·exact Ic
 ·intro L hL BG x hx s' h1 h2 o3 n3 hI hn ho K X dC
  simp only[n9]
  have hg:=hI.cc
  have q1:o3 1= .row [.d (.bool false)]:=hI.eq 1 af
  refine cm ?_
  refine om hL (pd:=none) ?_ ?_
  ·(repeat(first|rfl|rw[ae]|rw[ah _ _ _ _ (by omega)]))
   exact ho
  refine cm ?_
  have hv:ou x=(decide (3<x.1.op)&&x.1.op !=5):=rfl
  rw[<- hv]
  cases hb:ou x with
  |true=>
   rw[hb]at dC
   refine mg q1 ?_
   refine dC _ _ _ .busy none af ⟨ek,af,fun id au=> ?_⟩ fq (fun id h3 h4=>by(repeat(first|rfl|rw[ae]|rw[ah _ _ _ _ (by omega)])))
   by_cases e:id=1
   ·exact tv
   ·rw[ah _ _ _ _ e];(repeat(first|rfl|rw[ae]|rw[ah _ _ _ _ (by omega)]))
    exact hI.eq id au
  |false=>
   rw[hb]at dC
   refine cm ?_
   refine dC _ _ _ .busy none af ⟨ek,af,fun id au=> ?_⟩ fq (fun id h3 h4=>by(repeat(first|rfl|rw[ae]|rw[ah _ _ _ _ (by omega)])))
   (repeat(first|rfl|rw[ae]|rw[ah _ _ _ _ (by omega)]))
   exact hI.eq id au
 ·intro o' n' hI
  have q1:o' 1= .row [.d (.bool false)]:=hI.eq 1 af
  rw[show lC t=(vJ (aD (tp vJ (fun _ x=> !ou x)) true (pre t 1)).1).isNone from wP _ _ _ _ rfl]
  generalize (aD (tp vJ (fun _ x=> !ou x)) true (pre t 1)).1=sf at*
  cases sf<;>(simp only[vJ,if_true,if_false,Bool.false_eq_true,pq];simp+contextual (disch:=first|omega|simp only[go_sem,false_implies]) only[go_sem,wrap64,if_pos,q1];rfl)
def Tm.zi (t:Tm):Int:=(pre t 1).length
structure Tm.Cnt (t:Tm):Prop extends t.Fin where
 size:t.zi<=1000000
theorem Tm.Fin.zj {t k:Tm}(h:t.Fin)(hk:k∈t.kids):k.Fin:=⟨((Tm.bD _).1 h.fits).2 k hk,by have:=Tm.wz hk;have:=h.mD;omega⟩
theorem qn:∀ (t:Tm) (d d':Int),(pre t d).length=(pre t d').length:=by
 refine Tm.fk fun t ih d d'=> ?_
 rw[lg,lg]
 simp only[List.length_cons,List.length_flatMap]
 congr 2
 exact List.map_congr_left fun k hk=>ih k hk _ _
theorem Tm.u7 {t k:Tm}(hk:k∈t.kids):k.zi+1<=t.zi:=by
 simp only[Tm.zi]
 rw[lg t,qn k 1 (1+1)]
 simp only[List.length_cons,List.length_flatMap]
 have:∀ (l:List Tm),k∈l->(pre k (1+1)).length<=(l.map fun k=>(pre k (1+1)).length).sum:=by
  intro l
  induction l with
  |nil=>intro h;cases h
  |cons x l ih=>
   intro h
   rcases List.mem_cons.1 h with rfl|h
   ·simp only[List.map_cons,List.sum_cons];omega
   ·have:=ih h;simp only[List.map_cons,List.sum_cons];omega
 have:=this _ hk
 omega
theorem Tm.Cnt.zj {t k:Tm}(h:t.Cnt)(hk:k∈t.kids):k.Cnt:=⟨h.toFin.zj hk,by have:=Tm.u7 hk;have:=h.size;omega⟩
def Tm.sz (t:Tm):Nat:=(pre t 1).length
def pG(l:List Tm):Nat:=(l.map Tm.sz).sum
theorem Tm.zk (t:Tm):t.zi=(t.sz:Int):=rfl
theorem Tm.lD (t:Tm):t.sz=1+pG t.kids:=by
 unfold Tm.sz pG
 rw[lg,List.length_cons,List.length_flatMap,Nat.add_comm]
 congr 2
 exact List.map_congr_left fun k hk=>qn k _ _
theorem ow(k:Tm)(l:List Tm):pG (k::l)=k.sz+pG l:=by simp[pG]
theorem Tm.Be (t:Tm):1<=t.sz:=by rw[Tm.lD];omega
theorem u9(k:Tm)(l:List Tm):Tm.jZ (k::l)=Nat.max k.mD (Tm.jZ l):=by simp[Tm.jZ]
theorem wQ:∀ (l:List Tm) (n:Nat),Tm.jZ l<=n↔∀k∈l,k.mD<=n
 |[],n=>by simp[Tm.jZ]
 |x::l,n=>by
  rw[u9]
  simp only[List.mem_cons,forall_eq_or_imp, <- wQ l n]
  exact Nat.max_le
theorem Tm.Bf (t:Tm):t.mD=1+Tm.jZ t.kids:=by cases t;simp[Tm.mD,Tm.kids]
theorem En:∀t:Tm,∀left depth:Int,gk t left depth=if(t.sz:Int)<=left/\(t.mD:Int)<=depth then left - t.sz else -1:=by
 refine Tm.fk fun t ih left depth=> ?_
 have hs:∀ (l:List Tm) (left d:Int),(∀k∈l,k∈t.kids)->0<=left->0<=d->bT l left d=if(pG l:Int)<=left/\(Tm.jZ l:Int)<=d then left - pG l else -1:=by
  intro l
  induction l with
  |nil=>intro left d _ h1 h2;simp[bT,pG,Tm.jZ,h1,h2]
  |cons k l PI=>
   intro left d hk h1 h2
   simp only[bT,if_pos h1]
   rw[ih k (hk k (by simp))]
   have hm:(Tm.jZ (k::l):Int)<=d↔(k.mD:Int)<=d/\(Tm.jZ l:Int)<=d:=by
    have:= @Nat.max_le k.mD (Tm.jZ l) d.toNat
    have e:Tm.jZ (k::l)=max k.mD (Tm.jZ l):=u9 k l
    rw[e];omega
   simp only[ow,hm]
   by_cases hc:(k.sz:Int)<=left/\(k.mD:Int)<=d
   ·rw[if_pos hc,PI _ _ (fun x hx=>hk x (by simp[hx])) (by omega) h2]
    by_cases rC:(pG l:Int)<=left - k.sz/\(Tm.jZ l:Int)<=d
    ·rw[if_pos rC,if_pos (by omega)];omega
    ·rw[if_neg rC,if_neg (by omega)]
   ·rw[if_neg hc,mY (by omega),if_neg (by omega)]
 rw[zc,Tm.lD,Tm.Bf]
 by_cases h:left<1\/depth<1
 ·rw[if_pos h,if_neg (by omega)]
 ·rw[if_neg h,hs _ _ _ (fun _ h=>h) (by omega) (by omega)]
  by_cases hc:(pG t.kids:Int)<=left - 1/\(Tm.jZ t.kids:Int)<=depth - 1
  ·rw[if_pos hc,if_pos (by omega)];omega
  ·rw[if_neg hc,if_neg (by omega)]
theorem sM(t:Tm)(left depth:Int):0<=gk t left depth↔(t.sz:Int)<=left/\(t.mD:Int)<=depth:=by
 rw[En];split<;>omega
theorem Bg(t:Tm):fM t=true↔t.sz<=50/\t.mD<=14:=by
 simp only[fM,decide_eq_true_eq,sM];omega
theorem Eo:∀ (t:Tm) (d m:Int),(∀x∈pre t d,x.2<=m)↔d+t.mD - 1<=m:=by
 refine Tm.fk fun t ih d m=> ?_
 rw[lg,Tm.Bf]
 simp only[List.mem_cons,forall_eq_or_imp,List.mem_flatMap]
 have h1:(∀x:Tm×Int,(∃k,k∈t.kids/\x∈pre k (d+1))->x.2<=m)↔∀k∈t.kids,d+1+k.mD - 1<=m:=by
  constructor
  ·intro h k hk
   exact(ih k hk _ _).1 fun x hx=>h x ⟨k,hk,hx⟩
  ·rintro h x ⟨k,hk,hx⟩
   exact(ih k hk _ _).2 (h k hk) x hx
 rw[h1]
 constructor
 ·rintro⟨h2,h3⟩
  have:=(wQ t.kids (m - d).toNat).2 fun k hk=>by have:=h3 k hk;omega
  omega
 ·intro h
  have:=(wQ t.kids (m - d).toNat).1 af
  exact⟨af,fun k hk=>by have:=this k hk;omega⟩
theorem CQ(p:Tm->Bool):∀ (t:Tm) (d:Int),(pre t d).all (fun x=>p x.1)=(p t&&t.kids.all fun k=>(pre k (d+1)).all fun x=>p x.1):=by
 intro t d
 rw[lg,List.all_cons,List.all_flatMap]
theorem sN(s:aN):∀ (t:Tm) (d:Int),fK s t=(pre t d).all fun x=>a8 s x.1:=by
 refine Tm.fk fun t ih d=> ?_
 rw[CQ (a8 s),jH]
 congr 1
 exact KF
theorem Bh:∀ (t:Tm) (d:Int),eG t=(pre t d).all fun x=>(decide (1<=x.1.op)&&decide (x.1.op<=3))||x.1.op==5:=by
 refine Tm.fk fun t ih d=> ?_
 rw[CQ (fun t=>(decide (1<=t.op)&&decide (t.op<=3))||t.op==5),pF,Bool.and_comm]
 congr 1
 exact KF
theorem zl{s:aN}{t:Tm}(h:a8 s t=true):da t.op 1 15=true:=by
 rw[show da t.op 1 15=true↔1<=t.op/\t.op<=15 by simp[da]]
 by_cases h6:da t.op 6 15=true
 ·simp[da]at h6;omega
 ·simp only[a8,if_neg h6]at h
  by_cases h1:t.op=1
  ·omega
  by_cases h2:t.op=2
  ·omega
  by_cases h3:t.op=3
  ·omega
  by_cases h4:t.op=4
  ·omega
  by_cases h5:t.op=5
  ·omega
  by_cases h8:t.op=8
  ·omega
  rw[if_neg h1,if_neg h2,if_neg h3,if_neg h4,if_neg h5,if_neg h8]at h
  cases h
def sO(s:aN)(x:Tm×Int):Bool:= !(decide (12<x.2)|| !da x.1.op 1 15|| !a8 s x.1)
theorem qo(s:aN):∀ (l:List (Tm×Int)) (n:Int) (b:Bool),(aD (tp fJ (fg s)) (n,b) l).2=(decide (l=[]\/n+l.length<=40)&&l.all (sO s))
 |[],n,b=>by simp[aD]
 |x::l,n,b=>by
  have e1:∀c,mc s n x=c->tp fJ (fg s) (n,b) x=((n+1, !c), !c):=fun c hc=>by show((n+1, !mc s n x),(fJ (n+1, !mc s n x)).isNone)=_;rw[hc];cases c<;>rfl
  have hb:mc s n x=(decide (40<n+1)|| !sO s x):=by simp[mc,sO,Bool.or_assoc]
  rw[List.all_cons]
  cases hg:sO s x with
  |false=>
   have e:mc s n x=true:=by rw[hb,hg];simp
   rw[aD,e1 _ e];simp
  |true=>
   by_cases h40:40<n+1
   ·have:decide (x::l=[]\/n+(x::l).length<=40)=false:=by simp;omega
    have e:mc s n x=true:=by rw[hb];simp[h40]
    rw[this,Bool.false_and,aD,e1 _ e];simp
   ·have e:mc s n x=false:=by rw[hb,hg];simp;omega
    rw[aD,e1 _ e]
    simp only[Bool.not_false,if_true,qo s l,Bool.true_and]
    congr 1
    cases l with
    |nil=>simp;omega
    |cons y l=>simp;omega
theorem sP(s:aN)(t:Tm):j8 s t=iz s t:=by
 rw[j8,qo,iz,sN s t 1,Bool.eq_iff_iff]
 have hn:pre t 1≠[]:=by rw[lg];simp
 simp only[Bool.and_eq_true,decide_eq_true_eq,hn,false_or,sM,List.all_eq_true]
 have hd:=Eo t 1 12
 constructor
 ·rintro⟨h1,h2⟩
  have h3:∀x∈pre t 1,x.2<=12:=fun x hx=>by have:=h2 x hx;simp[sO]at this;omega
  have:=hd.1 h3
  exact⟨⟨by unfold Tm.sz;omega,af⟩,fun x hx=>by have:=h2 x hx;simp[sO]at this;exact this.2⟩
 ·rintro⟨⟨h1,h2⟩,h3⟩
  have h4:=hd.2 af
  refine⟨by unfold Tm.sz at h1;omega,fun x hx=> ?_⟩
  have h5:=h4 x hx
  have h6:=h3 x hx
  have h7:=zl h6
  simp[sO,h6,h7];omega
theorem sQ:∀ (l:List (Tm×Int)) (b:Bool),(aD (tp vJ (fun _ x=> !ou x)) b l).2=l.all fun x=> !ou x
 |[],b=>rfl
 |x::l,b=>by
  have e1:∀c,ou x=c->tp vJ (fun _ x=> !ou x) b x=(!c, !c):=fun c hc=>by show(!ou x,(vJ (!ou x)).isNone)=_;rw[hc];cases c<;>rfl
  rw[aD,List.all_cons]
  cases hv:ou x with
  |false=>rw[e1 _ hv];simp[sQ l]
  |true=>rw[e1 _ hv];simp
theorem vc{s:aN}{t:Tm}(h:iz s t=true):lC t=eG t:=by
 rw[lC,sQ,Bh t 1,Bool.eq_iff_iff]
 simp only[iz,Bool.and_eq_true,sN s t 1,List.all_eq_true]at h
 simp only[List.all_eq_true]
 refine forall_congr' fun x=>forall_congr' fun hx=> ?_
 have:=zl (h.2 x hx)
 simp[da]at this
 simp[ou]
 omega
theorem m9:∀a:Tm,iA a a=true:=by
 refine Tm.fk fun a ih=> ?_
 rw[oo]
 have:fL a.kids a.kids=true:=(fP _ _ rfl).2 fun i x y hx hy=>by
  rw[hx]at hy;injection hy with hy;subst hy;exact ih x (List.mem_of_getElem? hx)
 simp[this]
theorem lW:∀a b:Tm,iA a b=true↔a=b:=by
 refine Tm.fk fun a ih b=>⟨fun h=> ?_,fun e=>e ▸ m9 _⟩
 rw[oo]at h
 simp only[Bool.and_eq_true,beq_iff_eq]at h
 obtain⟨⟨⟨h1,h2⟩,h3⟩,h4⟩:=h
 have h5:=(fP _ _ h3).1 h4
 have:a.kids=b.kids:=by
  apply List.ext_getElem?
  intro i
  cases hx:a.kids[i]? with
  |none=>simp at hx;symm;simp;omega
  |some x=>
   have hi:=(List.getElem?_eq_some_iff.1 hx).1
   obtain⟨y,hy⟩:=aF (l:=b.kids) (k:=i) af
   rw[hy,(ih x (List.mem_of_getElem? hx) y).1 (h5 i x y hx hy)]
 rw[<- Tm.eta a, <- Tm.eta b,h1,h2,this]
section
def Ep(l:List (D×D)):List (Int×D):=l.map fun p=>((match p.1 with| .int _ n=>n|_=>0),p.2)
def PX(l:List (D×D)):Bool:=l.all fun p=>match p.1 with| .int .i64 _=>true|_=>false
@[go_sem] theorem XZ (m:List (Int×D)):Ep (enc (D.int .i64) m)=m:=by
  unfold Ep enc;rw[List.map_map];simp[Function.comp_def]
@[go_sem] theorem X0 (m:List (Int×D)):PX (enc (D.int .i64) m)=true:=by simp[PX,enc]
@[go_sem] theorem X1:PX []=true:=rfl
@[go_sem] theorem X2:Ep []=[]:=rfl
theorem wR:∀ {l:List (D×D)},PX l=true->enc (D.int .i64) (Ep l)=l
 |[],_=>rfl
 |(k,x)::l,h=>by
  simp only[PX,List.all_cons,Bool.and_eq_true]at h
  have ih:=wR (l:=l) h.2
  obtain⟨n,h1⟩:∃n,k= .int .i64 n:=by
   have h1:=h.1
   split at h1
   ·exact⟨_,rfl⟩
   ·cases h1
  subst h1
  simp only[enc,Ep,List.map_cons]at ih|-
  rw[ih]
def lE(l:List Int):List (Int×D):=l.map fun n=>(n, .bool true)
@[go_sem] theorem WQ:lE []=[]:=rfl
def dq(l:List Int)(n:Int):List Int:=if l.contains n=true then l else l++[n]
theorem iD{l:List Int}{n k:Int}:k∈dq l n↔k∈l\/k=n:=by
 unfold dq
 split
 ·rename_i h
  have:n∈l:=by simpa using h
  constructor
  ·exact .inl
  ·rintro(h|rfl)<;>assumption
 ·simp
theorem Bi{l:List Int}(n:Int)(h:l.Nodup):(dq l n).Nodup:=by
 unfold dq
 split
 ·exact h
 ·rename_i hn
  have hn:n∉l:=by simpa using hn
  rw[List.nodup_append]
  exact⟨h,aK,fun a ha b hb=>by simp at hb;subst hb;intro e;subst e;exact hn ha⟩
theorem ox:∀ (l:List Int) (n:Int) (i:Nat),gM n (lE l) i=(l.findIdx? (· ==n)).map fun j=>(i+j,D.bool true)
 |[],n,i=>rfl
 |x::l,n,i=>by
  have ih:=ox l n (i+1)
  simp only[lE,List.map_cons,gM,List.findIdx?_cons]at ih|-
  by_cases h:n=x
  ·subst h;simp
  ·have h2: ¬x=n:=fun e=>h e.symm
   simp only[beq_iff_eq,h,h2,if_false,ih,Option.map_map,Function.comp_def]
   congr 1;funext j;congr 1;omega
@[go_sem] theorem RA (l:List Int) (n:Int):Ee n (.bool true) (lE l)=lE (dq l n):=by
  unfold Ee dq
  rw[ox]
  cases h:l.findIdx? (· ==n)with
  |none=>
   have:l.contains n=false:=by
    rw[List.findIdx?_eq_none_iff]at h
    rw[Bool.eq_false_iff];intro hc
    have:=h n (by simpa using hc)
    simp at this
   simp only[Option.map_none,this,Bool.false_eq_true,if_false]
   simp[lE]
  |some j=>
   rw[List.findIdx?_eq_some_iff_getElem]at h
   obtain⟨hj,he,_⟩:=h
   have e:l[j]=n:=by simpa using he
   have:l.contains n=true:=by rw[List.contains_iff_mem, <- e];exact List.getElem_mem hj
   simp only[Option.map_some,this,if_true,Nat.zero_add]
   apply List.ext_getElem?
   intro k
   rw[List.getElem?_set]
   split
   ·rename_i hk;subst hk;simp[lE,hj,e]
   ·rfl
def WR(l:List Int)(n:Int):List Int:=match l.findIdx? (· ==n)with|some j=>l.eraseIdx j|none=>l
theorem j9{α β:Type}(f:α->β):∀ (l:List α) (j:Nat),(l.map f).eraseIdx j=(l.eraseIdx j).map f
 |[],_=>rfl
 |_::_,0=>rfl
 |x::l,j+1=>by simp[j9 f l j]
@[go_sem] theorem RB (l:List Int) (n:Int):WM n (lE l)=lE (WR l n):=by
  unfold WM WR
  rw[ox]
  cases h:l.findIdx? (· ==n)with
  |none=>simp
  |some j=>simp only[Option.map_some,Nat.zero_add];exact j9 _ _ _
section
variable {P:Program}{o:Nat->ab}{t:TypeId}{id:Nat}{n:Int}{v:V}
def pH(P:Program)(kt:TypeId):Bool:=match bw P kt with|some .int=>true|_=>false
theorem ve{kt:TypeId}(h:pH P kt=true):bw P kt=some .int:=by
 unfold pH at h;split at h
 ·assumption
 ·cases h
@[go_sem] theorem RC {kt:TypeId} (h:bw P kt=some .int):pH P kt=true:=by unfold pH;rw[h]
def PY(P:Program)(o:Nat->ab)(t:TypeId)(id:Nat)(n:Int)(v:V):Option eD:=
 match pa P t,dv o v,o id with
 |some (kt,_),some vd, .map BW BX l=>match pH P kt&&PX l&&v.ids.all (· !=id)with
  |true=>some (.bH [],bP o v.ids++[(id, .map BW BX (enc (D.int .i64) (Ee n vd (Ep l))))],id::v.ids)
  |false=>oq P o t (.mp id) (.d (.int .i64 n)) v
 |_,_,_=>oq P o t (.mp id) (.d (.int .i64 n)) v
@[go_sem high] theorem PZ:ew P o t (.mp id) (.d (.int .i64 n)) v=PY P o t id n v:=by
  unfold PY
  split
  ·rename_i kt vt vd BW BX l h1 h2 h3
   split
   ·rename_i hc
    simp only[Bool.and_eq_true]at hc
    obtain⟨⟨c1,c2⟩,c3⟩:=hc
    have c4:=ve c1
    have c5:dv o (.d (.int .i64 n))=some (.int .i64 n):=rfl
    have hl:=wR c2
    unfold ew
    simp only[h1,c5,h2,mu,h3]
    rw[if_pos ⟨rfl,CO c4 n,rfl,c3⟩]
    conv=>lhs;rw[<- hl]
    rw[zf c4]
    unfold Ee
    cases gM n (Ep l) 0 with
    |none=>simp[tN,enc]
    |some p=>simp[tN,CP,D.same,mq]
   ·exact u5 ..
  ·exact u5 ..
attribute [go_sem] PY
def RD(l:List (D×D)):Bool:=l.all fun p=>match p.2 with| .bool true=>true|_=>false
@[go_sem] theorem X4 (l:List Int):RD (enc (D.int .i64) (lE l))=true:=by simp[RD,enc,lE]
@[go_sem] theorem X5:RD []=true:=rfl
theorem CS:∀ {m:List (Int×D)},RD (enc (D.int .i64) m)=true->lE (m.map (·.1))=m
 |[],_=>rfl
 |(k,x)::m,h=>by
  simp only[RD,enc,List.map_cons,List.all_cons,Bool.and_eq_true]at h
  have ih:=CS (m:=m) h.2
  have h1:x= .bool true:=by
   have h1:=h.1
   split at h1
   ·rfl
   ·cases h1
  simp only[lE,List.map_cons]at ih|-
  rw[ih,h1]
def G3(P:Program)(o:Nat->ab)(t:TypeId)(m:V)(n:Int)(ok:Bool):Option eD:=
 match pa P t with
 |some (kt,vt)=>match zeroV P vt with
  |some (.d (.bool false))=>match nB o m with
   |some (rd,l)=>match pH P kt&&PX l&&RD l with
    |true=>some (match ok with|true=> .bH [.d (.bool (((Ep l).map (·.1)).contains n)), .d (.bool (((Ep l).map (·.1)).contains n))]|false=> .d (.bool (((Ep l).map (·.1)).contains n)),[],rd)
    |false=>sK P o t m (.d (.int .i64 n)) ok
   |none=>sK P o t m (.d (.int .i64 n)) ok
  |_=>sK P o t m (.d (.int .i64 n)) ok
 |none=>sK P o t m (.d (.int .i64 n)) ok
@[go_sem] theorem G4 (l:List Int):((lE l).map (·.1))=l:=by simp[lE,Function.comp_def]
@[go_sem high] theorem WS {m:V} {ok:Bool}:gK P o t m (.d (.int .i64 n)) ok=G3 P o t m n ok:=by
  unfold G3
  split
  ·rename_i kt vt h1
   split
   ·rename_i hz
    split
    ·rename_i rd l h
     split
     ·rename_i hc
      simp only[Bool.and_eq_true]at hc
      have c4:=ve hc.1.1
      have hl:=wR hc.1.2
      have hs:lE ((Ep l).map (·.1))=Ep l:=CS (by rw[hl];exact hc.2)
      have c5:dv o (.d (.int .i64 n))=some (.int .i64 n):=rfl
      unfold gK
      simp only[h1,c5,h]
      rw[if_pos ⟨rfl,CO c4 n⟩]
      conv=>lhs;rw[<- hl]
      rw[zf c4, <- hs,ox,G4]
      generalize (Ep l).map (·.1)=l'
      cases hf:l'.findIdx? (· ==n)with
      |none=>
       have:l'.contains n=false:=by
        rw[List.findIdx?_eq_none_iff]at hf
        rw[Bool.eq_false_iff];intro hc
        have:=hf n (by simpa using hc)
        simp at this
       cases ok<;>simp only[Option.map_none,tN,hz,this,if_true,Bool.false_eq_true,if_false]
      |some j=>
       rw[List.findIdx?_eq_some_iff_getElem]at hf
       obtain⟨hj,he,_⟩:=hf
       have e:l'[j]=n:=by simpa using he
       have:l'.contains n=true:=by rw[List.contains_iff_mem, <- e];exact List.getElem_mem hj
       cases ok<;>simp only[Option.map_some,tN,this,if_true,Bool.false_eq_true,if_false]
     ·exact lV ..
    ·exact lV ..
   ·exact lV ..
  ·exact lV ..
attribute [go_sem] G3
end
attribute [go_sem] List.head?_cons
end
mutual
def fR(v:Int):Tm->Bool
 | .mk op n kids=>if op=1 then n==v else wS v op n kids 0
def wS(v op n:Int):List Tm->Nat->Bool
 |[],_=>false
 |k::l,i=>(fR v k&& !(op==8&&i==1&&n==v))||wS v op n l (i+1)
end
theorem pI(v:Int)(t:Tm):fR v t=if t.op=1 then t.n==v else wS v t.op t.n t.kids 0:=by cases t;rfl
@[reducible] def Er (l:List Int):ab:= .map 3 4 (enc (D.int .i64) (lE l))
def me:List Int->Int->List Int
 |[],n=>[n]
 |x::l,n=>if x<n then x::me l n else if x=n then x::l else n::x::l
def ng(op n:Int)(i:Nat)(l out:List Int):List Int:=l.foldl (fun out v=>if(op !=8||(i:Int)!=1||v !=n)=true then me out v else out) out
mutual
def dc:Tm->List Int
 | .mk op n kids=>if op=1 then [n]else ke op n kids 0 []
def ke(op n:Int):List Tm->Nat->List Int->List Int
 |[],_,out=>out
 |k::l,i,out=>ke op n l (i+1) (ng op n i (dc k) out)
end
theorem oz(t:Tm):dc t=if t.op=1 then [t.n]else ke t.op t.n t.kids 0 []:=by cases t;rfl
theorem sR:∀ (l:List Int) (n v:Int),v∈me l n↔v∈l\/v=n
 |[],n,v=>by simp[me]
 |x::l,n,v=>by
  simp only[me]
  split
  ·simp only[List.mem_cons,sR l n v];constructor
   ·rintro(h|h|h)
    ·exact .inl (.inl h)
    ·exact .inl (.inr h)
    ·exact .inr h
   ·rintro((h|h)|h)
    ·exact .inl h
    ·exact .inr (.inl h)
    ·exact .inr (.inr h)
  ·split
   ·rename_i h;subst h;simp only[List.mem_cons];constructor
    ·exact .inl
    ·rintro(h|h)
     ·exact h
     ·exact .inl h
   ·simp only[List.mem_cons];constructor
    ·rintro(h|h)
     ·exact .inr h
     ·exact .inl h
    ·rintro(h|h)
     ·exact .inr h
     ·exact .inl h
abbrev Es(l:List Int):Prop:=l.Pairwise (· <·)
theorem zm:∀ {l:List Int} (n:Int),Es l->Es (me l n)
 |[],n,_=>by simp[me]
 |x::l,n,h=>by
  have h1:=List.pairwise_cons.1 h
  simp only[me]
  split
  ·rename_i hx
   refine List.pairwise_cons.2 ⟨fun y hy=> ?_,zm n h1.2⟩
   rcases(sR l n y).1 hy with hy|hy
   ·exact h1.1 y hy
   ·omega
  ·split
   ·exact h
   ·refine List.pairwise_cons.2 ⟨fun y hy=> ?_,h⟩
    rcases List.mem_cons.1 hy with hy|hy
    ·omega
    ·have:=h1.1 y hy;omega
theorem lX(op n:Int)(i:Nat):∀ (l out:List Int),Es out->Es (ng op n i l out)/\∀v,v∈ng op n i l out↔v∈out\/(v∈l/\ ¬ (op=8/\i=1/\n=v))
 |[],out,h=>⟨h,fun v=>by simp[ng]⟩
 |x::l,out,h=>by
  have hk:ng op n i (x::l) out=ng op n i l (if(op !=8||(i:Int)!=1||x !=n)=true then me out x else out):=rfl
  rw[hk]
  by_cases hc:(op !=8||(i:Int)!=1||x !=n)=true
  ·rw[if_pos hc]
   have ih:=lX op n i l (me out x) (zm x h)
   refine⟨ih.1,fun v=> ?_⟩
   rw[ih.2 v,sR,List.mem_cons]
   have rC: ¬ (op=8/\i=1/\n=x):=by
    rintro⟨h1,h2,h3⟩;subst h1;subst h2;subst h3;simp at hc
   constructor
   ·rintro((h|h)|h)
    ·exact .inl h
    ·subst h;exact .inr ⟨.inl rfl,rC⟩
    ·exact .inr ⟨.inr h.1,h.2⟩
   ·rintro(h|⟨h|h,h2⟩)
    ·exact .inl (.inl h)
    ·exact .inl (.inr h)
    ·exact .inr ⟨h,h2⟩
  ·rw[if_neg hc]
   have ih:=lX op n i l out h
   refine⟨ih.1,fun v=> ?_⟩
   rw[ih.2 v,List.mem_cons]
   have rC:op=8/\i=1/\n=x:=by simp at hc;exact⟨hc.1.1,af,hc.2.symm⟩
   constructor
   ·rintro(h|h)
    ·exact .inl h
    ·exact .inr ⟨.inr h.1,h.2⟩
   ·rintro(h|⟨h|h,h2⟩)
    ·exact .inl h
    ·subst h;exact absurd rC h2
    ·exact .inr ⟨h,h2⟩
theorem fS:∀t:Tm,Es (dc t)/\∀v,v∈dc t↔fR v t=true:=by
 refine Tm.fk fun t ih=> ?_
 have hs:∀ (l:List Tm) (i:Nat) (out:List Int),(∀k∈l,k∈t.kids)->Es out->Es (ke t.op t.n l i out)/\∀v,v∈ke t.op t.n l i out↔v∈out\/wS v t.op t.n l i=true:=by
  intro l
  induction l with
  |nil=>intro i out _ h;exact⟨h,fun v=>by simp[ke,wS]⟩
  |cons k l PI=>
   intro i out hk h
   have h1:=ih k (hk k aK)
   have h2:=lX t.op t.n i (dc k) out h
   have h3:=PI (i+1) _ (fun x hx=>hk x pR) h2.1
   refine⟨h3.1,fun v=> ?_⟩
   show v∈ke t.op t.n l (i+1) (ng t.op t.n i (dc k) out)↔_
   rw[h3.2 v,h2.2 v,h1.2 v,wS]
   simp only[Bool.or_eq_true,Bool.and_eq_true,Bool.not_eq_true',Bool.and_eq_false_iff,beq_eq_false_iff_ne,ne_eq,not_and]
   have:(∀ (_:t.op=8) (_:i=1), ¬t.n=v)↔((¬t.op=8\/ ¬i=1)\/ ¬t.n=v):=by
    constructor
    ·intro h
     by_cases c1:t.op=8
     ·by_cases c2:i=1
      ·exact .inr (h c1 c2)
      ·exact .inl (.inr c2)
     ·exact .inl (.inl c1)
    ·rintro((h|h)|h) c1 c2
     ·exact absurd c1 h
     ·exact absurd c2 h
     ·exact h
   rw[this]
   constructor
   ·rintro((h|h)|h)
    ·exact .inl h
    ·exact .inr (.inl h)
    ·exact .inr (.inr h)
   ·rintro(h|h|h)
    ·exact .inl (.inl h)
    ·exact .inl (.inr h)
    ·exact .inr h
 by_cases h1:t.op=1
 ·rw[oz,if_pos h1]
  refine⟨aK,fun v=> ?_⟩
  rw[pI,if_pos h1]
  simp only[List.mem_singleton,beq_iff_eq]
  exact eq_comm
 ·rw[oz,if_neg h1]
  have:=hs t.kids 0 [] (fun _ h=>h) aK
  refine⟨this.1,fun v=> ?_⟩
  rw[this.2 v,pI,if_neg h1]
  simp
theorem sS{α:Type}{l:List α}{i:Nat}{n:α}(h:l[i]? =some n):(n::l.eraseIdx i).Perm l:=by
 obtain⟨hi,e⟩:=List.getElem?_eq_some_iff.1 h
 have KT:l=l.take i++n::l.drop (i+1):=by rw[<- e,List.getElem_cons_drop,List.take_append_drop]
 rw[List.eraseIdx_eq_take_drop_succ]
 conv=>rhs;rw[KT]
 exact List.perm_middle.symm
end Go.Proofs.YtlhemmpklhhgoaaGreat
section
namespace Go.Proofs.YtlhemmpklhhgoaaGreat
open Go.Sort Go.RowKit
end Go.Proofs.YtlhemmpklhhgoaaGreat
end
section
namespace Go.Proofs.YtlhemmpklhhgoaaGreat
open Go.Shelf
end Go.Proofs.YtlhemmpklhhgoaaGreat
end
namespace Go.Proofs.YtlhemmpklhhgoaaGreat
end Go.Proofs.YtlhemmpklhhgoaaGreat
namespace Go.Proofs.YtlhemmpklhhgoaaGreat
theorem P8{o:Nat->ab}{nx:Nat}{Δ:List (Nat×ab)}(h:∀x∈Δ,x.1<nx):(hp o nx).put Δ=hp (put o Δ) nx:=by
 simp only[Hp.put,hp]
 congr 1
 funext j
 simp only[List.mem_map,eq_iff_iff]
 exact⟨fun h2=>h2.elim (fun h=>h) fun⟨x,hx,e⟩=>e ▸ h x hx, .inl⟩
section
section
variable {B:Nat->Prop}{w:World}
end
end
@[reducible] def mpD (m:List (Int×D)):D:= .mp ((enc (D.int .i64) m).map (·.1)) ((enc (D.int .i64) m).map (·.2))
theorem lY(m:List (Int×D)):(((enc (D.int .i64) m).map (·.1)).zip ((enc (D.int .i64) m).map (·.2)))=enc (D.int .i64) m:=JE _ m
theorem Et:∀ {l:List Int},Es l->l.Nodup:=by
 intro l h
 exact List.Pairwise.imp (fun h=>af) h
theorem G5(a b:List Tm)(ha:a.length<=9223372036854775807)(hb:b.length<=9223372036854775807)(g:Nat)(h:∀x∈a,∀y∈b,aX Tryz.prog g [x.d,y.d] (.ret [.bool (iA x y)]))(o:Nat->ab)(nx:Nat)(hg:Good o nx)(K X:V->(Nat->ab)->Nat->Prop)
 (hK:∀o' nx',nx<=nx'->Good o' nx'->(∀j,j<nx->o' j=o j)->K (.d (.bool (a.length==b.length&&fL a b))) o' nx'):
 dA Tryz.prog 133 [.d (.sl (a.map Tm.d)), .d (.sl (b.map Tm.d)), .func (.func g) [] []] o nx K X:=by
 refine dA.aM mix L3 aK ?_
 rw[O9]
 refine oQ ?_
 refine ak (fun h1=> ?_) (fun h1=> ?_)
 ·refine cm ?_
  have:(a.length==b.length&&fL a b)=false:=by
   have:(a.length==b.length)=false:=by
    rw[Bool.eq_false_iff];intro h
    simp at h;simp[h]at h1
   rw[this];rfl
  rw[this]at hK
  exact hK _ _ af (hg.mono af) (fun _ _=>rfl)
 ·have hl:a.length=b.length:=by simp at h1;omega
  have FK:(a.length==b.length)=true:=by simpa using hl
  rw[FK,Bool.true_and]at hK
  refine oQ ?_
  refine aH (fun k:Nat=>⟨ba [.d (.sl (a.map Tm.d)), .d (.sl (b.map Tm.d)), .func (.func g) [] [], .aa, .aa, .aa, .aa, .aa, .aa, .aa, .aa, .aa, .aa, .aa, .aa, .d (.sl (a.map Tm.d)), .d (.i a.length), .d (.i k)],o,nx⟩)
   (fun k=>k<=a.length/\∀i,i<k->∀x y,a[i]? =some x->b[i]? =some y->iA x y=true) (fun k=>a.length - k) 0 ⟨Nat.zero_le _,fun i h=>af⟩ (bG.bU _ (Nat.le_refl _) af hg (fun _ _=>rfl) ?_) (fun k hk=> ?_)
  ·exact dQ
  refine cm ?_
  refine ak (fun h2=> ?_) (fun h2=> ?_)
  ·simp at h2
   obtain⟨x,hx⟩:=aF h2
   obtain⟨y,hy⟩:=aF (l:=b) (k:=k) af
   simp+contextual (disch:=first|omega|simp only[go_sem,false_implies]) only[go_sem,wrap64,if_pos,hx,hy,Nat.add_assoc,Nat.left_eq_add,Nat.add_eq_left,Nat.add_left_cancel_iff]
   refine ao (h x (List.mem_of_getElem? hx) y (List.mem_of_getElem? hy)) rfl ?_
   refine cm ?_
   refine ak (fun h3=> ?_) (fun h3=> ?_)
   ·refine cm ?_
    simp at h3
    have:fL a b=false:=by
     rw[Bool.eq_false_iff];intro h4
     have:=(fP _ _ hl).1 h4 k x y hx hy
     rw[h3]at this;cases this
    rw[this]at hK
    refine hK _ _ af ?_ (fun j hj=>by(repeat(first|rfl|rw[ae]|rw[ah _ _ _ _ (by omega)])))
    exact ek
   ·refine cm ?_
    simp at h3
    refine aw (k+1) ⟨h2,fun i hi u v hu hv=> ?_⟩ af (bG.bU _ (Nat.le_refl _) af hg (fun j hj=>by(repeat(first|rfl|rw[ae]|rw[ah _ _ _ _ (by omega)]))) ?_)
    ·by_cases e:i=k
     ·subst e
      rw[hx]at hu;rw[hy]at hv
      exact SE
     ·exact hk.2 i af u v hu hv
    ·exact dQ
  ·refine cm ?_
   simp at h2
   have:fL a b=true:=(fP _ _ hl).2 fun i x y hx hy=>hk.2 i (by have:=(List.getElem?_eq_some_iff.1 hx).1;omega) x y hx hy
   rw[this]at hK
   exact hK _ _ af (hg.mono af) (fun _ _=>rfl)
def lk:List (Int×Int)->Int->Option Int
 |[],_=>none
 |p::m,v=>if p.1=v then some p.2 else lk m v
abbrev Keys(m:List (Int×Int)):Prop:=(m.map (·.1)).Nodup
def ints(m:List (Int×Int)):List (Int×D):=m.map fun p=>(p.1,D.i p.2)
def bZ:List (Int×Tm)->Int->Option Tm
 |[],_=>none
 |p::l,v=>if p.1=v then some p.2 else bZ l v
mutual
def Tm.wf:Tm->Prop
 | .mk op _ kids=>(op=1->kids=[])/\(op=8->kids.length=2)/\Tm.WT kids
def Tm.WT:List Tm->Prop
 |[]=>True
 |k::l=>k.wf/\Tm.WT l
end
theorem Tm.CT:∀l:List Tm,Tm.WT l↔∀k∈l,k.wf
 |[]=>by simp[Tm.WT]
 |k::l=>by simp[Tm.WT,Tm.CT l]
theorem Tm.Bj (t:Tm):t.wf↔(t.op=1->t.kids=[])/\(t.op=8->t.kids.length=2)/\∀k∈t.kids,k.wf:=by cases t;simp[Tm.wf,Tm.CT,Tm.op,Tm.kids]
theorem P9{t:Tm}(h:t.kids.length=2):∃a b,t.kids=[a,b]:=by
 match hk:t.kids with
 |[a,b]=>exact⟨a,b,rfl⟩
 |[]=>rw[hk]at h;cases h
 |[_]=>rw[hk]at h;cases h
 |_::_::_::_=>rw[hk]at h;simp at h
theorem oA{b:List (Int×Tm)}{v:Int}:bZ b v=none↔v∉b.map (·.1):=by
 induction b with
 |nil=>simp[bZ]
 |cons p l ih=>
  simp only[bZ,List.map_cons,List.mem_cons,not_or]
  split
  ·rename_i h;simp[h]
  ·rename_i h;rw[ih];exact⟨fun h2=>⟨fun e=>h e.symm,h2⟩,fun h2=>h2.2⟩
theorem dt{b:List (Int×Tm)}{v:Int}{x:Tm}(h:bZ b v=some x):(v,x)∈b:=by
 induction b with
 |nil=>cases h
 |cons p l ih=>
  simp only[bZ]at h
  split at h
  ·rename_i e;injection h with h;subst h;subst e;exact List.mem_cons_self ..
  ·exact List.mem_cons_of_mem _ (ih h)
theorem oB{b:List (Int×Tm)}(hb:(b.map (·.1)).Nodup){v:Int}{x:Tm}:bZ b v=some x↔(v,x)∈b:=by
 refine⟨dt,fun h=> ?_⟩
 induction b with
 |nil=>cases h
 |cons p l ih=>
  rw[List.map_cons,List.nodup_cons]at hb
  simp only[bZ]
  rcases List.mem_cons.1 h with e|h
  ·subst e;simp
  ·rw[if_neg (fun e=>hb.1 (by rw[e];exact List.mem_map.2 ⟨_,h,rfl⟩)),ih hb.2 h]
def zo(b:Bool)(x:Tm×Int):Bool:=b&&x.1.op !=1
def MA(t:Tm):Bool:=(pre t 1).all fun x=>x.1.op !=1
theorem qp:∀ (l:List (Tm×Int)) (b:Bool),(aD (tp (fun _=>none) zo) b l).1=(b&&l.all fun x=>x.1.op !=1)
 |[],b=>by simp[aD]
 |x::l,b=>by
  have e1:tp (fun _=>(none:Option iH)) zo b x=(zo b x,true):=rfl
  rw[aD,e1]
  simp only[if_true]
  rw[qp l,zo,List.all_cons,Bool.and_assoc]
theorem Bk(s:aN)(hs:s.Fits)(t:Tm)(ht:t.Fin):aX Tryz.prog 129 [s.d,t.d] (.ret [.bool (iC s [t]&&lC t), .bool (iC s [t]&&lC t&&MA t), .i (kD (iC s [t]))]):=by
 refine aX.aM mix L2 aK ?_
 rw[O8]
 refine cm ?_
 refine ao (JH s hs [t] aK (fun x hx=>by simp at hx;subst hx;exact ht)) rfl ?_
 cases h1:iC s [t]with
 |false=>simp+contextual (disch:=first|omega|simp only[go_sem,false_implies]) only[go_sem,wrap64,if_pos,and_self];simp[kD]
 |true=>
  refine oQ ?_
  refine dY (sI t _ _ _ _ ?_)
  refine oQ ?_
  refine lB (σ:=Bool) t ht.fits ht.mD [.aa, .aa, .aa, .ptr 1 0, .aa, .aa, .aa, .ptr 10 0] ?_ cA rfl ek xw (ae _ _ _)
   (fun b=>aI (aI (aI (aI (aI (fun _=> .no) 0 (.row s.row)) 1 (.row t.row)) 7 (.arr 0 33 3 [t.d])) 10 (.row [.d (.bool b)])) 13 (.row t.row)) (fun _=>none) zo (fun _=>True) true trivial rfl (fun id au=> ?_) (fun _ _ _ _ _ _=>trivial) ?_ ?_
  ·exact Ic
  ·rw[qY]
  ·intro L hL BG x hx s' h1 h2 o3 n3 hI hn ho K X dC
   simp only[n9]
   have hg:=hI.cc
   have q1:o3 10= .row [.d (.bool s')]:=hI.eq 10 af
   refine cm ?_
   refine om hL (pd:=none) ?_ ?_
   ·(repeat(first|rfl|rw[ae]|rw[ah _ _ _ _ (by omega)]))
    exact ho
   refine mg q1 ?_
   refine dC _ _ _ .busy none af ⟨ek,af,fun id au=> ?_⟩ fq (fun id h3 h4=>by(repeat(first|rfl|rw[ae]|rw[ah _ _ _ _ (by omega)])))
   by_cases e:id=10
   ·exact tv
   ·rw[ah _ _ _ _ e];(repeat(first|rfl|rw[ae]|rw[ah _ _ _ _ (by omega)]))
    rw[hI.eq id au]
    simp only[aC,e,if_false]
  ·intro o' n' hI
   have hf:=qp (pre t 1) true
   rw[Bool.true_and]at hf
   rw[hf]at hI
   have q0:o' 1= .row t.row:=hI.eq 1 af
   have q1:o' 10= .row [.d (.bool (MA t))]:=hI.eq 10 af
   simp only[pq]
   refine Ib q0 q1 ?_
   refine ao (Em t ht) rfl ?_
   cases hv:lC t<;>(simp+contextual (disch:=first|omega|simp only[go_sem,false_implies]) only[go_sem,wrap64,if_pos,q0,q1];refine aR cA ?_;simp+contextual (disch:=first|omega|simp only[go_sem,false_implies]) only[go_sem,wrap64,if_pos,and_self];simp[kD])
end Go.Proofs.YtlhemmpklhhgoaaGreat
