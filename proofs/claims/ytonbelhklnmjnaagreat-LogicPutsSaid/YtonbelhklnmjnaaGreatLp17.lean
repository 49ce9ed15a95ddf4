/-
  A PART OF THE PROOF. Conditions: none.
-/
import Derived.Test.YtonbelhklnmjnaaGreatLp16
set_option linter.unusedSimpArgs false
set_option linter.unusedVariables false
namespace Go.Proofs.YtonbelhklnmjnaaGreat
def ZH:List Int->Int->Int->Int
 |[],_,_=> -1
 |x::l,v,k=>if v=x then k else ZH l v (k+1)
theorem Nk:∀ (l:List Int) (v k:Int),0<=k->(decide (0<=ZH l v k)=l.contains v)
 |[],v,k,_=>rfl
 |x::l,v,k,hk=>by
  have ih:=Nk l v (k+1) ah
  unfold ZH
  by_cases h:v=x
  ·rw[if_pos h];subst h;simp[hk]
  ·rw[if_neg h,ih];simp[List.contains_cons,h]
theorem Nl(l:List Int)(hl:l.length<=1000000)(v:Int):aR Tryz.prog 259 [.sl (l.map .i), .i v] (.ret [.i (ZH l v 0)]):=by
 refine aR.az mix Vl ao ?_
 rw[Zp]
 refine gD ?_
 refine aF (fun k:Nat=>⟨bp [.d (.sl (l.map .i)), .d (.i v), .aa, .aa, .aa, .aa, .aa, .d (.i l.length), .d (.i k)],fun _=> .no,1⟩)
  (fun k=>k<=l.length/\ZH l v 0=ZH (l.drop k) v k) (fun k=>l.length - k) 0 ⟨Nat.zero_le _,rfl⟩ (bJ.bX _ (show 0<=1 from ah) ah dB (fun _ _=>rfl) ?_) (fun k hk=> ?_)
 ·exact cY
 obtain⟨hk,uL⟩:=hk
 refine aS ?_
 refine aj (fun h2=> ?_) (fun h2=> ?_)
 ·simp at h2
  obtain⟨x,hx⟩:=aq h2
  have hd:l.drop k=x::l.drop (k+1):=by
   exact Lj
  rw[hd]at uL
  simp only[ZH]at uL
  refine dc hx ?_
  refine aj (fun h3=> ?_) (fun h3=> ?_)
  ·have sb:v=x:=by simpa using h3
   rw[if_pos sb]at uL
   refine aS ?_
   rw[uL]
  ·have sb: ¬v=x:=by simpa using h3
   rw[if_neg sb]at uL
   refine aS ?_
   refine au (k+1) ⟨h2,uL⟩ ah (bJ.bX _ (show 0<=1 from ah) ah dB (fun _ _=>rfl) ?_)
   exact cY
 ·exact SL
theorem Du(l:List Int)(hl:l.length<=1000000)(v:Int):aR Tryz.prog 232 [.sl (l.map .i), .i v] (.ret [.bool (l.contains v)]):=by
 refine aR.az mix U4 ao ?_
 rw[Y9]
 refine aS ?_
 refine ai (Nl l hl v) rfl ?_
 refine aS ?_
 rw[Nk l v 0 (by omega)]
mutual
def A4(m:List (Int×Int)):Tm->List Int->Bool
 | .mk op n kids,oG=>if op=1 then(il m n==0||oG.contains n)else qY m op n kids 0 oG
def qY(m:List (Int×Int))(op n:Int):List Tm->Nat->List Int->Bool
 |[],_,_=>true
 |k::l,i,oG=>A4 m k (if op=8/\i=1 then oG++[n]else oG)&&qY m op n l (i+1) oG
end
theorem Hh(m:List (Int×Int))(t:Tm)(oG:List Int):A4 m t oG=if t.op=1 then(il m t.n==0||oG.contains t.n)else qY m t.op t.n t.kids 0 oG:=by cases t;rw[A4];rfl
theorem Nn(m:List (Int×Int)):∀t:Tm,t.fits->∀oG:List Int,oG.length+t.iN<=1000000->aR Tryz.prog 191 [t.d,Nj m, .sl (oG.map .i)] (.ret [.bool (A4 m t oG)]):=by
 refine Tm.bW fun t ih hf oG hb=> ?_
 have dR:=(Tm.aH _).1 hf
 refine aR.az mix UK ao ?_
 rw[YQ,Hh]
 by_cases h1:t.op=1
 ·have cH:(t.op==1)=true:=by simpa using h1
  rw[if_pos h1]
  cases hc:(il m t.n==0)with
  |true=>
   simp+contextual (disch:=first|omega|simp only[go_sem,false_implies]) only[go_sem,wrap64,if_pos,cH,zI,hc]
  |false=>
   simp+contextual (disch:=first|omega|simp only[go_sem,false_implies]) only[go_sem,wrap64,if_pos,cH,zI,hc]
   refine ai (Du oG ah t.n) rfl ?_
   exact zH hc
 ·have cH:(t.op==1)=false:=by simpa using h1
  rw[if_neg h1]
  refine et cH ?_
  refine aF (fun k:Nat=>⟨bp [.aa, .d (Nj m), .d (.sl (oG.map .i)), .ptr 0 0, .aa, .aa, .aa, .aa, .aa, .aa, .aa, .aa, .aa, .aa, .aa, .aa, .aa, .aa, .aa, .aa, .aa, .aa, .aa, .aa, .aa, .d (.sl (t.kids.map Tm.d)), .d (.i t.kids.length), .d (.i k)],aK (fun _=> .no) 0 (.row [.d (.i t.op), .d (.i t.n), .d (.sl (t.kids.map Tm.d))]),1⟩)
   (fun k=>k<=t.kids.length/\qY m t.op t.n t.kids 0 oG=qY m t.op t.n (t.kids.drop k) k oG) (fun k=>t.kids.length - k) 0 ⟨Nat.zero_le _,rfl⟩ (bJ.bX _ (show 0<=1 from ah) ah dB (fun _ _=>rfl) ?_) (fun k hk=> ?_)
  ·exact cY
  obtain⟨hk,uL⟩:=hk
  have rI:=dR.1
  refine aS ?_
  refine aj (fun h2=> ?_) (fun h2=> ?_)
  ·simp at h2
   obtain⟨x,hx⟩:=aq h2
   have cz:=List.mem_of_getElem? hx
   have hd:t.kids.drop k=x::t.kids.drop (k+1):=by
    exact Lj
   have hh:=Tm.qN cz
   rw[hd]at uL
   simp only[qY]at uL
   refine dc hx ?_
   refine aj (fun h3=> ?_) (fun h3=> ?_)
   ·have sb:t.op=8/\k=1:=by
     simp at h3
     exact⟨h3.1,ah⟩
    rw[if_pos sb]at uL
    refine aS ?_
    refine yF rfl (Fu oG ah _ _) ?_
    refine aS ?_
    refine aD bE ?_
    refine aS ?_
    have e:List.map D.i oG++[D.i t.n]=(oG++[t.n]).map D.i:=ao
    rw[e]
    refine ai (ih x cz (dR.2 x cz) (oG++[t.n]) qb) rfl ?_
    refine aS ?_
    cases hs:A4 m x (oG++[t.n])with
    |false=>
     rw[hs,Bool.false_and]at uL
     refine dc hs ?_
     rw[uL]
    |true=>
     exact abI
   ·have sb: ¬ (t.op=8/\k=1):=by
     simp at h3
     intro⟨h4,h5⟩
     exact h3 h4 ah
    rw[if_neg sb]at uL
    refine aS ?_
    refine ai (ih x cz (dR.2 x cz) oG ah) rfl ?_
    refine aS ?_
    cases hs:A4 m x oG with
    |false=>
     rw[hs,Bool.false_and]at uL
     refine dc hs ?_
     rw[uL]
    |true=>
     exact abI
  ·exact SL
mutual
def sG(v:Int):Tm->Bool
 | .mk op n kids=>if op=1 then n==v else im v op n kids 0
def im(v op n:Int):List Tm->Nat->Bool
 |[],_=>false
 |k::l,i=>(sG v k&& !(op==8&&i==1&&n==v))||im v op n l (i+1)
end
theorem gU(v:Int)(t:Tm):sG v t=if t.op=1 then t.n==v else im v t.op t.n t.kids 0:=by cases t;rfl
@[reducible] def tZ (l:List Int):ab:= .map 3 4 (enc (D.int .i64) (iH l))
def agX(id:Nat)(Q:List Int->Prop)(o:Nat->ab)(nx:Nat)(K:V->(Nat->ab)->Nat->Prop):Prop:=
 ∀o' nx' l',nx<=nx'->Good o' nx'->(∀j,j<nx->j≠id->o' j=o j)->o' id=tZ l'->Q l'->K (.cg []) o' nx'
theorem Fv{b nx id it n0:Nat}{Q:fX->S->Prop}{e:Nat->V}{o:Nat->ab}{ks n k:D}(own s:List Int)(hg:Good o nx)(aC:o id=tZ s)(hit:o it= .nh (enc (D.int .i64) (iH own)) none)(hb:b<=nx)(hs:s.Nodup)(hn0:n0<nx)
 (he:kA nx e [.mp id, .aa, .aa, .ptr n0 0, .aa, .aa, .aa, .aa, .aa, .aa, .aa, .aa, .aa, .aa, .aa, .d ks, .d n, .d k, .aa, .aa, .aa, .aa, .aa, .aa, .aa, .aa, .aa, .aa, .aa, .aa, .aa, .aa, .aa, .aa, .aa, .aa, .aa, .ptr it 0] 0)
 (hQ:∀e' o' nx' s',e' 0= .mp id->e' 3= .ptr n0 0->e' 15= .d ks->e' 16= .d n->e' 17= .d k->nx<=nx'->Good o' nx'->(∀j,j<nx->j≠id->j≠it->o' j=o j)->o' id=tZ s'->s'.Nodup->(∀v,v∈s'↔v∈s\/v∈own)->Q (.exit 2) ⟨e',o',nx'⟩):
 vz b (fun Q s=>lj Tryz.prog 45 b false (.seq (.ae [⟨some 38, .next (.tmp 37) false,none⟩,⟨some 39, .extract (.tmp 38) 0,none⟩]) (.seq (.cond (.tmp 39) .skip (.exit 2)) (.block 3 (.seq (.ae [⟨some 40, .entry (.tmp 37),none⟩,⟨some 41, .extract (.tmp 40) 0,none⟩,⟨some 7, .assign (.tmp 41),none⟩]) (.ae [⟨some 42, .move (.tmp 0),none⟩,⟨some 43, .move (.tmp 7),none⟩,⟨none, .mapUpdate 141 (.tmp 42) (.tmp 43) (.const (.bool true)),none⟩]))))) Q s) Q ⟨e,o,nx⟩:=by
 have h1:id<nx:=hg.lt (by rw[aC];exact ab.noConfusion)
 have h2:it<nx:=hg.lt (by rw[hit];exact ab.noConfusion)
 have h3:id≠it:=fun h=>by rw[h,hit]at aC;cases aC
 have h4:it≠id:=fun h=>h3 h.symm
 refine aF (fun i:List Int×List Int×Option (D×D)=>⟨bp [.mp id, .aa, .aa, .ptr n0 0, .aa, .aa, .aa, .aa, .aa, .aa, .aa, .aa, .aa, .aa, .aa, .d ks, .d n, .d k, .aa, .aa, .aa, .aa, .aa, .aa, .aa, .aa, .aa, .aa, .aa, .aa, .aa, .aa, .aa, .aa, .aa, .aa, .aa, .ptr it 0],aK (aK o id (tZ i.2.1)) it (.nh (enc (D.int .i64) (iH i.1)) i.2.2),nx⟩)
  (fun i=>i.2.1.Nodup/\∀v,(v∈i.2.1\/v∈i.1)↔(v∈s\/v∈own)) (fun i=>i.1.length) (own,s,none) ⟨hs,fun _=>Iff.rfl⟩ ?_ ?_
 ·dsimp only
  refine bJ.bX _ hb (Nat.le_refl _) ?_ (fun j hj=> ?_) he
  ·exact dB
  ·by_cases e1:j=it
   ·subst e1;rw[ad];exact hit
   ·rw[ak _ _ _ _ e1]
    by_cases e2:j=id
    ·subst e2;rw[ad];exact aC
    ·rw[ak _ _ _ _ e2]
 rintro⟨rest,s',last⟩ ⟨jv,hv⟩
 simp only at jv hv
 refine xB h3 h4 ?_
 refine zd (fun hr=> ?_) fun i m hm=> ?_
 ·subst hr
  refine aS ?_
  refine hQ _ _ _ s' ?_ ?_ ?_ ?_ ?_ ?_ ?_ (fun j g1 g2 g3=> ?_) ?_ jv (fun v=> ?_)
  ·rfl
  ·rfl
  ·rfl
  ·rfl
  ·rfl
  ·omega
  ·exact dB
  ·exact dU
  ·exact dU
  ·have:=hv v
   simpa using this
 ·refine xB h3 h4 ?_
  obtain⟨r1,r2⟩:=wc hm
  refine au (rest.eraseIdx i,sD s' m,some (.int .i64 m, .bool true)) ⟨wb _ jv,fun v=> ?_⟩ ?_ ?_
  ·dsimp only
   rw[wa, <- hv v,r1 v]
   constructor
   ·rintro((h|h)|h)
    ·exact .inl h
    ·exact .inr (.inl h)
    ·exact .inr (.inr h)
   ·rintro(h|h|h)
    ·exact .inl (.inl h)
    ·exact .inl (.inr h)
    ·exact .inr h
  ·dsimp only;omega
  ·dsimp only
   refine bJ.bX _ hb ah ?_ (fun j hj=> ?_) ?_
   ·exact dB
   ·by_cases e1:j=it
    ·subst e1;(repeat(first|rfl|rw[ad]|rw[ak _ _ _ _ (by omega)]))
    ·by_cases e2:j=id
     ·subst e2;(repeat(first|rfl|rw[ad]|rw[ak _ _ _ _ (by omega)]))
     ·exact dU
   ·exact cY
theorem ZI:∀t:Tm,t.fits->∀ (o:Nat->ab) (nx id:Nat) (l:List Int),Good o nx->o id=tZ l->l.Nodup->∀K X,agX id (fun l'=>l'.Nodup/\∀n,n∈l'↔n∈l\/sG n t=true) o nx K->cK Tryz.prog 164 [.mp id, .d t.d] o nx K X:=by
 refine Tm.bW fun t ih hf o nx id l hg ho hl K X hK=> ?_
 have dR:=(Tm.aH _).1 hf
 have aC:id<nx:=hg.lt (by rw[ho];exact ab.noConfusion)
 refine cK.az mix Ul ao ?_
 rw[Yr]
 have y1:id≠nx:=ah
 have y2:∀k,id≠nx+k:=fun k=>ah
 by_cases h1:t.op=1
 ·refine OU ho y1 y2 h1 ?_
  refine hK _ _ (sD l t.n) ?_ ?_ (fun j hj ik=> ?_) ?_ ⟨wb _ hl,fun n=> ?_⟩
  ·omega
  ·exact dB
  ·exact dU
  ·exact dU
  ·rw[wa,gU,if_pos h1]
   rw[beq_iff_eq, @eq_comm _ t.n n]
 ·have cH:(t.op==1)=false:=by simpa using h1
  refine OU ho y1 y2 cH ?_
  refine aF (fun i:Nat×List Int×(Nat->ab)×Nat=>⟨bp [.mp id, .aa, .aa, .ptr nx 0, .aa, .aa, .aa, .aa, .aa, .aa, .aa, .aa, .aa, .aa, .aa, .d (.sl (t.kids.map Tm.d)), .d (.i t.kids.length), .d (.i i.1)],i.2.2.1,i.2.2.2⟩)
   (fun i=>i.1<=t.kids.length/\i.2.1.Nodup/\Good i.2.2.1 i.2.2.2/\nx+1<=i.2.2.2/\(∀j,j<nx->j≠id->i.2.2.1 j=o j)/\i.2.2.1 nx= .row t.row/\i.2.2.1 id=tZ i.2.1/\∀v,(v∈i.2.1\/im v t.op t.n (t.kids.drop i.1) i.1=true)↔(v∈l\/sG v t=true)) (fun i=>t.kids.length - i.1) (0,l,aK o nx (.row t.row),nx+8)
   ⟨Nat.zero_le _,hl,by dsimp only;exact dB,by dsimp only;omega,fun j hj ik=>by dsimp only;(repeat(first|rfl|rw[ad]|rw[ak _ _ _ _ (by omega)])),by dsimp only;(repeat(first|rfl|rw[ad]|rw[ak _ _ _ _ (by omega)])),by dsimp only;(repeat(first|rfl|rw[ad]|rw[ak _ _ _ _ (by omega)]));exact ho,fun v=>by simp only[List.drop_zero];rw[gU v t,if_neg h1]⟩ ?_ ?_
  ·dsimp only
   refine bJ.bX _ ah ah dB (fun _ _=>rfl) ?_
   exact cY
  rintro⟨k,l',o',nx'⟩ ⟨hk,OJ,hg',uj,hold,cq,AF,hv⟩
  simp only at hk OJ hg' uj hold cq AF hv
  have z1:id≠nx':=ah
  have z2:∀k,id≠nx'+k:=fun k=>ah
  have z3:nx≠nx':=ah
  have z4:∀k,nx≠nx'+k:=fun k=>ah
  simp+contextual (disch:=first|omega|simp only[go_sem,false_implies]) only[go_sem,wrap64,if_pos,AF,cq,z1,z2,z3,z4,Nat.add_assoc,Nat.left_eq_add,Nat.add_eq_left,Nat.add_left_cancel_iff]
  refine aj (fun h2=> ?_) (fun h2=> ?_)
  ·simp at h2
   obtain⟨x,hx⟩:=aq h2
   have cz:=List.mem_of_getElem? hx
   simp+contextual (disch:=first|omega|simp only[go_sem,false_implies]) only[go_sem,wrap64,if_pos,AF,cq,z1,z2,z3,z4,Nat.add_assoc,Nat.left_eq_add,Nat.add_eq_left,Nat.add_left_cancel_iff,hx]
   refine c7 (ih x cz (dR.2 x cz) _ _ (nx'+7) [] ?_ ?_ List.nodup_nil _ _ fun o2 n2 own m1 m2 m3 m4 m5=> ?_)
   ·have hg:=hg'
    exact dB
   ·exact dU
   have p0:o2 nx= .row t.row:=by rw[m3 nx (by omega) (by omega)];(repeat(first|rfl|rw[ad]|rw[ak _ _ _ _ (by omega)]));exact cq
   have p1:o2 id=tZ l':=by rw[m3 id (by omega) (by omega)];(repeat(first|rfl|rw[ad]|rw[ak _ _ _ _ (by omega)]));exact AF
   have p2:∀j,j<nx->j≠id->o2 j=o j:=fun j h3 h4=>by rw[m3 j (by omega) (by omega)];(repeat(first|rfl|rw[ad]|rw[ak _ _ _ _ (by omega)]));exact hold j h3 h4
   have w1:nx≠n2:=ah
   have w2:∀k,nx≠n2+k:=fun k=>ah
   have w3:id≠n2:=ah
   have w4:∀k,id≠n2+k:=fun k=>ah
   have w5:nx'+7≠n2:=ah
   have w6:∀k,nx'+7≠n2+k:=fun k=>ah
   obtain⟨xr,d1,d2,d3⟩:∃xr,xr.Nodup/\(∀v,v∈xr↔(sG v x=true/\ ¬ (t.op=8/\k=1/\t.n=v)))/\xr=if t.op=8/\k=1 then Dr own t.n else own:=by
    refine⟨_, ?_,fun v=> ?_,rfl⟩
    ·split
     ·exact(zb _ m5.1).1
     ·exact m5.1
    ·have:=m5.2 v
     simp only[List.not_mem_nil,false_or]at this
     rw[<- this]
     split
     ·rename_i hc
      rw[(zb t.n m5.1).2]
      simp[hc,eq_comm]
     ·rename_i hc
      constructor
      ·exact fun h=>⟨h,fun h2=>hc ⟨h2.1,h2.2.1⟩⟩
      ·exact fun h=>h.1
   have step:∀v (s':List Int),(v∈s'↔v∈l'\/v∈xr)->((v∈s'\/im v t.op t.n (t.kids.drop (k+1)) (k+1)=true)↔(v∈l\/sG v t=true)):=by
    intro v s' jv
    rw[<- hv v,jv,d2 v]
    have hdr:t.kids.drop k=x::t.kids.drop (k+1):=by
     exact Lk
    rw[hdr,im]
    simp only[Bool.or_eq_true,Bool.and_eq_true,Bool.not_eq_true',Bool.and_eq_false_iff,beq_eq_false_iff_ne,ne_eq,not_and]
    constructor
    ·rintro((h|⟨h,h6⟩)|h)
     ·exact .inl h
     ·refine .inr (.inl ⟨h, ?_⟩)
      by_cases c1:t.op=8
      ·by_cases c2:k=1
       ·exact .inr (h6 c1 c2)
       ·exact .inl (.inr c2)
      ·exact .inl (.inl c1)
     ·exact .inr (.inr h)
    ·rintro(h|⟨h,h6⟩|h)
     ·exact .inl (.inl h)
     ·refine .inl (.inr ⟨h,fun c1 c2=> ?_⟩)
      rcases h6 with(h6|h6)|h6
      ·exact absurd c1 h6
      ·exact absurd c2 h6
      ·exact h6
     ·exact .inr h
   have hcc:((t.op==8)&&((k:Int)==1))=decide (t.op=8/\k=1):=by
    rw[Bool.eq_iff_iff];simp;omega
   simp+contextual (disch:=first|omega|simp only[go_sem,false_implies]) only[go_sem,wrap64,if_pos,p0,p1,w1,w2,w3,w4,w5,w6,Nat.add_assoc,Nat.left_eq_add,Nat.add_eq_left,Nat.add_left_cancel_iff]
   refine aj (fun h3=> ?_) (fun h3=> ?_)
   ·rw[hcc]at h3
    simp only[decide_eq_true_eq]at h3
    rw[if_pos h3]at d3
    cases hd:own.findIdx? (· ==t.n)with
    |none=>
     have hd2:eM t.n (iH own) 0=none:=by rw[l5,hd];rfl
     obtain rfl:xr=own:=by rw[d3,Dr,hd]
     simp+contextual (disch:=first|omega|simp only[go_sem,false_implies]) only[go_sem,wrap64,if_pos,p0,p1,m4,w1,w2,w3,w4,w5,w6,Nat.add_assoc,Nat.left_eq_add,Nat.add_eq_left,Nat.add_left_cancel_iff,hd2]
     refine Fv (n0:=nx) (id:=id) (it:=n2+12) (ks:= .sl (t.kids.map Tm.d)) (n:= .i t.kids.length) (k:= .i k) xr l' ?_ ?_ ?_ ah OJ ah ?_ fun e' o4 n4 s' q0 q3 Ru Rv Rw q1 q2 q4 q5 q6 q7=> ?_
     ·have hg:=m2
      exact dB
     ·(repeat(first|rfl|rw[ad]|rw[ak _ _ _ _ (by omega)]))
      exact p1
     ·exact dU
     ·exact cY
     have r0:o4 nx= .row t.row:=by
      exact Wk
     refine OW q0 q3 Ru Rv Rw ?_
     refine au (k+1,s',o4,n4) ⟨by dsimp only;omega,q6,q2,by dsimp only;omega,fun j g1 g2=> ?_,r0,q5,fun v=> ?_⟩ oN ?_
     ·exact Wf
     ·dsimp only
      exact step v s' (q7 v)
     ·exact Ld
    |some j=>
     have hd2:eM t.n (iH own) 0=some (j, .bool true):=by rw[l5,hd];simp
     have hd3:(enc (D.int .i64) (iH own)).eraseIdx j=enc (D.int .i64) (iH xr):=by
      rw[d3,Dr,hd,sA];unfold iH;rw[iI]
     simp+contextual (disch:=first|omega|simp only[go_sem,false_implies]) only[go_sem,wrap64,if_pos,p0,p1,m4,w1,w2,w3,w4,w5,w6,Nat.add_assoc,Nat.left_eq_add,Nat.add_eq_left,Nat.add_left_cancel_iff,hd2]
     rw[hd3]
     refine Fv (n0:=nx) (id:=id) (it:=n2+12) (ks:= .sl (t.kids.map Tm.d)) (n:= .i t.kids.length) (k:= .i k) xr l' ?_ ?_ ?_ ah OJ ah ?_ fun e' o4 n4 s' q0 q3 Ru Rv Rw q1 q2 q4 q5 q6 q7=> ?_
     ·have hg:=m2
      exact dB
     ·(repeat(first|rfl|rw[ad]|rw[ak _ _ _ _ (by omega)]))
      exact p1
     ·exact dU
     ·exact cY
     have r0:o4 nx= .row t.row:=by
      exact Wk
     refine OW q0 q3 Ru Rv Rw ?_
     refine au (k+1,s',o4,n4) ⟨by dsimp only;omega,q6,q2,by dsimp only;omega,fun j g1 g2=> ?_,r0,q5,fun v=> ?_⟩ oN ?_
     ·exact Wf
     ·dsimp only
      exact step v s' (q7 v)
     ·exact Ld
   ·rw[hcc]at h3
    simp only[decide_eq_false_iff_not]at h3
    rw[if_neg h3]at d3
    subst d3
    simp+contextual (disch:=first|omega|simp only[go_sem,false_implies]) only[go_sem,wrap64,if_pos,p0,p1,m4,w1,w2,w3,w4,w5,w6,Nat.add_assoc,Nat.left_eq_add,Nat.add_eq_left,Nat.add_left_cancel_iff]
    refine Fv (n0:=nx) (id:=id) (it:=n2+8) (ks:= .sl (t.kids.map Tm.d)) (n:= .i t.kids.length) (k:= .i k) xr l' ?_ ?_ ?_ ah OJ ah ?_ fun e' o4 n4 s' q0 q3 Ru Rv Rw q1 q2 q4 q5 q6 q7=> ?_
    ·have hg:=m2
     exact dB
    ·(repeat(first|rfl|rw[ad]|rw[ak _ _ _ _ (by omega)]))
     exact p1
    ·exact dU
    ·exact cY
    have r0:o4 nx= .row t.row:=by
     exact Wk
    refine OW q0 q3 Ru Rv Rw ?_
    refine au (k+1,s',o4,n4) ⟨by dsimp only;omega,q6,q2,by dsimp only;omega,fun j g1 g2=> ?_,r0,q5,fun v=> ?_⟩ oN ?_
    ·exact Wf
    ·dsimp only
     exact step v s' (q7 v)
    ·exact Ld
  ·simp at h2
   refine aS ?_
   refine hK _ _ l' ?_ ?_ hold AF ⟨OJ,fun n=> ?_⟩
   ·omega
   ·exact hg'.mono ah
   ·have:=hv n
    rw[List.drop_eq_nil_of_le (by omega)]at this
    simpa[im]using this
def ua(l:List Int)(x:Tm×Int):Bool:=(x.1.op !=1&&x.1.op !=3)||(x.1.op==1&&l.contains x.1.n)
def l7(s:List Int×Bool)(x:Tm×Int):List Int×Bool:=(if ua s.1 x=true then s.1 else if x.1.op=1 then sD s.1 x.1.n else s.1, !ua s.1 x)
def pJ(s:List Int×Bool):Option jQ:=if s.2=true then none else some .ret
def xu(t:Tm):Bool:=(aB (yQ pJ l7) ([],true) (pre t 1)).2
theorem Dv(s:aO)(hs:s.Fits)(t:Tm)(ht:t.Fin):aR Tryz.prog 186 [s.d,t.d] (.ret [.bool (cV s [t]&&xu t), .i (mL (cV s [t]))]):=by
 refine aR.az mix UF ao ?_
 rw[YL]
 refine aS ?_
 refine ai (AV s hs [t] ao (fun x hx=>by simp at hx;subst hx;exact ht)) rfl ?_
 cases h1:cV s [t]with
 |false=>exact HS
 |true=>
  refine iO ?_
  refine c7 (Dh t _ _ _ _ ?_)
  refine iO ?_
  refine tx (σ:=List Int×Bool) t ht.fits ht.iN [.aa, .aa, .aa, .aa, .ptr 2 0, .ptr 3 0, .ptr 10 0] ?_ bE rfl dB mT (ad _ _ _)
   (fun b=>aK (aK (aK (aK (aK (aK (aK (aK (fun _=> .no) 0 (.row s.row)) 1 (.row t.row)) 2 (.row [.d (.bool false)])) 3 (.row [.d (.i 0)])) 6 (.arr 0 31 3 [t.d])) 10 (.row [.mp 9])) 13 (.row t.row)) 9 (tZ b.1)) pJ l7 (fun _=>True) ([],true) trivial rfl (fun id aC=> ?_) (fun _ _ _ _ _ _=>trivial) ?_ ?_
  ·exact Ko
  ·exact OZ
  ·intro L hL xD x hx s' h1 h2 o3 n3 hI hn ho K X cR
   simp only[nG]
   have hg:=hI.bQ
   have q1:o3 10= .row [.mp 9]:=hI.eq 10 ah
   have q2:o3 9=tZ s'.1:=hI.eq 9 ah
   have q3:o3 2= .row [.d (.bool false)]:=hI.eq 2 ah
   have q4:o3 3= .row [.d (.i 0)]:=hI.eq 3 ah
   refine aS ?_
   refine nU hL (pd:=none) ?_ ?_
   ·(repeat(first|rfl|rw[ad]|rw[ak _ _ _ _ (by omega)]))
    exact ho
   refine xB q1 q2 ?_
   have hv:ua s'.1 x=((x.1.op !=1&&x.1.op !=3)||(x.1.op==1&&s'.1.contains x.1.n)):=rfl
   rw[<- hv]
   have same:∀ (o':Nat->ab) (n':Nat) (l:List Int),Good o' n'->n3<=n'->(∀id,id<17->o' id=aK o3 9 (tZ l) id)->cQ 17 (aK (aK (aK (aK (aK (aK (aK (aK (fun _=> .no) 0 (.row s.row)) 1 (.row t.row)) 2 (.row [.d (.bool false)])) 3 (.row [.d (.i 0)])) 6 (.arr 0 31 3 [t.d])) 10 (.row [.mp 9])) 13 (.row t.row)) 9 (tZ l)) o' n':=fun o' n' l k1 k2 k3=>⟨k1,by have:=hI.le;omega,fun id aC=>by
    rw[k3 id aC]
    by_cases e:id=9
    ·subst e;rw[ad,ad]
    ·rw[ak _ _ _ _ e,ak _ _ _ _ e,hI.eq id aC,ak _ _ _ _ e]⟩
   cases hb:ua s'.1 x with
   |true=>
    have hp:l7 s' x=(s'.1,false):=by simp[l7,hb]
    rw[hp]at cR
    refine xB q3 q4 ?_
    refine cR _ _ _ .busy none ah (same _ _ _ dB ah fun id aC=> ?_) dU (fun id h3 h4=>by(repeat(first|rfl|rw[ad]|rw[ak _ _ _ _ (by omega)])))
    by_cases e9:id=9
    ·exact Sx
    ·by_cases e2:id=2
     ·subst e2;(repeat(first|rfl|rw[ad]|rw[ak _ _ _ _ (by omega)]))
      exact q3.symm
     ·by_cases e3:id=3
      ·subst e3;(repeat(first|rfl|rw[ad]|rw[ak _ _ _ _ (by omega)]))
       exact q4.symm
      ·exact dU
   |false=>
    refine xB q1 q2 ?_
    refine aj (fun h3=> ?_) (fun h3=> ?_)
    ·have sb:x.1.op=1:=by simpa using h3
     have hp:l7 s' x=(sD s'.1 x.1.n,true):=by simp[l7,hb,sb]
     rw[hp]at cR
     refine xB q1 q2 ?_
     refine cR _ _ _ .busy none ah (same _ _ _ dB ah fun id aC=> ?_) dU (fun id h3 h4=>by(repeat(first|rfl|rw[ad]|rw[ak _ _ _ _ (by omega)])))
     by_cases e9:id=9
     ·subst e9;(repeat(first|rfl|rw[ad]|rw[ak _ _ _ _ (by omega)]))
     ·exact dU
    ·have sb: ¬x.1.op=1:=by simpa using h3
     have hp:l7 s' x=(s'.1,true):=by simp[l7,hb,sb]
     rw[hp]at cR
     refine aS ?_
     refine cR _ _ _ .busy none ah (same _ _ _ dB ah fun id aC=> ?_) dU (fun id h3 h4=>by(repeat(first|rfl|rw[ad]|rw[ak _ _ _ _ (by omega)])))
     by_cases e9:id=9
     ·exact Sx
     ·exact dU
  ·intro o' n' hI
   have hJ:=AU pJ l7 (pre t 1) ([],true) rfl
   have hpf:xu t=(pJ (aB (yQ pJ l7) ([],true) (pre t 1)).1).isNone:=hJ
   have q0:o' 2= .row [.d (.bool false)]:=hI.eq 2 ah
   have q1:o' 3= .row [.d (.i 0)]:=hI.eq 3 ah
   rw[hpf]
   generalize (aB (yQ pJ l7) ([],true) (pre t 1)).1=sf at*
   obtain⟨l,b⟩:=sf
   cases b<;>(simp only[pJ,if_true,if_false,Bool.false_eq_true,pG];simp+contextual (disch:=first|omega|simp only[go_sem,false_implies]) only[go_sem,wrap64,if_pos,q0,q1];simp[mL])
structure Rl where
 fn:Int
 bg:List Tm
 rhs:Tm
 vars:Int
@[reducible] def Rl.row (r:Rl):List V:=[.d (.i r.fn), .d (.sl (r.bg.map Tm.d)), .d (.i r.rhs.op), .d (.i r.rhs.n), .d (.sl (r.rhs.kids.map Tm.d)), .d (.i r.vars)]
@[reducible] def Rl.d (r:Rl):D:= .agg [.i r.fn, .sl (r.bg.map Tm.d), .i r.rhs.op, .i r.rhs.n, .sl (r.rhs.kids.map Tm.d), .i r.vars]
structure Rl.Fin (r:Rl):Prop where
 bg:r.bg.length<=1000000
 all:∀t∈r.bg,t.Fin
 rhs:r.rhs.Fin
theorem Dw(l:List Tm)(hl:l.length<=9223372036854775807)(g:Nat)(aI:List V)(base:Nat)(h:Nat->ab)(p:Tm->Bool)(hc:∀r∈V.aL aI,r<base)
 (hp:∀x∈l,fT Tryz.prog g (.d x.d::aI) base h h (.d (.bool (p x)))):fT Tryz.prog 187 [.d (.sl (l.map Tm.d)), .func (.func g) [] aI] base h h (.d (.bool (l.all p))):=by
 have:=yZ l hl g aI base (fun _:Unit=>h) (fun _ x=>((),p x)) hc (fun _=>True) (fun _ _ _ _ _=>trivial) (fun x hx _ _=>hp x hx) () trivial
 exact FZ
def ll(s:aO)(t:Tm):Bool:=cV s [t]&&xu t
theorem QH(s:aO)(hs:s.Fits)(t:Tm)(ht:t.Fin)(base sp:Nat)(h:Nat->ab)(uX:h sp= .row s.row)(hb:sp<base):fT Tryz.prog 185 [.d t.d, .ptr sp 0] base h h (.d (.bool (ll s t))):=by
 intro o nx hI K X hK
 have hle:=hI.le
 have hg:=hI.bQ
 have q0:o sp= .row s.row:=by rw[hI.eq sp hb,uX]
 refine cK.az mix UE ao ?_
 rw[YK]
 refine dc q0 ?_
 refine ai (Dv s hs t ht) rfl ?_
 cases hr:cV s [t]with
 |false=>
  have e:ll s t=false:=by simp[ll,hr]
  exact abL
 |true=>
  have e:ll s t=xu t:=by simp[ll,hr]
  exact abL
theorem sH{K:V->List (Nat×ab)->Prop}{id:Nat}{l:List (Int×Int)}(h0:l=[]->K (.cg [.d (.bool false)]) [])
 (h1:∀ (i:Nat) n k,l[i]? =some (n,k)->K (.cg [.d (.bool true), .d (.int .i64 n), .d (D.i k)]) [(id, .nh (enc (D.int .i64) (ints (l.eraseIdx i))) (some (.int .i64 n,D.i k)))]):CP K id (enc (D.int .i64) (ints l)):=by
 refine yR _ (fun h=>h0 ?_) fun i k x h=> ?_
 ·cases l with
  |nil=>rfl
  |cons x l=>simp[ints]at h
 ·unfold ints at h|-
  rw[List.getElem?_map]at h
  cases hl:l[i]? with
  |none=>rw[hl]at h;cases h
  |some n=>
   rw[hl]at h
   simp at h
   obtain⟨rfl,rfl⟩:=h
   have:=h1 i n.1 n.2 hl
   rw[iI]
   exact this
theorem sI{α:Type}{l:List α}{i:Nat}{n:α}(p:α->Bool)(h:l[i]? =some n):l.all p=(p n&&(l.eraseIdx i).all p):=by
 have hp:l.Perm (n::l.eraseIdx i):=by
  obtain⟨hi,e⟩:=List.getElem?_eq_some_iff.1 h
  have uX:l=l.take i++n::l.drop (i+1):=by rw[<- e,List.getElem_cons_drop,List.take_append_drop]
  rw[List.eraseIdx_eq_take_drop_succ]
  conv=>lhs;rw[uX]
  exact List.perm_middle
 rw[Bool.eq_iff_iff,List.all_eq_true,Bool.and_eq_true,List.all_eq_true]
 constructor
 ·intro h1
  exact⟨h1 _ (hp.mem_iff.2 ao),fun x hx=>h1 x (hp.mem_iff.2 lJ)⟩
 ·rintro⟨h1,h2⟩ x hx
  rcases List.mem_cons.1 (hp.mem_iff.1 hx)with e|e
  ·rw[e];exact h1
  ·exact h2 x e
theorem sJ{α:Type}{l:List α}{i:Nat}{n:α}(h:l[i]? =some n):(l.eraseIdx i).length+1=l.length:=by
 obtain⟨hi,e⟩:=List.getElem?_eq_some_iff.1 h
 rw[List.length_eraseIdx];simp[hi];omega
def mO(s:aO)(r:Rl):Bool:=decide (0<=r.fn)&&(match s.bR[r.fn.toNat]? with|some f=>(r.bg.length:Int)==f.args|none=>false)&&decide (0<=r.vars)&&decide (r.vars<=20)&&r.bg.all (ll s)&&cV s [r.rhs]
def fD(s:aO)(r:Rl):Bool:=mO s r&&(eo 1 r.bg).all (fun p=>decide (p.2<=1)&&decide (p.1<r.vars))&&(eo 1 [r.rhs]).all (fun p=>decide (p.1<r.vars))&&
 (eo 8 [r.rhs]).all (fun p=>decide (p.2<=1)&&decide (p.1<r.vars)&&decide (il (eo 1 r.bg) p.1<=0))&&A4 (eo 8 [r.rhs]) r.rhs []
theorem A5{R:List Nat}{o:Nat->ab}{id:Nat}(h:id∈R):EX R o id=o id:=by simp[EX,h]
theorem Jj{R:List Nat}{o:Nat->ab}{nx:Nat}(cM:∀id∈R,id<nx)(p6:∀id∈R,∀j∈(o id).refs,j∈R):Good (EX R o) nx:=by
 refine⟨fun id aC=> ?_,fun id r hr=> ?_⟩
 ·have:id∉R:=fun hm=>by have:=cM id hm;omega
  simp[EX,this]
 ·by_cases aC:id∈R
  ·rw[A5 aC]at hr;exact cM r (p6 id aC r hr)
  ·have:EX R o id= .no:=by simp[EX,aC]
   rw[this]at hr;cases hr
theorem QI(s:aO)(hs:s.Fits)(l:List Tm)(hl:l.length<=1000000)(hf:∀t∈l,t.Fin){o:Nat->ab}(ho:o 0= .row s.row):
 Gz Tryz.prog 187 [.d (.sl (l.map Tm.d)), .func (.func 185) [] [.ptr 0 0]] [0] o (.ret [.bool (l.all (ll s))]) []:=by
 have cM:∀j∈[0],j<1:=ao
 have p6:∀k∈[0],∀j∈(o k).refs,j∈[0]:=by
  intro k hk j hj
  simp at hk
  subst hk
  rw[ho]at hj;simp[ab.refs,V.aL,V.refs]at hj
 refine Gz.mz cM mT p6 ao ao ?_
 refine Dw l ah 185 [.ptr 0 0] 1 (EX [0] o) (ll s) mT (fun x hx=>QH s hs x (hf x hx) 1 0 _ ((A5 ao).trans ho) ah) _ _ ⟨Jj cM p6,Nat.le_refl _,fun _ _=>rfl⟩ _ _ fun o2 n2 m1 m2 m3=> ?_
 refine⟨fun k hk=> ?_,[.d (.bool (l.all (ll s)))],[.bool (l.all (ll s))],rfl,rfl,rfl,fun k hk=>by simp[V.bD,V.ids]at hk⟩
 simp at hk
 subst hk
 rw[m2.eq 0 (by omega),A5 (by simp)];rfl
set_option maxHeartbeats 1000000 in
theorem QJ(s:aO)(hs:s.Fits)(r:Rl)(hr:r.Fin):aR Tryz.prog 132 [s.d,r.d] (.ret [.bool (fD s r)]):=by
 have hr1:=hr.bg
 refine aR.az mix T6 ao ?_
 rw[Yc]
 have hlf:=hs.lf
 have fin:∀ {b:Bool},mO s r=b->b=false->fD s r=false:=fun h1 h2=>by unfold fD;rw[h1,h2];rfl
 by_cases f1:r.fn<0
 ·have QK:decide (r.fn<0)=true:=by simpa using f1
  have e:fD s r=false:=fin (b:=false) (by unfold mO;rw[decide_eq_false (by omega: ¬0<=r.fn)];rfl) rfl
  simp+contextual (disch:=first|omega|simp only[go_sem,false_implies]) only[go_sem,wrap64,if_pos,Nat.add_assoc,Nat.left_eq_add,Nat.add_eq_left,Nat.add_left_cancel_iff,List.length_map,QK]
  exact BL
 have QK:decide (r.fn<0)=false:=by simpa using f1
 by_cases f2:(s.bR.length:Int)<=r.fn
 ·have Ei:decide ((s.bR.length:Int)<=r.fn)=true:=by simpa using f2
  have e:fD s r=false:=fin (b:=false) (by unfold mO;rw[List.getElem?_eq_none (by omega:s.bR.length<=r.fn.toNat)];simp) rfl
  refine Ke QK Ei ?_
  exact BL
 have Ei:decide ((s.bR.length:Int)<=r.fn)=false:=by simpa using f2
 obtain⟨f,hf⟩:∃f,s.bR[r.fn.toNat]? =some f:=⟨_,List.getElem?_eq_getElem ah⟩
 by_cases f3: ¬ (r.bg.length:Int)=f.args
 ·have Hi:((r.bg.length:Int)!=f.args)=true:=by simpa using f3
  have e:fD s r=false:=fin (b:=false) (by unfold mO;rw[hf];simp[f3]) rfl
  simp+contextual (disch:=first|omega|simp only[go_sem,false_implies]) only[go_sem,wrap64,if_pos,Nat.add_assoc,Nat.left_eq_add,Nat.add_eq_left,Nat.add_left_cancel_iff,List.length_map,QK,Ei,hf,Hi]
  exact BL
 have Hi:((r.bg.length:Int)!=f.args)=false:=by simpa using f3
 by_cases f4:r.vars<0
 ·have QL:decide (r.vars<0)=true:=by simpa using f4
  have e:fD s r=false:=fin (b:=false) (by unfold mO;rw[decide_eq_false (by omega: ¬0<=r.vars)];simp) rfl
  simp+contextual (disch:=first|omega|simp only[go_sem,false_implies]) only[go_sem,wrap64,if_pos,Nat.add_assoc,Nat.left_eq_add,Nat.add_eq_left,Nat.add_left_cancel_iff,List.length_map,QK,Ei,hf,Hi,QL]
  exact BL
 have QL:decide (r.vars<0)=false:=by simpa using f4
 by_cases f5:20<r.vars
 ·have Vu:decide (20<r.vars)=true:=by simpa using f5
  have e:fD s r=false:=fin (b:=false) (by unfold mO;rw[decide_eq_false (by omega: ¬r.vars<=20)];simp) rfl
  refine aaT QK Ei hf Hi QL Vu ?_
  exact BL
 have Vu:decide (20<r.vars)=false:=by simpa using f5
 have hh:mO s r=(r.bg.all (ll s)&&cV s [r.rhs]):=by
  unfold mO
  rw[hf]
  have g3:(r.bg.length:Int)=f.args:=by simpa using f3
  simp[g3,show 0<=r.fn by omega,show 0<=r.vars by omega,show r.vars<=20 by omega]
 refine aaT QK Ei hf Hi QL Vu ?_
 refine CY (rd:=[0]) rfl (QI s hs r.bg hr1 hr.all ?_) ?_
 ·exact dU
 cases h6:r.bg.all (ll s)with
 |false=>
  have e:fD s r=false:=fin hh (by rw[h6];rfl)
  refine aS ?_
  exact BL
 |true=>
  refine aS ?_
  refine aw (QA s hs r.rhs hr.rhs) rfl ?_
  cases h7:cV s [r.rhs]with
  |false=>
   have e:fD s r=false:=fin hh (by rw[h6,h7];rfl)
   refine zF ?_
   exact BL
  |true=>
   refine zF ?_
   refine aD (aZ rfl) ?_
   refine aS ?_
   have hR:fD s r=((eo 1 r.bg).all (fun p=>decide (p.2<=1)&&decide (p.1<r.vars))&&(eo 1 [r.rhs]).all (fun p=>decide (p.1<r.vars))&&
    (eo 8 [r.rhs]).all (fun p=>decide (p.2<=1)&&decide (p.1<r.vars)&&decide (il (eo 1 r.bg) p.1<=0))&&A4 (eo 8 [r.rhs]) r.rhs []):=by
    unfold fD;rw[hh,h6,h7];rfl
   refine ba (tD r.bg hr1 (fun t ht=>(hr.all t ht).fits)) ?_
   refine aS ?_
   refine ba (ZG r.rhs hr.rhs.fits) ?_
   refine aS ?_
   refine aD (aZ rfl) ?_
   simp+contextual (disch:=first|omega|simp only[go_sem,false_implies]) only[go_sem,wrap64,if_pos,uc]
   refine aF (fun i:List (Int×Int)×Option (D×D)=>⟨bp [.aa, .aa, .aa, .ptr 1 0, .aa, .aa, .d (Nj (eo 1 r.bg)), .d (Nj (eo 8 [r.rhs])), .aa, .aa, .aa, .aa, .aa, .aa, .aa, .aa, .aa, .aa, .aa, .aa, .aa, .aa, .aa, .aa, .aa, .aa, .aa, .aa, .aa, .aa, .aa, .aa, .aa, .aa, .aa, .aa, .aa, .aa, .aa, .aa, .aa, .aa, .aa, .aa, .aa, .aa, .aa, .aa, .aa, .aa, .aa, .aa, .aa, .aa, .aa, .aa, .aa, .aa, .aa, .aa, .aa, .aa, .aa, .aa, .aa, .aa, .aa, .aa, .aa, .ptr 62 0],aK (aK (aK (fun _=> .no) 0 (.row [.d (.sl (s.cons.map kB.d)), .d (.sl (s.bR.map kB.d))])) 1 (.row [.d (.i r.fn), .d (.sl (r.bg.map Tm.d)), .d (.i r.rhs.op), .d (.i r.rhs.n), .d (.sl (r.rhs.kids.map Tm.d)), .d (.i r.vars)])) 62 (.nh (enc (D.int .i64) (ints i.1)) i.2),63⟩)
    (fun i=>(eo 1 r.bg).all (fun p=>decide (p.2<=1)&&decide (p.1<r.vars))=i.1.all (fun p=>decide (p.2<=1)&&decide (p.1<r.vars))) (fun i=>i.1.length) (eo 1 r.bg,none) rfl (bJ.bX _ (show 0<=63 from ah) ah dB (fun j hj=>by(repeat(first|rfl|rw[ad]|rw[ak _ _ _ _ (by omega)]))) ?_) ?_
   ·exact cY
   rintro⟨rest,last⟩ hA
   simp only at hA
   refine aS ?_
   refine sH (fun MF=> ?_) fun i n k hm=> ?_
   ·subst MF
    simp only[List.all_nil]at hA
    refine iO ?_
    refine aP (tD [r.rhs] ao (fun t ht=>by simp at ht;subst ht;exact hr.rhs.fits)) ?_
    refine aaV ?_
    refine aF (fun i:List (Int×Int)×Option (D×D)=>⟨bp [.aa, .aa, .aa, .ptr 1 0, .aa, .aa, .d (Nj (eo 1 r.bg)), .d (Nj (eo 8 [r.rhs])), .aa, .aa, .aa, .aa, .aa, .aa, .aa, .aa, .aa, .aa, .aa, .aa, .aa, .aa, .aa, .aa, .aa, .aa, .aa, .aa, .aa, .aa, .aa, .aa, .aa, .aa, .aa, .aa, .aa, .aa, .aa, .aa, .aa, .aa, .aa, .aa, .aa, .aa, .aa, .aa, .aa, .aa, .aa, .aa, .aa, .aa, .aa, .aa, .aa, .aa, .aa, .aa, .aa, .aa, .aa, .aa, .aa, .aa, .aa, .aa, .aa, .aa, .aa, .aa, .aa, .aa, .aa, .aa, .aa, .aa, .aa, .aa, .aa, .aa, .aa, .aa, .aa, .aa, .aa, .ptr 69 0],aK (aK (aK (aK (aK (fun _=> .no) 0 (.row [.d (.sl (s.cons.map kB.d)), .d (.sl (s.bR.map kB.d))])) 1 (.row [.d (.i r.fn), .d (.sl (r.bg.map Tm.d)), .d (.i r.rhs.op), .d (.i r.rhs.n), .d (.sl (r.rhs.kids.map Tm.d)), .d (.i r.vars)])) 62 (.nh (enc (D.int .i64) (ints [])) last)) 67 (.qg 0 [r.rhs.d])) 69 (.nh (enc (D.int .i64) (ints i.1)) i.2),70⟩)
     (fun i=>(eo 1 [r.rhs]).all (fun p=>decide (p.1<r.vars))=i.1.all (fun p=>decide (p.1<r.vars))) (fun i=>i.1.length) (eo 1 [r.rhs],none) rfl (bJ.bX _ (show 0<=70 from ah) ah dB (fun j hj=>by first|(rw[jt];done)|(repeat(first|rfl|rw[ad]|rw[ak _ _ _ _ (by omega)]))|exact zK) ?_) ?_
    ·exact cY
    rintro⟨rest,aeF⟩ hB
    simp only at hB
    refine aS ?_
    refine sH (fun MF=> ?_) fun i n k hm=> ?_
    ·subst MF
     simp only[List.all_nil]at hB
     refine aaV ?_
     refine aF (fun i:List (Int×Int)×Option (D×D)=>⟨bp [.aa, .aa, .aa, .ptr 1 0, .aa, .aa, .d (Nj (eo 1 r.bg)), .d (Nj (eo 8 [r.rhs])), .aa, .aa, .aa, .aa, .aa, .aa, .aa, .aa, .aa, .aa, .aa, .aa, .aa, .aa, .aa, .aa, .aa, .aa, .aa, .aa, .aa, .aa, .aa, .aa, .aa, .aa, .aa, .aa, .aa, .aa, .aa, .aa, .aa, .aa, .aa, .aa, .aa, .aa, .aa, .aa, .aa, .aa, .aa, .aa, .aa, .aa, .aa, .aa, .aa, .aa, .aa, .aa, .aa, .aa, .aa, .aa, .aa, .aa, .aa, .aa, .aa, .aa, .aa, .aa, .aa, .aa, .aa, .aa, .aa, .aa, .aa, .aa, .aa, .aa, .aa, .aa, .aa, .aa, .aa, .aa, .aa, .aa, .aa, .aa, .aa, .aa, .aa, .aa, .aa, .ptr 73 0],aK (aK (aK (aK (aK (aK (fun _=> .no) 0 (.row [.d (.sl (s.cons.map kB.d)), .d (.sl (s.bR.map kB.d))])) 1 (.row [.d (.i r.fn), .d (.sl (r.bg.map Tm.d)), .d (.i r.rhs.op), .d (.i r.rhs.n), .d (.sl (r.rhs.kids.map Tm.d)), .d (.i r.vars)])) 62 (.nh (enc (D.int .i64) (ints [])) last)) 67 (.qg 0 [r.rhs.d])) 69 (.nh (enc (D.int .i64) (ints [])) aeF)) 73 (.nh (enc (D.int .i64) (ints i.1)) i.2),74⟩)
      (fun i=>(eo 8 [r.rhs]).all (fun p=>decide (p.2<=1)&&decide (p.1<r.vars)&&decide (il (eo 1 r.bg) p.1<=0))=i.1.all (fun p=>decide (p.2<=1)&&decide (p.1<r.vars)&&decide (il (eo 1 r.bg) p.1<=0))) (fun i=>i.1.length) (eo 8 [r.rhs],none) rfl (bJ.bX _ (show 0<=74 from ah) ah dB (fun j hj=>by(repeat(first|rfl|rw[ad]|rw[ak _ _ _ _ (by omega)]))) ?_) ?_
     ·exact cY
     rintro⟨rest,ahi⟩ hC
     simp only at hC
     refine aS ?_
     refine sH (fun MF=> ?_) fun i n k hm=> ?_
     ·subst MF
      simp only[List.all_nil]at hC
      refine iO ?_
      refine ai (Nn (eo 8 [r.rhs]) r.rhs hr.rhs.fits [] (by have:=hr.rhs.iN;simp;omega)) rfl ?_
      refine aS ?_
      rw[hR,hA,hB,hC];rfl
     ·have hle:=sJ hm
      rw[sI (fun p=>decide (p.2<=1)&&decide (p.1<r.vars)&&decide (il (eo 1 r.bg) p.1<=0)) hm]at hC
      simp only at hC
      have bad:(decide (k<=1)&&decide (n<r.vars)&&decide (il (eo 1 r.bg) n<=0))=false->fD s r=false:=fun e2=>by rw[hR,hC,e2];simp
      by_cases g1:1<k
      ·have Fx:decide (1<k)=true:=by simpa using g1
       have e:=bad (by rw[decide_eq_false (by omega: ¬k<=1)];rfl)
       refine Bz Fx ?_
       rw[e]
      have Fx:decide (1<k)=false:=by simpa using g1
      by_cases g2:r.vars<=n
      ·have J5:decide (r.vars<=n)=true:=by simpa using g2
       have e:=bad (by rw[decide_eq_false (by omega: ¬n<r.vars)];simp)
       refine VH Fx J5 ?_
       rw[e]
      have J5:decide (r.vars<=n)=false:=by simpa using g2
      by_cases g3:0<il (eo 1 r.bg) n
      ·have g3':decide (0<il (eo 1 r.bg) n)=true:=by simpa using g3
       have e:=bad (by rw[decide_eq_false (by omega: ¬il (eo 1 r.bg) n<=0)];simp)
       refine aaU Fx J5 g3' ?_
       rw[e]
      have g3':decide (0<il (eo 1 r.bg) n)=false:=by simpa using g3
      have e2:(decide (k<=1)&&decide (n<r.vars)&&decide (il (eo 1 r.bg) n<=0))=true:=by
       simp;omega
      rw[e2,Bool.true_and]at hC
      refine aaU Fx J5 g3' ?_
      refine au (rest.eraseIdx i,some (.int .i64 n,D.i k)) hC oN (bJ.bX _ (show 0<=74 from ah) ah dB (fun j hj=>by first|(rw[jt];done)|(repeat(first|rfl|rw[ad]|rw[ak _ _ _ _ (by omega)]))) ?_)
      exact cY
    ·have hle:=sJ hm
     rw[sI (fun p=>decide (p.1<r.vars)) hm]at hB
     simp only at hB
     refine iO ?_
     refine aj (fun h3=> ?_) (fun h3=> ?_)
     ·have e:fD s r=false:=by
       have e2:decide (n<r.vars)=false:=by
        simp at h3|-;omega
       rw[hR,hB,e2];simp
      exact abH
     ·have e2:decide (n<r.vars)=true:=by
       simp at h3|-;omega
      rw[e2,Bool.true_and]at hB
      refine aS ?_
      refine au (rest.eraseIdx i,some (.int .i64 n,D.i k)) hB oN (bJ.bX _ (show 0<=70 from ah) ah dB (fun j hj=>by first|(rw[jt];done)|(repeat(first|rfl|rw[ad]|rw[ak _ _ _ _ (by omega)]))) ?_)
      exact cY
   ·have hle:=sJ hm
    rw[sI (fun p=>decide (p.2<=1)&&decide (p.1<r.vars)) hm]at hA
    simp only at hA
    refine iO ?_
    refine aj (fun h3=> ?_) (fun h3=> ?_)
    ·have e:fD s r=false:=by
      have e2:(decide (k<=1)&&decide (n<r.vars))=false:=by
       simp at h3|-;omega
      rw[hR,hA,e2];simp
     exact abH
    ·have e2:(decide (k<=1)&&decide (n<r.vars))=true:=by
      simp at h3|-;omega
     rw[e2,Bool.true_and]at hA
     refine aS ?_
     refine au (rest.eraseIdx i,some (.int .i64 n,D.i k)) hA oN (bJ.bX _ (show 0<=63 from ah) ah dB (fun j hj=>by first|rw[jt]|(repeat(first|rfl|rw[ad]|rw[ak _ _ _ _ (by omega)]))) ?_)
     exact cY
def l8{σ α:Type}(step:σ->α->σ×Bool):σ->List α->Int->Int
 |_,[],_=> -1
 |s,x::l,k=>if(step s x).2=true then l8 step (step s x).1 l (k+1)else k
theorem uA{σ α:Type}(step:σ->α->σ×Bool):∀ (l:List α) (s:σ) (k:Int),0<=k->(0<=l8 step s l k↔(aB step s l).2=false)
 |[],_,_,_=>by simp[l8,aB]
 |x::l,s,k,hk=>by
  have ih:=uA step l (step s x).1 (k+1) ah
  by_cases h:(step s x).2=true
  ·simp only[l8,aB,h,if_true];exact ih
  ·simp[l8,aB,h,hk]
theorem ZJ{σ:Type}(l:List Rl)(hl:l.length<=9223372036854775807)(g:Nat)(aI:List V)(base:Nat)(H:σ->Nat->ab)(step:σ->Rl->σ×Bool)(hc:∀r∈V.aL aI,r<base)(ok:σ->Prop)(bn:∀x∈l,∀s,ok s->(step s x).2=true->ok (step s x).1)
 (h:∀x∈l,∀s,ok s->fT Tryz.prog g (.d x.d::aI) base (H s) (H (step s x).1) (.d (.bool (!(step s x).2)))) (s:σ) (gH:ok s):
 fT Tryz.prog 229 [.d (.sl (l.map Rl.d)), .func (.func g) [] aI] base (H s) (H (aB step s l).1) (.d (.i (l8 step s l 0))):=by
 intro o nx hI K X hK
 have fN:∀r∈V.aL aI,r<nx:=fun r hr=>Nat.lt_of_lt_of_le (hc r hr) hI.le
 refine cK.az mix U1 ao ?_
 rw[Y6]
 refine b8 ?_
 refine aF (fun i:Nat×σ×(Nat->ab)×Nat=>⟨bp [.d (.sl (l.map Rl.d)), .func (.func g) [] aI, .aa, .aa, .aa, .aa, .aa, .d (.i l.length), .d (.i i.1)],i.2.2.1,i.2.2.2⟩)
  (fun i=>i.1<=l.length/\cQ base (H i.2.1) i.2.2.1 i.2.2.2/\nx<=i.2.2.2/\(∀id,base<=id->id<nx->i.2.2.1 id=o id)/\aB step s l=aB step i.2.1 (l.drop i.1)/\ok i.2.1/\l8 step s l 0=l8 step i.2.1 (l.drop i.1) i.1) (fun i=>l.length - i.1) (0,s,o,nx)
  ⟨Nat.zero_le _,hI,Nat.le_refl _,fun _ _ _=>rfl,rfl,gH,rfl⟩ ?_ ?_
 ·exact H4
 rintro⟨k,s',o',nx'⟩ ⟨hk,rL,hn,dE,hf,kP,pY⟩
 simp only at hk rL hn dE hf kP pY
 refine b8 ?_
 refine aj (fun h1=> ?_) (fun h1=> ?_)
 ·simp at h1
  obtain⟨x,hx⟩:=aq h1
  have cz:=List.mem_of_getElem? hx
  have hd:l.drop k=x::l.drop (k+1):=by
   exact H3
  rw[hd]at hf pY
  simp only[aB,l8]at hf pY
  refine HP hx ?_
  refine cU (h x cz s' kP _ _ (rL.mono ah) _ _ fun o2 n2 m1 m2 m3=> ?_)
  cases hb:(step s' x).2 with
  |true=>
   rw[hb]at hf pY
   simp only[if_true]at hf pY
   refine aS ?_
   have Dg:∀r∈V.aL aI,r<n2+1+1:=fun r hr=>by have:=fN r hr;omega
   exact V8
  |false=>
   exact O9
 ·exact Pb
theorem Dx{σ:Type}(l:List Rl)(hl:l.length<=9223372036854775807)(g:Nat)(aI:List V)(base:Nat)(H:σ->Nat->ab)(step:σ->Rl->σ×Bool)(hc:∀r∈V.aL aI,r<base)(ok:σ->Prop)(bn:∀x∈l,∀s,ok s->(step s x).2=true->ok (step s x).1)
 (h:∀x∈l,∀s,ok s->fT Tryz.prog g (.d x.d::aI) base (H s) (H (step s x).1) (.d (.bool (!(step s x).2)))) (s:σ) (gH:ok s):
 fT Tryz.prog 183 [.d (.sl (l.map Rl.d)), .func (.func g) [] aI] base (H s) (H (aB step s l).1) (.d (.bool (!(aB step s l).2))):=by
 intro o nx hI K X hK
 have fN:∀r∈V.aL aI,r<nx:=fun r hr=>Nat.lt_of_lt_of_le (hc r hr) hI.le
 refine cK.az mix UC ao ?_
 rw[YI]
 refine iO ?_
 refine bc (ZJ l hl g aI base H step hc ok bn h s gH _ _ ?_ _ _ fun o2 n2 m1 m2 m3=> ?_)
 ·exact BG
 refine iO ?_
 have e:decide (0<=l8 step s l 0)= !(aB step s l).2:=by
  have:=uA step l s 0 ah
  exact Pk
 rw[e]
 exact Kq
theorem aeG{x:Rl}{g:Nat}{aI:List V}{base c bx:Nat}{h h2 O:Nat->ab}{r:Bool}(hS:fT Tryz.prog g (.d x.d::aI) base h h2 (.d (.bool r)))(hb:base<=bx)(Rx:bx<c)(hO:O bx= .row [.func (.func g) [] aI])(hc:∀r∈V.aL aI,r<base):
 fT Tryz.prog 184 [.d x.d, .ptr bx 0] c (ext base h O) (ext base h2 O) (.d (.bool (!r))):=by
 intro o nx hI K X hK
 have hle:=hI.le
 have fN:∀r∈V.aL aI,r<nx:=fun r hr=>by have:=hc r hr;omega
 have ho:o bx= .row [.func (.func g) [] aI]:=by
  exact Ku
 have y1:∀k,bx≠nx+k:=fun k=>ah
 have y2:bx≠nx:=ah
 refine cK.az mix UD ao ?_
 rw[YJ]
 refine OS ho y1 y2 ?_
 refine cU ((hS.ext (by omega:base<=c) O) _ _ ?_ _ _ fun o2 n2 m1 m2 m3=> ?_)
 ·exact O4
 refine iO ?_
 exact O0
theorem Jk{σ:Type}(l:List Rl)(hl:l.length<=9223372036854775807)(g:Nat)(aI:List V)(base:Nat)(H:σ->Nat->ab)(step:σ->Rl->σ×Bool)(hc:∀r∈V.aL aI,r<base)(ok:σ->Prop)(bn:∀x∈l,∀s,ok s->(step s x).2=true->ok (step s x).1)
 (h:∀x∈l,∀s,ok s->fT Tryz.prog g (.d x.d::aI) base (H s) (H (step s x).1) (.d (.bool (step s x).2))) (s:σ) (gH:ok s):
 fT Tryz.prog 130 [.d (.sl (l.map Rl.d)), .func (.func g) [] aI] base (H s) (H (aB step s l).1) (.d (.bool (aB step s l).2)):=by
 intro o nx hI K X hK
 have hle:=hI.le
 have fN:∀r∈V.aL aI,r<nx:=fun r hr=>Nat.lt_of_lt_of_le (hc r hr) hI.le
 refine cK.az mix T4 ao ?_
 rw[Ya]
 refine iO ?_
 refine bc (Dx l hl 184 [.ptr nx 0] (nx+1) (fun s=>ext base (H s) (aK o nx (.row [.func (.func g) [] aI]))) step mT ok bn (fun x hx s hs=>aeG (h x hx s hs) hle ah (ad _ _ _) hc) s gH _ _ ?_ _ _ fun o2 n2 m1 m2 m3=> ?_)
 ·have hr:(ab.row [V.func (.func g) [] aI]).refs.all (fun r=>decide (r<nx+4))=true:=by
   rw[List.all_eq_true]
   intro r hr
   have h1:r∈V.aL aI:=by simpa[ab.refs,V.aL,V.refs]using hr
   have:=fN r h1
   simp;omega
  exact Ks
 refine iO ?_
 refine hK _ _ ah ⟨(m2.mono ah).bQ,by have:=m2.le;omega,fun id aC=> ?_⟩ fun id i1 i2=> ?_
 ·exact zM
 ·exact Kn
theorem A6(l:List Rl)(hl:l.length<=9223372036854775807)(g:Nat)(aI:List V)(base:Nat)(h:Nat->ab)(p:Rl->Bool)(hc:∀r∈V.aL aI,r<base)
 (hp:∀x∈l,fT Tryz.prog g (.d x.d::aI) base h h (.d (.bool (p x)))):fT Tryz.prog 130 [.d (.sl (l.map Rl.d)), .func (.func g) [] aI] base h h (.d (.bool (l.all p))):=by
 have:=Jk l hl g aI base (fun _:Unit=>h) (fun _ x=>((),p x)) hc (fun _=>True) (fun _ _ _ _ _=>trivial) (fun x hx _ _=>hp x hx) () trivial
 exact FZ
structure Pg where
 sig:aO
 rules:List Rl
@[reducible] def Pg.row (p:Pg):List V:=[.d (.sl (p.sig.cons.map kB.d)), .d (.sl (p.sig.bR.map kB.d)), .d (.sl (p.rules.map Rl.d))]
@[reducible] def Pg.d (p:Pg):D:= .agg [.sl (p.sig.cons.map kB.d), .sl (p.sig.bR.map kB.d), .sl (p.rules.map Rl.d)]
structure Pg.Fin (p:Pg):Prop where
 sig:p.sig.Fits
 len:p.rules.length<=9223372036854775807
 all:∀r∈p.rules,r.Fin
def nZ(p:Pg):Bool:=decide (p.rules.length<=16)&&(kE p.sig&&p.rules.all (fD p.sig))
theorem Jl(p:Pg)(hp:p.Fin)(r:Rl)(hr:r∈p.rules)(base sp:Nat)(h:Nat->ab)(uX:h sp= .row p.row)(hb:sp<base):fT Tryz.prog 131 [.d r.d, .ptr sp 0] base h h (.d (.bool (fD p.sig r))):=by
 intro o nx hI K X hK
 have hle:=hI.le
 have hg:=hI.bQ
 have q0:o sp= .row p.row:=by rw[hI.eq sp hb,uX]
 refine cK.az mix T5 ao ?_
 rw[Yb]
 refine dc q0 ?_
 refine ai (QJ p.sig hp.sig r (hp.all r hr)) rfl ?_
 exact abN
theorem Np(p:Pg)(hp:p.Fin):aR Tryz.prog 95 [p.d] (.ret [.bool (nZ p)]):=by
 have hl:=hp.len
 refine aR.az mix adl ao ?_
 rw[c95]
 unfold nZ
 by_cases h0: ¬p.rules.length<=16
 ·have Ed:decide ((p.rules.length:Int)<=16)=false:=by simp;omega
  have Fy:decide (p.rules.length<=16)=false:=by simp;omega
  refine et Ed ?_
  rw[Fy];rfl
 have Ed:decide ((p.rules.length:Int)<=16)=true:=by simp;omega
 have Fy:decide (p.rules.length<=16)=true:=by simp;omega
 rw[Fy,Bool.true_and]
 refine et Ed ?_
 refine ai (vW p.sig hp.sig) rfl ?_
 cases h1:kE p.sig with
 |false=>
  refine zF ?_
  try simp
 |true=>
  refine zF ?_
  refine bc (A6 p.rules hl 131 [.ptr 0 0] 1 (aK (fun _=> .no) 0 (.row p.row)) (fD p.sig) mT (fun x hx=>Jl p hp x hx 1 0 _ (ad _ _ _) ah) _ _ ⟨dB,ah,fun id aC=>rfl⟩ _ _ fun o2 n2 m1 m2 m3=> ?_)
  refine aS ?_
  try simp
theorem Dy(p:Pg)(hp:p.Fin):aR Tryz.prog 54 [p.d] (.ret [.i (mL (nZ p))]):=by
 refine aR.az mix ac5 ao ?_
 rw[c54]
 refine aS ?_
 refine ai (Np p hp) rfl ?_
 cases h1:nZ p with
 |false=>exact HS
 |true=>exact HS
inductive Pf where
 |mk (bG:Int) (val:Tm) (num:Int) (binds:List Tm) (kids:List Pf)
 deriving Inhabited
def Pf.bG:Pf->Int| .mk r _ _ _ _=>r
def Pf.val:Pf->Tm| .mk _ v _ _ _=>v
def Pf.num:Pf->Int| .mk _ _ n _ _=>n
def Pf.binds:Pf->List Tm| .mk _ _ _ b _=>b
def Pf.kids:Pf->List Pf| .mk _ _ _ _ k=>k
theorem Pf.ind {P:Pf->Prop}(h:∀r v n b kids,(∀k∈kids,P k)->P (.mk r v n b kids)):∀t,P t:=
 fun t=>Pf.rec (motive_1:=P) (motive_2:=fun l=>∀k∈l,P k) (fun r v n b kids ih=>h r v n b kids ih) (fun _ h=>by cases h)
  (fun x l hx hl k hk=>(List.mem_cons.1 hk).elim (fun e=>e ▸ hx) (hl k)) t
theorem Pf.bW {P:Pf->Prop}(h:∀t:Pf,(∀k∈t.kids,P k)->P t):∀t,P t:=Pf.ind fun r v n b kids ih=>h (.mk r v n b kids) ih
mutual
def Pf.d:Pf->D
 | .mk r v n b kids=> .agg [.i r, .i v.op, .i v.n, .sl (v.kids.map Tm.d), .i n, .sl (b.map Tm.d), .sl (Pf.ds kids)]
def Pf.ds:List Pf->List D
 |[]=>[]
 |t::l=>t.d::Pf.ds l
end
theorem Pf.sv:∀l:List Pf,Pf.ds l=l.map Pf.d
 |[]=>rfl
 |t::l=>by simp[Pf.ds,Pf.sv l]
theorem Pf.E8 (t:Pf):t.d= .agg [.i t.bG, .i t.val.op, .i t.val.n, .sl (t.val.kids.map Tm.d), .i t.num, .sl (t.binds.map Tm.d), .sl (t.kids.map Pf.d)]:=by
 cases t;simp[Pf.d,Pf.sv,Pf.bG,Pf.val,Pf.num,Pf.binds,Pf.kids]
@[go_sem] theorem Pf.Xp (t:Pf):D.agg [.i t.bG, .i t.val.op, .i t.val.n, .sl (t.val.kids.map Tm.d), .i t.num, .sl (t.binds.map Tm.d), .sl (t.kids.map Pf.d)]=t.d:=(Pf.E8 t).symm
@[go_sem] theorem Pf.P7 (t:Pf):D.cells t.d=[.i t.bG, .i t.val.op, .i t.val.n, .sl (t.val.kids.map Tm.d), .i t.num, .sl (t.binds.map Tm.d), .sl (t.kids.map Pf.d)]:=by rw[Pf.E8];rfl
@[reducible] def Pf.row (t:Pf):List V:=[.d (.i t.bG), .d (.i t.val.op), .d (.i t.val.n), .d (.sl (t.val.kids.map Tm.d)), .d (.i t.num), .d (.sl (t.binds.map Tm.d)), .d (.sl (t.kids.map Pf.d))]
mutual
def Pf.fits:Pf->Prop
 | .mk _ v _ b kids=>v.fits/\b.length<=9223372036854775807/\(∀t∈b,t.fits)/\kids.length<=9223372036854775807/\Pf.kC kids
def Pf.kC:List Pf->Prop
 |[]=>True
 |t::l=>t.fits/\Pf.kC l
end
theorem Pf.lY:∀l:List Pf,Pf.kC l↔∀k∈l,k.fits
 |[]=>by simp[Pf.kC]
 |t::l=>by simp[Pf.kC,Pf.lY l]
theorem Pf.aH (t:Pf):t.fits↔t.val.fits/\t.binds.length<=9223372036854775807/\(∀x∈t.binds,x.fits)/\t.kids.length<=9223372036854775807/\∀k∈t.kids,k.fits:=by
 cases t;simp[Pf.fits,Pf.lY,Pf.kids,Pf.val,Pf.binds]
mutual
def dD:Pf->Int->List (Pf×Int)
 | .mk r v n b kids,d=>(.mk r v n b kids,d)::Hj kids (d+1)
def Hj:List Pf->Int->List (Pf×Int)
 |[],_=>[]
 |k::l,d=>dD k d++Hj l d
end
theorem Fz(l:List Pf)(d:Int):Hj l d=l.flatMap fun k=>dD k d:=by
 induction l with
 |nil=>rfl
 |cons k l ih=>simp[Hj,ih]
theorem qZ(t:Pf)(d:Int):dD t d=(t,d)::t.kids.flatMap fun k=>dD k (d+1):=by cases t;simp[dD,Fz,Pf.kids]
theorem ZK{σ:Type}(l:List Pf)(hl:l.length<=9223372036854775807)(g:Nat)(aI:List V)(base:Nat)(H:σ->Nat->ab)(step:σ->Pf->σ×Bool)(hc:∀r∈V.aL aI,r<base)(ok:List Pf->σ->Prop)(bn:∀x∈l,∀r s,ok (x::r) s->(step s x).2=true->ok r (step s x).1)
 (h:∀x∈l,∀r s,ok (x::r) s->fT Tryz.prog g (.d x.d::aI) base (H s) (H (step s x).1) (.d (.bool (!(step s x).2)))) (s:σ) (gH:ok l s):
 fT Tryz.prog 192 [.d (.sl (l.map Pf.d)), .func (.func g) [] aI] base (H s) (H (aB step s l).1) (.d (.i (l8 step s l 0))):=by
 intro o nx hI K X hK
 have fN:∀r∈V.aL aI,r<nx:=fun r hr=>Nat.lt_of_lt_of_le (hc r hr) hI.le
 refine cK.az mix UL ao ?_
 rw[YR]
 refine b8 ?_
 refine aF (fun i:Nat×σ×(Nat->ab)×Nat=>⟨bp [.d (.sl (l.map Pf.d)), .func (.func g) [] aI, .aa, .aa, .aa, .aa, .aa, .d (.i l.length), .d (.i i.1)],i.2.2.1,i.2.2.2⟩)
  (fun i=>i.1<=l.length/\cQ base (H i.2.1) i.2.2.1 i.2.2.2/\nx<=i.2.2.2/\(∀id,base<=id->id<nx->i.2.2.1 id=o id)/\aB step s l=aB step i.2.1 (l.drop i.1)/\ok (l.drop i.1) i.2.1/\l8 step s l 0=l8 step i.2.1 (l.drop i.1) i.1) (fun i=>l.length - i.1) (0,s,o,nx)
  ⟨Nat.zero_le _,hI,Nat.le_refl _,fun _ _ _=>rfl,rfl,gH,rfl⟩ ?_ ?_
 ·exact H4
 rintro⟨k,s',o',nx'⟩ ⟨hk,rL,hn,dE,hf,kP,pY⟩
 simp only at hk rL hn dE hf kP pY
 refine b8 ?_
 refine aj (fun h1=> ?_) (fun h1=> ?_)
 ·simp at h1
  obtain⟨x,hx⟩:=aq h1
  have cz:=List.mem_of_getElem? hx
  have hd:l.drop k=x::l.drop (k+1):=by
   exact H3
  rw[hd]at hf pY kP
  simp only[aB,l8]at hf pY
  refine HP hx ?_
  refine cU (h x cz _ s' kP _ _ (rL.mono ah) _ _ fun o2 n2 m1 m2 m3=> ?_)
  cases hb:(step s' x).2 with
  |true=>
   rw[hb]at hf pY
   simp only[if_true]at hf pY
   refine aS ?_
   have Dg:∀r∈V.aL aI,r<n2+1+1:=fun r hr=>by have:=fN r hr;omega
   refine au (k+1,(step s' x).1,o2,n2+1+1) ⟨h1,m2.mono (show n2<=n2+1+1 from ah),(show nx<=n2+1+1 from ah),fun id i1 i2=>(m3 id i1 ah).trans (dE id i1 i2),hf,bn x cz _ s' kP hb,by rw[pY];rfl⟩ oN (bJ.bX _ (show nx<=n2+1+1 from ah) (Nat.le_refl _) (m2.mono (show n2<=n2+1+1 from ah)).bQ (fun _ _=>rfl) ?_)
   exact cY
  |false=>
   exact O9
 ·exact Pb
theorem Dz{σ:Type}(l:List Pf)(hl:l.length<=9223372036854775807)(g:Nat)(aI:List V)(base:Nat)(H:σ->Nat->ab)(step:σ->Pf->σ×Bool)(hc:∀r∈V.aL aI,r<base)(ok:List Pf->σ->Prop)(bn:∀x∈l,∀r s,ok (x::r) s->(step s x).2=true->ok r (step s x).1)
 (h:∀x∈l,∀r s,ok (x::r) s->fT Tryz.prog g (.d x.d::aI) base (H s) (H (step s x).1) (.d (.bool (!(step s x).2)))) (s:σ) (gH:ok l s):
 fT Tryz.prog 133 [.d (.sl (l.map Pf.d)), .func (.func g) [] aI] base (H s) (H (aB step s l).1) (.d (.bool (!(aB step s l).2))):=by
 intro o nx hI K X hK
 have fN:∀r∈V.aL aI,r<nx:=fun r hr=>Nat.lt_of_lt_of_le (hc r hr) hI.le
 refine cK.az mix T7 ao ?_
 rw[Yd]
 refine iO ?_
 refine bc (ZK l hl g aI base H step hc ok bn h s gH _ _ ?_ _ _ fun o2 n2 m1 m2 m3=> ?_)
 ·exact BG
 refine iO ?_
 have e:decide (0<=l8 step s l 0)= !(aB step s l).2:=by
  have:=uA step l s 0 ah
  exact Pk
 rw[e]
 exact Kq
theorem aeH{x:Pf}{g:Nat}{aI:List V}{base c bx:Nat}{h h2 O:Nat->ab}{r:Bool}(hS:fT Tryz.prog g (.d x.d::aI) base h h2 (.d (.bool r)))(hb:base<=bx)(Rx:bx<c)(hO:O bx= .row [.func (.func g) [] aI])(hc:∀r∈V.aL aI,r<base):
 fT Tryz.prog 134 [.d x.d, .ptr bx 0] c (ext base h O) (ext base h2 O) (.d (.bool (!r))):=by
 intro o nx hI K X hK
 have hle:=hI.le
 have fN:∀r∈V.aL aI,r<nx:=fun r hr=>by have:=hc r hr;omega
 have ho:o bx= .row [.func (.func g) [] aI]:=by
  exact Ku
 have y1:∀k,bx≠nx+k:=fun k=>ah
 have y2:bx≠nx:=ah
 refine cK.az mix T8 ao ?_
 rw[Ye]
 refine OS ho y1 y2 ?_
 refine cU ((hS.ext (by omega:base<=c) O) _ _ ?_ _ _ fun o2 n2 m1 m2 m3=> ?_)
 ·exact O4
 refine iO ?_
 exact O0
theorem Jm{σ:Type}(l:List Pf)(hl:l.length<=9223372036854775807)(g:Nat)(aI:List V)(base:Nat)(H:σ->Nat->ab)(step:σ->Pf->σ×Bool)(hc:∀r∈V.aL aI,r<base)(ok:List Pf->σ->Prop)(bn:∀x∈l,∀r s,ok (x::r) s->(step s x).2=true->ok r (step s x).1)
 (h:∀x∈l,∀r s,ok (x::r) s->fT Tryz.prog g (.d x.d::aI) base (H s) (H (step s x).1) (.d (.bool (step s x).2))) (s:σ) (gH:ok l s):
 fT Tryz.prog 98 [.d (.sl (l.map Pf.d)), .func (.func g) [] aI] base (H s) (H (aB step s l).1) (.d (.bool (aB step s l).2)):=by
 intro o nx hI K X hK
 have hle:=hI.le
 have fN:∀r∈V.aL aI,r<nx:=fun r hr=>Nat.lt_of_lt_of_le (hc r hr) hI.le
 refine cK.az mix ado ao ?_
 rw[c98]
 refine iO ?_
 refine bc (Dz l hl 134 [.ptr nx 0] (nx+1) (fun s=>ext base (H s) (aK o nx (.row [.func (.func g) [] aI]))) step mT ok bn (fun x hx r s hs=>aeH (h x hx r s hs) hle ah (ad _ _ _) hc) s gH _ _ ?_ _ _ fun o2 n2 m1 m2 m3=> ?_)
 ·have hr:(ab.row [V.func (.func g) [] aI]).refs.all (fun r=>decide (r<nx+4))=true:=by
   rw[List.all_eq_true]
   intro r hr
   have h1:r∈V.aL aI:=by simpa[ab.refs,V.aL,V.refs]using hr
   have:=fN r h1
   simp;omega
  exact Ks
 refine iO ?_
 refine hK _ _ ah ⟨(m2.mono ah).bQ,by have:=m2.le;omega,fun id aC=> ?_⟩ fun id i1 i2=> ?_
 ·exact zM
 ·exact Kn
section
mutual
def Pf.iN:Pf->Nat
 | .mk _ _ _ _ kids=>1+Pf.fZ kids
def Pf.fZ:List Pf->Nat
 |[]=>0
 |k::l=>Nat.max k.iN (Pf.fZ l)
end
theorem Pf.nK:∀ {l:List Pf} {k:Pf},k∈l->k.iN<=Pf.fZ l
 |x::l,k,h=>by
  simp only[Pf.fZ]
  rcases List.mem_cons.1 h with rfl|h
  ·exact Nat.le_max_left _ _
  ·exact Nat.le_trans (Pf.nK h) (Nat.le_max_right _ _)
theorem Pf.qN {t k:Pf}(h:k∈t.kids):k.iN+1<=t.iN:=by
 cases t;simp only[Pf.kids]at h;simp only[Pf.iN];have:=Pf.nK h;omega
section
variable {σ:Type}(base oD:Nat)(H:σ->Nat->ab)(step:σ->Pf×Int->σ×Bool)(ok:List (Pf×Int)->σ->Prop)
include step ok in
theorem ze:∀ (L r:List (Pf×Int)) (bn:∀x∈L,∀r s,ok (x::r) s->(step s x).2=true->ok r (step s x).1) (s:σ),ok (L++r) s->(aB step s L).2=true->ok r (aB step s L).1
 |[],r,_,s,h,_=>by simpa[aB]using h
 |x::L,r,bn,s,h,hb=>by
  rw[aB]at hb|-
  by_cases hx:(step s x).2=true
  ·rw[if_pos hx]at hb|-
   exact ze L r (fun y hy=>bn y (List.mem_cons_of_mem _ hy)) _ (bn x (List.mem_cons_self ..) _ s h hx) hb
  ·rw[if_neg hx]at hb
   exact absurd hb ao
theorem Nq:∀t:Pf,t.fits->∀d:Int,0<=d->d+t.iN<=1000000->(∀x∈dD t d,∀r s,ok (x::r) s->(step s x).2=true->ok r (step s x).1)->(∀x∈dD t d,∀r s,ok (x::r) s->RoC Tryz.prog oD [.d x.1.d, .d (.i x.2)] base (H s) (H (step s x).1) (.d (.bool (step s x).2)))->oD<base->
 ∀ (c:Nat) (o0:Nat->ab) (yb vb:Nat),base<=c->base<=yb->yb<c->base<=vb->vb<c->o0 yb= .row [.jW oD]->o0 vb= .row [.func (.func 97) [] [.ptr yb 0, .ptr vb 0]]->
 ∀r s,ok (dD t d++r) s->fT Tryz.prog 97 [.d t.d, .d (.i d), .ptr yb 0, .ptr vb 0] c (ext base (H s) o0) (ext base (H (aB step s (dD t d)).1) o0) (.d (.bool (aB step s (dD t d)).2)):=by
 refine Pf.bW fun t ih hf d hd0 hd bn hR vT c o0 yb vb Rx Vo hy Vp hv oy ov r s gH=> ?_
 have dR:=((Pf.aH _).1 hf).2.2.2
 intro o nx hI K X hK
 have hle:=hI.le
 have Vq:o yb= .row [.jW oD]:=by rw[hI.eq yb hy];unfold ext;rw[if_neg (by omega),oy]
 have Vr:o vb= .row [.func (.func 97) [] [.ptr yb 0, .ptr vb 0]]:=by rw[hI.eq vb hv];unfold ext;rw[if_neg (by omega),ov]
 have y1:yb≠nx:=ah
 have y2:∀k,yb≠nx+k:=fun k=>ah
 have y3:vb≠nx:=ah
 have y4:∀k,vb≠nx+k:=fun k=>ah
 refine cK.az mix adn ao ?_
 rw[c97]
 simp+contextual only[go_sem,Vq,Vr,y1,y2,y3,y4,Nat.add_assoc,Nat.left_eq_add,Nat.add_eq_left,Nat.add_left_cancel_iff]
 have tI:=qZ t d
 have me:∀k∈t.kids,∀x∈dD k (d+1),x∈dD t d:=fun k hk x hx=>by
  exact VT
 have hb:∀id,id<base->o id=H s id:=fun id aC=>by rw[hI.eq id (by omega)];unfold ext;rw[if_pos aC]
 have hIb:cQ base (H s) o nx:=⟨hI.bQ,ah,hb⟩
 refine nT (hR (t,d) xM _ s (by rw[tI,List.cons_append]at gH;exact gH) _ _ ((hIb.aK (i:=nx) (m:=nx+6) ah ah ah rfl).aK (i:=nx+1) ah ah ah rfl) _ _ fun o2 n2 m1 m2 m3=> ?_)
 have k0:o2 nx= .row t.row:=by rw[m3 nx (by omega) (by omega),ak _ _ _ _ (by omega),ad]
 have k1:o2 (nx+1)= .row [.d (.i d)]:=by rw[m3 (nx+1) (by omega) (by omega),ad]
 have hold:∀id,base<=id->id<nx->o2 id=o id:=fun id h1 h2=>by rw[m3 id h1 (by omega),ak _ _ _ _ (by omega),ak _ _ _ _ (by omega)]
 have HV:∀id,base<=id->id<c->o id=o0 id:=fun id h1 h2=>by rw[hI.eq id h2];unfold ext;rw[if_neg (by omega)]
 cases yP:(step s (t,d)).2 with
 |false=>
  refine iq yP ?_
  have Bw:aB step s (dD t d)=((step s (t,d)).1,false):=by rw[tI,aB,if_neg (by rw[yP];exact Bool.false_ne_true)]
  rw[Bw]at hK
  refine hK _ _ ah ⟨m2.bQ.mono ah,ah,fun id aC=> ?_⟩ (fun id h1 h2=>hold id ah h2)
  unfold ext
  split
  ·exact m2.eq id (by assumption)
  ·exact HU
 |true=>
  have Bw:aB step s (dD t d)=aB (fun s k=>aB step s (dD k (d+1))) (step s (t,d)).1 t.kids:=by rw[tI,aB,if_pos yP,pN]
  simp+contextual only[go_sem,yP,k0,k1]
  have q0:o2 yb= .row [.jW oD]:=by rw[hold yb Vo (by omega),Vq]
  have q1:o2 vb= .row [.func (.func 97) [] [.ptr yb 0, .ptr vb 0]]:=by rw[hold vb Vp (by omega),Vr]
  have m0:=m2.le
  refine bc (Jm t.kids dR.1 99 [.ptr vb 0, .ptr (nx+1) 0] n2 (fun s=>ext base (H s) o2) (fun s k=>aB step s (dD k (d+1))) ?_ (fun ks s=>ok (ks.flatMap (fun k=>dD k (d+1))++r) s) ?_ ?_ (step s (t,d)).1 (bn (t,d) xM _ s (by rw[tI,List.cons_append]at gH;exact gH) yP) _ _ ?_ _ _ ?_)
  ·exact F2
  ·exact fun k hk r' s' h1 h2=>ze step ok _ _ (fun x hx=>bn x (me k hk x hx)) s' (by rw[<- List.append_assoc];exact h1) h2
  ·intro k hk r' s' jv o3 n3 Qu K3 X3 hK3
   have l3:=Qu.le
   have r0:o3 vb= .row [.func (.func 97) [] [.ptr yb 0, .ptr vb 0]]:=by rw[Qu.eq vb (by omega)];unfold ext;rw[if_neg (by omega),q1]
   have r1:o3 (nx+1)= .row [.d (.i d)]:=by rw[Qu.eq (nx+1) (by omega)];unfold ext;rw[if_neg (by omega),k1]
   have y5:vb≠n3:=ah
   have y6:∀k,vb≠n3+k:=fun k=>ah
   have y7:nx+1≠n3:=ah
   have y8:∀k,nx+1≠n3+k:=fun k=>ah
   have hh:=Pf.qN hk
   refine cK.az mix adp ao ?_
   rw[c99]
   simp+contextual only[go_sem,r0,r1,y5,y6,y7,y8]
   rw[wrap64 (n:=d+1) (by omega) (by omega)]
   refine bc (ih k hk (dR.2 k hk) (d+1) ah ah (fun x hx=>bn x (me k hk x hx)) (fun x hx=>hR x (me k hk x hx)) vT n2 o2 yb vb ah Vo ah Vp ah q0 q1 (r'.flatMap (fun k=>dD k (d+1))++r) s' (by rw[<- List.append_assoc];exact jv) _ _ (Qu.aK (i:=n3) (m:=n3+6) ah ah ah rfl) _ _ fun o4 n4 p1 p2 p3=> ?_)
   exact Sa
  ·exact V4
  ·intro o5 n5 p1 p2 p3
   refine b8 ?_
   rw[<- Bw]
   refine hK _ _ ah ⟨p2.bQ.mono ah,ah,fun id aC=> ?_⟩ (fun id h1 h2=> ?_)
   ·rw[p2.eq id (by omega), <- Bw]
    unfold ext
    split
    ·rfl
    ·exact HU
   ·exact Lo
theorem Jn(t:Pf)(hf:t.fits)(hd:t.iN<=900000)(bn:∀x∈dD t 1,∀r s,ok (x::r) s->(step s x).2=true->ok r (step s x).1)(hR:∀x∈dD t 1,∀r s,ok (x::r) s->RoC Tryz.prog oD [.d x.1.d, .d (.i x.2)] base (H s) (H (step s x).1) (.d (.bool (step s x).2)))(vT:oD<base)(tb:Nat)(HZ:tb<base)(s:σ)(gH:ok (dD t 1) s)(cq:H s tb= .row t.row):
 fT Tryz.prog 96 [.jW oD, .ptr tb 0] base (H s) (H (aB step s (dD t 1)).1) (.cg []):=by
 intro o nx hI K X hK
 have hle:=hI.le
 have ot:o tb= .row t.row:=by rw[hI.eq tb HZ,cq]
 have y1:tb≠nx:=ah
 have y2:∀k,tb≠nx+k:=fun k=>ah
 refine cK.az mix adm ao ?_
 rw[c96]
 refine VL ot y1 y2 ?_
 have hI1:cQ base (H s) (aK (aK (aK o nx (.row [.jW oD])) (nx+1) (.row [.d .bN])) (nx+1) (.row [.func (.func 97) [] [.ptr nx 0, .ptr (nx+1) 0]])) (nx+6):=by
  refine((hI.aK (i:=nx) (m:=nx+6) ah ah ah ?_).aK (i:=nx+1) (m:=nx+6) ah ah ah rfl).aK (i:=nx+1) ah ah ah ?_
  ·exact KJ
  ·exact mS
 refine bc (Nq base oD H step ok t hf 1 ah ah bn hR vT (nx+6) _ nx (nx+1) ah hle ah ah ah ?_ ?_ [] s (by rw[List.append_nil];exact gH) _ _ (hI1.ext (Nat.le_refl _) ah) _ _ ?_)
 ·exact dU
 ·exact dU
 intro o2 n2 m1 m2 m3
 refine b8 ?_
 refine hK _ _ ah ⟨m2.bQ,ah,fun id aC=> ?_⟩ (fun id h1 h2=> ?_)
 ·exact zM
 ·exact Le
end
theorem Jo(t:Pf)(o:Nat->ab)(nx:Nat)(K X:V->(Nat->ab)->Nat->Prop)(h:K (.func (.func 96) [] [.ptr nx 0]) (aK o nx (.row t.row)) (nx+4)):cK Tryz.prog 56 [.d t.d] o nx K X:=by
 refine cK.az mix ac7 ao ?_
 rw[c56]
 refine b8 ?_
 exact h
def mY{σ:Type}(J:σ->Option jQ)(step:σ->Pf×Int->σ)(s:σ)(x:Pf×Int):σ×Bool:=(step s x,(J (step s x)).isNone)
theorem DA{σ:Type}(J:σ->Option jQ)(step:σ->Pf×Int->σ):∀ (l:List (Pf×Int)) (s:σ),J s=none->(aB (mY J step) s l).2=(J (aB (mY J step) s l).1).isNone
 |[],s,h=>by simp[aB,h]
 |x::l,s,h=>by
  simp only[aB]
  split
  ·rename_i hb
   exact DA J step l _ (by simpa[mY]using hb)
  ·rename_i hb
   cases hj:J (step s x)with
   |none=>exact absurd (by simp[mY,hj]) hb
   |some j=>simp[mY,hj]
theorem xw{σ:Type}(t:Pf)(hf:t.fits)(hd:t.iN<=900000){n bq:Nat}{gq:Operand}{ps:List Nat}{iW eS:IC}{Q:fX->S->Prop}{e:Nat->V}{o:Nat->ab}{nx tb:Nat}(env:List V)(he:lZ e env 0)
 (E9:ps.all (fun t=>decide (t<n))=true) (hl:ps.length=2) (hg:Good o nx) (hrefs:∀r∈V.aL env,r<nx) (ht:o tb= .row t.row)
 (G:σ->Nat->ab) (J:σ->Option jQ) (step:σ->Pf×Int->σ) (ok:List (Pf×Int)->σ->Prop) (s0:σ) (gH:ok (dD t 1) s0) (RM:J s0=none) (h0:∀id,id<nx->o id=G s0 id) (bn:∀x∈dD t 1,∀r s,ok (x::r) s->J s=none->J (step s x)=none->ok r (step s x))
 (mw:∀L,iF Tryz.prog n env ps iW eS L->(∀st pd m,nx<=m->(L st pd).refs.all (fun r=>decide (r<m))=true)->∀x∈dD t 1,∀r s,ok (x::r) s->J s=none->∀o3 n3,cQ nx (G s) o3 n3->nx<n3->o3 nx=L .ready none->∀K X,
  (∀e' o' n' st pd,n3<=n'->cQ nx (G (step s x)) o' n'->o' nx=L st pd->(∀id,nx<id->id<n3->o' id=o3 id)->jL nx K X (G4 (J (step s x))) ⟨e',o',n'⟩)->
  lj Tryz.prog n n3 true iW (nS Tryz.prog n n3 nx eS K X) ⟨nG (bp env) ps [.d x.1.d, .d (.i x.2)],o3,n3⟩)
 (ky:∀o' n',cQ nx (G (aB (mY J step) s0 (dD t 1)).1) o' n'->pG Q (J (aB (mY J step) s0 (dD t 1)).1) ⟨e,o',n'⟩):
 xj Tryz.prog n bq false gq ps iW eS Q ⟨e,o,nx⟩ (.func (.func 96) [] [.ptr tb 0]):=by
 refine Fj env he (fun L hL=> ?_)
 have HZ:tb<nx:=hg.lt K0
 let H:σ->Nat->ab:=fun s id=>if id<nx then G s id else if id=nx then(match J s with|none=>L .ready none|some j=>L .done (some j))else .no
 have HW:∀s id,id<nx->H s id=G s id:=fun s id h=>if_pos h
 have OD:∀s,J s=none->H s nx=L .ready none:=fun s h=>by show(if nx<nx then _ else _)=_;rw[if_neg (by omega),if_pos rfl,h]
 have VW:∀s j,J s=some j->H s nx=L .done (some j):=fun s j h=>by show(if nx<nx then _ else _)=_;rw[if_neg (by omega),if_pos rfl,h]
 have xD:∀st pd m,nx<=m->(L st pd).refs.all (fun r=>decide (r<m))=true:=fun st pd m hm=>by
  exact Wr
 refine Jn (nx+1) nx H (mY J step) (fun r s=>ok r s/\J s=none) t hf hd (fun x hx r s h1 h2=> ?_) (fun x hx r s h1=> ?_) ah tb ah s0 ⟨gH,RM⟩ KY _ _ ⟨?_,Nat.le_refl _,fun id aC=> ?_⟩ _ _ ?_
 ·have hj:J (step s x)=none:=by simpa[mY]using h2
  exact⟨bn x hx r s h1.1 h1.2 hj,hj⟩
 ·intro o3 n3 hI K X hK
  have hle:=hI.le
  have Kc:o3 nx=L .ready none:=by rw[hI.eq nx (by omega),OD s h1.2]
  refine vR hL mix Kc ah E9 (by simp[hl]) ?_
  refine mw L hL xD x hx r s h1.1 h1.2 o3 n3 ⟨hI.bQ,ah,fun id aC=>by rw[hI.eq id (by omega),HW _ _ aC]⟩ ah Kc K X (fun e' o' n' st pd k1 k2 k3 k4=> ?_)
  have key:∀st' pd' b,(J (step s x)).isNone=b->H (step s x) nx=L st' pd'->K (.d (.bool b)) (aK o' nx (L st' pd')) n':=fun st' pd' b hb hh=>by
   subst hb
   refine hK _ _ k1 ⟨k2.bQ.aK ah (xD _ _ _ ah),ah,fun id aC=> ?_⟩ (fun id g1 g2=> ?_)
   ·by_cases uK:id=nx
    ·exact KK
    ·rw[ak _ _ _ _ uK]
     show o' id=H (step s x) id
     exact Kz
   ·exact V2
  cases hj:J (step s x)with
  |none=>exact VZ
  |some j=>
   cases j with
   |ret=>exact VX
   |exit j=>exact VV
 ·exact VY
 ·by_cases uK:id=nx
  ·exact KO
  ·exact VU
 ·intro o' n' k1 k2 k3
  have hle:=k2.le
  generalize hsf:(aB (mY J step) s0 (dD t 1)).1=sf at*
  have kk:∀st pd,cQ nx (G sf) (aK o' nx (L st pd)) n':=fun st pd=>⟨k2.bQ.aK ah (xD _ _ _ ah),ah,fun id aC=>by rw[ak _ _ _ _ (by omega),k2.eq id (by omega),HW _ _ aC]⟩
  cases hj:J sf with
  |none=>
   refine⟨.ready,none,by rw[k2.eq nx (by omega),OD _ hj],(fun h=>by cases h), ?_⟩
   have:=ky _ _ (kk .exhausted none)
   rwa [hj]at this
  |some j=>
   refine⟨.done,some j,by rw[k2.eq nx (by omega),VW _ _ hj],(fun h=>by cases h), ?_⟩
   have:=ky _ _ (kk .exhausted (some j))
   rwa [hj]at this
theorem A7{σ:Type}(t:Pf)(hf:t.fits)(hd:t.iN<=900000){n bq:Nat}{gq:Operand}{ps:List Nat}{iW eS:IC}{Q:fX->S->Prop}{e:Nat->V}{o:Nat->ab}{nx tb:Nat}(env:List V)(he:lZ e env 0)
 (E9:ps.all (fun t=>decide (t<n))=true) (hl:ps.length=2) (hg:Good o nx) (hrefs:∀r∈V.aL env,r<nx) (ht:o tb= .row t.row)
 (G:σ->Nat->ab) (J:σ->Option jQ) (step:σ->Pf×Int->σ) (ok:σ->Prop) (s0:σ) (gH:ok s0) (RM:J s0=none) (h0:∀id,id<nx->o id=G s0 id) (bn:∀x∈dD t 1,∀s,ok s->J s=none->J (step s x)=none->ok (step s x))
 (mw:∀L,iF Tryz.prog n env ps iW eS L->(∀st pd m,nx<=m->(L st pd).refs.all (fun r=>decide (r<m))=true)->∀x∈dD t 1,∀s,ok s->J s=none->∀o3 n3,cQ nx (G s) o3 n3->nx<n3->o3 nx=L .ready none->∀K X,
  (∀e' o' n' st pd,n3<=n'->cQ nx (G (step s x)) o' n'->o' nx=L st pd->(∀id,nx<id->id<n3->o' id=o3 id)->jL nx K X (G4 (J (step s x))) ⟨e',o',n'⟩)->
  lj Tryz.prog n n3 true iW (nS Tryz.prog n n3 nx eS K X) ⟨nG (bp env) ps [.d x.1.d, .d (.i x.2)],o3,n3⟩)
 (ky:∀o' n',cQ nx (G (aB (mY J step) s0 (dD t 1)).1) o' n'->pG Q (J (aB (mY J step) s0 (dD t 1)).1) ⟨e,o',n'⟩):
 xj Tryz.prog n bq false gq ps iW eS Q ⟨e,o,nx⟩ (.func (.func 96) [] [.ptr tb 0]):=
 xw t hf hd env he E9 hl hg hrefs ht G J step (fun _ s=>ok s) s0 gH RM h0 (fun x hx _=>bn x hx) (fun L hL xD x hx _=>mw L hL xD x hx) ky
end
theorem QM(s:aO)(hs:s.Fits)(x:Tm)(hx:x.fits)(base sp:Nat)(h:Nat->ab)(uX:h sp= .row s.row)(hb:sp<base):
 fT Tryz.prog 122 [.d x.d, .ptr sp 0] base h h (.d (.bool (p8 s x))):=by
 intro o nx hI K X hK
 have hle:=hI.le
 have ho:o sp= .row s.row:=by rw[hI.eq sp hb,uX]
 have y1:∀k,sp≠nx+k:=fun k=>ah
 have y2:sp≠nx:=ah
 refine cK.az mix TY ao ?_
 rw[X4]
 refine OS ho y1 y2 ?_
 refine ai (A1 s hs x hx) rfl ?_
 refine iO ?_
 exact hK _ _ ah (hI.aK ah ah ah rfl) fun id i1 i2=>by rw[ak _ _ _ _ (by omega)]
def jS(s:aO)(l:List Tm):Bool:=decide (l.length<=20)&&l.all (p8 s)
theorem Nr(s:aO)(hs:s.Fits)(l:List Tm)(hl:l.length<=9223372036854775807)(hf:∀t∈l,t.fits):aR Tryz.prog 88 [s.d, .sl (l.map Tm.d)] (.ret [.bool (jS s l)]):=by
 refine aR.az mix adg ao ?_
 rw[c88]
 unfold jS
 by_cases h0: ¬l.length<=20
 ·have Ed:decide ((l.length:Int)<=20)=false:=by simp;omega
  have Fy:decide (l.length<=20)=false:=by simp;omega
  refine et Ed ?_
  rw[Fy];rfl
 have Ed:decide ((l.length:Int)<=20)=true:=by simp;omega
 have Fy:decide (l.length<=20)=true:=by simp;omega
 rw[Fy,Bool.true_and]
 refine et Ed ?_
 refine bc (yY (σ:=Unit) l hl 122 [.ptr 0 0] 1 (fun _=>aK (fun _=> .no) 0 (.row s.row)) (fun _ x=>((),p8 s x)) mT (fun _=>True) (fun _ _ _ _ _=>trivial) (fun x hx _ _=>QM s hs x (hf x hx) 1 0 _ (ad _ _ _) ah) () trivial _ _ ⟨dB,ah,fun id aC=> ?_⟩ _ _ fun o2 n2 m1 m2 m3=> ?_)
 ·first|rfl|exact zK
 rw[Dq]
 simp+contextual (disch:=first|omega|simp only[go_sem,false_implies]) only[go_sem,wrap64,if_pos,Nat.add_assoc,Nat.left_eq_add,Nat.add_eq_left,Nat.add_left_cancel_iff]
def jE(s:aO)(m:Int)(x:Pf×Int):Bool:=(decide (500<m)||decide (150<x.2))|| !p8 s x.1.val|| !jS s x.1.binds||(x.1.bG !=6&&(x.1.num !=0||decide (0<(x.1.binds.length:Int))))
def jj(s:aO)(st:Int×Bool)(x:Pf×Int):Int×Bool:=(st.1+1, !jE s (st.1+1) x)
def OQ(st:Int×Bool):Option jQ:=if st.2=true then none else some .ret
def mP(s:aO)(f:Pf):Bool:=(aB (mY OQ (jj s)) (0,true) (dD f 1)).2
theorem Jp(p:Pg)(hp:p.Fin)(f:Pf)(hf:f.fits)(hd:f.iN<=900000)(bw:∀x∈dD f 1,x.1.fits):aR Tryz.prog 55 [p.d,f.d] (.ret [.bool (mP p.sig f)]):=by
 refine aR.az mix ac6 ao ?_
 rw[c55]
 refine iO ?_
 refine c7 (Jo f _ _ _ _ ?_)
 refine iO ?_
 refine A7 (σ:=Int×Bool) f hf hd [.aa, .aa, .ptr 0 0, .aa, .ptr 2 0, .ptr 3 0] ?_ bE rfl dB mT (ad _ _ _)
  (fun b=>aK (aK (aK (aK (aK (fun _=> .no) 0 (.row p.row)) 1 (.row f.row)) 2 (.row [.d (.bool false)])) 6 (.row f.row)) 3 (.row [.d (.i b.1)])) OQ (jj p.sig) (fun b=>0<=b.1/\b.1<=500) (0,true) ⟨bE,bE⟩ rfl (fun id aC=> ?_) (fun x _ s hs _ h2=> ?_) ?_ ?_
 ·exact Ko
 ·first|exact zK|(rw[jt];exact zK)
 ·have hb:jE p.sig (s.1+1) x=false:=by
   cases h:jE p.sig (s.1+1) x with
   |false=>rfl
   |true=>simp[jj,OQ,h]at h2
  simp only[jE,Bool.or_eq_false_iff,decide_eq_false_iff_not]at hb
  simp only[jj]
  omega
 ·intro L hL xD x hx s' h1 h2 o3 n3 hI hn ho K X cR
  simp only[nG]
  have hg:=hI.bQ
  have q1:o3 3= .row [.d (.i s'.1)]:=hI.eq 3 ah
  have q2:o3 0= .row p.row:=hI.eq 0 ah
  have q3:o3 2= .row [.d (.bool false)]:=hI.eq 2 ah
  refine aS ?_
  refine nU hL (pd:=none) ?_ ?_
  ·(repeat(first|rfl|rw[ad]|rw[ak _ _ _ _ (by omega)]))
   exact ho
  refine xB q1 q2 ?_
  have same:∀ (o':Nat->ab) (n':Nat),Good o' n'->n3<=n'->(∀j,j<10->o' j=aK o3 3 (.row [.d (.i (s'.1+1))]) j)->cQ 10 (aK (aK (aK (aK (aK (fun _=> .no) 0 (.row p.row)) 1 (.row f.row)) 2 (.row [.d (.bool false)])) 6 (.row f.row)) 3 (.row [.d (.i (s'.1+1))])) o' n':=fun o' n' k1 k2 k3=>⟨k1,ah,fun j hj=>by
   rw[k3 j hj]
   by_cases e:j=3
   ·exact zL
   ·rw[ak _ 3 _ _ e,ak _ 3 _ _ e,hI.eq j hj,ak _ 3 _ _ e]⟩
  have hxf:=(Pf.aH _).1 (bw x hx)
  have bad:jE p.sig (s'.1+1) x=true->jj p.sig s' x=(s'.1+1,false):=fun h=>by simp[jj,h]
  have bQ:jE p.sig (s'.1+1) x=false->jj p.sig s' x=(s'.1+1,true):=fun h=>by simp[jj,h]
  cases c1:(decide (500<s'.1+1)||decide (150<x.2))with
  |true=>
   rw[bad (by unfold jE;rw[c1];rfl)]at cR
   refine OX c1 q1 q2 q3 ?_
   refine cR _ _ _ .busy none ah (same _ _ dB ah fun j hj=> ?_) dU (fun id h3 h4=>by(repeat(first|rfl|rw[ad]|rw[ak _ _ _ _ (by omega)])))
   by_cases e:j=2
   ·exact Pc
   ·by_cases e3:j=3
    ·exact Kp
    ·exact dU
  |false=>
   refine zG c1 q1 q2 ?_
   refine ai (A1 p.sig hp.sig x.1.val hxf.1) rfl ?_
   cases c2:p8 p.sig x.1.val with
   |false=>
    rw[bad (by unfold jE;rw[c1,c2];rfl)]at cR
    refine OX c1 q1 q2 q3 ?_
    refine cR _ _ _ .busy none ah (same _ _ dB ah fun j hj=> ?_) dU (fun id h3 h4=>by(repeat(first|rfl|rw[ad]|rw[ak _ _ _ _ (by omega)])))
    by_cases e:j=2
    ·exact Pc
    ·by_cases e3:j=3
     ·exact Kp
     ·exact dU
   |true=>
    refine zG c1 q1 q2 ?_
    refine ai (Nr p.sig hp.sig x.1.binds hxf.2.1 hxf.2.2.1) rfl ?_
    cases c3:jS p.sig x.1.binds with
    |false=>
     rw[bad (by unfold jE;rw[c1,c2,c3];rfl)]at cR
     refine OX c1 q1 q2 q3 ?_
     refine cR _ _ _ .busy none ah (same _ _ dB ah fun j hj=> ?_) dU (fun id h3 h4=>by(repeat(first|rfl|rw[ad]|rw[ak _ _ _ _ (by omega)])))
     by_cases e:j=2
     ·exact Pc
     ·by_cases e3:j=3
      ·exact Kp
      ·exact dU
    |true=>
     refine OX c1 q1 q2 q3 ?_
     refine aj (fun h5=> ?_) (fun h5=> ?_)
     ·rw[bad (by unfold jE;rw[c1,c2,c3,h5];rfl)]at cR
      refine dc q3 ?_
      refine cR _ _ _ .busy none ah (same _ _ dB ah fun j hj=> ?_) dU (fun id h3 h4=>by(repeat(first|rfl|rw[ad]|rw[ak _ _ _ _ (by omega)])))
      by_cases e:j=2
      ·exact Pc
      ·by_cases e3:j=3
       ·exact Kp
       ·exact dU
     ·have Bs:(x.1.bG !=6&&(x.1.num !=0||decide (0<(x.1.binds.length:Int))))=false:=by simpa using h5
      rw[bQ (by unfold jE;rw[c1,c2,c3,Bs];rfl)]at cR
      refine aS ?_
      refine cR _ _ _ .busy none ah (same _ _ dB ah fun j hj=>by
       by_cases e3:j=3
       ·exact Kp
       ·(repeat(first|rfl|rw[ad]|rw[ak _ _ _ _ (by omega)]))) dU (fun id h3 h4=>by(repeat(first|rfl|rw[ad]|rw[ak _ _ _ _ (by omega)])))
 ·intro o' n' hI
  have q1:o' 2= .row [.d (.bool false)]:=hI.eq 2 ah
  rw[show mP p.sig f=(OQ (aB (mY OQ (jj p.sig)) (0,true) (dD f 1)).1).isNone from DA _ _ _ _ rfl]
  generalize (aB (mY OQ (jj p.sig)) (0,true) (dD f 1)).1=sf at*
  obtain⟨m,b⟩:=sf
  cases b<;>(simp only[OQ,if_true,if_false,Bool.false_eq_true,pG];simp+contextual (disch:=first|omega|simp only[go_sem,false_implies]) only[go_sem,wrap64,if_pos,q1];try rfl)
theorem Jq:∀ (t:Pf) (d:Int),t.fits->∀x∈dD t d,x.1.fits:=by
 refine Pf.bW fun t ih d hf x hx=> ?_
 rw[qZ]at hx
 rcases List.mem_cons.1 hx with e|e
 ·rw[e];exact hf
 ·obtain⟨k,hk,h⟩:=List.mem_flatMap.1 e
  exact ih k hk (d+1) (((Pf.aH t).1 hf).2.2.2.2 k hk) x h
theorem pT(p:Pg)(hp:p.Fin)(f:Pf)(hf:f.fits)(hd:f.iN<=900000):aR Tryz.prog 55 [p.d,f.d] (.ret [.bool (mP p.sig f)]):=Jp p hp f hf hd (Jq f 1 hf)
def FA(s:aO)(x:Pf×Int):Bool:=decide (x.2<=150)&&p8 s x.1.val&&jS s x.1.binds&&(x.1.bG==6||(x.1.num==0&&x.1.binds.length==0))
theorem zf(s:aO)(m:Int)(x:Pf×Int):jE s m x=false↔m<=500/\FA s x=true:=by
 unfold jE FA
 simp only[Bool.or_eq_false_iff,Bool.and_eq_true,decide_eq_false_iff_not,decide_eq_true_eq,Bool.not_eq_false',Bool.and_eq_false_imp,Bool.or_eq_true,beq_iff_eq,bne_iff_ne,bne_eq_false_iff_eq]
 constructor
 ·rintro⟨⟨⟨⟨a,b⟩,c⟩,d⟩,e⟩
  refine⟨ah,⟨⟨ah,c⟩,d⟩, ?_⟩
  by_cases h:x.1.bG=6
  ·exact .inl h
  ·have:=e h
   exact .inr ⟨this.1,ah⟩
 ·rintro⟨a,⟨⟨b,c⟩,d⟩,e⟩
  refine⟨⟨⟨⟨ah,ah⟩,c⟩,d⟩,fun h=> ?_⟩
  rcases e with e|e
  ·exact absurd e h
  ·exact⟨e.1,ah⟩
theorem Hk(s:aO):∀ (L:List (Pf×Int)) (m:Int),(aB (mY OQ (jj s)) (m,true) L).2=true↔(L=[]\/m+L.length<=500)/\∀x∈L,FA s x=true
 |[],m=>by simp[aB]
 |x::L,m=>by
  have e1:mY OQ (jj s) (m,true) x=((m+1, !jE s (m+1) x), !jE s (m+1) x):=by
   cases h:jE s (m+1) x<;>simp[mY,jj,OQ,h]
  rw[aB,e1]
  cases hb:jE s (m+1) x with
  |true=>
   have hn: ¬ (m+1<=500/\FA s x=true):=fun h=>by
    rw[(zf s (m+1) x).2 h]at hb;cases hb
   simp only[Bool.not_true,Bool.false_eq_true,if_false,false_iff]
   rintro⟨a,b⟩
   refine hn ⟨?_,b x ao⟩
   rcases a with a|a
   ·cases a
   ·simp at a;omega
  |false=>
   obtain⟨h1,h2⟩:=(zf s (m+1) x).1 hb
   simp only[Bool.not_false,if_true]
   rw[Hk s L (m+1)]
   constructor
   ·rintro⟨a,b⟩
    refine⟨.inr ?_,fun y hy=>(List.mem_cons.1 hy).elim (fun e=>e ▸ h2) (b y)⟩
    rcases a with a|a
    ·subst a;simp;omega
    ·simp;omega
   ·rintro⟨a,b⟩
    refine⟨?_,fun y hy=>b y sV⟩
    rcases a with a|a
    ·cases a
    ·simp at a;exact .inr ah
theorem Ns(s:aO)(f:Pf):mP s f=true↔(dD f 1).length<=500/\∀x∈dD f 1,FA s x=true:=by
 unfold mP
 rw[Hk]
 have hn:dD f 1≠[]:=by rw[qZ];simp
 simp only[hn,false_or]
 constructor
 ·rintro⟨a,b⟩;exact⟨ah,b⟩
 ·rintro⟨a,b⟩;exact⟨ah,b⟩
end Go.Proofs.YtonbelhklnmjnaaGreat
