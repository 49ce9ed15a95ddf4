/-
  A PART OF THE PROOF. Conditions: none.
-/
import Derived.Test.YtlhemmpklhhgoaaGreatQu18
set_option linter.unusedSimpArgs false
set_option linter.unusedVariables false
set_option maxHeartbeats 4000000
namespace Go.Proofs.YtlhemmpklhhgoaaGreat
def wL(o:Nat->ad)(nx:Nat)(s:bW)(m:ad):Nat->ad:=
 ay (ay (ay (ay o nx (.row s.row)) (nx+1) (.row [.aq, .aq, .aq, .aq, .aq, .d .dH])) (nx+4) m) (nx+6) (.row (s.row++[.mp (nx+4)]))
theorem kpH_0(o:Nat->ad)(nx:Nat)(s:bW)(m:ad):wL o nx s m nx= .row s.row:=by
 unfold wL;rw[ae _ _ _ _ (by omega),ae _ _ _ _ (by omega),ae _ _ _ _ (by omega),ab]
theorem kpH_1(o:Nat->ad)(nx:Nat)(s:bW)(m:ad):wL o nx s m (nx+1)= .row [.aq, .aq, .aq, .aq, .aq, .d .dH]:=by
 unfold wL;rw[ae _ _ _ _ (by omega),ae _ _ _ _ (by omega),ab]
theorem kpH_4(o:Nat->ad)(nx:Nat)(s:bW)(m:ad):wL o nx s m (nx+4)=m:=by
 unfold wL;rw[ae _ _ _ _ (by omega),ab]
theorem kpH_6(o:Nat->ad)(nx:Nat)(s:bW)(m:ad):wL o nx s m (nx+6)= .row (s.row++[.mp (nx+4)]):=by unfold wL;rw[ab]
theorem Ms(o:Nat->ad)(nx:Nat)(s:bW)(m:ad){j:Nat}(h0:j≠nx)(h1:j≠nx+1)(h4:j≠nx+4)(h6:j≠nx+6):wL o nx s m j=o j:=by
 unfold wL;rw[ae _ _ _ _ h6,ae _ _ _ _ h4,ae _ _ _ _ h1,ae _ _ _ _ h0]
theorem G8(o:Nat->ad)(nx:Nat)(s:bW)(m m':ad)(j:Nat):ay (wL o nx s m) (nx+4) m' j=wL o nx s m' j:=by
 by_cases e:j=nx+4
 ·subst e;rw[ab,kpH_4]
 ·rw[ae _ _ _ _ e]
  unfold wL
  by_cases e6:j=nx+6
  ·subst e6;rw[ab,ab]
  ·rw[ae _ _ _ _ e6,ae _ _ _ _ e6,ae _ _ _ _ e,ae _ _ _ _ e]
theorem re{o:Nat->ad}{nx:Nat}(hg:Good o nx)(s:bW){m:ad}(hm:m.refs=[]):Good (wL o nx s m) (nx+7):=by
 unfold wL
 refine Good.ay (Good.ay (Good.ay (Good.ay (hg.mono af) af rfl) af rfl) af (by rw[hm];rfl)) af A8
theorem Pq(o:Nat->ad)(nx:Nat)(s:bW)(j:Nat):
 ay (ay (ay (ay (ay o nx (.row s.row)) (nx+1) (.row [.aq, .aq, .aq, .aq, .aq, .d .dH])) (nx+4) (dh [])) (nx+6) (.row [.aq, .aq, .aq, .aq, .aq, .d .dH])) (nx+6) (.row (s.row++[.mp (nx+4)])) j=wL o nx s (dh []) j:=by
 unfold wL
 by_cases e:j=nx+6
 ·subst e;rw[ab,ab]
 ·rw[ae _ _ _ _ e,ae _ _ _ _ e,ae _ _ _ _ e]
set_option maxRecDepth 100000 in
theorem AF(s:bW)(hs:s.Fin)(o:Nat->ad)(nx:Nat)(hg:Good o nx)(K X:V->(Nat->ad)->Nat->Prop)
 (wq:bp s->∀o' nx' id,nx<=nx'->Good o' nx'->(∀j,j<nx->o' j=o j)->o' id= .b8 (enc (D.int .i64) (jW (ai s.binds)))->K (.bP [.agg (s.row++[.mp id]), .d (.bool true)]) o' nx')
 (oI: ¬bp s->∀o' nx' id m,nx<=nx'->id<nx'->Good o' nx'->(∀j,j<nx->o' j=o j)->o' id=dh m\/o' id= .b8 (enc (D.int .i64) (jW m))->K (.bP [.agg (s.row++[.mp id]), .d (.bool false)]) o' nx'):
 bQ Tryz.prog 79 [.d s.d] o nx K X:=by
 refine bQ.aH mix abo aE ?_
 rw[c79]
 refine fM ?_
 refine aw (vU s.sig hs.sig) rfl ?_
 have uG:=hs.bl
 have uX:=hs.nl
 have HN:=hs.ml
 cases h1:iU s.sig with
 |false=>
  simp+contextual (disch:=first|omega|simp only[go_sem,false_implies]) only[go_sem,wrap64,if_pos,mJ,Nat.add_assoc,Nat.left_eq_add,Nat.add_eq_left,Nat.add_left_cancel_iff,List.length_map]
  refine oI (fun h=> ?_) _ _ (nx+4) [] ?_ ?_ ?_ (fun j hj=> ?_) (.inl ?_)
  rotate_left
  ·omega
  ·omega
  ·exact dE
  ·exact cA
  ·exact cA
  have:=h.sig
  rw[h1]at this;cases this
 |true=>
 by_cases h2:20<s.binds.length
 ·have mu:decide ((s.binds.length:Int)>20)=true:=by simp;omega
  simp+contextual (disch:=first|omega|simp only[go_sem,false_implies]) only[go_sem,wrap64,if_pos,mJ,Nat.add_assoc,Nat.left_eq_add,Nat.add_eq_left,Nat.add_left_cancel_iff,List.length_map,mu]
  refine oI (fun h=> ?_) _ _ (nx+4) [] ?_ ?_ ?_ (fun j hj=> ?_) (.inl ?_)
  rotate_left
  ·omega
  ·omega
  ·exact dE
  ·exact cA
  ·exact cA
  have:=h.mG.len
  omega
 have mu:decide ((s.binds.length:Int)>20)=false:=by simp;omega
 by_cases h3:12<s.aJ.length
 ·have mw:decide ((s.aJ.length:Int)>12)=true:=by simp;omega
  simp+contextual (disch:=first|omega|simp only[go_sem,false_implies]) only[go_sem,wrap64,if_pos,mJ,Nat.add_assoc,Nat.left_eq_add,Nat.add_eq_left,Nat.add_left_cancel_iff,List.length_map,mu,mw]
  refine oI (fun h=> ?_) _ _ (nx+4) [] ?_ ?_ ?_ (fun j hj=> ?_) (.inl ?_)
  rotate_left
  ·omega
  ·omega
  ·exact dE
  ·exact cA
  ·exact cA
  have:=h.tL
  omega
 have mw:decide ((s.aJ.length:Int)>12)=false:=by simp;omega
 by_cases h4:8<s.marks.length
 ·have H5:decide ((s.marks.length:Int)>8)=true:=by simp;omega
  refine Yo mu mw H5 ?_
  refine oI (fun h=> ?_) _ _ (nx+4) [] ?_ ?_ ?_ (fun j hj=> ?_) (.inl ?_)
  rotate_left
  ·omega
  ·omega
  ·exact dE
  ·exact cA
  ·exact cA
  have:=h.xd
  omega
 have H5:decide ((s.marks.length:Int)>8)=false:=by simp;omega
 refine Yo mu mw H5 ?_
 have fin:∀ (m:List (Int×Tm)) (M:ad),(M=dh m\/M= .b8 (enc (D.int .i64) (jW m)))->∀O n,nx+7<=n->Good O n->(∀j,j<nx+7->j≠nx+1->O j=wL o nx s M j)-> ¬bp s->K (.bP [.agg (s.row++[.mp (nx+4)]), .d (.bool false)]) O n:=fun m M hM O n i1 i2 i3 i4=>
  oI i4 O n (nx+4) m af af i2 (fun j hj=>by rw[i3 j (by omega) (by omega),Ms _ _ _ _ (by omega) (by omega) (by omega) (by omega)]) (by rw[i3 (nx+4) (by omega) (by omega),kpH_4];exact hM)
 refine aG (fun k:Nat=>⟨aY [.aa, .ptr nx 0, .ptr (nx+1) 0, .aa, .ptr (nx+6) 0, .aa, .aa, .aa, .aa, .aa, .aa, .aa, .aa, .aa, .aa, .aa, .aa, .aa, .aa, .aa, .aa, .aa, .aa, .aa, .aa, .aa, .aa, .aa, .aa, .aa, .aa, .aa, .aa, .aa, .aa, .aa, .aa, .aa, .aa, .aa, .aa, .aa, .aa, .d (.sl (s.binds.map TB.d)), .d (.i s.binds.length), .d (.i k)],wL o nx s (dh (ai (s.binds.take k))),nx+7⟩)
  (fun k=>k<=s.binds.length/\((ai (s.binds.take k)).map (·.1)).Nodup/\∀x∈s.binds.take k,(0<=x.var/\x.var<20)/\bL s.sig x.term=true) (fun k=>s.binds.length - k) 0 ⟨Nat.zero_le _,List.nodup_nil,fun x hx=>by simp at hx⟩ (bI.bE _ (show nx<=nx+7 from af) af (re hg s (by rfl)) (fun j hj=> ?_) ?_) (fun k hk=> ?_)
 ·exact Pq o nx s j
 ·exact dA
 obtain⟨hk,zp,aV⟩:=hk
 have Pa:bp s->((ai (s.binds.take (k+1))).map (·.1)).Nodup:=fun h=>h.mG.keys.sublist (((List.take_sublist _ _).map _).map _)
 have hgk:=re (m:=dh (ai (s.binds.take k))) hg s rfl
 have WA:=hg
 clear hg
 have hg:=hgk
 have e0:=kpH_0 o nx s (dh (ai (s.binds.take k)))
 have e1:=kpH_1 o nx s (dh (ai (s.binds.take k)))
 have e4:=kpH_4 o nx s (dh (ai (s.binds.take k)))
 have e6:=kpH_6 o nx s (dh (ai (s.binds.take k)))
 refine A5 e0 e1 e4 e6 ?_
 refine ao (fun h5=> ?_) (fun h5=> ?_)
 ·replace h5:k<s.binds.length:=by simp at h5;omega
  obtain⟨x,hx⟩:=aD h5
  have cF:=List.mem_of_getElem? hx
  have uh:=De s.binds hx
  have hnk:∀ (P:Prop),(jc s.sig s.binds->P)->(bp s->P):=fun P h hs=>h hs.mG
  cases hl:bS (ai (s.binds.take k)) x.var with
  |some z=>
   obtain⟨jz,hj⟩:=fL hl
   refine Yp e0 e1 e4 e6 hx hj ?_
   refine fin _ _ (.inl rfl) _ _ af dE (fun j j1 j2=>by(repeat(first|rfl|rw[ab]|rw[ae _ _ _ _ (by omega)]))) (fun h=> ?_)
   have h7:=Pa h
   rw[uh,List.map_append,List.nodup_append]at h7
   exact h7.2.2 x.var (List.mem_map.2 ⟨_,cK hl,rfl⟩) x.var aE rfl
  |none=>
   have hln:=eB hl
   by_cases h6:x.var<0
   ·have h6':decide (x.var<0)=true:=decide_eq_true h6
    refine Tb e0 e1 e4 e6 hx hln h6' ?_
    refine fin _ _ (.inl rfl) _ _ af dE (fun j j1 j2=>by(repeat(first|rfl|rw[ab]|rw[ae _ _ _ _ (by omega)]))) (fun h=> ?_)
    have:=(h.mG.ok x cF).1
    omega
   have h6':decide (x.var<0)=false:=decide_eq_false h6
   by_cases h7:20<=x.var
   ·have h7':decide (x.var≥20)=true:=decide_eq_true h7
    refine Ta e0 e1 e4 e6 hx hln h6' h7' ?_
    refine fin _ _ (.inl rfl) _ _ af dE (fun j j1 j2=>by(repeat(first|rfl|rw[ab]|rw[ae _ _ _ _ (by omega)]))) (fun h=> ?_)
    have:=(h.mG.ok x cF).1
    omega
   have h7':decide (x.var≥20)=false:=decide_eq_false h7
   refine Ta e0 e1 e4 e6 hx hln h6' h7' ?_
   refine aw (nQ s hs.sig (ai (s.binds.take k)) x.term (hs.bt x cF)) rfl ?_
   cases hv:bL s.sig x.term with
   |false=>
    refine A5 e0 e1 e4 e6 ?_
    refine fin _ _ (.inl rfl) _ _ af dE (fun j j1 j2=>by(repeat(first|rfl|rw[ab]|rw[ae _ _ _ _ (by omega)]))) (fun h=> ?_)
    have:=(h.mG.ok x cF).2
    rw[hv]at this;cases this
   |true=>
    have has:=CW (x:=x.term) hl
    refine Hn e0 e1 e4 e6 has ?_
    refine aj (k+1) ⟨h5, ?_,fun y hy=> ?_⟩ af (bI.bE _ (show nx<=nx+7 from af) af (re WA s (by rfl)) (fun j hj=> ?_) ?_)
    ·rw[uh,List.map_append,List.nodup_append]
     refine⟨zp,aE,fun a ha c hc e=> ?_⟩
     simp at hc
     rw[e,hc]at ha
     exact lz.1 hl ha
    ·rw[List.take_add_one,hx]at hy
     rcases List.mem_append.1 hy with hy|hy
     ·exact aV y hy
     ·simp at hy
      subst hy
      exact⟨af,hv⟩
    ·have hj:j<nx+7:=hj
     rw[uh, <- G8 o nx s (dh (ai (s.binds.take k)))]
     by_cases e:j=nx+4
     ·exact uq
     ·exact cA
    ·exact dA
 ·replace h5:k=s.binds.length:=by simp at h5;omega
  subst h5
  rw[List.take_length]at zp aV e0 e1 e4 e6|-
  refine A4 e0 e1 e4 e6 ?_
  obtain⟨b,hb⟩:∃b,b=ai s.binds:=⟨_,rfl⟩
  have nP:∀p∈b,p.2.fits:=fun p hp=>by
   rw[hb]at hp
   obtain⟨x,hx,rfl⟩:=fq hp
   exact(hs.bt x hx).fits
  have FL:∀p∈b,Vs s.sig p.2:=fun p hp=>by
   rw[hb]at hp
   obtain⟨x,hx,rfl⟩:=fq hp
   exact(cg (aV x hx).2).1
  rw[<- hb]at zp|-
  clear hg hgk
  have hg:=re (m:= .b8 (enc (D.int .i64) (jW b))) WA s (by rfl)
  have f0:=kpH_0 o nx s (.b8 (enc (D.int .i64) (jW b)))
  have f1:=kpH_1 o nx s (.b8 (enc (D.int .i64) (jW b)))
  have f4:=kpH_4 o nx s (.b8 (enc (D.int .i64) (jW b)))
  have f6:=kpH_6 o nx s (.b8 (enc (D.int .i64) (jW b)))
  clear e0 e1 e4 e6
  refine aG (fun i:List (Int×Tm)×Option (D×D)=>⟨aY [.aa, .ptr nx 0, .ptr (nx+1) 0, .aa, .ptr (nx+6) 0, .aa, .aa, .aa, .aa, .aa, .aa, .aa, .aa, .aa, .aa, .aa, .aa, .aa, .aa, .aa, .aa, .aa, .aa, .aa, .aa, .aa, .aa, .aa, .aa, .aa, .aa, .aa, .aa, .aa, .aa, .aa, .aa, .aa, .aa, .aa, .aa, .aa, .aa, .aa, .aa, .aa, .aa, .aa, .aa, .aa, .aa, .aa, .aa, .aa, .aa, .aa, .aa, .aa, .aa, .aa, .aa, .aa, .aa, .aa, .aa, .aa, .aa, .aa, .aa, .aa, .aa, .aa, .aa, .aa, .aa, .aa, .aa, .aa, .aa, .aa, .aa, .aa, .aa, .aa, .aa, .ptr (nx+10) 0],ay (wL o nx s (.b8 (enc (D.int .i64) (jW b)))) (nx+10) (.rq (enc (D.int .i64) (jW i.1)) i.2),nx+11⟩)
   (fun i=>(∀p∈i.1,p∈b)/\∀p∈b,p∉i.1-> ¬nO b p.1 p.2) (fun i=>i.1.length) (b,none) ⟨fun _ h=>h,fun p h h'=>absurd h h'⟩ (bI.bE _ (show nx<=nx+11 from af) af dE (fun j hj=> ?_) ?_) ?_
  ·dsimp only
   by_cases e:j=nx+10
   ·subst e;rw[ab,ab]
   ·rw[ae _ _ _ _ e,ae _ _ _ _ e,G8]
  ·exact dA
  rintro⟨rest,last⟩ ⟨hr,hd⟩
  dsimp only at hr hd|-
  refine A4 f0 f1 f4 f6 ?_
  refine sy (fun h0=> ?_) fun i v x hm=> ?_
  ·subst h0
   have Mt:Wn b:=fun v x hx=>hd (v,x) (cK hx) aE
   have tC:=oq (by rw[<- hb];exact zp) aV (by rw[<- hb];exact Mt)
   rw[<- hb]at tC
   obtain⟨l',ρ,R,hS,hl⟩:=tC
   have hle:∀p∈b,∃f r,tq f b p.2 40 12=some r:=fun p hp=>by
    exact QP
   obtain⟨fo,A2⟩:∃fo:Bool,fo=true↔∀p∈b,yA b p.2:=by
    classical
    exact⟨decide (∀p∈b,yA b p.2),aE⟩
   refine A4 f0 f1 f4 f6 ?_
   refine aw (yC nP hle A2) rfl ?_
   cases fo with
   |false=>
    refine A4 f0 f1 f4 f6 ?_
    refine fin _ _ (.inr rfl) _ _ af dE (fun j j1 j2=>by(repeat(first|rfl|rw[ab]|rw[ae _ _ _ _ (by omega)]))) (fun h=> ?_)
    have:=A2.2 fun p hp=>by
     rw[hb]at hp|-
     obtain⟨x,hx,rfl⟩:=fq hp
     exact h.mG.Wu x hx
    cases this
   |true=>
    have T6:jc s.sig s.binds:=⟨af,by rw[<- hb];exact zp,aV,by rw[<- hb];exact Mt,fun x hx=>by rw[<- hb];exact A2.1 rfl _ (hb ▸ iy hx)⟩
    refine A5 f0 f1 f4 f6 ?_
    refine aG (fun k:Nat=>⟨aY [.aa, .ptr nx 0, .ptr (nx+1) 0, .aa, .ptr (nx+6) 0, .aa, .aa, .aa, .aa, .aa, .aa, .aa, .aa, .aa, .aa, .aa, .aa, .aa, .aa, .aa, .aa, .aa, .aa, .aa, .aa, .aa, .aa, .aa, .aa, .aa, .aa, .aa, .aa, .aa, .aa, .aa, .aa, .aa, .aa, .aa, .aa, .aa, .aa, .aa, .aa, .aa, .aa, .aa, .aa, .aa, .aa, .aa, .aa, .aa, .aa, .aa, .aa, .aa, .aa, .aa, .aa, .aa, .aa, .aa, .aa, .aa, .aa, .aa, .aa, .aa, .aa, .aa, .aa, .aa, .aa, .aa, .aa, .aa, .aa, .aa, .aa, .aa, .aa, .aa, .aa, .aa, .aa, .aa, .aa, .aa, .aa, .aa, .aa, .aa, .aa, .aa, .aa, .aa, .aa, .aa, .aa, .aa, .aa, .d (.sl (s.aJ.map Nt.d)), .d (.i s.aJ.length), .d (.i k)],wL o nx s (.b8 (enc (D.int .i64) (jW b))),nx+7⟩)
     (fun k=>k<=s.aJ.length/\∀n∈s.aJ.take k,bL s.sig n.a=true/\bL s.sig n.b=true/\ ¬Dd b n) (fun k=>s.aJ.length - k) 0 ⟨Nat.zero_le _,fun n hn=>by simp at hn⟩ (bI.bE _ (show nx<=nx+7 from af) af hg (fun j hj=> ?_) ?_) (fun k hk=> ?_)
    ·have hj:j<nx+7:=hj
     exact cA
    ·exact dA
    obtain⟨hk,WB⟩:=hk
    refine A5 f0 f1 f4 f6 ?_
    refine ao (fun h6=> ?_) (fun h6=> ?_)
    ·replace h6:k<s.aJ.length:=by simp at h6;omega
     obtain⟨n,hn⟩:=aD h6
     have AX:=List.mem_of_getElem? hn
     obtain⟨na,nb⟩:=hs.nt n AX
     refine Hn f0 f1 f4 f6 hn ?_
     refine aw (nQ s hs.sig b n.a na) rfl ?_
     cases va:bL s.sig n.a with
     |false=>
      refine A4 f0 f1 f4 f6 ?_
      refine fin _ _ (.inr rfl) _ _ af dE (fun j j1 j2=>by(repeat(first|rfl|rw[ab]|rw[ae _ _ _ _ (by omega)]))) (fun h=> ?_)
      have:=(h.aJ n AX).1
      rw[va]at this;cases this
     |true=>
      refine A4 f0 f1 f4 f6 ?_
      refine aw (nQ s hs.sig b n.b nb) rfl ?_
      cases vb:bL s.sig n.b with
      |false=>
       refine A4 f0 f1 f4 f6 ?_
       refine fin _ _ (.inr rfl) _ _ af dE (fun j j1 j2=>by(repeat(first|rfl|rw[ab]|rw[ae _ _ _ _ (by omega)]))) (fun h=> ?_)
       have:=(h.aJ n AX).2.1
       rw[vb]at this;cases this
      |true=>
       obtain⟨a1,a2,a3⟩:=cg va
       obtain⟨b1,b2,b3⟩:=cg vb
       have cY:∀p∈b,yA b p.2:=A2.1 rfl
       have za:=mm hS cY a1
       have zb:=mm hS cY b1
       have ua:ui (R+3+3200) b n.a=some (aZ (ai l') n.a):=oZ hS 3200 n.a a1 af
       have ub:ui (R+3+3200) b n.b=some (aZ (ai l') n.b):=oZ hS 3200 n.b b1 af
       have AG:=AA (n:=n) hS a1 b1
       refine A4 f0 f1 f4 f6 ?_
       refine aw (yD s nP n na.fits nb.fits ua ub (Tm.dv _ af) (Tm.dv _ af) af af) rfl ?_
       cases FQ:iJ (aZ (ai l') n.a) (aZ (ai l') n.b)with
       |true=>
        refine A4 f0 f1 f4 f6 ?_
        refine fin _ _ (.inr rfl) _ _ af dE (fun j j1 j2=>by(repeat(first|rfl|rw[ab]|rw[ae _ _ _ _ (by omega)]))) (fun h=> ?_)
        exact(h.aJ n AX).2.2 (hb ▸ AG.2 ((gu _ _).1 FQ))
       |false=>
        refine A4 f0 f1 f4 f6 ?_
        refine aj (k+1) ⟨h6,fun y hy=> ?_⟩ af (bI.bE _ (show nx<=nx+7 from af) af hg (fun j hj=> ?_) ?_)
        ·rw[List.take_add_one,hn]at hy
         rcases List.mem_append.1 hy with hy|hy
         ·exact WB y hy
         ·simp at hy
          subst hy
          refine⟨va,vb,fun h=> ?_⟩
          rw[(gu _ _).2 (AG.1 h)]at FQ;cases FQ
        ·have hj:j<nx+7:=hj
         exact cA
        ·exact dA
    ·replace h6:k=s.aJ.length:=by simp at h6;omega
     subst h6
     rw[List.take_length]at WB
     refine A5 f0 f1 f4 f6 ?_
     refine aG (fun i:Nat×Int×Int=>⟨aY [.aa, .ptr nx 0, .ptr (nx+1) 0, .aa, .ptr (nx+6) 0, .aa, .aa, .aa, .aa, .aa, .aa, .aa, .aa, .ptr (nx+8) 0, .aa, .aa, .aa, .aa, .aa, .aa, .aa, .aa, .aa, .aa, .aa, .aa, .aa, .aa, .aa, .aa, .aa, .aa, .aa, .aa, .aa, .aa, .aa, .aa, .aa, .aa, .aa, .aa, .aa, .aa, .aa, .aa, .aa, .aa, .aa, .aa, .aa, .aa, .aa, .aa, .aa, .aa, .aa, .aa, .aa, .aa, .aa, .aa, .aa, .aa, .aa, .aa, .aa, .aa, .aa, .aa, .aa, .aa, .aa, .aa, .aa, .aa, .aa, .aa, .aa, .aa, .aa, .aa, .aa, .aa, .aa, .aa, .aa, .aa, .aa, .aa, .aa, .aa, .aa, .aa, .aa, .aa, .aa, .aa, .aa, .aa, .aa, .aa, .aa, .aa, .aa, .aa, .aa, .aa, .aa, .aa, .aa, .aa, .aa, .aa, .aa, .aa, .aa, .aa, .aa, .aa, .aa, .aa, .aa, .aa, .aa, .aa, .aa, .aa, .aa, .d (.sl (s.marks.map ra)), .d (.i s.marks.length), .d (.i i.1)],ay (wL o nx s (.b8 (enc (D.int .i64) (jW b)))) (nx+8) (.row [.d (.i i.2.1), .d (.i i.2.2)]),nx+9⟩)
      (fun i=>i.1<=s.marks.length/\mj s.binds.length s.aJ.length i.2 (s.marks.drop i.1)=mj s.binds.length s.aJ.length (0,0) s.marks) (fun i=>s.marks.length - i.1) (0,0,0) ⟨Nat.zero_le _,rfl⟩ (bI.bE _ (show nx<=nx+9 from af) af dE (fun j hj=>by(repeat(first|rfl|rw[ab]|rw[ae _ _ _ _ (by omega)]))) ?_) ?_
     ·exact dA
     rintro⟨k,l1,l2⟩ ⟨hk,lM⟩
     dsimp only at hk lM|-
     refine A5 f0 f1 f4 f6 ?_
     refine ao (fun h7=> ?_) (fun h7=> ?_)
     ·replace h7:k<s.marks.length:=by simp at h7;omega
      obtain⟨⟨m1,m2⟩,hm⟩:=aD h7
      have I6:s.marks.drop k=(m1,m2)::s.marks.drop (k+1):=by
       obtain⟨i1,i2⟩:=List.getElem?_eq_some_iff.1 hm
       exact A7
      rw[I6,mj]at lM
      dsimp only at lM
      cases g1:decide (m1<l1)with
      |true=>
       rw[g1]at lM
       simp only[Bool.true_or,Bool.or_true,Bool.not_true,Bool.false_and]at lM
       refine Tb f0 f1 f4 f6 hm hm g1 ?_
       exact zw0
      |false=>
      rw[g1]at lM
      cases g2:decide (m1>(s.binds.length:Int))with
      |true=>
       rw[g2]at lM
       simp only[Bool.true_or,Bool.or_true,Bool.not_true,Bool.false_and]at lM
       refine Tb f0 f1 f4 f6 hm g1 g2 ?_
       exact zw0
      |false=>
      rw[g2]at lM
      cases g3:decide (m2<l2)with
      |true=>
       rw[g3]at lM
       simp only[Bool.true_or,Bool.or_true,Bool.not_true,Bool.false_and]at lM
       refine Ta f0 f1 f4 f6 hm g1 g2 g3 ?_
       exact zw0
      |false=>
      rw[g3]at lM
      cases g4:decide (m2>(s.aJ.length:Int))with
      |true=>
       rw[g4]at lM
       simp only[Bool.true_or,Bool.or_true,Bool.not_true,Bool.false_and]at lM
       simp+contextual (disch:=first|omega|simp only[go_sem,false_implies]) only[go_sem,wrap64,if_pos,f0,f1,f4,f6,hm,g1,g2,g3,g4,List.length_map,Nat.add_assoc,Nat.left_eq_add,Nat.add_eq_left,Nat.add_left_cancel_iff]
       exact zw0
      |false=>
      rw[g4]at lM
      simp only[Bool.or_false,Bool.not_false,Bool.true_and]at lM
      simp+contextual (disch:=first|omega|simp only[go_sem,false_implies]) only[go_sem,wrap64,if_pos,f0,f1,f4,f6,hm,g1,g2,g3,g4,List.length_map,Nat.add_assoc,Nat.left_eq_add,Nat.add_eq_left,Nat.add_left_cancel_iff]
      refine aj (k+1,m1,m2) ⟨h7,lM⟩ je (bI.bE _ (show nx<=nx+9 from af) af dE (fun j hj=> ?_) ?_)
      ·have hj:j<nx+9:=hj
       by_cases e:j=nx+8
       ·exact uq
       ·exact cA
      ·exact dA
     ·replace h7:k=s.marks.length:=by simp at h7;omega
      subst h7
      rw[List.drop_length]at lM
      refine A4 f0 f1 f4 f6 ?_
      refine wq ⟨h1,af,af,T6,fun n hn=> ?_,lM.symm⟩ _ _ (nx+4) af dE (fun j hj=> ?_) ?_
      ·rw[<- hb];exact WB n hn
      ·(repeat(first|rfl|rw[ab]|rw[ae _ _ _ _ (by omega)]));exact Ms _ _ _ _ af af af af
      ·(repeat(first|rfl|rw[ab]|rw[ae _ _ _ _ (by omega)]));rw[f4,hb]
  ·have mD:=List.mem_of_getElem? hm
   have Nc:=hr _ mD
   have uw:=pL hm
   have hlen:(rest.eraseIdx i).length<rest.length:=by
    exact TN
   obtain⟨is,E2⟩:∃is:Bool,is=true↔nO b v x:=by
    classical
    exact⟨decide (nO b v x),aE⟩
   refine A4 f0 f1 f4 f6 ?_
   refine aw (G4 FL nP v x (FL _ Nc) (nP _ Nc) E2) rfl ?_
   cases is with
   |true=>
    refine A4 f0 f1 f4 f6 ?_
    refine fin _ _ (.inr rfl) _ _ af dE (fun j j1 j2=>by(repeat(first|rfl|rw[ab]|rw[ae _ _ _ _ (by omega)]))) (fun h=> ?_)
    exact h.mG.Js v x ((lA h.mG.keys).2 (hb ▸ Nc)) (hb ▸ E2.1 rfl)
   |false=>
    refine A4 f0 f1 f4 f6 ?_
    refine aj (rest.eraseIdx i,some (.int .i64 v,x.d)) ⟨fun p hp=>hr p (uw.mem_iff.1 (List.mem_cons_of_mem _ hp)),fun p hp hpn=> ?_⟩ hlen (bI.bE _ (show nx<=nx+11 from af) af dE (fun j hj=> ?_) ?_)
    ·by_cases e:p=(v,x)
     ·subst e
      exact fun h=>Bool.false_ne_true (E2.2 h)
     ·exact hd p hp fun sU=>by
       rcases List.mem_cons.1 (uw.mem_iff.2 sU)with h|h
       ·exact e h
       ·exact hpn h
    ·have hj:j<nx+11:=hj
     by_cases e:j=nx+10
     ·exact uq
     ·exact cA
    ·exact dA
end Go.Proofs.YtlhemmpklhhgoaaGreat
namespace Go.Proofs.YtlhemmpklhhgoaaGreat
structure Srt (s:aB) (l:List TB):Prop where
 srt:l.Pairwise fun x y=>x.var<y.var
 ok:∀x∈l,(0<=x.var/\x.var<20)/\Vs s x.term
structure MS (b:List (Int×Tm)) (l:List TB):Prop where
 keys:(b.map (·.1)).Nodup
 lk:∀v,bS b v=bS (ai l) v
theorem wu(l:List TB)(hl:l.length<=1000000)(hf:∀x∈l,x.term.fits):aW Tryz.prog 60 [.sl (l.map TB.d), .sl (l.map TB.d)] (.ret [.bool true]):=by
 refine aW.aH mix abe aE ?_
 rw[c60]
 simp+contextual (disch:=first|omega|simp only[go_sem,false_implies]) only[go_sem,wrap64,if_pos,List.length_map,bne_self_eq_false]
 refine aG (fun k:Nat=>⟨aY [.d (.sl (l.map TB.d)), .d (.sl (l.map TB.d)), .aa, .aa, .aa, .d (.i k)],fun _=> .no,0⟩)
  (fun k=>k<=l.length) (fun k=>l.length - k) 0 (Nat.zero_le _) (bI.d0 _ ?_) (fun k hk=> ?_)
 ·exact dA
 refine yO ?_
 refine ao (fun h2=> ?_) (fun h2=> ?_)
 ·simp at h2
  obtain⟨x,hx⟩:=aD h2
  have xP:=Ae x.term (hf x (List.mem_of_getElem? hx)) x.term (hf x (List.mem_of_getElem? hx))
  rw[pJ]at xP
  refine Tf hx ?_
  refine a8 xP rfl ?_
  exact ZA
 ·exact pV
mutual
def Tm.mI:Tm->Prop
 | .mk _ _ kids=>kids.length<=1000/\Tm.Mu kids
def Tm.Mu:List Tm->Prop
 |[]=>True
 |k::l=>k.mI/\Tm.Mu l
end
theorem Tm.Dh:∀l:List Tm,Tm.Mu l↔∀k∈l,k.mI
 |[]=>by simp[Tm.Mu]
 |k::l=>by simp[Tm.Mu,Tm.Dh l]
theorem Tm.ji (t:Tm):t.mI↔t.kids.length<=1000/\∀k∈t.kids,k.mI:=by cases t;simp[Tm.mI,Tm.Dh,Tm.kids]
theorem Tm.E7:∀t:Tm,t.sz<=1000->t.mI:=by
 refine Tm.fj fun t ih h=> ?_
 rw[Tm.ji]
 have:=mi t.kids
 have h2:=Tm.jL t
 exact Qm
theorem Tm.AH {b:List (Int×Tm)}(hb:∀p∈b,p.2.mI):∀t:Tm,t.mI->(aZ b t).mI:=by
 refine Tm.fj fun t ih h=> ?_
 have h':=(Tm.ji t).1 h
 rw[An]
 split
 ·split
  ·rename_i x hx;exact hb _ (cK hx)
  ·exact h
 ·rw[Tm.ji]
  refine⟨by simp only[Tm.kids,List.length_map];exact h'.1,fun k hk=> ?_⟩
  obtain⟨y,hy,rfl⟩:=List.mem_map.1 hk
  exact ih y hy (h'.2 y hy)
theorem Tm.Mv:∀t:Tm,t.mI->t.fits:=by
 refine Tm.fj fun t ih h=> ?_
 have h':=(Tm.ji t).1 h
 rw[Tm.b9]
 exact⟨af,fun k hk=>ih k hk (h'.2 k hk)⟩
theorem Pr{s:aB}{t:Tm}(hv:Vs s t):(cX t).length<=20:=Am (fun n hn=>hv.range (((dy t).2 n).1 hn)) (dy t).1
theorem Di{s:aB}:∀t:Tm,Vs s t->t.mI->aW Tryz.prog 141 [t.d] (.ret [.sl ((cX t).map .i)]):=by
 refine Tm.fj fun t ih hv ht=> ?_
 have hw':=(Tm.ji t).1 ht
 refine aW.aH mix abO aE ?_
 rw[abN]
 by_cases h1:t.op=1
 ·refine oz h1 ?_
  rw[qU,if_pos h1]
  rfl
 ·have iz:(t.op==1)=false:=by simpa using h1
  have b1:(t.op !=8)=true:=by simpa using hv.n8
  refine oz iz ?_
  rw[qU,if_neg h1]
  refine aG (fun i:Nat×List Int=>⟨aY [.aa, .ptr 0 0, .aa, .d (.sl (i.2.map .i)), .d (.i i.1)],pC t.row,1⟩)
   (fun i=>i.1<=t.kids.length/\mh t.op t.n t.kids 0 []=mh t.op t.n (t.kids.drop i.1) i.1 i.2/\ER i.2/\∀v∈i.2,0<=v/\v<20) (fun i=>t.kids.length - i.1) (0,[]) ⟨Nat.zero_le _,rfl,List.Pairwise.nil,fun _ h=>by cases h⟩
   (bI.acE (fun _=>False) 1 _ af (lt1 (bX rfl A8)) (fun j hj=>ae _ _ _ _ af) (fun _ h=>h.elim) ?_) ?_
  ·try dsimp only
   exact rn
  rintro⟨k,out⟩ ⟨hk,IY,ac1,hrg⟩
  simp only at hk IY ac1 hrg
  refine cS ?_
  refine ao (fun h2=> ?_) (fun h2=> ?_)
  ·simp at h2
   obtain⟨x,hx⟩:=aD h2
   have cF:=List.mem_of_getElem? hx
   have vx:=hv.mF cF
   have hvl:=Pr vx
   have I6:t.kids.drop k=x::t.kids.drop (k+1):=by
    obtain⟨h5,h6⟩:=List.getElem?_eq_some_iff.1 hx
    rw[List.drop_eq_getElem_cons h5,h6]
   have part:∀L:List Int,(∀v∈L,v∈cX x)->ER (pK t.op t.n k L out)/\∀v∈pK t.op t.n k L out,0<=v/\v<20:=fun L hL=>by
    obtain⟨q1,q2⟩:=oj t.op t.n k L out ac1
    refine⟨q1,fun v L0=> ?_⟩
    rcases(q2 v).1 L0 with h|h
    ·exact hrg v h
    ·exact vx.range (((dy x).2 v).1 (hL v h.1))
   refine oz hx ?_
   refine bH (ih x cF vx (hw'.2 x cF)) ?_
   refine oz hx ?_
   refine aG (fun j:Nat=>⟨aY [.aa, .ptr 0 0, .aa, .d (.sl ((pK t.op t.n k ((cX x).take j) out).map .i)), .d (.i k), .d (.sl ((cX x).map .i)), .d (.i j)],pC t.row,1⟩)
    (fun j=>j<=(cX x).length) (fun j=>(cX x).length - j) 0 (Nat.zero_le _) (bI.d1 _ (cQ rfl) af rfl ?_) (fun j hj=> ?_)
   ·exact dA
   refine cS ?_
   refine ao (fun h3=> ?_) (fun h3=> ?_)
   ·simp at h3
    obtain⟨v,L0⟩:=aD h3
    have ze:=part ((cX x).take j) (fun v hv=>List.mem_of_mem_take hv)
    have NV:=Am ze.2 ze.1
    have hc:(t.op !=8||(k:Int)!=1||v !=t.n)=true:=by rw[b1];rfl
    refine Nv L0 b1 ?_
    refine aO bu ?_
    refine oz L0 ?_
    refine bH (acS _ v af) ?_
    refine cS ?_
    refine aj (j+1) h3 af (bI.d1 _ (cQ rfl) af rfl ?_)
    rw[I2 L0,if_pos hc]
    exact dA
   ·simp at h3
    refine cS ?_
    rw[List.take_of_length_le (by omega)]
    obtain⟨p1,p2⟩:=part (cX x) (fun v hv=>hv)
    refine aj (k+1,pK t.op t.n k (cX x) out) ⟨h2,by rw[IY,I6];rfl,p1,p2⟩ je (bI.d1 _ (cQ rfl) af rfl ?_)
    exact dA
  ·simp at h2
   refine cS ?_
   rw[IY,List.drop_eq_nil_of_le (by omega)]
   rfl
theorem E8(n low high:Int):aW Tryz.prog 77 [.i n, .i low, .i high] (.ret [.bool (dQ n low high)]):=by
 refine aW.aH mix aeO aE ?_
 rw[c77]
 refine cM ?_
 rfl
theorem lE(s:aB)(hs:s.Fits)(t:Tm)(ht:t.fits):aW Tryz.prog 39 [s.d,t.d] (.ret [.bool (gr s t&&eV t)]):=by
 refine aW.aH mix aex aE ?_
 rw[c39]
 refine cS ?_
 refine aw (V8 s hs t ht) rfl ?_
 cases h:gr s t with
 |false=>exact pV
 |true=>
  refine cS ?_
  refine aw (OP t ht) rfl ?_
  exact pV
theorem wv{s:aB}(h:iU s=true)(t:Tm):bL s t=(gr s t&&eV t):=by
 unfold bL iW
 rw[h]
 simp only[List.all_cons,List.all_nil,Bool.and_true,Bool.true_and,pI]
 cases h1:gr s t with
 |false=>rfl
 |true=>rw[oi h1]
theorem rh(l:List TB)(n:Int)(hl:l.length<=1000000):aW Tryz.prog 116 [.sl (l.map TB.d), .i n] (.ret [.i (findF l n)]):=by
 refine aW.aH mix aby aE ?_
 rw[abx]
 refine cS ?_
 refine aG (fun k:Nat=>⟨aY [.d (.sl (l.map TB.d)), .d (.i n), .aa, .aa, .aa, .d (.i k)],fun _=> .no,0⟩)
  (fun k=>k<=l.length/\∀j x,j<k->l[j]? =some x->x.var≠n) (fun k=>l.length - k) 0 ⟨Nat.zero_le _,fun _ _ h=>absurd h af⟩ (bI.d0 _ ?_) (fun k hk=> ?_)
 ·exact dA
 refine yO ?_
 refine ao (fun h2=> ?_) (fun h2=> ?_)
 ·simp at h2
  obtain⟨x,hx⟩:=aD h2
  refine pW hx ?_
  refine ao (fun h3=> ?_) (fun h3=> ?_)
  ·have mw:x.var=n:=by simpa using h3
   have:findF l n=k:=by
    have:l.findIdx? (·.var==n)=some k:=by
     rw[List.findIdx?_eq_some_iff_getElem]
     obtain⟨NV,e⟩:=List.getElem?_eq_some_iff.1 hx
     refine⟨NV,by rw[e];simpa using mw,fun j hj=> ?_⟩
     have:=hk.2 j _ hj (List.getElem?_eq_getElem af)
     simpa using this
    rw[findF,this]
   rw[this]
   exact pV
  ·have mw:x.var≠n:=by simpa using h3
   refine cS ?_
   refine aj (k+1) ⟨h2,fun j y hj hy=> ?_⟩ af (bI.d0 _ ?_)
   ·by_cases e:j=k
    ·subst e;rw[hx]at hy;injection hy with hy;rw[<- hy];exact mw
    ·exact hk.2 j y af hy
   ·exact dA
 ·simp at h2
  have:findF l n= -1:=by
   have:l.findIdx? (·.var==n)=none:=by
    rw[List.findIdx?_eq_none_iff]
    intro x hx
    obtain⟨j,hj,e⟩:=List.getElem_of_mem hx
    have:=hk.2 j x af (by rw[List.getElem?_eq_getElem hj,e])
    simpa using this
   rw[findF,this]
  rw[this]
  exact pV
theorem G9(l:List Int)(n:Int)(hl:l.length<=1000000):aW Tryz.prog 142 [.sl (l.map .i), .i n] (.ret [.bool (l.contains n)]):=by
 refine aW.aH mix abQ aE ?_
 rw[abP]
 refine cS ?_
 refine aG (fun k:Nat=>⟨aY [.d (.sl (l.map .i)), .d (.i n), .aa, .aa, .aa, .d (.i k)],fun _=> .no,0⟩)
  (fun k=>k<=l.length/\(l.take k).contains n=false) (fun k=>l.length - k) 0 ⟨Nat.zero_le _,aE⟩ (bI.d0 _ ?_) (fun k hk=> ?_)
 ·exact dA
 refine cS ?_
 refine ao (fun h2=> ?_) (fun h2=> ?_)
 ·simp at h2
  obtain⟨x,hx⟩:=aD h2
  refine oz hx ?_
  refine ao (fun h3=> ?_) (fun h3=> ?_)
  ·refine cS ?_
   have:l.contains n=true:=by
    rw[List.contains_iff_mem, <- (by simpa using h3:x=n)];exact List.mem_of_getElem? hx
   rw[this]
  ·refine cS ?_
   refine aj (k+1) ⟨h2, ?_⟩ af (bI.d0 _ ?_)
   ·have h4: ¬n=x:=fun e=>by subst e;simp at h3
    have h5:=hk.2
    rw[List.take_add_one,hx]
    rw[Bool.eq_false_iff]at h5|-
    intro hc;apply h5
    rw[List.contains_iff_mem]at hc|-
    rcases List.mem_append.1 hc with hc|hc
    ·exact hc
    ·simp at hc;exact absurd hc h4
   ·exact dA
 ·simp at h2
  refine cS ?_
  have:=hk.2
  rw[List.take_of_length_le (by omega)]at this
  rw[this]
def SV(o:Nat->ad)(nx:Nat)(l:List Int):Nat->ad:=ay o nx (.arr 0 3 1 (l.map D.i))
theorem ilH_0(o:Nat->ad)(nx:Nat)(l:List Int):SV o nx l nx= .arr 0 3 1 (l.map D.i):=by unfold SV;rw[ab]
theorem sF(o:Nat->ad)(nx:Nat)(l:List Int){j:Nat}(h:j≠nx):SV o nx l j=o j:=by unfold SV;rw[ae _ _ _ _ h]
theorem sG{o:Nat->ad}{nx b:Nat}(Uo:Good o nx)(hb:b<=nx){e:Nat->V}{so:Nat->ad}{m:Nat}(L:List V)(l:List Int){x:V}(gone:Nat->Prop)(si:∀id,gone id->id<nx->o id= .no)
 (gx:fE so gone 3 1 (l.map D.i) x) (sr:∀j,j<nx->so j=o j\/o j= .no) (he:iL nx [⟨x,3,1,l.map D.i⟩] so gone e L 0):bI b ⟨e,so,m⟩ ⟨aY L,SV o nx l,nx+1⟩:=by
 refine bI.w7 gone x nx L hb (fun j hj=> ?_) (ilH_0 o nx l) gx (fun j hj=> ?_) (fun j h1 h2=>by rw[sF _ _ _ (by omega)];exact si j h1 h2) he
 ·rw[sF _ _ _ (by omega)]
  rcases sr j hj with h|h
  ·exact bX h (fun r hr=>Uo.refs j r hr)
  ·rw[h];exact me
 ·rw[sF _ _ _ (by omega)]
  exact Uo.fresh j af
def IsL(o:Nat->ad)(x:V)(l:List Int):Prop:=(x= .aq/\l=[])\/∃id ep,x= .osl id ep/\o id= .arr ep 3 1 (l.map D.i)
theorem Mw:∀ (more l:List Int),(pN l more).length<=l.length+more.length
 |[],l=>by simp[pN]
 |u::more,l=>by
  have h1:(ef l u).length<=l.length+1:=by
   unfold ef
   split
   ·omega
   ·rw[List.length_append,List.length_singleton];omega
  have h2:=Mw more (ef l u)
  show(pN (ef l u) more).length<=_
  rw[List.length_cons];omega
theorem IsL.SW {o:Nat->ad}{x:V}{l:List Int}(h:IsL o x l):fE o (fun _=>True) 3 1 (l.map D.i) x:=by
 rcases h with⟨rfl,rfl⟩|⟨id,ep,rfl,ho⟩
 ·exact .inl ⟨rfl,rfl,bu⟩
 ·exact .inr ⟨id,ep,trivial,rfl,ho⟩
theorem Mx(l more:List Int)(hl:l.length<=100000)(hm:more.length<=100000){x:V}{o:Nat->ad}{nx:Nat}(hg:Good o nx)(hx:IsL o x l){K X:V->(Nat->ad)->Nat->Prop}
 (hK:∀y o' nx',nx<=nx'->Good o' nx'->(∀j,j<nx->(∀ep,x≠ .osl j ep)->o' j=o j)->IsL o' y (pN l more)->K y o' nx'):bQ Tryz.prog 140 [x, .d (.sl (more.map D.i))] o nx K X:=by
 refine bQ.aH mix abM aE ?_
 rw[abL]
 refine fM ?_
 obtain⟨o0,gone,c1,c2,c3,c4,c5⟩:∃ (o0:Nat->ad) (gone:Nat->Prop),Good o0 nx/\(∀j,j<nx->o j=o0 j\/o0 j= .no)/\(∀id,gone id->id<nx->o0 id= .no)/\fE o gone 3 1 (l.map D.i) x/\(∀j,j<nx->(∀ep,x≠ .osl j ep)->o0 j=o j):=by
  rcases hx with⟨rfl,rfl⟩|⟨id,ep,rfl,ho⟩
  ·exact⟨o,fun _=>False,hg,fun j _=> .inl rfl,fun _ h=>h.elim, .inl ⟨rfl,rfl,bu⟩,fun j _ _=>rfl⟩
  ·have ax:id<nx:=hg.lt (by rw[ho];exact ad.noConfusion)
   refine⟨ay o id .no,(· =id),hg.ay ax rfl,fun j hj=> ?_,fun j e _=>by rw[e,ab], .inr ⟨id,ep,rfl,rfl,ho⟩,fun j hj iZ=> ?_⟩
   ·by_cases e:j=id
    ·subst e;rw[ab];exact .inr rfl
    ·rw[ae _ _ _ _ e];exact .inl rfl
   ·by_cases e:j=id
    ·subst e;exact absurd rfl (iZ ep)
    ·exact FH
 refine aG (fun k:Nat=>⟨aY [.osl nx 0, .d (.sl (more.map D.i)), .aa, .aa, .aa, .d (.i k)],SV o0 nx (pN l (more.take k)),nx+1⟩)
  (fun k=>k<=more.length) (fun k=>more.length - k) 0 (Nat.zero_le _) (sG c1 (Nat.le_refl _) _ (pN l []) gone c3 c4 c2 ?_) (fun k hk=> ?_)
 ·exact rn
 replace hk:k<=more.length:=hk
 have q0:=ilH_0 o0 nx (pN l (more.take k))
 have hlen:=Mw (more.take k) l
 rw[List.length_take]at hlen
 refine Ys q0 ?_
 refine ao (fun h2=> ?_) (fun h2=> ?_)
 ·replace h2:k<more.length:=by simp at h2;omega
  obtain⟨v,hv⟩:=aD h2
  have uh:pN l (more.take (k+1))=ef (pN l (more.take k)) v:=by unfold pN;rw[List.take_add_one,hv,List.foldl_append];rfl
  simp+contextual (disch:=first|omega|simp only[go_sem,false_implies]) only[go_sem,wrap64,if_pos,q0,hv,List.length_map,Nat.add_assoc,Nat.left_eq_add,Nat.add_eq_left,Nat.add_left_cancel_iff]
  refine aw (G9 (pN l (more.take k)) v af) rfl ?_
  cases hc:(pN l (more.take k)).contains v with
  |true=>
   have e1:ef (pN l (more.take k)) v=pN l (more.take k):=by unfold ef;rw[if_pos hc]
   refine Ys q0 ?_
   refine aj (k+1) h2 af ?_
   rw[uh,e1]
   refine sG c1 (Nat.le_refl _) _ _ (fun id=>nx<=id) (fun id h1 h2=>af) (x:= .osl nx 0) (.inr ⟨nx,0,Nat.le_refl _,rfl,q0⟩) (fun j hj=> .inl (by rw[sF _ _ _ (by omega)])) ?_
   exact rn
  |false=>
   have e1:ef (pN l (more.take k)) v=pN l (more.take k)++[v]:=by unfold ef;rw[if_neg (by rw[hc];exact Bool.false_ne_true)]
   have fh:(pN l (more.take k)).length<=140737488355327/\((pN l (more.take k)).length+1)*8<=140737488355328:=af
   simp+contextual (disch:=first|omega|simp only[go_sem,false_implies]) only[go_sem,wrap64,if_pos,q0,hv,List.length_map,if_pos fh,Nat.add_assoc,Nat.left_eq_add,Nat.add_eq_left,Nat.add_left_cancel_iff]
   refine aj (k+1) h2 af ?_
   rw[uh,e1]
   refine sG c1 (Nat.le_refl _) _ _ (fun id=>nx<=id) (fun id h1 h2=>af) (x:= .osl nx 1) (.inr ⟨nx,1,Nat.le_refl _,rfl,by(repeat(first|rfl|rw[ab]|rw[ae _ _ _ _ (by omega)]));rw[List.map_append];rfl⟩) (fun j hj=> .inl (by(repeat(first|rfl|rw[ab]|rw[ae _ _ _ _ (by omega)]));rw[sF _ _ _ (by omega)])) ?_
   exact rn
 ·replace h2:k=more.length:=by simp at h2;omega
  subst h2
  rw[List.take_length]at q0|-
  refine Jf q0 ?_
  refine hK _ _ _ ?_ ?_ (fun j hj iZ=> ?_) (.inr ⟨nx,0,rfl,q0⟩)
  ·omega
  ·unfold SV;exact(c1.mono af).ay af rfl
  ·rw[sF _ _ _ (by omega)];exact c5 j hj iZ
theorem O9.done {s:aB}{b:List (Int×Tm)}{t:Tm}{all:List Int}(h:O9 s b t all.length all)(n:Int):n∈all↔nO b n t:=by
 refine⟨fun hn=>h.snd n hn,fun hr=> ?_⟩
 have key:∀x,nO b n x->(∀v,gv v x=true->v∈all)->n∈all:=by
  intro x hr
  induction hr with
  |here h1=>exact fun hs=>hs _ h1
  |step h1 h2 _ ih=>
   intro hs
   refine ih fun u hu=> ?_
   obtain⟨j,hj⟩:=List.mem_iff_getElem?.1 (hs _ h1)
   exact h.cl j (List.getElem?_eq_some_iff.1 hj).1 _ _ hj h2 u hu
 exact key t hr h.fst
theorem E9{s:aB}{l:List TB}(hl:l.length<=1000)(hb:∀p∈ai l,Vs s p.2)(hf:∀p∈ai l,p.2.mI)(n:Int)(t:Tm)(ht:Vs s t)(Wt:t.mI){is:Bool}(E2:is=true↔nO (ai l) n t):
 aW Tryz.prog 117 [.sl (l.map TB.d),t.d, .i n] (.ret [.bool is]):=by
 have ac2:∀t,Vs s t->(cX t).length<=100000:=fun t ht=>by
  have hv:=dy t
  have:(cX t).length<=20:=C5 (I1 hv.1) fun v h=>ht.range ((hv.2 v).1 h)
  omega
 refine aW.aH mix abA aE ?_
 rw[abz]
 refine cS ?_
 refine bH (Di t ht Wt) ?_
 refine cS ?_
 refine bY (Mx [] (cX t) aE (ac2 t ht) dE (.inl ⟨rfl,rfl⟩) (fun y o' nx' w1 w2 w3 w4=> ?_))
 refine cS ?_
 refine aG (fun i:Nat×List Int=>⟨aY [.d (.sl (l.map TB.d)), .aa, .d (.i n), .aa, .aa, .aa, .aa, .osl 0 0, .d (.i i.1)],SV (fun _=> .no) 0 i.2,0+1⟩)
  (fun i=>O9 s (ai l) t i.1 i.2) (fun i=>21 - i.1) (0,pN [] (cX t)) (O9.zero ht) (sG Good.nil (Nat.le_refl _) _ _ (fun _=>True) (fun id _ h=>absurd h af) w4.SW (fun j hj=>absurd hj af) ?_) ?_
 ·exact rn
 rintro⟨i,all⟩ hI
 dsimp only at hI|-
 have q0:=ilH_0 (fun _=> .no) 0 all
 have Yb:=C5 hI.nd hI.rg
 have hle:=hI.le
 refine pW q0 ?_
 refine ao (fun h2=> ?_) (fun h2=> ?_)
 ·replace h2:i<all.length:=by simp at h2;omega
  obtain⟨v,hv⟩:=aD h2
  refine DI q0 hv ?_
  refine aw (rh l v af) rfl ?_
  have iX:=hI.succ hb hv
  rcases Ak l v with⟨g1,g2⟩|⟨k,x,g1,g2,g3⟩
  ·have My:decide (findF l v≥0)=false:=by simp;omega
   have e1:L7 (ai l) all v=all:=by unfold L7;rw[g2]
   rw[e1]at iX
   refine DI q0 My ?_
   refine aj (i+1,all) iX je (sG Good.nil (Nat.le_refl _) _ _ (fun _=>True) (fun id _ h=>absurd h af) (x:= .osl 0 0) (.inr ⟨0,0,trivial,rfl,q0⟩) (fun j hj=>absurd hj af) ?_)
   exact rn
  ·have My:decide (((k:Nat):Int)≥0)=true:=aE
   have e1:L7 (ai l) all v=pN all (cX x.term):=by unfold L7;rw[g3]
   rw[e1]at iX
   have cF:=iy (List.mem_of_getElem? g2)
   refine DF q0 g1 My g2 ?_
   refine bH (Di x.term (hb _ cF) (hf _ cF)) ?_
   refine pW q0 ?_
   refine bY (Mx all (cX x.term) af (ac2 _ (hb _ cF)) (Good.ay Good.nil af rfl) (.inr ⟨0,0,rfl,q0⟩) (fun y o2 nx2 u1 u2 u3 u4=> ?_))
   refine cS ?_
   refine aj (i+1,pN all (cX x.term)) iX je (sG Good.nil (Nat.le_refl _) _ _ (fun _=>True) (fun id _ h=>absurd h af) u4.SW (fun j hj=>absurd hj af) ?_)
   exact rn
 ·replace h2:i=all.length:=by simp at h2;omega
  subst h2
  have:is=all.contains n:=by rw[Bool.eq_iff_iff,E2,List.contains_iff_mem];exact(hI.done n).symm
  refine pW q0 ?_
  refine aw (G9 all n af) rfl ?_
  rw[this]
  exact pV
def Ps:IC:=OL.snd.snd
theorem Fa{l:List TB}{F:Tm->Int->Option Int}{x:Tm}(hx:x.fits){n:Int}{d:Nat}{r:Int}(hn:0<=n/\n<=1000)(hd:d<=1000)(hF:∀k m q,0<=m->F k m=some q-> -1<=q/\q<=m)
 (ih:∀k∈x.kids,∀m q d',d=d'+1->0<=m/\m<=1000->F k m=some q->aW Tryz.prog 143 [.sl (l.map TB.d),k.d, .i m, .i d'] (.ret [.i q]))
 (h:(match d with|0=>some (-1)|_+1=>A3 F x.kids (n - 1))=some r) {e:Nat->V} {o:Nat->ad} {nx:Nat} (hg:Good o nx) (e0:e 0= .d (.sl (l.map TB.d))) (e2:e 2= .d (.i n)) (e3:e 3= .d (.i d)) (e5:e 5= .ptr 0 0) (ho:o 0= .row x.row) (h1:1<=nx):
 kN Tryz.prog 55 0 false Ps (zo Tryz.prog [.tmp 8] (.ret [.i r])) ⟨e,o,nx⟩:=by
 have Jt:=(Tm.b9 x).1 hx
 simp only[Ps,OL,IC.snd]
 cases d with
 |zero=>
  cases h
  simp+contextual (disch:=first|omega|simp only[go_sem,false_implies]) only[go_sem,wrap64,if_pos,e0,e2,e3,e5,ho]
 |succ d=>
  dsimp only at h
  have N4:(((d+1:Nat):Int)==0)=false:=by rw[beq_eq_false_iff_ne];omega
  refine Hr e0 e2 e3 e5 ho N4 ?_
  refine aG (fun i:Nat×Int=>⟨aY [.d (.sl (l.map TB.d)), .aa, .d (.i i.2), .d (.i (d+1:Nat)), .aa, .ptr 0 0, .aa, .aa, .aa, .aa, .d (.i i.1)],ay (fun _=> .no) 0 (.row x.row),1⟩)
   (fun i=>i.1<=x.kids.length/\A3 F (x.kids.drop i.1) i.2=some r/\ -1<=i.2/\i.2<=1000) (fun i=>x.kids.length - i.1) (0,n - 1) ⟨Nat.zero_le _,h,by dsimp only;omega,by dsimp only;omega⟩ (bI.bE _ af af (Good.ay Good.nil af rfl) (fun j hj=> ?_) ?_) ?_
  ·have hj:j<1:=hj
   have:j=0:=af
   subst this
   rw[ab];exact ho
  ·exact nU PY (fP (nU rfl (nU Hv (fP (Fs (by(repeat(first|rfl|rw[ab]|rw[ae _ _ _ _ (by omega)]));exact e5) rD (fP (fP (fP (fP (nU rfl xj))))))))))
  rintro⟨k,m⟩ ⟨hk,hl,Jm,Na⟩
  simp only at hk hl Jm Na
  by_cases h2:k<x.kids.length
  ·have mu:decide ((k:Int)<(x.kids.length:Int))=true:=by simp;omega
   obtain⟨y,hy⟩:=aD h2
   have OQ:=List.mem_of_getElem? hy
   have I6:x.kids.drop k=y::x.kids.drop (k+1):=by
    obtain⟨i1,i2⟩:=List.getElem?_eq_some_iff.1 hy
    exact A7
   rw[I6]at hl
   simp only[A3]at hl
   by_cases h0:m<0
   ·have zh:decide (m≥0)=false:=by simp;omega
    rw[if_pos h0]at hl
    cases hl
    exact Yx hy mu zh
   ·have zh:decide (m≥0)=true:=by simp;omega
    rw[if_neg h0]at hl
    cases e:F y m with
    |none=>rw[e]at hl;cases hl
    |some q=>
    rw[e]at hl
    have hq:=hF y m q af e
    refine Hq hy mu zh ?_
    rw[show(((d+1:Nat):Int) - 1)=((d:Nat):Int) by omega]
    refine aw (ih y OQ m q d rfl af e) rfl ?_
    refine cS ?_
    refine aj (k+1,q) ⟨h2,hl,by dsimp only;omega,by dsimp only;omega⟩ je (bI.bE _ af af (Good.ay Good.nil af rfl) (fun j hj=>rfl) ?_)
    exact dA
  ·have mu:decide ((k:Int)<(x.kids.length:Int))=false:=by simp;omega
   have:k=x.kids.length:=af
   subst this
   rw[List.drop_length]at hl
   cases hl
   exact Jz mu
theorem wx{l:List TB}(hl:l.length<=1000)(nP:∀p∈ai l,p.2.fits):∀ (f:Nat) (t:Tm) (n:Int) (d:Nat) (r:Int),t.fits->0<=n/\n<=1000->d<=1000->tq f (ai l) t n d=some r->
 aW Tryz.prog 143 [.sl (l.map TB.d),t.d, .i n, .i d] (.ret [.i r])
 |0,_,_,_,_,_,_,_,h=>by cases h
 |f+1,t,n,d,r,ht,hn,hd,h=>by
  simp only[tq]at h
  cases ha:kP f (ai l) t with
  |none=>rw[ha]at h;cases h
  |some x=>
  rw[ha]at h
  dsimp only at h
  have Jt:=q8 nP f t x ht ha
  have afb:∀ (d':Nat) (k:Tm) (m q:Int),0<=m->tq f (ai l) k m d'=some q-> -1<=q/\q<=m:=fun d' k m q=>Aw f k m d' q
  have rest:∀ {e:Nat->V} {o:Nat->ad} {nx:Nat},Good o nx->e 0= .d (.sl (l.map TB.d))->e 2= .d (.i n)->e 3= .d (.i d)->e 5= .ptr 0 0->o 0= .row x.row->1<=nx->kN Tryz.prog 55 0 false Ps (zo Tryz.prog [.tmp 8] (.ret [.i r])) ⟨e,o,nx⟩:=by
   intro e o nx hg e0 e2 e3 e5 ho h1
   refine Fa (F:=fun k m=>tq f (ai l) k m (d - 1)) Jt hn hd (fun k m q h1 h2=>afb _ k m q h1 h2) (fun k hk m q d' he hm hF=> ?_) ?_ hg e0 e2 e3 e5 ho h1
   ·subst he
    exact wx hl nP f k m d' q ((Tm.b9 x).1 Jt |>.2 k hk) hm af hF
   ·cases d with
    |zero=>exact h
    |succ d=>exact h
  have chain:∀ (g:Nat) (t:Tm),t.fits->kP g (ai l) t=some x->aW Tryz.prog 143 [.sl (l.map TB.d),t.d, .i n, .i d] (.ret [.i r]):=by
   intro g
   induction g with
   |zero=>intro t _ h;cases h
   |succ g ihg=>
    intro t ht Jl
    simp only[kP]at Jl
    refine aW.aH mix abR aE ?_
    rw[OL]
    show kN _ _ _ _ (.seq _ (.seq _ Ps)) _ _
    by_cases h1:t.op=1
    ·have iz:(t.op==1)=true:=by simpa using h1
     rw[if_pos h1]at Jl
     refine oz iz ?_
     refine aw (rh l t.n af) rfl ?_
     rcases Ak l t.n with⟨g1,g2⟩|⟨k,y,g1,g2,g3⟩
     ·have My:decide (findF l t.n≥0)=false:=by simp;omega
      rw[g2]at Jl
      cases Jl
      refine oz My ?_
      exact rest dE rfl rfl rfl rfl rfl af
     ·have My:decide (((k:Nat):Int)≥0)=true:=aE
      rw[g3]at Jl
      refine Hq g1 My g2 ?_
      refine aw (ihg y.term (nP _ (iy (List.mem_of_getElem? g2))) Jl) rfl ?_
      exact pV
    ·have iz:(t.op==1)=false:=by simpa using h1
     rw[if_neg h1]at Jl
     cases Jl
     refine oz iz ?_
     exact rest dE rfl rfl rfl rfl rfl af
  exact chain f t ht ha
theorem Dj{l:List TB}(hl:l.length<=1000)(nP:∀p∈ai l,p.2.fits)(hle:∀p∈ai l,∃f r,tq f (ai l) p.2 40 12=some r){ok:Bool}(aV:ok=true↔∀x∈l,yA (ai l) x.term):
 aW Tryz.prog 118 [.sl (l.map TB.d)] (.ret [.bool ok]):=by
 refine aW.aH mix abC aE ?_
 rw[abB]
 refine cS ?_
 refine aG (fun k:Nat=>⟨aY [.d (.sl (l.map TB.d)), .aa, .aa, .d (.i k)],fun _=> .no,0⟩)
  (fun k=>k<=l.length/\∀x∈l.take k,yA (ai l) x.term) (fun k=>l.length - k) 0 ⟨Nat.zero_le _,fun x hx=>by simp at hx⟩ (bI.d0 _ ?_) (fun k hk=> ?_)
 ·exact dA
 obtain⟨hk,ho⟩:=hk
 refine yO ?_
 refine ao (fun h2=> ?_) (fun h2=> ?_)
 ·replace h2:k<l.length:=by simp at h2;omega
  obtain⟨x,hx⟩:=aD h2
  have cF:=List.mem_of_getElem? hx
  obtain⟨f,r,hf⟩:=hle _ (iy cF)
  have cY:=GX hf
  refine pW hx ?_
  refine aw (wx hl nP f x.term 40 12 r (nP _ (iy cF)) af af hf) rfl ?_
  by_cases h0:r<0
  ·have zh:decide (r<0)=true:=decide_eq_true h0
   have:ok=false:=by
    cases ok with
    |false=>rfl
    |true=>have:=cY.1 (aV.1 rfl x cF);omega
   subst this
   exact yP zh
  ·have zh:decide (r<0)=false:=decide_eq_false h0
   refine oz zh ?_
   refine aj (k+1) ⟨h2,fun y hy=> ?_⟩ af (bI.d0 _ ?_)
   ·rw[List.take_add_one,hx]at hy
    rcases List.mem_append.1 hy with hy|hy
    ·exact ho y hy
    ·simp at hy
     subst hy
     exact cY.2 af
   ·exact dA
 ·replace h2:k=l.length:=by simp at h2;omega
  subst h2
  rw[List.take_length]at ho
  have:ok=true:=aV.2 ho
  exact yT
theorem Pt{l:List TB}{i:Nat}{x:TB}(hx:l[i]? =some x):findF l x.var<(i:Int)↔x.var∈(ai (l.take i)).map (·.1):=by
 have e:(ai (l.take i)).map (·.1)=(l.take i).map (·.var):=by unfold ai;rw[List.map_map];rfl
 rw[e]
 obtain⟨hi,hxe⟩:=List.getElem?_eq_some_iff.1 hx
 unfold findF
 cases h:l.findIdx? (·.var==x.var)with
 |none=>
  rw[List.findIdx?_eq_none_iff]at h
  have:=h x (List.mem_of_getElem? hx)
  simp at this
 |some k=>
  rw[List.findIdx?_eq_some_iff_getElem]at h
  obtain⟨hk,h1,h2⟩:=h
  dsimp only
  constructor
  ·intro ck
   have ck:k<i:=af
   refine List.mem_map.2 ⟨l[k], ?_,by simpa using h1⟩
   rw[List.mem_iff_getElem?]
   exact⟨k,by rw[List.getElem?_take,if_pos ck,List.getElem?_eq_getElem hk]⟩
  ·intro hm
   obtain⟨y,hy,hyv⟩:=List.mem_map.1 hm
   obtain⟨j,hj⟩:=List.mem_iff_getElem?.1 hy
   rw[List.getElem?_take]at hj
   split at hj
   ·rename_i hji
    obtain⟨hjl,W7⟩:=List.getElem?_eq_some_iff.1 hj
    rcases Nat.lt_or_ge j k with QQ|QQ
    ·have:=h2 j QQ
     rw[W7]at this
     simp[hyv]at this
    ·omega
   ·cases hj
theorem Fb(s:aB)(hs:s.Fits)(pD:iU s=true)(l:List TB)(hl:l.length<=1000)(hlf:∀x∈l,x.term.fits){ok:Bool}(aV:ok=true↔jc s l):
 aW Tryz.prog 76 [s.d, .sl (l.map TB.d)] (.ret [.bool ok]):=by
 have no: ¬jc s l->ok=false:=fun h=>by
  cases ok with
  |false=>rfl
  |true=>exact absurd (aV.1 rfl) h
 refine aW.aH mix aeN aE ?_
 rw[c76]
 by_cases Yb:20<l.length
 ·have WC:decide ((l.length:Int)>20)=true:=by simp;omega
  have:=no fun h=>by have:=h.len;omega
  subst this
  exact Jz WC
 have WC:decide ((l.length:Int)>20)=false:=by simp;omega
 refine pW WC ?_
 refine aG (fun k:Nat=>⟨aY [.aa, .d (.sl (l.map TB.d)), .ptr 0 0, .aa, .aa, .d (.i k)],ay (fun _=> .no) 0 (.row [.d (.sl (s.cons.map ec.d)), .d (.sl (s.bV.map ec.d))]),1⟩)
  (fun k=>k<=l.length/\((ai (l.take k)).map (·.1)).Nodup/\∀x∈l.take k,(0<=x.var/\x.var<20)/\bL s x.term=true) (fun k=>l.length - k) 0 ⟨Nat.zero_le _,List.nodup_nil,fun x hx=>by simp at hx⟩ (bI.bE _ af af dE (fun j hj=>rfl) ?_) (fun k hk=> ?_)
 ·exact dA
 obtain⟨hk,zp,ho⟩:=hk
 refine yO ?_
 refine ao (fun h2=> ?_) (fun h2=> ?_)
 ·replace h2:k<l.length:=by simp at h2;omega
  obtain⟨x,hx⟩:=aD h2
  have cF:=List.mem_of_getElem? hx
  have uh:=De l hx
  refine pW hx ?_
  refine a8 (E8 x.var 0 19) rfl ?_
  have FU:dQ x.var 0 19=true↔0<=x.var/\x.var<20:=by unfold dQ;simp;omega
  cases h6:dQ x.var 0 19 with
  |false=>
   have:=no fun h=>by
    have:=FU.2 (h.ok x cF).1
    rw[h6]at this;cases this
   exact QH
  |true=>
   refine pW hx ?_
   refine a8 (rh l x.var af) rfl ?_
   have ck:=Pt hx
   cases h7:decide (findF l x.var<(k:Int))with
   |true=>
    have:=no fun h=>by
     have h8:=ck.1 (of_decide_eq_true h7)
     have h9:=h.keys.sublist (((List.take_sublist (k+1) l).map _).map _)
     have h9:((ai (l.take (k+1))).map (·.1)).Nodup:=h9
     rw[uh,List.map_append,List.nodup_append]at h9
     exact h9.2.2 x.var h8 x.var aE rfl
    subst this
    refine DI hx h7 ?_
    refine aO (bB rfl) ?_
    exact pV
   |false=>
    refine DI hx h7 ?_
    refine a8 (lE s hs x.term (hlf x cF)) rfl ?_
    have hve:=wv pD x.term
    cases h8:(gr s x.term&&eV x.term)with
    |false=>
     have:=no fun h=>by
      have:=(h.ok x cF).2
      rw[hve,h8]at this;cases this
     exact QH
    |true=>
     refine pW hx ?_
     refine aO (bB rfl) ?_
     refine cS ?_
     refine aj (k+1) ⟨h2, ?_,fun y hy=> ?_⟩ af (bI.bE _ af af dE (fun j hj=>rfl) ?_)
     ·rw[uh,List.map_append,List.nodup_append]
      refine⟨zp,aE,fun a ha c hc e=> ?_⟩
      simp at hc
      rw[e,hc]at ha
      exact of_decide_eq_false h7 (ck.2 ha)
     ·rw[List.take_add_one,hx]at hy
      rcases List.mem_append.1 hy with hy|hy
      ·exact ho y hy
      ·simp at hy
       subst hy
       exact⟨FU.1 h6,by rw[hve,h8]⟩
     ·exact dA
 ·replace h2:k=l.length:=by simp at h2;omega
  subst h2
  rw[List.take_length]at zp ho
  have FL:∀p∈ai l,Vs s p.2:=fun p hp=>by
   obtain⟨x,hx,rfl⟩:=fq hp
   exact(cg (ho x hx).2).1
  have nP:∀p∈ai l,p.2.mI:=fun p hp=>by
   obtain⟨x,hx,rfl⟩:=fq hp
   exact Tm.E7 _ (by have:=(cg (ho x hx).2).2.1;show x.term.sz<=1000;omega)
  refine cS ?_
  refine aG (fun k:Nat=>⟨aY [.aa, .d (.sl (l.map TB.d)), .aa, .aa, .aa, .aa, .d (.i k)],fun _=> .no,0⟩)
   (fun k=>k<=l.length/\∀x∈l.take k, ¬nO (ai l) x.var x.term) (fun k=>l.length - k) 0 ⟨Nat.zero_le _,fun x hx=>by simp at hx⟩ (bI.d0 _ ?_) (fun k hk=> ?_)
  ·exact dA
  obtain⟨hk,hc⟩:=hk
  refine yO ?_
  refine ao (fun h2=> ?_) (fun h2=> ?_)
  ·replace h2:k<l.length:=by simp at h2;omega
   obtain⟨x,hx⟩:=aD h2
   have cF:=List.mem_of_getElem? hx
   obtain⟨is,E2⟩:∃is:Bool,is=true↔nO (ai l) x.var x.term:=by
    classical
    exact⟨decide (nO (ai l) x.var x.term),aE⟩
   refine pW hx ?_
   refine a8 (E9 hl FL nP x.var x.term (FL _ (iy cF)) (nP _ (iy cF)) E2) rfl ?_
   cases is with
   |true=>
    have:=no fun h=>h.Js x.var x.term ((lA h.keys).2 (iy cF)) (E2.1 rfl)
    subst this
    exact TL
   |false=>
    refine cS ?_
    refine aO (bB rfl) ?_
    refine cS ?_
    refine aj (k+1) ⟨h2,fun y hy=> ?_⟩ af (bI.d0 _ ?_)
    ·rw[List.take_add_one,hx]at hy
     rcases List.mem_append.1 hy with hy|hy
     ·exact hc y hy
     ·simp at hy
      subst hy
      exact fun h=>Bool.false_ne_true (E2.2 h)
    ·exact dA
  ·replace h2:k=l.length:=by simp at h2;omega
   subst h2
   rw[List.take_length]at hc
   have Mt:Wn (ai l):=fun v t ht=>by
    obtain⟨x,hx,e⟩:=fq (cK ht)
    cases e
    exact hc x hx
   obtain⟨l',ρ,R,hS,HZ⟩:=oq zp ho Mt
   have hle:∀p∈ai l,∃f r,tq f (ai l) p.2 40 12=some r:=fun p hp=>by
    exact QP
   refine cS ?_
   refine aw (Dj (ok:=ok) hl (fun p hp=>Tm.Mv _ (nP p hp)) hle (aV.trans ⟨fun h=>h.Wu,fun h=>⟨af,zp,ho,Mt,h⟩⟩)) rfl ?_
   exact pV
theorem Ha(gone:Nat->Prop)(x:V)(L:List V)(si:∀id,gone id->12<=id){op n:Int}{ks:List Tm}{k:Nat}{t:Tm}{e:Nat->V}{so:Nat->ad}{m:Nat}(gx:fE so gone 33 3 ((ks.take k).map Tm.d) x)
 (s0:so 0= .row t.row) (s1:so 1= .row [.d (.i 0), .d (.i 0), .aq]) (s11:so 11= .row [.d (.i op), .d (.i n),x]) (he:iL 12 [⟨x,33,3,(ks.take k).map Tm.d⟩] so gone e L 0):bI 0 ⟨e,so,m⟩ ⟨aY L,ay (EZ op n ks k) 0 (.row t.row),12+1⟩:=by
 refine bI.w7 gone x 12 L af (fun j hj=> ?_) (by rw[ae _ _ _ _ (by omega)];exact fuH_12 op n ks k) gx (fun j hj=>by rw[ae _ _ _ _ (by omega)];exact Ay _ _ _ _ af af af) (fun j h1 h2=>absurd (si j h1) af) he
 by_cases e0:j=0
 ·subst e0
  rw[ab]
  exact bX s0 (fun r hr=>by simp[ad.refs,V.aK,V.refs]at hr)
 rw[ae _ _ _ _ e0]
 by_cases e1:j=1
 ·subst e1
  rw[fuH_1]
  exact Qj
 ·by_cases e2:j=11
  ·subst e2
   rw[fuH_11]
   exact Qo
  ·rw[Ay _ _ _ _ e1 e2 (by omega)]
   exact me
theorem sH{l:List TB}(hl:l.length<=1000)(nP:∀p∈ai l,p.2.fits):∀ (f:Nat) (t y:Tm) (d:Nat),t.fits->d<=1000->GY f (ai l) t d=some y->y.sz<=1000000->
 aW Tryz.prog 93 [.sl (l.map TB.d),t.d, .i d] (.ret [y.d, .bool true])
 |0,_,_,_,_,_,h,_=>by cases h
 |f+1,t,y,d,ht,hd,h,hz=>by
  simp only[GY]at h
  have Wt:=(Tm.b9 t).1 ht
  refine aW.aH mix aeW aE ?_
  rw[c93]
  by_cases h1:t.op=1
  ·have iz:(t.op==1)=true:=by simpa using h1
   rw[if_pos h1]at h
   refine oz iz ?_
   refine aw (rh l t.n af) rfl ?_
   rcases Ak l t.n with⟨g1,g2⟩|⟨k,z,g1,g2,g3⟩
   ·have My:decide (findF l t.n<0)=true:=by simp;omega
    rw[g2]at h
    cases h
    exact yP My
   ·have My:decide (((k:Nat):Int)<0)=false:=aE
    rw[g3]at h
    cases d with
    |zero=>cases h
    |succ d=>
     have N4:(((d+1:Nat):Int)==0)=false:=by rw[beq_eq_false_iff_ne];omega
     refine DF g1 My g2 N4 ?_
     rw[show(((d+1:Nat):Int) - 1)=((d:Nat):Int) by omega]
     refine bH (sH hl nP f z.term y d (nP _ (iy (List.mem_of_getElem? g2))) af h hz) ?_
     exact pV
  ·have iz:(t.op==1)=false:=by simpa using h1
   rw[if_neg h1]at h
   cases hL:C8 (fun k=>GY f (ai l) k d) t.kids with
   |none=>rw[hL]at h;cases h
   |some ks=>
   rw[hL]at h
   cases h
   obtain⟨NV,HD⟩:=Ax hL
   have eh:rB ks+1<=1000000:=by rw[Tm.jL]at hz;simp only[Tm.kids]at hz;omega
   have hle:=mi ks
   refine oz iz ?_
   refine aG (fun i:Nat=>⟨aY [.d (.sl (l.map TB.d)), .aa, .d (.i d), .aa, .ptr 0 0, .aa, .ptr 1 0, .aa, .aa, .ptr 11 0, .d (.i i)],ay (EZ t.op t.n ks i) 0 (.row t.row),12+1⟩)
    (fun i=>i<=t.kids.length) (fun i=>t.kids.length - i) 0 (Nat.zero_le _) (Ha (fun _=>False) .aq _ (fun _ h=>h.elim) (.inl ⟨rfl,rfl,bu⟩) cA cA cA ?_) (fun k hk=> ?_)
   ·exact rn
   replace hk:k<=t.kids.length:=hk
   have q0:ay (EZ t.op t.n ks k) 0 (.row t.row) 0= .row t.row:=ab _ _ _
   have q1:ay (EZ t.op t.n ks k) 0 (.row t.row) 1= .row [.d (.i 0), .d (.i 0), .aq]:=rfl
   have Pf:ay (EZ t.op t.n ks k) 0 (.row t.row) 11= .row [.d (.i t.op), .d (.i t.n), .osl 12 0]:=rfl
   have Pg:ay (EZ t.op t.n ks k) 0 (.row t.row) 12= .arr 0 33 3 ((ks.take k).map Tm.d):=rfl
   refine DF q0 q1 Pf Pg ?_
   refine ao (fun h2=> ?_) (fun h2=> ?_)
   ·replace h2:k<t.kids.length:=by simp at h2;omega
    obtain⟨z,Wz⟩:=aD h2
    obtain⟨z',NR,hF⟩:=HD k z Wz
    have hzm:=List.mem_of_getElem? Wz
    have uh:ks.take (k+1)=ks.take k++[z']:=by rw[List.take_add_one,NR];rfl
    have e0:(ks.take k).length=k:=by rw[List.length_take];omega
    have hzs:z'.sz<=1000000:=by have:=G3 (List.mem_of_getElem? NR);omega
    have fh:k<=140737488355327/\(k+1)*24<=140737488355328:=af
    simp+contextual (disch:=first|omega|simp only[go_sem,false_implies]) only[go_sem,wrap64,if_pos,q0,q1,Pf,Pg,Wz,List.length_map]
    refine bH (sH hl nP f z z' d (Wt.2 z hzm) hd hF hzs) ?_
    simp+contextual (disch:=first|omega|simp only[go_sem,false_implies]) only[go_sem,wrap64,if_pos,q0,q1,Pf,Pg,Wz,List.length_map,e0,if_pos fh]
    refine aj (k+1) h2 af (Ha (fun j=>12<=j) (.osl 12 1) _ (fun _ h=>h) (.inr ⟨12,1,Nat.le_refl _,rfl,by(repeat(first|rfl|rw[ab]|rw[ae _ _ _ _ (by omega)]));rw[uh,List.map_append];rfl⟩) cA Zb cA ?_)
    exact rn
   ·replace h2:k=t.kids.length:=by simp at h2;omega
    subst h2
    have Wr:ay (EZ t.op t.n ks t.kids.length) 0 (.row t.row) 12= .arr 0 33 3 (ks.map Tm.d):=by rw[Pg, <- NV,List.take_length]
    simp+contextual (disch:=first|omega|simp only[go_sem,false_implies]) only[go_sem,wrap64,if_pos,q0,q1,Pf,Wr]
    rw[Tm.UH]
theorem yF{l:List TB}(hl:l.length<=1000)(nP:∀p∈ai l,p.2.fits){t y:Tm}{f:Nat}(ht:t.fits)(h:GY f (ai l) t (ai l).length=some y)(hz:y.sz<=1000000):aW Tryz.prog 42 [.sl (l.map TB.d),t.d] (.ret [y.d]):=by
 have e:(ai l).length=l.length:=by unfold ai;rw[List.length_map]
 rw[e]at h
 refine aW.aH mix aey aE ?_
 rw[c42]
 refine yO ?_
 refine bH (sH hl nP f t y l.length ht hl h hz) ?_
 exact pV
theorem tt{l:List TB}(hl:l.length<=1000)(nP:∀p∈ai l,p.2.fits){n:Nt}{x y:Tm}{f g:Nat}(ha:n.a.fits)(hb:n.b.fits)(hx:GY f (ai l) n.a (ai l).length=some x)(hy:GY g (ai l) n.b (ai l).length=some y)(zx:x.sz<=1000000)(zy:y.sz<=1000000):
 aW Tryz.prog 71 [.sl (l.map TB.d),n.d] (.ret [.bool (iJ x y)]):=by
 refine aW.aH mix aeL aE ?_
 rw[c71]
 refine cS ?_
 refine cy (yF hl nP ha hx zx) ?_
 refine cS ?_
 refine cy (yF hl nP hb hy zy) ?_
 refine cS ?_
 refine a8 (Ae x (Tm.dv _ zx) y (Tm.dv _ zy)) rfl ?_
 exact TL
end Go.Proofs.YtlhemmpklhhgoaaGreat
set_option maxHeartbeats 2000000
namespace Go.Proofs.YtlhemmpklhhgoaaGreat
theorem WD(nb nn:Int)(l m:Int×Int)(ms:List (Int×Int)):mj nb nn l (m::ms)=(dQ m.1 l.1 nb&&dQ m.2 l.2 nn&&mj nb nn m ms):=by
 rw[mj]
 congr 1
 unfold dQ
 rw[Bool.eq_iff_iff]
 simp
 omega
theorem Fc(s:bW)(hs:s.Fin){ok:Bool}(aV:ok=true↔bp s):aW Tryz.prog 22 [s.d] (.ret [.bool ok]):=by
 have no: ¬bp s->ok=false:=fun h=>by
  cases ok with
  |false=>rfl
  |true=>exact absurd (aV.1 rfl) h
 have uG:=hs.bl
 have uX:=hs.nl
 have HN:=hs.ml
 refine aW.aH mix aeq aE ?_
 rw[c22]
 refine cS ?_
 refine aw (SJ s.sig hs.sig) rfl ?_
 cases h1:iU s.sig with
 |false=>
  have:=no fun h=>by have:=h.sig;rw[h1]at this;cases this
  exact yT
 |true=>
 obtain⟨bo,T6⟩:∃bo:Bool,bo=true↔jc s.sig s.binds:=by
  classical
  exact⟨decide (jc s.sig s.binds),aE⟩
 refine cS ?_
 refine aw (Fb s.sig hs.sig h1 s.binds uG (fun x hx=>(hs.bt x hx).fits) T6) rfl ?_
 cases bo with
 |false=>
  have:=no fun h=>Bool.false_ne_true (T6.2 h.mG)
  exact yT
 |true=>
 have hb:=T6.1 rfl
 by_cases h3:12<s.aJ.length
 ·have mw:decide ((s.aJ.length:Int)>12)=true:=by simp;omega
  have:=no fun h=>by have:=h.tL;omega
  subst this
  exact Jz mw
 have mw:decide ((s.aJ.length:Int)>12)=false:=by simp;omega
 by_cases h4:8<s.marks.length
 ·have H5:decide ((s.marks.length:Int)>8)=true:=by simp;omega
  have:=no fun h=>by have:=h.xd;omega
  subst this
  exact Th mw H5
 have H5:decide ((s.marks.length:Int)>8)=false:=by simp;omega
 obtain⟨l',ρ,R,hS,HZ⟩:=oq hb.keys hb.ok hb.Js
 have nP:∀p∈ai s.binds,p.2.fits:=fun p hp=>by
  obtain⟨x,hx,rfl⟩:=fq hp
  exact(hs.bt x hx).fits
 have cY:∀p∈ai s.binds,yA (ai s.binds) p.2:=fun p hp=>by
  obtain⟨x,hx,rfl⟩:=fq hp
  exact hb.Wu x hx
 refine DI mw H5 ?_
 refine aG (fun k:Nat=>⟨aY [.aa, .ptr 0 0, .aa, .d (.i k)],ay (fun _=> .no) 0 (.row s.row),1⟩)
  (fun k=>k<=s.aJ.length/\∀n∈s.aJ.take k,bL s.sig n.a=true/\bL s.sig n.b=true/\ ¬Dd (ai s.binds) n) (fun k=>s.aJ.length - k) 0 ⟨Nat.zero_le _,fun n hn=>by simp at hn⟩ (bI.bE _ af af dE (fun j hj=>rfl) ?_) (fun k hk=> ?_)
 ·exact dA
 obtain⟨hk,ho⟩:=hk
 refine yO ?_
 refine ao (fun h6=> ?_) (fun h6=> ?_)
 ·replace h6:k<s.aJ.length:=by simp at h6;omega
  obtain⟨n,hn⟩:=aD h6
  have AX:=List.mem_of_getElem? hn
  obtain⟨na,nb⟩:=hs.nt n AX
  have ea:=wv h1 n.a
  have eb:=wv h1 n.b
  refine pW hn ?_
  refine a8 (lE s.sig hs.sig n.a na.fits) rfl ?_
  cases va:(gr s.sig n.a&&eV n.a)with
  |false=>
   have:=no fun h=>by have:=(h.aJ n AX).1;rw[ea,va]at this;cases this
   exact TI
  |true=>
   refine pW hn ?_
   refine a8 (lE s.sig hs.sig n.b nb.fits) rfl ?_
   cases vb:(gr s.sig n.b&&eV n.b)with
   |false=>
    have:=no fun h=>by have:=(h.aJ n AX).2.1;rw[eb,vb]at this;cases this
    exact TI
   |true=>
    obtain⟨a1,a2,a3⟩:=cg (ea.trans va)
    obtain⟨b1,b2,b3⟩:=cg (eb.trans vb)
    have za:=mm hS cY a1
    have zb:=mm hS cY b1
    obtain⟨fa,ua⟩:=Av hS a1
    obtain⟨fb,ub⟩:=Av hS b1
    have AG:=AA (n:=n) hS a1 b1
    refine pW hn ?_
    refine a8 (tt uG nP (n:=n) na.fits nb.fits ua ub af af) rfl ?_
    cases FQ:iJ (aZ (ai l') n.a) (aZ (ai l') n.b)with
    |true=>
     have:=no fun h=>(h.aJ n AX).2.2 (AG.2 ((gu _ _).1 FQ))
     exact TI
    |false=>
     refine pW hn ?_
     refine aO (bB rfl) ?_
     refine cS ?_
     refine aj (k+1) ⟨h6,fun y hy=> ?_⟩ af (bI.bE _ af af dE (fun j hj=>rfl) ?_)
     ·rw[List.take_add_one,hn]at hy
      rcases List.mem_append.1 hy with hy|hy
      ·exact ho y hy
      ·simp at hy
       subst hy
       refine⟨ea.trans va,eb.trans vb,fun h=> ?_⟩
       rw[(gu _ _).2 (AG.1 h)]at FQ;cases FQ
     ·exact dA
 ·replace h6:k=s.aJ.length:=by simp at h6;omega
  subst h6
  rw[List.take_length]at ho
  have fin:mj s.binds.length s.aJ.length (0,0) s.marks=ok:=by
   rw[Bool.eq_iff_iff,aV]
   exact⟨fun h=>⟨h1,af,af,hb,ho,h⟩,fun h=>h.marks⟩
  refine yO ?_
  refine aG (fun i:Nat×Int×Int=>⟨aY [.aa, .ptr 0 0, .aa, .aa, .ptr 7 0, .d (.i i.1)],ay (ay (fun _=> .no) 0 (.row s.row)) 7 (.row [.d (.i i.2.1), .d (.i i.2.2)]),8⟩)
   (fun i=>i.1<=s.marks.length/\mj s.binds.length s.aJ.length i.2 (s.marks.drop i.1)=ok) (fun i=>s.marks.length - i.1) (0,0,0) ⟨Nat.zero_le _,fin⟩ (bI.bE _ (show 0<=8 from af) af dE (fun j hj=> ?_) ?_) ?_
  ·by_cases e:j=7
   ·exact uq
   ·exact cA
  ·exact dA
  rintro⟨k,l1,l2⟩ ⟨hk,lM⟩
  dsimp only at hk lM|-
  refine yO ?_
  refine ao (fun h7=> ?_) (fun h7=> ?_)
  ·replace h7:k<s.marks.length:=by simp at h7;omega
   obtain⟨⟨m1,m2⟩,hm⟩:=aD h7
   have I6:s.marks.drop k=(m1,m2)::s.marks.drop (k+1):=by
    obtain⟨i1,i2⟩:=List.getElem?_eq_some_iff.1 hm
    exact A7
   rw[I6,WD]at lM
   dsimp only at lM
   refine pW hm ?_
   refine aw (E8 m1 l1 s.binds.length) rfl ?_
   cases g1:dQ m1 l1 s.binds.length with
   |false=>
    rw[g1]at lM
    simp only[Bool.false_and]at lM
    subst lM
    exact pV
   |true=>
    rw[g1]at lM
    refine pW hm ?_
    refine aw (E8 m2 l2 s.aJ.length) rfl ?_
    cases g2:dQ m2 l2 s.aJ.length with
    |false=>
     rw[g2]at lM
     simp only[Bool.true_and,Bool.false_and]at lM
     subst lM
     exact pV
    |true=>
     rw[g2]at lM
     simp only[Bool.true_and]at lM
     refine pW hm ?_
     refine aj (k+1,m1,m2) ⟨h7,lM⟩ je (bI.bE _ (show 0<=8 from af) af dE (fun j hj=> ?_) ?_)
     ·have hj:j<8:=hj
      by_cases e:j=7
      ·exact uq
      ·(repeat(first|rfl|rw[ab]|rw[ae _ _ _ _ (by omega)]));rw[ae _ 7 _ _ e]
     ·exact dA
  ·replace h7:k=s.marks.length:=by simp at h7;omega
   subst h7
   rw[List.drop_length]at lM
   have lM:true=ok:=lM
   subst lM
   exact pV
structure bW.Fits (s:bW):Prop where
 sig:s.sig.Fits
 bl:s.binds.length<=9223372036854775807
 nl:s.aJ.length<=9223372036854775807
 ml:s.marks.length<=9223372036854775807
 bt:∀x∈s.binds,x.term.fits
 nt:∀n∈s.aJ,n.a.fits/\n.b.fits
structure Mz (s:bW):Prop where
 sig:ez s.sig=true
 bl:s.binds.length<=22
 nl:s.aJ.length<=14
 ml:s.marks.length<=10
 bt:∀x∈s.binds,fT x.term=true
 nt:∀n∈s.aJ,fT n.a=true/\fT n.b=true
theorem wy(s:bW)(hs:s.Fits){ok:Bool}(aV:ok=true↔Mz s):aW Tryz.prog 23 [s.d] (.ret [.bool ok]):=by
 have no: ¬Mz s->ok=false:=fun h=>by
  cases ok with
  |false=>rfl
  |true=>exact absurd (aV.1 rfl) h
 have uG:=hs.bl
 have uX:=hs.nl
 have HN:=hs.ml
 refine aW.aH mix aer aE ?_
 rw[c23]
 refine cS ?_
 refine aw (vO s.sig hs.sig) rfl ?_
 cases h1:ez s.sig with
 |false=>
  have:=no fun h=>by have:=h.sig;rw[h1]at this;cases this
  exact yT
 |true=>
 by_cases h2:22<s.binds.length
 ·have mu:decide ((s.binds.length:Int)>22)=true:=by simp;omega
  have:=no fun h=>by have:=h.bl;omega
  subst this
  exact Jz mu
 have mu:decide ((s.binds.length:Int)>22)=false:=by simp;omega
 by_cases h3:14<s.aJ.length
 ·have mw:decide ((s.aJ.length:Int)>14)=true:=by simp;omega
  have:=no fun h=>by have:=h.nl;omega
  subst this
  exact Th mu mw
 have mw:decide ((s.aJ.length:Int)>14)=false:=by simp;omega
 by_cases h4:10<s.marks.length
 ·have H5:decide ((s.marks.length:Int)>10)=true:=by simp;omega
  have:=no fun h=>by have:=h.ml;omega
  subst this
  exact Yx mu mw H5
 have H5:decide ((s.marks.length:Int)>10)=false:=by simp;omega
 refine Hq mu mw H5 ?_
 refine aG (fun k:Nat=>⟨aY [.aa, .ptr 0 0, .aa, .d (.i k)],ay (fun _=> .no) 0 (.row s.row),1⟩)
  (fun k=>k<=s.binds.length/\∀x∈s.binds.take k,fT x.term=true) (fun k=>s.binds.length - k) 0 ⟨Nat.zero_le _,fun n hn=>by simp at hn⟩ (bI.bE _ af af dE (fun j hj=>rfl) ?_) (fun k hk=> ?_)
 ·exact dA
 obtain⟨hk,ho⟩:=hk
 refine yO ?_
 refine ao (fun h6=> ?_) (fun h6=> ?_)
 ·replace h6:k<s.binds.length:=by simp at h6;omega
  obtain⟨x,hx⟩:=aD h6
  have cF:=List.mem_of_getElem? hx
  refine pW hx ?_
  refine aw (qN x.term (hs.bt x cF)) rfl ?_
  cases hv:fT x.term with
  |false=>
   have:=no fun h=>by have:=h.bt x cF;rw[hv]at this;cases this
   exact yT
  |true=>
   refine cS ?_
   refine aj (k+1) ⟨h6,fun y hy=> ?_⟩ af (bI.bE _ af af dE (fun j hj=>rfl) ?_)
   ·rw[List.take_add_one,hx]at hy
    rcases List.mem_append.1 hy with hy|hy
    ·exact ho y hy
    ·simp at hy
     subst hy
     exact hv
   ·exact dA
 ·replace h6:k=s.binds.length:=by simp at h6;omega
  subst h6
  rw[List.take_length]at ho
  refine yO ?_
  refine aG (fun k:Nat=>⟨aY [.aa, .ptr 0 0, .aa, .aa, .d (.i k)],ay (fun _=> .no) 0 (.row s.row),1⟩)
   (fun k=>k<=s.aJ.length/\∀n∈s.aJ.take k,fT n.a=true/\fT n.b=true) (fun k=>s.aJ.length - k) 0 ⟨Nat.zero_le _,fun n hn=>by simp at hn⟩ (bI.bE _ af af dE (fun j hj=>rfl) ?_) (fun k hk=> ?_)
  ·exact dA
  obtain⟨hk,ho2⟩:=hk
  refine yO ?_
  refine ao (fun h6=> ?_) (fun h6=> ?_)
  ·replace h6:k<s.aJ.length:=by simp at h6;omega
   obtain⟨n,hn⟩:=aD h6
   have AX:=List.mem_of_getElem? hn
   obtain⟨na,nb⟩:=hs.nt n AX
   refine pW hn ?_
   refine aw (qN n.a na) rfl ?_
   cases va:fT n.a with
   |false=>
    have:=no fun h=>by have:=(h.nt n AX).1;rw[va]at this;cases this
    exact yT
   |true=>
    refine pW hn ?_
    refine aw (qN n.b nb) rfl ?_
    cases vb:fT n.b with
    |false=>
     have:=no fun h=>by have:=(h.nt n AX).2;rw[vb]at this;cases this
     exact yT
    |true=>
     refine cS ?_
     refine aj (k+1) ⟨h6,fun y hy=> ?_⟩ af (bI.bE _ af af dE (fun j hj=>rfl) ?_)
     ·rw[List.take_add_one,hn]at hy
      rcases List.mem_append.1 hy with hy|hy
      ·exact ho2 y hy
      ·simp at hy
       subst hy
       exact⟨va,vb⟩
     ·exact dA
  ·replace h6:k=s.aJ.length:=by simp at h6;omega
   subst h6
   rw[List.take_length]at ho2
   have:ok=true:=aV.2 ⟨h1,af,af,af,ho,ho2⟩
   exact yT
end Go.Proofs.YtlhemmpklhhgoaaGreat
namespace Go.Proofs.YtlhemmpklhhgoaaGreat
theorem SX:∀ (f:Nat) (t:Tm),t.ma<=f->ui (f+1) [] t=some t
 |0,t,h=>by rw[Tm.pH]at h;omega
 |f+1,t,h=>by
  have ha:kP (f+1) [] t=some t:=by
   simp only[kP,bS]
   split<;>rfl
  rw[ui,ha]
  show(C8 (ui (f+1) []) t.kids).map (fun ks=>Tm.mk t.op t.n ks)=_
  rw[show C8 (ui (f+1) []) t.kids=some (t.kids.map id)from uj fun k hk=>SX f k (by have:=Tm.qG hk;omega),List.map_id]
  show some (Tm.mk t.op t.n t.kids)=some t
  rw[Tm.eta]
theorem wz(t:Tm)(hz:t.sz<=1000000):aW Tryz.prog 107 [t.d] (.ret [t.d]):=by
 refine aW.aH mix RW aE ?_
 rw[Vk]
 refine cS ?_
 refine bH (wc (b:=[]) (fun _ h=>by cases h) (t.ma+1) t t (Tm.dv t hz) (SX _ t (Nat.le_refl _)) hz) ?_
 exact pV
theorem Dk(l:List ec)(hl:l.length<=1000000):aW Tryz.prog 105 [.sl (l.map ec.d)] (.ret [.sl (l.map ec.d)]):=by
 refine aW.aH mix RU aE ?_
 rw[Vi]
 have hu:Tryz.prog.underlying 22=some (.slice 124):=ah
 cases l with
 |nil=>
  have heq:∀O,rF Tryz.prog O 22 true (.d (.sl [])) .aq=some .fw:=by
   intro O
   unfold rF
   rw[hu]
   rfl
  simp only[List.map_cons,List.map_nil]
  refine oz heq ?_
  simp only[List.isEmpty_nil,if_true]
  exact yP heq
 |cons a l=>
  have heq:∀O,rF Tryz.prog O 22 true (.d (.sl (a.d::l.map ec.d))) .aq=some (.d (.bool false)):=by
   intro O
   unfold rF
   rw[hu]
   rfl
  have Ku:(a.d::l.map ec.d).all (fun z=>z.cells.length==2)=true:=by
   rw[List.all_eq_true]
   intro z hz
   obtain⟨r,_,rfl⟩:=List.mem_map.1 (show z∈(a::l).map ec.d from hz)
   rfl
  simp only[List.map_cons,List.map_nil]
  refine oz heq ?_
  simp only[List.isEmpty_nil,if_true]
  refine Nv heq Ku ?_
  rw[List.length_cons]at hl
  rw[if_pos (by omega)]
  exact pV
theorem Fe(l:List (Int×Int))(hl:l.length<=1000000)(o:Nat->ad)(fr:Nat):AZ Tryz.prog 106 [.d (.sl (l.map ra))] [] o fr (.osl fr 0) [(fr, .arr 0 77 2 (l.map ra))]:=by
 refine AZ.La (ds:=[.sl (l.map ra)]) ?_
 refine bQ.aH mix RV aE ?_
 rw[Vj]
 have hu:Tryz.prog.underlying 27=some (.slice 77):=ah
 cases l with
 |nil=>
  have heq:∀O,rF Tryz.prog O 27 true (.d (.sl [])) .aq=some .fw:=by
   intro O
   unfold rF
   rw[hu]
   rfl
  simp only[List.map_cons,List.map_nil]
  refine oz heq ?_
  simp only[List.isEmpty_nil,if_true]
  refine oz heq ?_
  exact .inl ⟨3,1,rfl,ab _ _ _⟩
 |cons a l=>
  have heq:∀O,rF Tryz.prog O 27 true (.d (.sl (ra a::l.map ra))) .aq=some (.d (.bool false)):=by
   intro O
   unfold rF
   rw[hu]
   rfl
  have Ku:(ra a::l.map ra).all (fun z=>z.cells.length==2)=true:=by
   rw[List.all_eq_true]
   intro z hz
   obtain⟨r,_,rfl⟩:=List.mem_map.1 (show z∈(a::l).map ra from hz)
   rfl
  simp only[List.map_cons,List.map_nil]
  refine oz heq ?_
  simp only[List.isEmpty_nil,if_true]
  refine Nv heq Ku ?_
  rw[List.length_cons]at hl
  rw[if_pos (by omega)]
  refine cS ?_
  exact .inl ⟨3,1,rfl,ab _ _ _⟩
end Go.Proofs.YtlhemmpklhhgoaaGreat
