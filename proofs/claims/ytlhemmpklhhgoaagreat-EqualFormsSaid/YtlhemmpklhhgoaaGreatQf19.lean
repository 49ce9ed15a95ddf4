/-
  A PART. Conditions: none.
-/
import Derived.Test.YtlhemmpklhhgoaaGreatQf18
set_option linter.unusedSimpArgs false
set_option linter.unusedVariables false
set_option maxHeartbeats 8000000
namespace Go.Proofs.YtlhemmpklhhgoaaGreat
def yD(o:Nat->aa)(nx:Nat)(s:b9)(m:aa):Nat->aa:=
 aw (aw (aw (aw o nx (.row s.row)) (nx+1) (.row [.ao, .ao, .ao, .ao, .ao, .d .dX])) (nx+4) m) (nx+6) (.row (s.row++[.mp (nx+4)]))
theorem kpH_0(o:Nat->aa)(nx:Nat)(s:b9)(m:aa):yD o nx s m nx= .row s.row:=by
 unfold yD;rw[af _ _ _ _ (by omega),af _ _ _ _ (by omega),af _ _ _ _ (by omega),ab]
theorem kpH_1(o:Nat->aa)(nx:Nat)(s:b9)(m:aa):yD o nx s m (nx+1)= .row [.ao, .ao, .ao, .ao, .ao, .d .dX]:=by
 unfold yD;rw[af _ _ _ _ (by omega),af _ _ _ _ (by omega),ab]
theorem kpH_4(o:Nat->aa)(nx:Nat)(s:b9)(m:aa):yD o nx s m (nx+4)=m:=by
 unfold yD;rw[af _ _ _ _ (by omega),ab]
theorem kpH_6(o:Nat->aa)(nx:Nat)(s:b9)(m:aa):yD o nx s m (nx+6)= .row (s.row++[.mp (nx+4)]):=by unfold yD;rw[ab]
theorem O9(o:Nat->aa)(nx:Nat)(s:b9)(m:aa){j:Nat}(h0:j≠nx)(h1:j≠nx+1)(h4:j≠nx+4)(h6:j≠nx+6):yD o nx s m j=o j:=by
 unfold yD;rw[af _ _ _ _ h6,af _ _ _ _ h4,af _ _ _ _ h1,af _ _ _ _ h0]
theorem Jr(o:Nat->aa)(nx:Nat)(s:b9)(m m':aa)(j:Nat):aw (yD o nx s m) (nx+4) m' j=yD o nx s m' j:=by
 by_cases e:j=nx+4
 ·subst e;rw[ab,kpH_4]
 ·rw[af _ _ _ _ e]
  unfold yD
  by_cases e6:j=nx+6
  ·subst e6;rw[ab,ab]
  ·rw[af _ _ _ _ e6,af _ _ _ _ e6,af _ _ _ _ e,af _ _ _ _ e]
theorem sL{o:Nat->aa}{nx:Nat}(hg:Good o nx)(s:b9){m:aa}(hm:m.refs=[]):Good (yD o nx s m) (nx+7):=by
 unfold yD
 refine Good.aw (Good.aw (Good.aw (Good.aw (hg.mono ad) ad rfl) ad rfl) ad (by rw[hm];rfl)) ad ve
theorem SB(o:Nat->aa)(nx:Nat)(s:b9)(j:Nat):
 aw (aw (aw (aw (aw o nx (.row s.row)) (nx+1) (.row [.ao, .ao, .ao, .ao, .ao, .d .dX])) (nx+4) (dk [])) (nx+6) (.row [.ao, .ao, .ao, .ao, .ao, .d .dX])) (nx+6) (.row (s.row++[.mp (nx+4)])) j=yD o nx s (dk []) j:=by
 unfold yD
 by_cases e:j=nx+6
 ·subst e;rw[ab,ab]
 ·rw[af _ _ _ _ e,af _ _ _ _ e,af _ _ _ _ e]
set_option maxRecDepth 100000 in
theorem Js(s:b9)(hs:s.Fin)(o:Nat->aa)(nx:Nat)(hg:Good o nx)(K X:V->(Nat->aa)->Nat->Prop)
 (x9:bn s->∀o' nx' id,nx<=nx'->Good o' nx'->(∀j,j<nx->o' j=o j)->o' id= .bZ (enc (D.int .i64) (jR (ag s.binds)))->K (.cf [.agg (s.row++[.mp id]), .d (.bool true)]) o' nx')
 (jK: ¬bn s->∀o' nx' id m,nx<=nx'->id<nx'->Good o' nx'->(∀j,j<nx->o' j=o j)->o' id=dk m\/o' id= .bZ (enc (D.int .i64) (jR m))->K (.cf [.agg (s.row++[.mp id]), .d (.bool false)]) o' nx'):
 bJ Tryz.prog 79 [.d s.d] o nx K X:=by
 refine bJ.aH mix aeg aF ?_
 rw[c79]
 refine gB ?_
 refine ax (xM s.sig hs.sig) rfl ?_
 have rA:=hs.bl
 have uL:=hs.nl
 have Fq:=hs.ml
 cases h1:jP s.sig with
 |false=>
  simp+contextual (disch:=first|omega|simp only[go_sem,false_implies]) only[go_sem,wrap64,if_pos,rl,Nat.add_assoc,Nat.left_eq_add,Nat.add_eq_left,Nat.add_left_cancel_iff,List.length_map]
  refine jK (fun h=> ?_) _ _ (nx+4) [] ?_ ?_ ?_ (fun j hj=> ?_) (.inl ?_)
  rotate_left
  ·omega
  ·omega
  ·exact dx
  ·exact bp
  ·exact bp
  have:=h.sig
  rw[h1]at this;cases this
 |true=>
 by_cases h2:20<s.binds.length
 ·have l7:decide ((s.binds.length:Int)>20)=true:=by simp;omega
  refine Qx l7 ?_
  refine jK (fun h=> ?_) _ _ (nx+4) [] ?_ ?_ ?_ (fun j hj=> ?_) (.inl ?_)
  rotate_left
  ·omega
  ·omega
  ·exact dx
  ·exact bp
  ·exact bp
  have:=h.gA.len
  omega
 have l7:decide ((s.binds.length:Int)>20)=false:=by simp;omega
 by_cases h3:12<s.aD.length
 ·have j7:decide ((s.aD.length:Int)>12)=true:=by simp;omega
  refine Qx (ae l7 j7) ?_
  refine jK (fun h=> ?_) _ _ (nx+4) [] ?_ ?_ ?_ (fun j hj=> ?_) (.inl ?_)
  rotate_left
  ·omega
  ·omega
  ·exact dx
  ·exact bp
  ·exact bp
  have:=h.sI
  omega
 have j7:decide ((s.aD.length:Int)>12)=false:=by simp;omega
 by_cases h4:8<s.marks.length
 ·have KH:decide ((s.marks.length:Int)>8)=true:=by simp;omega
  refine Qx (ae l7 (ae j7 KH)) ?_
  refine jK (fun h=> ?_) _ _ (nx+4) [] ?_ ?_ ?_ (fun j hj=> ?_) (.inl ?_)
  rotate_left
  ·omega
  ·omega
  ·exact dx
  ·exact bp
  ·exact bp
  have:=h.EW
  omega
 have KH:decide ((s.marks.length:Int)>8)=false:=by simp;omega
 refine Qx (ae l7 (ae j7 KH)) ?_
 have fin:∀ (m:List (Int×Tm)) (M:aa),(M=dk m\/M= .bZ (enc (D.int .i64) (jR m)))->∀O n,nx+7<=n->Good O n->(∀j,j<nx+7->j≠nx+1->O j=yD o nx s M j)-> ¬bn s->K (.cf [.agg (s.row++[.mp (nx+4)]), .d (.bool false)]) O n:=fun m M hM O n i1 i2 i3 i4=>
  jK i4 O n (nx+4) m ad ad i2 (fun j hj=>by rw[i3 j (by omega) (by omega),O9 _ _ _ _ (by omega) (by omega) (by omega) (by omega)]) (by rw[i3 (nx+4) (by omega) (by omega),kpH_4];exact hM)
 refine aC (fun k:Nat=>⟨aY (.ai:: .ptr nx 0:: .ptr (nx+1) 0:: .ai:: .ptr (nx+6) 0::dy (dy (dy (dy [.ai, .ai, .ai, .ai, .ai, .ai, .d (.sl (s.binds.map TB.d)), .d (.i s.binds.length), .d (.i k)])))),yD o nx s (dk (ag (s.binds.take k))),nx+7⟩)
  (fun k=>k<=s.binds.length/\((ag (s.binds.take k)).map (·.1)).Nodup/\∀x∈s.binds.take k,(0<=x.var/\x.var<20)/\bT s.sig x.term=true) (fun k=>s.binds.length - k) 0 ⟨Nat.zero_le _,List.nodup_nil,fun x hx=>by simp at hx⟩ (bM.bQ _ (show nx<=nx+7 from ad) ad (sL hg s (by rfl)) (fun j hj=> ?_) ?_) (fun k hk=> ?_)
 ·exact SB o nx s j
 ·exact dU
 obtain⟨hk,yR,a8⟩:=hk
 have Sn:bn s->((ag (s.binds.take (k+1))).map (·.1)).Nodup:=fun h=>h.gA.keys.sublist (((List.take_sublist _ _).map _).map _)
 have hgk:=sL (m:=dk (ag (s.binds.take k))) hg s rfl
 have EZ:=hg
 clear hg
 have hg:=hgk
 have e0:=kpH_0 o nx s (dk (ag (s.binds.take k)))
 have e1:=kpH_1 o nx s (dk (ag (s.binds.take k)))
 have e4:=kpH_4 o nx s (dk (ag (s.binds.take k)))
 have e6:=kpH_6 o nx s (dk (ag (s.binds.take k)))
 refine dQ (ae e0 (ae e1 (ae e4 e6))) ?_
 refine ak (fun h5=> ?_) (fun h5=> ?_)
 ·replace h5:k<s.binds.length:=by simp at h5;omega
  obtain⟨x,hx⟩:=aA h5
  have cj:=List.mem_of_getElem? hx
  have qW:=xZ s.binds hx
  have hnk:∀ (P:Prop),(jG s.sig s.binds->P)->(bn s->P):=fun P h hs=>h hs.gA
  cases hl:bR (ag (s.binds.take k)) x.var with
  |some z=>
   obtain⟨jz,hj⟩:=gI hl
   refine dQ (ae e0 (ae e1 (ae e4 (ae e6 (ae hx hj))))) ?_
   refine fin _ _ (.inl rfl) _ _ ad dx (fun j j1 j2=>bp) (fun h=> ?_)
   have h7:=Sn h
   rw[qW,List.map_append,List.nodup_append]at h7
   exact h7.2.2 x.var (List.mem_map.2 ⟨_,cm hl,rfl⟩) x.var aF rfl
  |none=>
   have L3:=dS hl
   by_cases h6:x.var<0
   ·have h6':decide (x.var<0)=true:=decide_eq_true h6
    refine dQ (ae e0 (ae e1 (ae e4 (ae e6 (ae hx (ae L3 h6')))))) ?_
    refine fin _ _ (.inl rfl) _ _ ad dx (fun j j1 j2=>bp) (fun h=> ?_)
    have:=(h.gA.ok x cj).1
    omega
   have h6':decide (x.var<0)=false:=decide_eq_false h6
   by_cases h7:20<=x.var
   ·have h7':decide (x.var≥20)=true:=decide_eq_true h7
    refine dQ (ae e0 (ae e1 (ae e4 (ae e6 (ae hx (ae L3 (ae h6' h7'))))))) ?_
    refine fin _ _ (.inl rfl) _ _ ad dx (fun j j1 j2=>bp) (fun h=> ?_)
    have:=(h.gA.ok x cj).1
    omega
   have h7':decide (x.var≥20)=false:=decide_eq_false h7
   refine dQ (ae e0 (ae e1 (ae e4 (ae e6 (ae hx (ae L3 (ae h6' h7'))))))) ?_
   refine ax (o6 s hs.sig (ag (s.binds.take k)) x.term (hs.bt x cj)) rfl ?_
   cases hv:bT s.sig x.term with
   |false=>
    refine dQ (ae e0 (ae e1 (ae e4 e6))) ?_
    refine fin _ _ (.inl rfl) _ _ ad dx (fun j j1 j2=>bp) (fun h=> ?_)
    have:=(h.gA.ok x cj).2
    rw[hv]at this;cases this
   |true=>
    have has:=xV (x:=x.term) hl
    refine dQ (ae e0 (ae e1 (ae e4 (ae e6 has)))) ?_
    refine aj (k+1) ⟨h5, ?_,fun y hy=> ?_⟩ ad (bM.bQ _ (show nx<=nx+7 from ad) ad (sL EZ s (by rfl)) (fun j hj=> ?_) ?_)
    ·rw[qW,List.map_append,List.nodup_append]
     refine⟨yR,aF,fun a ha c hc e=> ?_⟩
     simp at hc
     rw[e,hc]at ha
     exact kW.1 hl ha
    ·rw[List.take_add_one,hx]at hy
     rcases List.mem_append.1 hy with hy|hy
     ·exact a8 y hy
     ·simp at hy
      subst hy
      exact⟨ad,hv⟩
    ·have hj:j<nx+7:=hj
     rw[qW, <- Jr o nx s (dk (ag (s.binds.take k)))]
     by_cases e:j=nx+4
     ·exact qq
     ·exact bp
    ·exact dU
 ·replace h5:k=s.binds.length:=by simp at h5;omega
  subst h5
  rw[List.take_length]at yR a8 e0 e1 e4 e6|-
  refine c9 (ae e0 (ae e1 (ae e4 e6))) ?_
  obtain⟨b,hb⟩:∃b,b=ag s.binds:=⟨_,rfl⟩
  have oZ:∀p∈b,p.2.fits:=fun p hp=>by
   rw[hb]at hp
   obtain⟨x,hx,rfl⟩:=cz hp
   exact(hs.bt x hx).fits
  have HZ:∀p∈b,Vs s.sig p.2:=fun p hp=>by
   rw[hb]at hp
   obtain⟨x,hx,rfl⟩:=cz hp
   exact(bc (a8 x hx).2).1
  rw[<- hb]at yR|-
  clear hg hgk
  have hg:=sL (m:= .bZ (enc (D.int .i64) (jR b))) EZ s (by rfl)
  have f0:=kpH_0 o nx s (.bZ (enc (D.int .i64) (jR b)))
  have f1:=kpH_1 o nx s (.bZ (enc (D.int .i64) (jR b)))
  have f4:=kpH_4 o nx s (.bZ (enc (D.int .i64) (jR b)))
  have f6:=kpH_6 o nx s (.bZ (enc (D.int .i64) (jR b)))
  clear e0 e1 e4 e6
  refine aC (fun i:List (Int×Tm)×Option (D×D)=>⟨aY (.ai:: .ptr nx 0:: .ptr (nx+1) 0:: .ai:: .ptr (nx+6) 0::dy (dy (dy (dy (dy (dy (dy (dy (dy (dy [.ptr (nx+10) 0])))))))))),aw (yD o nx s (.bZ (enc (D.int .i64) (jR b)))) (nx+10) (.s8 (enc (D.int .i64) (jR i.1)) i.2),nx+11⟩)
   (fun i=>(∀p∈i.1,p∈b)/\∀p∈b,p∉i.1-> ¬oY b p.1 p.2) (fun i=>i.1.length) (b,none) ⟨fun _ h=>h,fun p h h'=>absurd h h'⟩ (bM.bQ _ (show nx<=nx+11 from ad) ad dx (fun j hj=> ?_) ?_) ?_
  ·dsimp only
   by_cases e:j=nx+10
   ·subst e;rw[ab,ab]
   ·rw[af _ _ _ _ e,af _ _ _ _ e,Jr]
  ·exact dU
  rintro⟨rest,last⟩ ⟨hr,hd⟩
  dsimp only at hr hd|-
  refine c9 (ae f0 (ae f1 (ae f4 f6))) ?_
  refine tZ (fun h0=> ?_) fun i v x hm=> ?_
  ·subst h0
   have Pb:ZY b:=fun v x hx=>hd (v,x) (cm hx) aF
   have vm:=jr (by rw[<- hb];exact yR) a8 (by rw[<- hb];exact Pb)
   rw[<- hb]at vm
   obtain⟨l',ρ,R,hS,hl⟩:=vm
   have hle:∀p∈b,∃f r,tc f b p.2 40 12=some r:=fun p hp=>by
    exact Uy
   obtain⟨fo,CG⟩:∃fo:Bool,fo=true↔∀p∈b,AE b p.2:=by
    classical
    exact⟨decide (∀p∈b,AE b p.2),aF⟩
   refine c9 (ae f0 (ae f1 (ae f4 f6))) ?_
   refine ax (AF oZ hle CG) rfl ?_
   cases fo with
   |false=>
    refine c9 (ae f0 (ae f1 (ae f4 f6))) ?_
    refine fin _ _ (.inr rfl) _ _ ad dx (fun j j1 j2=>bp) (fun h=> ?_)
    have:=CG.2 fun p hp=>by
     rw[hb]at hp|-
     obtain⟨x,hx,rfl⟩:=cz hp
     exact h.gA.Su x hx
    cases this
   |true=>
    have XJ:jG s.sig s.binds:=⟨ad,by rw[<- hb];exact yR,a8,by rw[<- hb];exact Pb,fun x hx=>by rw[<- hb];exact CG.1 rfl _ (hb ▸ fe hx)⟩
    refine dQ (ae f0 (ae f1 (ae f4 f6))) ?_
    refine aC (fun k:Nat=>⟨aY (.ai:: .ptr nx 0:: .ptr (nx+1) 0:: .ai:: .ptr (nx+6) 0::dy (dy (dy (dy (dy (dy (dy (dy (dy (dy (dy (dy [.ai, .ai, .d (.sl (s.aD.map Nt.d)), .d (.i s.aD.length), .d (.i k)])))))))))))),yD o nx s (.bZ (enc (D.int .i64) (jR b))),nx+7⟩)
     (fun k=>k<=s.aD.length/\∀n∈s.aD.take k,bT s.sig n.a=true/\bT s.sig n.b=true/\ ¬EV b n) (fun k=>s.aD.length - k) 0 ⟨Nat.zero_le _,fun n hn=>by simp at hn⟩ (bM.bQ _ (show nx<=nx+7 from ad) ad hg (fun j hj=> ?_) ?_) (fun k hk=> ?_)
    ·have hj:j<nx+7:=hj
     exact bp
    ·exact dU
    obtain⟨hk,Z9⟩:=hk
    refine dQ (ae f0 (ae f1 (ae f4 f6))) ?_
    refine ak (fun h6=> ?_) (fun h6=> ?_)
    ·replace h6:k<s.aD.length:=by simp at h6;omega
     obtain⟨n,hn⟩:=aA h6
     have yS:=List.mem_of_getElem? hn
     obtain⟨na,nb⟩:=hs.nt n yS
     refine dQ (ae f0 (ae f1 (ae f4 (ae f6 hn)))) ?_
     refine ax (o6 s hs.sig b n.a na) rfl ?_
     cases va:bT s.sig n.a with
     |false=>
      refine c9 (ae f0 (ae f1 (ae f4 f6))) ?_
      refine fin _ _ (.inr rfl) _ _ ad dx (fun j j1 j2=>bp) (fun h=> ?_)
      have:=(h.aD n yS).1
      rw[va]at this;cases this
     |true=>
      refine c9 (ae f0 (ae f1 (ae f4 f6))) ?_
      refine ax (o6 s hs.sig b n.b nb) rfl ?_
      cases vb:bT s.sig n.b with
      |false=>
       refine c9 (ae f0 (ae f1 (ae f4 f6))) ?_
       refine fin _ _ (.inr rfl) _ _ ad dx (fun j j1 j2=>bp) (fun h=> ?_)
       have:=(h.aD n yS).2.1
       rw[vb]at this;cases this
      |true=>
       obtain⟨a1,a2,a3⟩:=bc va
       obtain⟨b1,b2,b3⟩:=bc vb
       have dn:∀p∈b,AE b p.2:=CG.1 rfl
       have za:=lP hS dn a1
       have zb:=lP hS dn b1
       have ua:v8 (R+3+3200) b n.a=some (aO (ag l') n.a):=nP hS 3200 n.a a1 ad
       have ub:v8 (R+3+3200) b n.b=some (aO (ag l') n.b):=nP hS 3200 n.b b1 ad
       have AJ:=wb (n:=n) hS a1 b1
       refine c9 (ae f0 (ae f1 (ae f4 f6))) ?_
       refine ax (AG s oZ n na.fits nb.fits ua ub (Tm.fq _ ad) (Tm.fq _ ad) ad ad) rfl ?_
       cases FR:iH (aO (ag l') n.a) (aO (ag l') n.b)with
       |true=>
        refine c9 (ae f0 (ae f1 (ae f4 f6))) ?_
        refine fin _ _ (.inr rfl) _ _ ad dx (fun j j1 j2=>bp) (fun h=> ?_)
        exact(h.aD n yS).2.2 (hb ▸ AJ.2 ((ek _ _).1 FR))
       |false=>
        refine c9 (ae f0 (ae f1 (ae f4 f6))) ?_
        refine aj (k+1) ⟨h6,fun y hy=> ?_⟩ ad (bM.bQ _ (show nx<=nx+7 from ad) ad hg (fun j hj=> ?_) ?_)
        ·rw[List.take_add_one,hn]at hy
         rcases List.mem_append.1 hy with hy|hy
         ·exact Z9 y hy
         ·simp at hy
          subst hy
          refine⟨va,vb,fun h=> ?_⟩
          rw[(ek _ _).2 (AJ.1 h)]at FR;cases FR
        ·have hj:j<nx+7:=hj
         exact bp
        ·exact dU
    ·replace h6:k=s.aD.length:=by simp at h6;omega
     subst h6
     rw[List.take_length]at Z9
     refine dQ (ae f0 (ae f1 (ae f4 f6))) ?_
     refine aC (fun i:Nat×Int×Int=>⟨aY (.ai:: .ptr nx 0:: .ptr (nx+1) 0:: .ai:: .ptr (nx+6) 0::dy (.ptr (nx+8) 0::dy (dy (dy (dy (dy (dy (dy (dy (dy (dy (dy (dy (dy (dy [.ai, .ai, .ai, .d (.sl (s.marks.map uh)), .d (.i s.marks.length), .d (.i i.1)]))))))))))))))),aw (yD o nx s (.bZ (enc (D.int .i64) (jR b)))) (nx+8) (.row [.d (.i i.2.1), .d (.i i.2.2)]),nx+9⟩)
      (fun i=>i.1<=s.marks.length/\ui s.binds.length s.aD.length i.2 (s.marks.drop i.1)=ui s.binds.length s.aD.length (0,0) s.marks) (fun i=>s.marks.length - i.1) (0,0,0) ⟨Nat.zero_le _,rfl⟩ (bM.bQ _ (show nx<=nx+9 from ad) ad dx (fun j hj=>bp) ?_) ?_
     ·exact dU
     rintro⟨k,l1,l2⟩ ⟨hk,mV⟩
     dsimp only at hk mV|-
     refine dQ (ae f0 (ae f1 (ae f4 f6))) ?_
     refine ak (fun h7=> ?_) (fun h7=> ?_)
     ·replace h7:k<s.marks.length:=by simp at h7;omega
      obtain⟨⟨m1,m2⟩,hm⟩:=aA h7
      have ES:s.marks.drop k=(m1,m2)::s.marks.drop (k+1):=by
       obtain⟨i1,i2⟩:=List.getElem?_eq_some_iff.1 hm
       exact FB
      rw[ES,ui]at mV
      dsimp only at mV
      cases g1:decide (m1<l1)with
      |true=>
       rw[g1]at mV
       simp only[Bool.true_or,Bool.or_true,Bool.not_true,Bool.false_and]at mV
       refine dQ (ae f0 (ae f1 (ae f4 (ae f6 (ae hm (ae hm g1)))))) ?_
       exact QK
      |false=>
      rw[g1]at mV
      cases g2:decide (m1>(s.binds.length:Int))with
      |true=>
       rw[g2]at mV
       simp only[Bool.true_or,Bool.or_true,Bool.not_true,Bool.false_and]at mV
       refine dQ (ae f0 (ae f1 (ae f4 (ae f6 (ae hm (ae g1 g2)))))) ?_
       exact QK
      |false=>
      rw[g2]at mV
      cases g3:decide (m2<l2)with
      |true=>
       rw[g3]at mV
       simp only[Bool.true_or,Bool.or_true,Bool.not_true,Bool.false_and]at mV
       refine dQ (ae f0 (ae f1 (ae f4 (ae f6 (ae hm (ae g1 (ae g2 g3))))))) ?_
       exact QK
      |false=>
      rw[g3]at mV
      cases g4:decide (m2>(s.aD.length:Int))with
      |true=>
       rw[g4]at mV
       simp only[Bool.true_or,Bool.or_true,Bool.not_true,Bool.false_and]at mV
       refine dQ (ae f0 (ae f1 (ae f4 (ae f6 (ae hm (ae g1 (ae g2 (ae g3 g4)))))))) ?_
       exact QK
      |false=>
      rw[g4]at mV
      simp only[Bool.or_false,Bool.not_false,Bool.true_and]at mV
      refine dQ (ae f0 (ae f1 (ae f4 (ae f6 (ae hm (ae g1 (ae g2 (ae g3 g4)))))))) ?_
      refine aj (k+1,m1,m2) ⟨h7,mV⟩ iT (bM.bQ _ (show nx<=nx+9 from ad) ad dx (fun j hj=> ?_) ?_)
      ·have hj:j<nx+9:=hj
       by_cases e:j=nx+8
       ·exact qq
       ·exact bp
      ·exact dU
     ·replace h7:k=s.marks.length:=by simp at h7;omega
      subst h7
      rw[List.drop_length]at mV
      refine c9 (ae f0 (ae f1 (ae f4 f6))) ?_
      refine x9 ⟨h1,ad,ad,XJ,fun n hn=> ?_,mV.symm⟩ _ _ (nx+4) ad dx (fun j hj=> ?_) ?_
      ·rw[<- hb];exact Z9 n hn
      ·(repeat first|rfl|rw[ab]|rw[af _ _ _ _ (by omega)]);exact O9 _ _ _ _ ad ad ad ad
      ·(repeat first|rfl|rw[ab]|rw[af _ _ _ _ (by omega)]);rw[f4,hb]
  ·have jD:=List.mem_of_getElem? hm
   have Qi:=hr _ jD
   have wx:=qU hm
   have hlen:(rest.eraseIdx i).length<rest.length:=by
    exact Xp
   obtain⟨is,G5⟩:∃is:Bool,is=true↔oY b v x:=by
    classical
    exact⟨decide (oY b v x),aF⟩
   refine c9 (ae f0 (ae f1 (ae f4 f6))) ?_
   refine ax (Jl HZ oZ v x (HZ _ Qi) (oZ _ Qi) G5) rfl ?_
   cases is with
   |true=>
    refine c9 (ae f0 (ae f1 (ae f4 f6))) ?_
    refine fin _ _ (.inr rfl) _ _ ad dx (fun j j1 j2=>bp) (fun h=> ?_)
    exact h.gA.Fu v x ((fN h.gA.keys).2 (hb ▸ Qi)) (hb ▸ G5.1 rfl)
   |false=>
    refine c9 (ae f0 (ae f1 (ae f4 f6))) ?_
    refine aj (rest.eraseIdx i,some (.int .i64 v,x.d)) ⟨fun p hp=>hr p (wx.mem_iff.1 (List.mem_cons_of_mem _ hp)),fun p hp hpn=> ?_⟩ hlen (bM.bQ _ (show nx<=nx+11 from ad) ad dx (fun j hj=> ?_) ?_)
    ·by_cases e:p=(v,x)
     ·subst e
      exact fun h=>Bool.false_ne_true (G5.2 h)
     ·exact hd p hp fun uF=>by
       rcases List.mem_cons.1 (wx.mem_iff.2 uF)with h|h
       ·exact e h
       ·exact hpn h
    ·have hj:j<nx+11:=hj
     by_cases e:j=nx+10
     ·exact qq
     ·exact bp
    ·exact dU
structure Srt (s:az) (l:List TB):Prop where
 ZW:l.Pairwise fun x y=>x.var<y.var
 ok:∀x∈l,(0<=x.var/\x.var<20)/\Vs s x.term
structure MS (b:List (Int×Tm)) (l:List TB):Prop where
 keys:(b.map (·.1)).Nodup
 lk:∀v,bR b v=bR (ag l) v
theorem ya(l:List TB)(hl:l.length<=1000000)(hf:∀x∈l,x.term.fits):a7 Tryz.prog 60 [.sl (l.map TB.d), .sl (l.map TB.d)] (.ret [.bool true]):=by
 refine a7.aH mix ad8 aF ?_
 rw[c60]
 simp+contextual (disch:=first|omega|simp only[go_sem,false_implies]) only[go_sem,wrap64,if_pos,List.length_map,bne_self_eq_false]
 refine aC (fun k:Nat=>⟨aY [.d (.sl (l.map TB.d)), .d (.sl (l.map TB.d)), .ai, .ai, .ai, .d (.i k)],fun _=> .no,0⟩)
  (fun k=>k<=l.length) (fun k=>l.length - k) 0 (Nat.zero_le _) (bM.d0 _ ?_) (fun k hk=> ?_)
 ·exact dU
 refine ra ?_
 refine ak (fun h2=> ?_) (fun h2=> ?_)
 ·simp at h2
  obtain⟨x,hx⟩:=aA h2
  have uK:=GM x.term (hf x (List.mem_of_getElem? hx)) x.term (hf x (List.mem_of_getElem? hx))
  rw[xR]at uK
  refine abx hx ?_
  refine bf uK rfl ?_
  refine cS ?_
  refine aL (bN rfl) ?_
  refine cS ?_
  refine aj (k+1) h2 ad (bM.d0 _ ?_)
  exact dU
 ·exact qo
mutual
def Tm.eP:Tm->Prop
 | .mk _ _ kids=>kids.length<=1000/\Tm.zc kids
def Tm.zc:List Tm->Prop
 |[]=>True
 |k::l=>k.eP/\Tm.zc l
end
theorem Tm.E0:∀l:List Tm,Tm.zc l↔∀k∈l,k.eP
 |[]=>by simp[Tm.zc]
 |k::l=>by simp[Tm.zc,Tm.E0 l]
theorem Tm.iS (t:Tm):t.eP↔t.kids.length<=1000/\∀k∈t.kids,k.eP:=by cases t;simp[Tm.eP,Tm.E0,Tm.kids]
theorem Tm.Hb:∀t:Tm,t.sz<=1000->t.eP:=by
 refine Tm.eM fun t ih h=> ?_
 rw[Tm.iS]
 have:=nD t.kids
 have h2:=Tm.iN t
 exact TO
theorem Tm.nI {b:List (Int×Tm)}(hb:∀p∈b,p.2.eP):∀t:Tm,t.eP->(aO b t).eP:=by
 refine Tm.eM fun t ih h=> ?_
 have h':=(Tm.iS t).1 h
 rw[oX]
 split
 ·split
  ·rename_i x hx;exact hb _ (cm hx)
  ·exact h
 ·rw[Tm.iS]
  refine⟨by simp only[Tm.kids,List.length_map];exact h'.1,fun k hk=> ?_⟩
  obtain⟨y,hy,rfl⟩:=List.mem_map.1 hk
  exact ih y hy (h'.2 y hy)
theorem Tm.mN:∀t:Tm,t.eP->t.fits:=by
 refine Tm.eM fun t ih h=> ?_
 have h':=(Tm.iS t).1 h
 rw[Tm.cH]
 exact⟨ad,fun k hk=>ih k hk (h'.2 k hk)⟩
theorem Jt{s:az}:∀t:Tm,Vs s t->t.eP->∀l:List TB,l.length<=100->a7 Tryz.prog 82 [t.d, .sl (l.map TB.d)] (.ret [(aO (ag l) t).d]):=by
 refine Tm.eM fun t ih hv hw l hlen=> ?_
 have hw':=(Tm.iS t).1 hw
 refine a7.aH mix aei aF ?_
 rw[c82]
 by_cases h1:t.op=1
 ·have fP:(t.op==1)=true:=by simpa using h1
  refine gC fP ?_
  refine ax (OH l t.n ad) rfl ?_
  rcases sB l t.n with⟨f1,f2⟩|⟨k,x,f1,f2,f3⟩
  ·have hs:aO (ag l) t=t:=by rw[oX,if_pos h1,f2]
   have f3:decide (0<=findF l t.n)=false:=by simpa using f1
   rw[hs]
   exact qp (ae fP f3)
  ·have hs:aO (ag l) t=x.term:=by rw[oX,if_pos h1,f3]
   rw[hs,f1]
   exact qp (ae fP f2)
 ·have fP:(t.op==1)=false:=by simpa using h1
  have h8':(t.op==8)=false:=by simpa using hv.n8
  rw[eo h1]
  refine gC (ae fP h8') ?_
  refine aC (fun i:Nat=>⟨aY [.ai, .d (.sl (l.map TB.d)), .ptr 0 0, .ai, .ptr 1 0, .ai, .osl 2 0, .d (.i i)],aw (aw (aw (fun _=> .no) 0 (.row t.row)) 1 (.row [.d (.i 0), .d (.i 0), .ao])) 2 (.arr 0 33 3 (((t.kids.take i).map (aO (ag l))).map Tm.d)),3⟩)
   (fun i=>i<=t.kids.length) (fun i=>t.kids.length - i) 0 (Nat.zero_le _) (bM.sj (ty:=33) (sz:=3) (es:=[]) (fun _=>False) .ao 2 _ ad (lt2 (bB rfl ve) (bB rfl ve)) (by rw[ab];simp) (.inl ⟨rfl,rfl,bF⟩) (fun j hj=>bp) (fun _ h=>h.elim) ?_) ?_
  ·exact iV
  rintro k hk
  replace hk:k<=t.kids.length:=hk
  refine ra ?_
  refine ak (fun h2=> ?_) (fun h2=> ?_)
  ·simp at h2
   obtain⟨x,hx⟩:=aA h2
   have cj:=List.mem_of_getElem? hx
   have qW:t.kids.take (k+1)=t.kids.take k++[x]:=by rw[List.take_add_one,hx];rfl
   have e0:(t.kids.take k).length=k:=by rw[List.length_take];omega
   refine eC (ae hx e0) ?_
   refine bC (rs:=[(aO (ag l) x).d]) (ih x cj (hv.lu cj) (hw'.2 x cj) l hlen) ?_
   refine eC (ae hx e0) ?_
   refine aj (k+1) h2 ad (bM.sj (fun j=>j=2) (.osl 2 1) 2 _ ad (lt2 (nC (y:= .row t.row) bp bp (bB rfl ve)) (nC (y:= .row [.d (.i 0), .d (.i 0), .ao]) bp bp (bB rfl ve))) (ab _ _ _) (.inr ⟨2,1,rfl,rfl,by(repeat first|rfl|rw[ab]|rw[af _ _ _ _ (by omega)]);rw[qW,List.map_append,List.map_append];rfl⟩) (fun j hj=>bp) (fun j h h2=>ad) ?_)
   exact iV
  ·simp at h2
   have Dh:k=t.kids.length:=ad
   subst Dh
   rw[List.take_length]
   refine ra ?_
   rw[Tm.D4]
theorem SC{s:az}{t:Tm}(hv:Vs s t):(cQ t).length<=20:=B2 (fun n hn=>hv.range (((cV t).2 n).1 hn)) (cV t).1
theorem E1{s:az}:∀t:Tm,Vs s t->t.eP->a7 Tryz.prog 141 [t.d] (.ret [.sl ((cQ t).map .i)]):=by
 refine Tm.eM fun t ih hv ht=> ?_
 have hw':=(Tm.iS t).1 ht
 refine a7.aH mix aeJ aF ?_
 rw[aeI]
 by_cases h1:t.op=1
 ·refine gC h1 ?_
  rw[sA,if_pos h1]
  rfl
 ·have fP:(t.op==1)=false:=by simpa using h1
  have b1:(t.op !=8)=true:=by simpa using hv.n8
  refine gC fP ?_
  rw[sA,if_neg h1]
  refine aC (fun i:Nat×List Int=>⟨aY [.ai, .ptr 0 0, .ai, .d (.sl (i.2.map .i)), .d (.i i.1)],qN t.row,1⟩)
   (fun i=>i.1<=t.kids.length/\nB t.op t.n t.kids 0 []=nB t.op t.n (t.kids.drop i.1) i.1 i.2/\GU i.2/\∀v∈i.2,0<=v/\v<20) (fun i=>t.kids.length - i.1) (0,[]) ⟨Nat.zero_le _,rfl,List.Pairwise.nil,fun _ h=>by cases h⟩
   (bM.ae2 (fun _=>False) 1 _ ad (lt1 (bB rfl ve)) (fun j hj=>af _ _ _ _ ad) (fun _ h=>h.elim) ?_) ?_
  ·try dsimp only
   exact iV
  rintro⟨k,out⟩ ⟨hk,vV,afn,hrg⟩
  simp only at hk vV afn hrg
  refine cS ?_
  refine ak (fun h2=> ?_) (fun h2=> ?_)
  ·simp at h2
   obtain⟨x,hx⟩:=aA h2
   have cj:=List.mem_of_getElem? hx
   have vx:=hv.lu cj
   have rG:=SC vx
   have ES:t.kids.drop k=x::t.kids.drop (k+1):=by
    obtain⟨h5,h6⟩:=List.getElem?_eq_some_iff.1 hx
    rw[List.drop_eq_getElem_cons h5,h6]
   have part:∀L:List Int,(∀v∈L,v∈cQ x)->GU (qT t.op t.n k L out)/\∀v∈qT t.op t.n k L out,0<=v/\v<20:=fun L hL=>by
    obtain⟨q1,q2⟩:=pA t.op t.n k L out afn
    refine⟨q1,fun v LF=> ?_⟩
    rcases(q2 v).1 LF with h|h
    ·exact hrg v h
    ·exact vx.range (((cV x).2 v).1 (hL v h.1))
   refine gC hx ?_
   refine bC (ih x cj vx (hw'.2 x cj)) ?_
   refine gC hx ?_
   refine aC (fun j:Nat=>⟨aY [.ai, .ptr 0 0, .ai, .d (.sl ((qT t.op t.n k ((cQ x).take j) out).map .i)), .d (.i k), .d (.sl ((cQ x).map .i)), .d (.i j)],qN t.row,1⟩)
    (fun j=>j<=(cQ x).length) (fun j=>(cQ x).length - j) 0 (Nat.zero_le _) (bM.d1 _ (c7 rfl) ad rfl ?_) (fun j hj=> ?_)
   ·exact dU
   refine cS ?_
   refine ak (fun h3=> ?_) (fun h3=> ?_)
   ·simp at h3
    obtain⟨v,LF⟩:=aA h3
    have wJ:=part ((cQ x).take j) (fun v hv=>List.mem_of_mem_take hv)
    have Dh:=B2 wJ.2 wJ.1
    have hc:(t.op !=8||(k:Int)!=1||v !=t.n)=true:=by rw[b1];rfl
    refine gC (ae LF b1) ?_
    refine aL bF ?_
    refine gC LF ?_
    refine bC (aff _ v ad) ?_
    refine cS ?_
    refine aj (j+1) h3 ad (bM.d1 _ (c7 rfl) ad rfl ?_)
    rw[LC LF,if_pos hc]
    exact dU
   ·simp at h3
    refine cS ?_
    rw[List.take_of_length_le (by omega)]
    obtain⟨p1,p2⟩:=part (cQ x) (fun v hv=>hv)
    refine aj (k+1,qT t.op t.n k (cQ x) out) ⟨h2,by rw[vV,ES];rfl,p1,p2⟩ iT (bM.d1 _ (c7 rfl) ad rfl ?_)
    exact dU
  ·simp at h2
   refine cS ?_
   rw[vV,List.drop_eq_nil_of_le (by omega)]
   rfl
theorem Hc(n low high:Int):a7 Tryz.prog 77 [.i n, .i low, .i high] (.ret [.bool (eS n low high)]):=by
 refine a7.aH mix ahz aF ?_
 rw[c77]
 refine cZ ?_
 rfl
theorem mO(s:az)(hs:s.Fits)(t:Tm)(ht:t.fits):a7 Tryz.prog 39 [s.d,t.d] (.ret [.bool (il s t&&fL t)]):=by
 refine a7.aH mix ahd aF ?_
 rw[c39]
 refine cS ?_
 refine ax (ZI s hs t ht) rfl ?_
 cases h:il s t with
 |false=>exact qo
 |true=>
  refine cS ?_
  refine ax (R0 t ht) rfl ?_
  exact qo
theorem yc{s:az}(h:jP s=true)(t:Tm):bT s t=(il s t&&fL t):=by
 unfold bT jQ
 rw[h]
 simp only[List.all_cons,List.all_nil,Bool.and_true,Bool.true_and,qS]
 cases h1:il s t with
 |false=>rfl
 |true=>rw[pz h1]
theorem sM(l:List TB)(n:Int)(hl:l.length<=1000000):a7 Tryz.prog 116 [.sl (l.map TB.d), .i n] (.ret [.i (findF l n)]):=by
 refine a7.aH mix aer aF ?_
 rw[aeq]
 refine cS ?_
 refine aC (fun k:Nat=>⟨aY [.d (.sl (l.map TB.d)), .d (.i n), .ai, .ai, .ai, .d (.i k)],fun _=> .no,0⟩)
  (fun k=>k<=l.length/\∀j x,j<k->l[j]? =some x->x.var≠n) (fun k=>l.length - k) 0 ⟨Nat.zero_le _,fun _ _ h=>absurd h ad⟩ (bM.d0 _ ?_) (fun k hk=> ?_)
 ·exact dU
 refine ra ?_
 refine ak (fun h2=> ?_) (fun h2=> ?_)
 ·simp at h2
  obtain⟨x,hx⟩:=aA h2
  refine eC hx ?_
  refine ak (fun h3=> ?_) (fun h3=> ?_)
  ·have j7:x.var=n:=by simpa using h3
   have:findF l n=k:=by
    have:l.findIdx? (·.var==n)=some k:=by
     rw[List.findIdx?_eq_some_iff_getElem]
     obtain⟨Dh,e⟩:=List.getElem?_eq_some_iff.1 hx
     refine⟨Dh,by rw[e];simpa using j7,fun j hj=> ?_⟩
     have:=hk.2 j _ hj (List.getElem?_eq_getElem ad)
     simpa using this
    rw[findF,this]
   exact FK
  ·have j7:x.var≠n:=by simpa using h3
   refine cS ?_
   refine aj (k+1) ⟨h2,fun j y hj hy=> ?_⟩ ad (bM.d0 _ ?_)
   ·by_cases e:j=k
    ·exact TS
    ·exact hk.2 j y ad hy
   ·exact dU
 ·simp at h2
  have:findF l n= -1:=by
   have:l.findIdx? (·.var==n)=none:=by
    rw[List.findIdx?_eq_none_iff]
    intro x hx
    obtain⟨j,hj,e⟩:=List.getElem_of_mem hx
    have:=hk.2 j x ad MB
    simpa using this
   rw[findF,this]
  exact FK
theorem Ju(l:List Int)(n:Int)(hl:l.length<=1000000):a7 Tryz.prog 142 [.sl (l.map .i), .i n] (.ret [.bool (l.contains n)]):=by
 refine a7.aH mix aeL aF ?_
 rw[aeK]
 refine cS ?_
 refine aC (fun k:Nat=>⟨aY [.d (.sl (l.map .i)), .d (.i n), .ai, .ai, .ai, .d (.i k)],fun _=> .no,0⟩)
  (fun k=>k<=l.length/\(l.take k).contains n=false) (fun k=>l.length - k) 0 ⟨Nat.zero_le _,aF⟩ (bM.d0 _ ?_) (fun k hk=> ?_)
 ·exact dU
 refine cS ?_
 refine ak (fun h2=> ?_) (fun h2=> ?_)
 ·simp at h2
  obtain⟨x,hx⟩:=aA h2
  refine gC hx ?_
  refine ak (fun h3=> ?_) (fun h3=> ?_)
  ·refine cS ?_
   have:l.contains n=true:=by
    rw[List.contains_iff_mem, <- (by simpa using h3:x=n)];exact List.mem_of_getElem? hx
   rw[this]
  ·refine cS ?_
   refine aj (k+1) ⟨h2, ?_⟩ ad (bM.d0 _ ?_)
   ·have h4: ¬n=x:=fun e=>by subst e;simp at h3
    have h5:=hk.2
    rw[List.take_add_one,hx]
    rw[Bool.eq_false_iff]at h5|-
    intro hc;apply h5
    rw[List.contains_iff_mem]at hc|-
    rcases List.mem_append.1 hc with hc|hc
    ·exact hc
    ·simp at hc;exact absurd hc h4
   ·exact dU
 ·simp at h2
  refine cS ?_
  have:=hk.2
  rw[List.take_of_length_le (by omega)]at this
  rw[this]
def Wu(o:Nat->aa)(nx:Nat)(l:List Int):Nat->aa:=aw o nx (.arr 0 3 1 (l.map D.i))
theorem ilH_0(o:Nat->aa)(nx:Nat)(l:List Int):Wu o nx l nx= .arr 0 3 1 (l.map D.i):=by unfold Wu;rw[ab]
theorem um(o:Nat->aa)(nx:Nat)(l:List Int){j:Nat}(h:j≠nx):Wu o nx l j=o j:=by unfold Wu;rw[af _ _ _ _ h]
theorem uq{o:Nat->aa}{nx b:Nat}(CF:Good o nx)(hb:b<=nx){e:Nat->V}{so:Nat->aa}{m:Nat}(L:List V)(l:List Int){x:V}(gone:Nat->Prop)(tT:∀id,gone id->id<nx->o id= .no)
 (gx:gw so gone 3 1 (l.map D.i) x) (sr:∀j,j<nx->so j=o j\/o j= .no) (he:iL nx [⟨x,3,1,l.map D.i⟩] so gone e L 0):bM b ⟨e,so,m⟩ ⟨aY L,Wu o nx l,nx+1⟩:=by
 refine bM.sj gone x nx L hb (fun j hj=> ?_) (ilH_0 o nx l) gx (fun j hj=> ?_) (fun j h1 h2=>by rw[um _ _ _ (by omega)];exact tT j h1 h2) he
 ·rw[um _ _ _ (by omega)]
  rcases sr j hj with h|h
  ·exact bB h (fun r hr=>CF.refs j r hr)
  ·rw[h];exact lM
 ·rw[um _ _ _ (by omega)]
  exact CF.fresh j ad
def IsL(o:Nat->aa)(x:V)(l:List Int):Prop:=(x= .ao/\l=[])\/∃id ep,x= .osl id ep/\o id= .arr ep 3 1 (l.map D.i)
theorem Pc:∀ (more l:List Int),(qV l more).length<=l.length+more.length
 |[],l=>by simp[qV]
 |u::more,l=>by
  have h1:(eO l u).length<=l.length+1:=by
   unfold eO
   split
   ·omega
   ·rw[List.length_append,List.length_singleton];omega
  have h2:=Pc more (eO l u)
  show(qV (eO l u) more).length<=_
  rw[List.length_cons];omega
theorem IsL.Wv {o:Nat->aa}{x:V}{l:List Int}(h:IsL o x l):gw o (fun _=>True) 3 1 (l.map D.i) x:=by
 rcases h with⟨rfl,rfl⟩|⟨id,ep,rfl,ho⟩
 ·exact .inl ⟨rfl,rfl,bF⟩
 ·exact .inr ⟨id,ep,trivial,rfl,ho⟩
theorem Pf(l more:List Int)(hl:l.length<=100000)(hm:more.length<=100000){x:V}{o:Nat->aa}{nx:Nat}(hg:Good o nx)(hx:IsL o x l){K X:V->(Nat->aa)->Nat->Prop}
 (hK:∀y o' nx',nx<=nx'->Good o' nx'->(∀j,j<nx->(∀ep,x≠ .osl j ep)->o' j=o j)->IsL o' y (qV l more)->K y o' nx'):bJ Tryz.prog 140 [x, .d (.sl (more.map D.i))] o nx K X:=by
 refine bJ.aH mix aeH aF ?_
 rw[aeG]
 refine gB ?_
 obtain⟨o0,gone,c1,c2,c3,c4,c5⟩:∃ (o0:Nat->aa) (gone:Nat->Prop),Good o0 nx/\(∀j,j<nx->o j=o0 j\/o0 j= .no)/\(∀id,gone id->id<nx->o0 id= .no)/\gw o gone 3 1 (l.map D.i) x/\(∀j,j<nx->(∀ep,x≠ .osl j ep)->o0 j=o j):=by
  rcases hx with⟨rfl,rfl⟩|⟨id,ep,rfl,ho⟩
  ·exact⟨o,fun _=>False,hg,fun j _=> .inl rfl,fun _ h=>h.elim, .inl ⟨rfl,rfl,bF⟩,fun j _ _=>rfl⟩
  ·have ay:id<nx:=hg.lt MF
   refine⟨aw o id .no,(· =id),hg.aw ay rfl,fun j hj=> ?_,fun j e _=>by rw[e,ab], .inr ⟨id,ep,rfl,rfl,ho⟩,fun j hj fS=> ?_⟩
   ·by_cases e:j=id
    ·subst e;rw[ab];exact .inr rfl
    ·rw[af _ _ _ _ e];exact .inl rfl
   ·by_cases e:j=id
    ·subst e;exact absurd rfl (fS ep)
    ·exact HQ
 refine aC (fun k:Nat=>⟨aY [.osl nx 0, .d (.sl (more.map D.i)), .ai, .ai, .ai, .d (.i k)],Wu o0 nx (qV l (more.take k)),nx+1⟩)
  (fun k=>k<=more.length) (fun k=>more.length - k) 0 (Nat.zero_le _) (uq c1 (Nat.le_refl _) _ (qV l []) gone c3 c4 c2 ?_) (fun k hk=> ?_)
 ·exact iV
 replace hk:k<=more.length:=hk
 have q0:=ilH_0 o0 nx (qV l (more.take k))
 have hlen:=Pc (more.take k) l
 rw[List.length_take]at hlen
 refine dQ q0 ?_
 refine ak (fun h2=> ?_) (fun h2=> ?_)
 ·replace h2:k<more.length:=by simp at h2;omega
  obtain⟨v,hv⟩:=aA h2
  have qW:qV l (more.take (k+1))=eO (qV l (more.take k)) v:=by unfold qV;rw[List.take_add_one,hv,List.foldl_append];rfl
  refine dQ (ae q0 hv) ?_
  refine ax (Ju (qV l (more.take k)) v ad) rfl ?_
  cases hc:(qV l (more.take k)).contains v with
  |true=>
   have e1:eO (qV l (more.take k)) v=qV l (more.take k):=by unfold eO;rw[if_pos hc]
   refine dQ q0 ?_
   refine aj (k+1) h2 ad ?_
   rw[qW,e1]
   refine uq c1 (Nat.le_refl _) _ _ (fun id=>nx<=id) (fun id h1 h2=>ad) (x:= .osl nx 0) (.inr ⟨nx,0,Nat.le_refl _,rfl,q0⟩) (fun j hj=> .inl (by rw[um _ _ _ (by omega)])) ?_
   exact iV
  |false=>
   have e1:eO (qV l (more.take k)) v=qV l (more.take k)++[v]:=by unfold eO;rw[if_neg (by rw[hc];exact Bool.false_ne_true)]
   have dR:(qV l (more.take k)).length<=140737488355327/\((qV l (more.take k)).length+1)*8<=140737488355328:=ad
   simp+contextual (disch:=first|omega|simp only[go_sem,false_implies]) only[go_sem,wrap64,if_pos,q0,hv,List.length_map,if_pos dR,Nat.add_assoc,Nat.left_eq_add,Nat.add_eq_left,Nat.add_left_cancel_iff]
   refine aj (k+1) h2 ad ?_
   rw[qW,e1]
   refine uq c1 (Nat.le_refl _) _ _ (fun id=>nx<=id) (fun id h1 h2=>ad) (x:= .osl nx 1) (.inr ⟨nx,1,Nat.le_refl _,rfl,by(repeat first|rfl|rw[ab]|rw[af _ _ _ _ (by omega)]);rw[List.map_append];rfl⟩) (fun j hj=> .inl (by(repeat first|rfl|rw[ab]|rw[af _ _ _ _ (by omega)]);rw[um _ _ _ (by omega)])) ?_
   exact iV
 ·replace h2:k=more.length:=by simp at h2;omega
  subst h2
  rw[List.take_length]at q0|-
  refine c9 q0 ?_
  refine hK _ _ _ ?_ ?_ (fun j hj fS=> ?_) (.inr ⟨nx,0,rfl,q0⟩)
  ·omega
  ·unfold Wu;exact(c1.mono ad).aw ad rfl
  ·rw[um _ _ _ (by omega)];exact c5 j hj fS
theorem Sm.done {s:az}{b:List (Int×Tm)}{t:Tm}{all:List Int}(h:Sm s b t all.length all)(n:Int):n∈all↔oY b n t:=by
 refine⟨fun hn=>h.snd n hn,fun hr=> ?_⟩
 have key:∀x,oY b n x->(∀v,gy v x=true->v∈all)->n∈all:=by
  intro x hr
  induction hr with
  |here h1=>exact fun hs=>hs _ h1
  |step h1 h2 _ ih=>
   intro hs
   refine ih fun u hu=> ?_
   obtain⟨j,hj⟩:=List.mem_iff_getElem?.1 (hs _ h1)
   exact h.cl j (List.getElem?_eq_some_iff.1 hj).1 _ _ hj h2 u hu
 exact key t hr h.fst
theorem Hd{s:az}{l:List TB}(hl:l.length<=1000)(hb:∀p∈ag l,Vs s p.2)(hf:∀p∈ag l,p.2.eP)(n:Int)(t:Tm)(ht:Vs s t)(Z4:t.eP){is:Bool}(G5:is=true↔oY (ag l) n t):
 a7 Tryz.prog 117 [.sl (l.map TB.d),t.d, .i n] (.ret [.bool is]):=by
 have Pg:∀t,Vs s t->(cQ t).length<=100000:=fun t ht=>by
  have hv:=cV t
  have:(cQ t).length<=20:=EL (LB hv.1) fun v h=>ht.range ((hv.2 v).1 h)
  omega
 refine a7.aH mix aet aF ?_
 rw[aes]
 refine cS ?_
 refine bC (E1 t ht Z4) ?_
 refine cS ?_
 refine bI (Pf [] (cQ t) aF (Pg t ht) dx (.inl ⟨rfl,rfl⟩) (fun y o' nx' w1 w2 w3 w4=> ?_))
 refine cS ?_
 refine aC (fun i:Nat×List Int=>⟨aY [.d (.sl (l.map TB.d)), .ai, .d (.i n), .ai, .ai, .ai, .ai, .osl 0 0, .d (.i i.1)],Wu (fun _=> .no) 0 i.2,0+1⟩)
  (fun i=>Sm s (ag l) t i.1 i.2) (fun i=>21 - i.1) (0,qV [] (cQ t)) (Sm.zero ht) (uq Good.nil (Nat.le_refl _) _ _ (fun _=>True) (fun id _ h=>absurd h ad) w4.Wv (fun j hj=>absurd hj ad) ?_) ?_
 ·exact iV
 rintro⟨i,all⟩ hI
 dsimp only at hI|-
 have q0:=ilH_0 (fun _=> .no) 0 all
 have h20:=EL hI.nd hI.rg
 have hle:=hI.le
 refine eC q0 ?_
 refine ak (fun h2=> ?_) (fun h2=> ?_)
 ·replace h2:i<all.length:=by simp at h2;omega
  obtain⟨v,hv⟩:=aA h2
  refine eC (ae q0 hv) ?_
  refine ax (sM l v ad) rfl ?_
  have jS:=hI.succ hb hv
  rcases sB l v with⟨g1,g2⟩|⟨k,x,g1,g2,g3⟩
  ·have LI:decide (findF l v≥0)=false:=by simp;omega
   have e1:ON (ag l) all v=all:=by unfold ON;rw[g2]
   rw[e1]at jS
   refine eC (ae q0 LI) ?_
   refine aj (i+1,all) jS iT (uq Good.nil (Nat.le_refl _) _ _ (fun _=>True) (fun id _ h=>absurd h ad) (x:= .osl 0 0) (.inr ⟨0,0,trivial,rfl,q0⟩) (fun j hj=>absurd hj ad) ?_)
   exact iV
  ·have LI:decide (((k:Nat):Int)≥0)=true:=aF
   have e1:ON (ag l) all v=qV all (cQ x.term):=by unfold ON;rw[g3]
   rw[e1]at jS
   have cj:=fe (List.mem_of_getElem? g2)
   refine eC (ae q0 (ae g1 (ae LI g2))) ?_
   refine bC (E1 x.term (hb _ cj) (hf _ cj)) ?_
   refine eC q0 ?_
   refine bI (Pf all (cQ x.term) ad (Pg _ (hb _ cj)) (Good.aw Good.nil ad rfl) (.inr ⟨0,0,rfl,q0⟩) (fun y o2 nx2 u1 u2 u3 u4=> ?_))
   refine cS ?_
   refine aj (i+1,qV all (cQ x.term)) jS iT (uq Good.nil (Nat.le_refl _) _ _ (fun _=>True) (fun id _ h=>absurd h ad) u4.Wv (fun j hj=>absurd hj ad) ?_)
   exact iV
 ·replace h2:i=all.length:=by simp at h2;omega
  subst h2
  have:is=all.contains n:=by rw[Bool.eq_iff_iff,G5,List.contains_iff_mem];exact(hI.done n).symm
  refine eC q0 ?_
  refine ax (Ju all n ad) rfl ?_
  exact FK
def SD:IC:=RW.snd.snd
theorem He{l:List TB}{F:Tm->Int->Option Int}{x:Tm}(hx:x.fits){n:Int}{d:Nat}{r:Int}(hn:0<=n/\n<=1000)(hd:d<=1000)(hF:∀k m q,0<=m->F k m=some q-> -1<=q/\q<=m)
 (ih:∀k∈x.kids,∀m q d',d=d'+1->0<=m/\m<=1000->F k m=some q->a7 Tryz.prog 143 [.sl (l.map TB.d),k.d, .i m, .i d'] (.ret [.i q]))
 (h:(match d with|0=>some (-1)|_+1=>AD F x.kids (n - 1))=some r) {e:Nat->V} {o:Nat->aa} {nx:Nat} (hg:Good o nx) (e0:e 0= .d (.sl (l.map TB.d))) (e2:e 2= .d (.i n)) (e3:e 3= .d (.i d)) (e5:e 5= .ptr 0 0) (ho:o 0= .row x.row) (h1:1<=nx):
 kQ Tryz.prog 55 0 false SD (Bj Tryz.prog [.tmp 8] (.ret [.i r])) ⟨e,o,nx⟩:=by
 have Z0:=(Tm.cH x).1 hx
 simp only[SD,RW,IC.snd]
 cases d with
 |zero=>
  cases h
  exact qp (ae e0 (ae e2 (ae e3 (ae e5 ho))))
 |succ d=>
  dsimp only at h
  have Rc:(((d+1:Nat):Int)==0)=false:=by rw[beq_eq_false_iff_ne];omega
  refine gC (ae e0 (ae e2 (ae e3 (ae e5 (ae ho Rc))))) ?_
  refine aC (fun i:Nat×Int=>⟨aY [.d (.sl (l.map TB.d)), .ai, .d (.i i.2), .d (.i (d+1:Nat)), .ai, .ptr 0 0, .ai, .ai, .ai, .ai, .d (.i i.1)],aw (fun _=> .no) 0 (.row x.row),1⟩)
   (fun i=>i.1<=x.kids.length/\AD F (x.kids.drop i.1) i.2=some r/\ -1<=i.2/\i.2<=1000) (fun i=>x.kids.length - i.1) (0,n - 1) ⟨Nat.zero_le _,h,by dsimp only;omega,by dsimp only;omega⟩ (bM.bQ _ ad ad (Good.aw Good.nil ad rfl) (fun j hj=> ?_) ?_) ?_
  ·have hj:j<1:=hj
   have:j=0:=ad
   subst this
   rw[ab];exact ho
  ·exact o8 (gW e0) (gQ (o8 rfl (o8 (gW e3) (gQ (Hw (gW e5) pM (gQ (gQ (gQ (gQ (o8 rfl zh))))))))))
  rintro⟨k,m⟩ ⟨hk,hl,LX,Qg⟩
  simp only at hk hl LX Qg
  by_cases h2:k<x.kids.length
  ·have l7:decide ((k:Int)<(x.kids.length:Int))=true:=by simp;omega
   obtain⟨y,hy⟩:=aA h2
   have R3:=List.mem_of_getElem? hy
   have ES:x.kids.drop k=y::x.kids.drop (k+1):=by
    obtain⟨i1,i2⟩:=List.getElem?_eq_some_iff.1 hy
    exact FB
   rw[ES]at hl
   simp only[AD]at hl
   by_cases h0:m<0
   ·have Bd:decide (m≥0)=false:=by simp;omega
    rw[if_pos h0]at hl
    cases hl
    exact rk (ae hy (ae l7 Bd))
   ·have Bd:decide (m≥0)=true:=by simp;omega
    rw[if_neg h0]at hl
    cases e:F y m with
    |none=>rw[e]at hl;cases hl
    |some q=>
    rw[e]at hl
    have hq:=hF y m q ad e
    refine eC (ae hy (ae l7 Bd)) ?_
    rw[show(((d+1:Nat):Int) - 1)=((d:Nat):Int) by omega]
    refine ax (ih y R3 m q d rfl ad e) rfl ?_
    refine cS ?_
    refine aj (k+1,q) ⟨h2,hl,by dsimp only;omega,by dsimp only;omega⟩ iT (bM.bQ _ ad ad (Good.aw Good.nil ad rfl) (fun j hj=>rfl) ?_)
    exact dU
  ·have l7:decide ((k:Int)<(x.kids.length:Int))=false:=by simp;omega
   have:k=x.kids.length:=ad
   subst this
   rw[List.drop_length]at hl
   cases hl
   exact rk l7
theorem yd{l:List TB}(hl:l.length<=1000)(oZ:∀p∈ag l,p.2.fits):∀ (f:Nat) (t:Tm) (n:Int) (d:Nat) (r:Int),t.fits->0<=n/\n<=1000->d<=1000->tc f (ag l) t n d=some r->
 a7 Tryz.prog 143 [.sl (l.map TB.d),t.d, .i n, .i d] (.ret [.i r])
 |0,_,_,_,_,_,_,_,h=>by cases h
 |f+1,t,n,d,r,ht,hn,hd,h=>by
  simp only[tc]at h
  cases ha:lU f (ag l) t with
  |none=>rw[ha]at h;cases h
  |some x=>
  rw[ha]at h
  dsimp only at h
  have Z0:=sG oZ f t x ht ha
  have ahY:∀ (d':Nat) (k:Tm) (m q:Int),0<=m->tc f (ag l) k m d'=some q-> -1<=q/\q<=m:=fun d' k m q=>B7 f k m d' q
  have rest:∀ {e:Nat->V} {o:Nat->aa} {nx:Nat},Good o nx->e 0= .d (.sl (l.map TB.d))->e 2= .d (.i n)->e 3= .d (.i d)->e 5= .ptr 0 0->o 0= .row x.row->1<=nx->kQ Tryz.prog 55 0 false SD (Bj Tryz.prog [.tmp 8] (.ret [.i r])) ⟨e,o,nx⟩:=by
   intro e o nx hg e0 e2 e3 e5 ho h1
   refine He (F:=fun k m=>tc f (ag l) k m (d - 1)) Z0 hn hd (fun k m q h1 h2=>ahY _ k m q h1 h2) (fun k hk m q d' he hm hF=> ?_) ?_ hg e0 e2 e3 e5 ho h1
   ·subst he
    exact yd hl oZ f k m d' q ((Tm.cH x).1 Z0 |>.2 k hk) hm ad hF
   ·cases d with
    |zero=>exact h
    |succ d=>exact h
  have chain:∀ (g:Nat) (t:Tm),t.fits->lU g (ag l) t=some x->a7 Tryz.prog 143 [.sl (l.map TB.d),t.d, .i n, .i d] (.ret [.i r]):=by
   intro g
   induction g with
   |zero=>intro t _ h;cases h
   |succ g ihg=>
    intro t ht FV
    simp only[lU]at FV
    refine a7.aH mix aeM aF ?_
    rw[RW]
    show kQ _ _ _ _ (.seq _ (.seq _ SD)) _ _
    by_cases h1:t.op=1
    ·have fP:(t.op==1)=true:=by simpa using h1
     rw[if_pos h1]at FV
     refine gC fP ?_
     refine ax (sM l t.n ad) rfl ?_
     rcases sB l t.n with⟨g1,g2⟩|⟨k,y,g1,g2,g3⟩
     ·have LI:decide (findF l t.n≥0)=false:=by simp;omega
      rw[g2]at FV
      cases FV
      refine gC LI ?_
      exact rest dx rfl rfl rfl rfl rfl ad
     ·have LI:decide (((k:Nat):Int)≥0)=true:=aF
      rw[g3]at FV
      refine eC (ae g1 (ae LI g2)) ?_
      refine ax (ihg y.term (oZ _ (fe (List.mem_of_getElem? g2))) FV) rfl ?_
      exact qo
    ·have fP:(t.op==1)=false:=by simpa using h1
     rw[if_neg h1]at FV
     cases FV
     refine gC fP ?_
     exact rest dx rfl rfl rfl rfl rfl ad
  exact chain f t ht ha
theorem E2{l:List TB}(hl:l.length<=1000)(oZ:∀p∈ag l,p.2.fits)(hle:∀p∈ag l,∃f r,tc f (ag l) p.2 40 12=some r){ok:Bool}(a8:ok=true↔∀x∈l,AE (ag l) x.term):
 a7 Tryz.prog 118 [.sl (l.map TB.d)] (.ret [.bool ok]):=by
 refine a7.aH mix aev aF ?_
 rw[aeu]
 refine cS ?_
 refine aC (fun k:Nat=>⟨aY [.d (.sl (l.map TB.d)), .ai, .ai, .d (.i k)],fun _=> .no,0⟩)
  (fun k=>k<=l.length/\∀x∈l.take k,AE (ag l) x.term) (fun k=>l.length - k) 0 ⟨Nat.zero_le _,fun x hx=>by simp at hx⟩ (bM.d0 _ ?_) (fun k hk=> ?_)
 ·exact dU
 obtain⟨hk,ho⟩:=hk
 refine ra ?_
 refine ak (fun h2=> ?_) (fun h2=> ?_)
 ·replace h2:k<l.length:=by simp at h2;omega
  obtain⟨x,hx⟩:=aA h2
  have cj:=List.mem_of_getElem? hx
  obtain⟨f,r,hf⟩:=hle _ (fe cj)
  have dn:=Jf hf
  refine eC hx ?_
  refine ax (yd hl oZ f x.term 40 12 r (oZ _ (fe cj)) ad ad hf) rfl ?_
  by_cases h0:r<0
  ·have Bd:decide (r<0)=true:=decide_eq_true h0
   have:ok=false:=by
    cases ok with
    |false=>rfl
    |true=>have:=dn.1 (a8.1 rfl x cj);omega
   subst this
   exact qp Bd
  ·have Bd:decide (r<0)=false:=decide_eq_false h0
   refine gC Bd ?_
   refine aj (k+1) ⟨h2,fun y hy=> ?_⟩ ad (bM.d0 _ ?_)
   ·rw[List.take_add_one,hx]at hy
    rcases List.mem_append.1 hy with hy|hy
    ·exact ho y hy
    ·simp at hy
     subst hy
     exact dn.2 ad
   ·exact dU
 ·replace h2:k=l.length:=by simp at h2;omega
  subst h2
  rw[List.take_length]at ho
  have:ok=true:=a8.2 ho
  exact A0
theorem SE{l:List TB}{i:Nat}{x:TB}(hx:l[i]? =some x):findF l x.var<(i:Int)↔x.var∈(ag (l.take i)).map (·.1):=by
 have e:(ag (l.take i)).map (·.1)=(l.take i).map (·.var):=by unfold ag;rw[List.map_map];rfl
 rw[e]
 obtain⟨hi,hxe⟩:=List.getElem?_eq_some_iff.1 hx
 unfold findF
 cases h:l.findIdx? (·.var==x.var)with
 |none=>
  rw[List.findIdx?_eq_none_iff]at h
  have:=h x (List.mem_of_getElem? hx)
  simp at this
 |some k=>
  rw[List.findIdx?_eq_some_iff_getElem]at h
  obtain⟨hk,h1,h2⟩:=h
  dsimp only
  constructor
  ·intro cD
   have cD:k<i:=ad
   refine List.mem_map.2 ⟨l[k], ?_,by simpa using h1⟩
   rw[List.mem_iff_getElem?]
   exact⟨k,by rw[List.getElem?_take,if_pos cD,List.getElem?_eq_getElem hk]⟩
  ·intro hm
   obtain⟨y,hy,hyv⟩:=List.mem_map.1 hm
   obtain⟨j,hj⟩:=List.mem_iff_getElem?.1 hy
   rw[List.getElem?_take]at hj
   split at hj
   ·rename_i hji
    obtain⟨hjl,hje⟩:=List.getElem?_eq_some_iff.1 hj
    rcases Nat.lt_or_ge j k with Uz|Uz
    ·have:=h2 j Uz
     rw[hje]at this
     simp[hyv]at this
    ·omega
   ·cases hj
theorem Hf(s:az)(hs:s.Fits)(sn:jP s=true)(l:List TB)(hl:l.length<=1000)(Jv:∀x∈l,x.term.fits){ok:Bool}(a8:ok=true↔jG s l):
 a7 Tryz.prog 76 [s.d, .sl (l.map TB.d)] (.ret [.bool ok]):=by
 have no: ¬jG s l->ok=false:=fun h=>by
  cases ok with
  |false=>rfl
  |true=>exact absurd (a8.1 rfl) h
 refine a7.aH mix ahy aF ?_
 rw[c76]
 by_cases h20:20<l.length
 ·have aaa:decide ((l.length:Int)>20)=true:=by simp;omega
  have:=no fun h=>by have:=h.len;omega
  subst this
  exact rk aaa
 have aaa:decide ((l.length:Int)>20)=false:=by simp;omega
 refine eC aaa ?_
 refine aC (fun k:Nat=>⟨aY [.ai, .d (.sl (l.map TB.d)), .ptr 0 0, .ai, .ai, .d (.i k)],aw (fun _=> .no) 0 (.row [.d (.sl (s.cons.map fj.d)), .d (.sl (s.ct.map fj.d))]),1⟩)
  (fun k=>k<=l.length/\((ag (l.take k)).map (·.1)).Nodup/\∀x∈l.take k,(0<=x.var/\x.var<20)/\bT s x.term=true) (fun k=>l.length - k) 0 ⟨Nat.zero_le _,List.nodup_nil,fun x hx=>by simp at hx⟩ (bM.bQ _ ad ad dx (fun j hj=>rfl) ?_) (fun k hk=> ?_)
 ·exact dU
 obtain⟨hk,yR,ho⟩:=hk
 refine ra ?_
 refine ak (fun h2=> ?_) (fun h2=> ?_)
 ·replace h2:k<l.length:=by simp at h2;omega
  obtain⟨x,hx⟩:=aA h2
  have cj:=List.mem_of_getElem? hx
  have qW:=xZ l hx
  refine eC hx ?_
  refine bf (Hc x.var 0 19) rfl ?_
  have Cz:eS x.var 0 19=true↔0<=x.var/\x.var<20:=by unfold eS;simp;omega
  cases h6:eS x.var 0 19 with
  |false=>
   have:=no fun h=>by
    have:=Cz.2 (h.ok x cj).1
    rw[h6]at this;cases this
   exact Uo
  |true=>
   refine eC hx ?_
   refine bf (sM l x.var ad) rfl ?_
   have cD:=SE hx
   cases h7:decide (findF l x.var<(k:Int))with
   |true=>
    have:=no fun h=>by
     have h8:=cD.1 (of_decide_eq_true h7)
     have h9:=h.keys.sublist (((List.take_sublist (k+1) l).map _).map _)
     have h9:((ag (l.take (k+1))).map (·.1)).Nodup:=h9
     rw[qW,List.map_append,List.nodup_append]at h9
     exact h9.2.2 x.var h8 x.var aF rfl
    subst this
    refine eC (ae hx h7) ?_
    refine aL (bN rfl) ?_
    exact qo
   |false=>
    refine eC (ae hx h7) ?_
    refine bf (mO s hs x.term (Jv x cj)) rfl ?_
    have hve:=yc sn x.term
    cases h8:(il s x.term&&fL x.term)with
    |false=>
     have:=no fun h=>by
      have:=(h.ok x cj).2
      rw[hve,h8]at this;cases this
     exact Uo
    |true=>
     refine eC hx ?_
     refine aL (bN rfl) ?_
     refine cS ?_
     refine aj (k+1) ⟨h2, ?_,fun y hy=> ?_⟩ ad (bM.bQ _ ad ad dx (fun j hj=>rfl) ?_)
     ·rw[qW,List.map_append,List.nodup_append]
      refine⟨yR,aF,fun a ha c hc e=> ?_⟩
      simp at hc
      rw[e,hc]at ha
      exact of_decide_eq_false h7 (cD.2 ha)
     ·rw[List.take_add_one,hx]at hy
      rcases List.mem_append.1 hy with hy|hy
      ·exact ho y hy
      ·simp at hy
       subst hy
       exact⟨Cz.1 h6,by rw[hve,h8]⟩
     ·exact dU
 ·replace h2:k=l.length:=by simp at h2;omega
  subst h2
  rw[List.take_length]at yR ho
  have HZ:∀p∈ag l,Vs s p.2:=fun p hp=>by
   obtain⟨x,hx,rfl⟩:=cz hp
   exact(bc (ho x hx).2).1
  have oZ:∀p∈ag l,p.2.eP:=fun p hp=>by
   obtain⟨x,hx,rfl⟩:=cz hp
   exact Tm.Hb _ (by have:=(bc (ho x hx).2).2.1;show x.term.sz<=1000;omega)
  refine cS ?_
  refine aC (fun k:Nat=>⟨aY [.ai, .d (.sl (l.map TB.d)), .ai, .ai, .ai, .ai, .d (.i k)],fun _=> .no,0⟩)
   (fun k=>k<=l.length/\∀x∈l.take k, ¬oY (ag l) x.var x.term) (fun k=>l.length - k) 0 ⟨Nat.zero_le _,fun x hx=>by simp at hx⟩ (bM.d0 _ ?_) (fun k hk=> ?_)
  ·exact dU
  obtain⟨hk,hc⟩:=hk
  refine ra ?_
  refine ak (fun h2=> ?_) (fun h2=> ?_)
  ·replace h2:k<l.length:=by simp at h2;omega
   obtain⟨x,hx⟩:=aA h2
   have cj:=List.mem_of_getElem? hx
   obtain⟨is,G5⟩:∃is:Bool,is=true↔oY (ag l) x.var x.term:=by
    classical
    exact⟨decide (oY (ag l) x.var x.term),aF⟩
   refine eC hx ?_
   refine bf (Hd hl HZ oZ x.var x.term (HZ _ (fe cj)) (oZ _ (fe cj)) G5) rfl ?_
   cases is with
   |true=>
    have:=no fun h=>h.Fu x.var x.term ((fN h.keys).2 (fe cj)) (G5.1 rfl)
    subst this
    exact QM
   |false=>
    refine cS ?_
    refine aL (bN rfl) ?_
    refine cS ?_
    refine aj (k+1) ⟨h2,fun y hy=> ?_⟩ ad (bM.d0 _ ?_)
    ·rw[List.take_add_one,hx]at hy
     rcases List.mem_append.1 hy with hy|hy
     ·exact hc y hy
     ·simp at hy
      subst hy
      exact fun h=>Bool.false_ne_true (G5.2 h)
    ·exact dU
  ·replace h2:k=l.length:=by simp at h2;omega
   subst h2
   rw[List.take_length]at hc
   have Pb:ZY (ag l):=fun v t ht=>by
    obtain⟨x,hx,e⟩:=cz (cm ht)
    cases e
    exact hc x hx
   obtain⟨l',ρ,R,hS,vK⟩:=jr yR ho Pb
   have hle:∀p∈ag l,∃f r,tc f (ag l) p.2 40 12=some r:=fun p hp=>by
    exact Uy
   refine cS ?_
   refine ax (E2 (ok:=ok) hl (fun p hp=>Tm.mN _ (oZ p hp)) hle (a8.trans ⟨fun h=>h.Su,fun h=>⟨ad,yR,ho,Pb,h⟩⟩)) rfl ?_
   exact qo
theorem Jw(gone:Nat->Prop)(x:V)(L:List V)(tT:∀id,gone id->12<=id){op n:Int}{ks:List Tm}{k:Nat}{t:Tm}{e:Nat->V}{so:Nat->aa}{m:Nat}(gx:gw so gone 33 3 ((ks.take k).map Tm.d) x)
 (s0:so 0= .row t.row) (s1:so 1= .row [.d (.i 0), .d (.i 0), .ao]) (s11:so 11= .row [.d (.i op), .d (.i n),x]) (he:iL 12 [⟨x,33,3,(ks.take k).map Tm.d⟩] so gone e L 0):bM 0 ⟨e,so,m⟩ ⟨aY L,aw (G2 op n ks k) 0 (.row t.row),12+1⟩:=by
 refine bM.sj gone x 12 L ad (fun j hj=> ?_) (by rw[af _ _ _ _ (by omega)];exact fuH_12 op n ks k) gx (fun j hj=>by rw[af _ _ _ _ (by omega)];exact B9 _ _ _ _ ad ad ad) (fun j h1 h2=>absurd (tT j h1) ad) he
 by_cases e0:j=0
 ·subst e0
  rw[ab]
  exact bB s0 (fun r hr=>by simp[aa.refs,V.aN,V.refs]at hr)
 rw[af _ _ _ _ e0]
 by_cases e1:j=1
 ·subst e1
  rw[fuH_1]
  exact TJ
 ·by_cases e2:j=11
  ·subst e2
   rw[fuH_11]
   exact TQ
  ·rw[B9 _ _ _ _ e1 e2 (by omega)]
   exact lM
theorem ur{l:List TB}(hl:l.length<=1000)(oZ:∀p∈ag l,p.2.fits):∀ (f:Nat) (t y:Tm) (d:Nat),t.fits->d<=1000->Jg f (ag l) t d=some y->y.sz<=1000000->
 a7 Tryz.prog 93 [.sl (l.map TB.d),t.d, .i d] (.ret [y.d, .bool true])
 |0,_,_,_,_,_,h,_=>by cases h
 |f+1,t,y,d,ht,hd,h,hz=>by
  simp only[Jg]at h
  have Z4:=(Tm.cH t).1 ht
  refine a7.aH mix ahH aF ?_
  rw[c93]
  by_cases h1:t.op=1
  ·have fP:(t.op==1)=true:=by simpa using h1
   rw[if_pos h1]at h
   refine gC fP ?_
   refine ax (sM l t.n ad) rfl ?_
   rcases sB l t.n with⟨g1,g2⟩|⟨k,z,g1,g2,g3⟩
   ·have LI:decide (findF l t.n<0)=true:=by simp;omega
    rw[g2]at h
    cases h
    exact qp LI
   ·have LI:decide (((k:Nat):Int)<0)=false:=aF
    rw[g3]at h
    cases d with
    |zero=>cases h
    |succ d=>
     have Rc:(((d+1:Nat):Int)==0)=false:=by rw[beq_eq_false_iff_ne];omega
     refine eC (ae g1 (ae LI (ae g2 Rc))) ?_
     rw[show(((d+1:Nat):Int) - 1)=((d:Nat):Int) by omega]
     refine bC (ur hl oZ f z.term y d (oZ _ (fe (List.mem_of_getElem? g2))) ad h hz) ?_
     exact qo
  ·have fP:(t.op==1)=false:=by simpa using h1
   rw[if_neg h1]at h
   cases hL:EO (fun k=>Jg f (ag l) k d) t.kids with
   |none=>rw[hL]at h;cases h
   |some ks=>
   rw[hL]at h
   cases h
   obtain⟨Dh,Kh⟩:=B8 hL
   have eD:py ks+1<=1000000:=by rw[Tm.iN]at hz;simp only[Tm.kids]at hz;omega
   have hle:=nD ks
   refine gC fP ?_
   refine aC (fun i:Nat=>⟨aY [.d (.sl (l.map TB.d)), .ai, .d (.i d), .ai, .ptr 0 0, .ai, .ptr 1 0, .ai, .ai, .ptr 11 0, .d (.i i)],aw (G2 t.op t.n ks i) 0 (.row t.row),12+1⟩)
    (fun i=>i<=t.kids.length) (fun i=>t.kids.length - i) 0 (Nat.zero_le _) (Jw (fun _=>False) .ao _ (fun _ h=>h.elim) (.inl ⟨rfl,rfl,bF⟩) bp bp bp ?_) (fun k hk=> ?_)
   ·exact iV
   replace hk:k<=t.kids.length:=hk
   have q0:aw (G2 t.op t.n ks k) 0 (.row t.row) 0= .row t.row:=ab _ _ _
   have q1:aw (G2 t.op t.n ks k) 0 (.row t.row) 1= .row [.d (.i 0), .d (.i 0), .ao]:=rfl
   have Sq:aw (G2 t.op t.n ks k) 0 (.row t.row) 11= .row [.d (.i t.op), .d (.i t.n), .osl 12 0]:=rfl
   have Sr:aw (G2 t.op t.n ks k) 0 (.row t.row) 12= .arr 0 33 3 ((ks.take k).map Tm.d):=rfl
   refine eC (ae q0 (ae q1 (ae Sq Sr))) ?_
   refine ak (fun h2=> ?_) (fun h2=> ?_)
   ·replace h2:k<t.kids.length:=by simp at h2;omega
    obtain⟨z,L6⟩:=aA h2
    obtain⟨z',Dc,hF⟩:=Kh k z L6
    have hzm:=List.mem_of_getElem? L6
    have qW:ks.take (k+1)=ks.take k++[z']:=by rw[List.take_add_one,Dc];rfl
    have e0:(ks.take k).length=k:=by rw[List.length_take];omega
    have hzs:z'.sz<=1000000:=by have:=Jk (List.mem_of_getElem? Dc);omega
    have dR:k<=140737488355327/\(k+1)*24<=140737488355328:=ad
    refine eC (ae q0 (ae q1 (ae Sq (ae Sr L6)))) ?_
    refine bC (ur hl oZ f z z' d (Z4.2 z hzm) hd hF hzs) ?_
    simp+contextual (disch:=first|omega|simp only[go_sem,false_implies]) only[go_sem,wrap64,if_pos,q0,q1,Sq,Sr,L6,List.length_map,e0,if_pos dR]
    refine aj (k+1) h2 ad (Jw (fun j=>12<=j) (.osl 12 1) _ (fun _ h=>h) (.inr ⟨12,1,Nat.le_refl _,rfl,by(repeat first|rfl|rw[ab]|rw[af _ _ _ _ (by omega)]);rw[qW,List.map_append];rfl⟩) bp (gW q1) bp ?_)
    exact iV
   ·replace h2:k=t.kids.length:=by simp at h2;omega
    subst h2
    have Z2:aw (G2 t.op t.n ks t.kids.length) 0 (.row t.row) 12= .arr 0 33 3 (ks.map Tm.d):=by rw[Sr, <- Dh,List.take_length]
    refine gC (ae q0 (ae q1 (ae Sq Z2))) ?_
    rw[Tm.D4]
theorem AK{l:List TB}(hl:l.length<=1000)(oZ:∀p∈ag l,p.2.fits){t y:Tm}{f:Nat}(ht:t.fits)(h:Jg f (ag l) t (ag l).length=some y)(hz:y.sz<=1000000):a7 Tryz.prog 42 [.sl (l.map TB.d),t.d] (.ret [y.d]):=by
 have e:(ag l).length=l.length:=by unfold ag;rw[List.length_map]
 rw[e]at h
 refine a7.aH mix ahe aF ?_
 rw[c42]
 refine ra ?_
 refine bC (ur hl oZ f t y l.length ht hl h hz) ?_
 exact qo
theorem u5{l:List TB}(hl:l.length<=1000)(oZ:∀p∈ag l,p.2.fits){n:Nt}{x y:Tm}{f g:Nat}(ha:n.a.fits)(hb:n.b.fits)(hx:Jg f (ag l) n.a (ag l).length=some x)(hy:Jg g (ag l) n.b (ag l).length=some y)(zx:x.sz<=1000000)(zy:y.sz<=1000000):
 a7 Tryz.prog 71 [.sl (l.map TB.d),n.d] (.ret [.bool (iH x y)]):=by
 refine a7.aH mix ahu aF ?_
 rw[c71]
 refine cS ?_
 refine aZ (AK hl oZ ha hx zx) ?_
 refine cS ?_
 refine aZ (AK hl oZ hb hy zy) ?_
 refine cS ?_
 refine bf (GM x (Tm.fq _ zx) y (Tm.fq _ zy)) rfl ?_
 exact QM
theorem aab(nb nn:Int)(l m:Int×Int)(ms:List (Int×Int)):ui nb nn l (m::ms)=(eS m.1 l.1 nb&&eS m.2 l.2 nn&&ui nb nn m ms):=by
 rw[ui]
 congr 1
 unfold eS
 rw[Bool.eq_iff_iff]
 simp
 omega
theorem Hg(s:b9)(hs:s.Fin){ok:Bool}(a8:ok=true↔bn s):a7 Tryz.prog 22 [s.d] (.ret [.bool ok]):=by
 have no: ¬bn s->ok=false:=fun h=>by
  cases ok with
  |false=>rfl
  |true=>exact absurd (a8.1 rfl) h
 have rA:=hs.bl
 have uL:=hs.nl
 have Fq:=hs.ml
 refine a7.aH mix ag3 aF ?_
 rw[c22]
 refine cS ?_
 refine ax (Wi s.sig hs.sig) rfl ?_
 cases h1:jP s.sig with
 |false=>
  have:=no fun h=>by have:=h.sig;rw[h1]at this;cases this
  exact A0
 |true=>
 obtain⟨bo,XJ⟩:∃bo:Bool,bo=true↔jG s.sig s.binds:=by
  classical
  exact⟨decide (jG s.sig s.binds),aF⟩
 refine cS ?_
 refine ax (Hf s.sig hs.sig h1 s.binds rA (fun x hx=>(hs.bt x hx).fits) XJ) rfl ?_
 cases bo with
 |false=>
  have:=no fun h=>Bool.false_ne_true (XJ.2 h.gA)
  exact A0
 |true=>
 have hb:=XJ.1 rfl
 by_cases h3:12<s.aD.length
 ·have j7:decide ((s.aD.length:Int)>12)=true:=by simp;omega
  have:=no fun h=>by have:=h.sI;omega
  subst this
  exact rk j7
 have j7:decide ((s.aD.length:Int)>12)=false:=by simp;omega
 by_cases h4:8<s.marks.length
 ·have KH:decide ((s.marks.length:Int)>8)=true:=by simp;omega
  have:=no fun h=>by have:=h.EW;omega
  subst this
  exact rk (ae j7 KH)
 have KH:decide ((s.marks.length:Int)>8)=false:=by simp;omega
 obtain⟨l',ρ,R,hS,vK⟩:=jr hb.keys hb.ok hb.Fu
 have oZ:∀p∈ag s.binds,p.2.fits:=fun p hp=>by
  obtain⟨x,hx,rfl⟩:=cz hp
  exact(hs.bt x hx).fits
 have dn:∀p∈ag s.binds,AE (ag s.binds) p.2:=fun p hp=>by
  obtain⟨x,hx,rfl⟩:=cz hp
  exact hb.Su x hx
 refine eC (ae j7 KH) ?_
 refine aC (fun k:Nat=>⟨aY [.ai, .ptr 0 0, .ai, .d (.i k)],aw (fun _=> .no) 0 (.row s.row),1⟩)
  (fun k=>k<=s.aD.length/\∀n∈s.aD.take k,bT s.sig n.a=true/\bT s.sig n.b=true/\ ¬EV (ag s.binds) n) (fun k=>s.aD.length - k) 0 ⟨Nat.zero_le _,fun n hn=>by simp at hn⟩ (bM.bQ _ ad ad dx (fun j hj=>rfl) ?_) (fun k hk=> ?_)
 ·exact dU
 obtain⟨hk,ho⟩:=hk
 refine ra ?_
 refine ak (fun h6=> ?_) (fun h6=> ?_)
 ·replace h6:k<s.aD.length:=by simp at h6;omega
  obtain⟨n,hn⟩:=aA h6
  have yS:=List.mem_of_getElem? hn
  obtain⟨na,nb⟩:=hs.nt n yS
  have ea:=yc h1 n.a
  have eb:=yc h1 n.b
  refine eC hn ?_
  refine bf (mO s.sig hs.sig n.a na.fits) rfl ?_
  cases va:(il s.sig n.a&&fL n.a)with
  |false=>
   have:=no fun h=>by have:=(h.aD n yS).1;rw[ea,va]at this;cases this
   exact Xm
  |true=>
   refine eC hn ?_
   refine bf (mO s.sig hs.sig n.b nb.fits) rfl ?_
   cases vb:(il s.sig n.b&&fL n.b)with
   |false=>
    have:=no fun h=>by have:=(h.aD n yS).2.1;rw[eb,vb]at this;cases this
    exact Xm
   |true=>
    obtain⟨a1,a2,a3⟩:=bc (ea.trans va)
    obtain⟨b1,b2,b3⟩:=bc (eb.trans vb)
    have za:=lP hS dn a1
    have zb:=lP hS dn b1
    obtain⟨fa,ua⟩:=B5 hS a1
    obtain⟨fb,ub⟩:=B5 hS b1
    have AJ:=wb (n:=n) hS a1 b1
    refine eC hn ?_
    refine bf (u5 rA oZ (n:=n) na.fits nb.fits ua ub ad ad) rfl ?_
    cases FR:iH (aO (ag l') n.a) (aO (ag l') n.b)with
    |true=>
     have:=no fun h=>(h.aD n yS).2.2 (AJ.2 ((ek _ _).1 FR))
     exact Xm
    |false=>
     refine eC hn ?_
     refine aL (bN rfl) ?_
     refine cS ?_
     refine aj (k+1) ⟨h6,fun y hy=> ?_⟩ ad (bM.bQ _ ad ad dx (fun j hj=>rfl) ?_)
     ·rw[List.take_add_one,hn]at hy
      rcases List.mem_append.1 hy with hy|hy
      ·exact ho y hy
      ·simp at hy
       subst hy
       refine⟨ea.trans va,eb.trans vb,fun h=> ?_⟩
       rw[(ek _ _).2 (AJ.1 h)]at FR;cases FR
     ·exact dU
 ·replace h6:k=s.aD.length:=by simp at h6;omega
  subst h6
  rw[List.take_length]at ho
  have fin:ui s.binds.length s.aD.length (0,0) s.marks=ok:=by
   rw[Bool.eq_iff_iff,a8]
   exact⟨fun h=>⟨h1,ad,ad,hb,ho,h⟩,fun h=>h.marks⟩
  refine ra ?_
  refine aC (fun i:Nat×Int×Int=>⟨aY [.ai, .ptr 0 0, .ai, .ai, .ptr 7 0, .d (.i i.1)],aw (aw (fun _=> .no) 0 (.row s.row)) 7 (.row [.d (.i i.2.1), .d (.i i.2.2)]),8⟩)
   (fun i=>i.1<=s.marks.length/\ui s.binds.length s.aD.length i.2 (s.marks.drop i.1)=ok) (fun i=>s.marks.length - i.1) (0,0,0) ⟨Nat.zero_le _,fin⟩ (bM.bQ _ (show 0<=8 from ad) ad dx (fun j hj=> ?_) ?_) ?_
  ·by_cases e:j=7
   ·exact qq
   ·exact bp
  ·exact dU
  rintro⟨k,l1,l2⟩ ⟨hk,mV⟩
  dsimp only at hk mV|-
  refine ra ?_
  refine ak (fun h7=> ?_) (fun h7=> ?_)
  ·replace h7:k<s.marks.length:=by simp at h7;omega
   obtain⟨⟨m1,m2⟩,hm⟩:=aA h7
   have ES:s.marks.drop k=(m1,m2)::s.marks.drop (k+1):=by
    obtain⟨i1,i2⟩:=List.getElem?_eq_some_iff.1 hm
    exact FB
   rw[ES,aab]at mV
   dsimp only at mV
   refine eC hm ?_
   refine ax (Hc m1 l1 s.binds.length) rfl ?_
   cases g1:eS m1 l1 s.binds.length with
   |false=>
    rw[g1]at mV
    simp only[Bool.false_and]at mV
    subst mV
    exact qo
   |true=>
    rw[g1]at mV
    refine eC hm ?_
    refine ax (Hc m2 l2 s.aD.length) rfl ?_
    cases g2:eS m2 l2 s.aD.length with
    |false=>
     rw[g2]at mV
     simp only[Bool.true_and,Bool.false_and]at mV
     subst mV
     exact qo
    |true=>
     rw[g2]at mV
     simp only[Bool.true_and]at mV
     refine eC hm ?_
     refine aj (k+1,m1,m2) ⟨h7,mV⟩ iT (bM.bQ _ (show 0<=8 from ad) ad dx (fun j hj=> ?_) ?_)
     ·have hj:j<8:=hj
      by_cases e:j=7
      ·exact qq
      ·(repeat first|rfl|rw[ab]|rw[af _ _ _ _ (by omega)]);rw[af _ 7 _ _ e]
     ·exact dU
  ·replace h7:k=s.marks.length:=by simp at h7;omega
   subst h7
   rw[List.drop_length]at mV
   have mV:true=ok:=mV
   subst mV
   exact qo
structure b9.Fits (s:b9):Prop where
 sig:s.sig.Fits
 bl:s.binds.length<=9223372036854775807
 nl:s.aD.length<=9223372036854775807
 ml:s.marks.length<=9223372036854775807
 bt:∀x∈s.binds,x.term.fits
 nt:∀n∈s.aD,n.a.fits/\n.b.fits
structure Ph (s:b9):Prop where
 sig:eW s.sig=true
 bl:s.binds.length<=22
 nl:s.aD.length<=14
 ml:s.marks.length<=10
 bt:∀x∈s.binds,dI x.term=true
 nt:∀n∈s.aD,dI n.a=true/\dI n.b=true
theorem Hh(s:b9)(hs:s.Fits){ok:Bool}(a8:ok=true↔Ph s):a7 Tryz.prog 23 [s.d] (.ret [.bool ok]):=by
 have no: ¬Ph s->ok=false:=fun h=>by
  cases ok with
  |false=>rfl
  |true=>exact absurd (a8.1 rfl) h
 have rA:=hs.bl
 have uL:=hs.nl
 have Fq:=hs.ml
 refine a7.aH mix ag4 aF ?_
 rw[c23]
 refine cS ?_
 refine ax (xG s.sig hs.sig) rfl ?_
 cases h1:eW s.sig with
 |false=>
  have:=no fun h=>by have:=h.sig;rw[h1]at this;cases this
  exact A0
 |true=>
 by_cases h2:22<s.binds.length
 ·have l7:decide ((s.binds.length:Int)>22)=true:=by simp;omega
  have:=no fun h=>by have:=h.bl;omega
  subst this
  exact rk l7
 have l7:decide ((s.binds.length:Int)>22)=false:=by simp;omega
 by_cases h3:14<s.aD.length
 ·have j7:decide ((s.aD.length:Int)>14)=true:=by simp;omega
  have:=no fun h=>by have:=h.nl;omega
  subst this
  exact rk (ae l7 j7)
 have j7:decide ((s.aD.length:Int)>14)=false:=by simp;omega
 by_cases h4:10<s.marks.length
 ·have KH:decide ((s.marks.length:Int)>10)=true:=by simp;omega
  have:=no fun h=>by have:=h.ml;omega
  subst this
  exact rk (ae l7 (ae j7 KH))
 have KH:decide ((s.marks.length:Int)>10)=false:=by simp;omega
 refine eC (ae l7 (ae j7 KH)) ?_
 refine aC (fun k:Nat=>⟨aY [.ai, .ptr 0 0, .ai, .d (.i k)],aw (fun _=> .no) 0 (.row s.row),1⟩)
  (fun k=>k<=s.binds.length/\∀x∈s.binds.take k,dI x.term=true) (fun k=>s.binds.length - k) 0 ⟨Nat.zero_le _,fun n hn=>by simp at hn⟩ (bM.bQ _ ad ad dx (fun j hj=>rfl) ?_) (fun k hk=> ?_)
 ·exact dU
 obtain⟨hk,ho⟩:=hk
 refine ra ?_
 refine ak (fun h6=> ?_) (fun h6=> ?_)
 ·replace h6:k<s.binds.length:=by simp at h6;omega
  obtain⟨x,hx⟩:=aA h6
  have cj:=List.mem_of_getElem? hx
  refine eC hx ?_
  refine ax (pw x.term (hs.bt x cj)) rfl ?_
  cases hv:dI x.term with
  |false=>
   have:=no fun h=>by have:=h.bt x cj;rw[hv]at this;cases this
   exact A0
  |true=>
   refine cS ?_
   refine aj (k+1) ⟨h6,fun y hy=> ?_⟩ ad (bM.bQ _ ad ad dx (fun j hj=>rfl) ?_)
   ·rw[List.take_add_one,hx]at hy
    rcases List.mem_append.1 hy with hy|hy
    ·exact ho y hy
    ·simp at hy
     subst hy
     exact hv
   ·exact dU
 ·replace h6:k=s.binds.length:=by simp at h6;omega
  subst h6
  rw[List.take_length]at ho
  refine ra ?_
  refine aC (fun k:Nat=>⟨aY [.ai, .ptr 0 0, .ai, .ai, .d (.i k)],aw (fun _=> .no) 0 (.row s.row),1⟩)
   (fun k=>k<=s.aD.length/\∀n∈s.aD.take k,dI n.a=true/\dI n.b=true) (fun k=>s.aD.length - k) 0 ⟨Nat.zero_le _,fun n hn=>by simp at hn⟩ (bM.bQ _ ad ad dx (fun j hj=>rfl) ?_) (fun k hk=> ?_)
  ·exact dU
  obtain⟨hk,RA⟩:=hk
  refine ra ?_
  refine ak (fun h6=> ?_) (fun h6=> ?_)
  ·replace h6:k<s.aD.length:=by simp at h6;omega
   obtain⟨n,hn⟩:=aA h6
   have yS:=List.mem_of_getElem? hn
   obtain⟨na,nb⟩:=hs.nt n yS
   refine eC hn ?_
   refine ax (pw n.a na) rfl ?_
   cases va:dI n.a with
   |false=>
    have:=no fun h=>by have:=(h.nt n yS).1;rw[va]at this;cases this
    exact A0
   |true=>
    refine eC hn ?_
    refine ax (pw n.b nb) rfl ?_
    cases vb:dI n.b with
    |false=>
     have:=no fun h=>by have:=(h.nt n yS).2;rw[vb]at this;cases this
     exact A0
    |true=>
     refine cS ?_
     refine aj (k+1) ⟨h6,fun y hy=> ?_⟩ ad (bM.bQ _ ad ad dx (fun j hj=>rfl) ?_)
     ·rw[List.take_add_one,hn]at hy
      rcases List.mem_append.1 hy with hy|hy
      ·exact RA y hy
      ·simp at hy
       subst hy
       exact⟨va,vb⟩
     ·exact dU
  ·replace h6:k=s.aD.length:=by simp at h6;omega
   subst h6
   rw[List.take_length]at RA
   have:ok=true:=a8.2 ⟨h1,ad,ad,ad,ho,RA⟩
   exact A0
theorem Ww:∀ (f:Nat) (t:Tm),t.lL<=f->v8 (f+1) [] t=some t
 |0,t,h=>by rw[Tm.iO]at h;omega
 |f+1,t,h=>by
  have ha:lU (f+1) [] t=some t:=by
   simp only[lU,bR]
   split<;>rfl
  rw[v8,ha]
  show(EO (v8 (f+1) []) t.kids).map (fun ks=>Tm.mk t.op t.n ks)=_
  rw[show EO (v8 (f+1) []) t.kids=some (t.kids.map id)from wa fun k hk=>Ww f k (by have:=Tm.vO hk;omega),List.map_id]
  show some (Tm.mk t.op t.n t.kids)=some t
  rw[Tm.eta]
theorem ye(t:Tm)(hz:t.sz<=1000000):a7 Tryz.prog 107 [t.d] (.ret [t.d]):=by
 refine a7.aH mix VB aF ?_
 rw[YW]
 refine cS ?_
 refine bC (nF (b:=[]) (fun _ h=>by cases h) (t.lL+1) t t (Tm.fq t hz) (Ww _ t (Nat.le_refl _)) hz) ?_
 exact qo
theorem E3(l:List fj)(hl:l.length<=1000000):a7 Tryz.prog 105 [.sl (l.map fj.d)] (.ret [.sl (l.map fj.d)]):=by
 refine a7.aH mix Vz aF ?_
 rw[YU]
 have hu:Tryz.prog.underlying 22=some (.slice 124):=aJ
 cases l with
 |nil=>
  have heq:∀O,th Tryz.prog O 22 true (.d (.sl [])) .ao=some .gh:=by
   intro O
   unfold th
   rw[hu]
   rfl
  simp only[List.map_cons,List.map_nil]
  refine gC heq ?_
  simp only[List.isEmpty_nil,if_true]
  exact qp heq
 |cons a l=>
  have heq:∀O,th Tryz.prog O 22 true (.d (.sl (a.d::l.map fj.d))) .ao=some (.d (.bool false)):=by
   intro O
   unfold th
   rw[hu]
   rfl
  have Nb:(a.d::l.map fj.d).all (fun z=>z.cells.length==2)=true:=by
   rw[List.all_eq_true]
   intro z hz
   obtain⟨r,_,rfl⟩:=List.mem_map.1 (show z∈(a::l).map fj.d from hz)
   rfl
  simp only[List.map_cons,List.map_nil]
  refine gC heq ?_
  simp only[List.isEmpty_nil,if_true]
  refine gC (ae heq Nb) ?_
  rw[List.length_cons]at hl
  rw[if_pos (by omega)]
  exact qo
theorem Hi(l:List (Int×Int))(hl:l.length<=1000000)(o:Nat->aa)(fr:Nat):CD Tryz.prog 106 [.d (.sl (l.map uh))] [] o fr (.osl fr 0) [(fr, .arr 0 77 2 (l.map uh))]:=by
 refine CD.NN (ds:=[.sl (l.map uh)]) ?_
 refine bJ.aH mix VA aF ?_
 rw[YV]
 have hu:Tryz.prog.underlying 27=some (.slice 77):=aJ
 cases l with
 |nil=>
  have heq:∀O,th Tryz.prog O 27 true (.d (.sl [])) .ao=some .gh:=by
   intro O
   unfold th
   rw[hu]
   rfl
  simp only[List.map_cons,List.map_nil]
  refine gC heq ?_
  simp only[List.isEmpty_nil,if_true]
  refine gC heq ?_
  exact .inl ⟨3,1,rfl,ab _ _ _⟩
 |cons a l=>
  have heq:∀O,th Tryz.prog O 27 true (.d (.sl (uh a::l.map uh))) .ao=some (.d (.bool false)):=by
   intro O
   unfold th
   rw[hu]
   rfl
  have Nb:(uh a::l.map uh).all (fun z=>z.cells.length==2)=true:=by
   rw[List.all_eq_true]
   intro z hz
   obtain⟨r,_,rfl⟩:=List.mem_map.1 (show z∈(a::l).map uh from hz)
   rfl
  simp only[List.map_cons,List.map_nil]
  refine gC heq ?_
  simp only[List.isEmpty_nil,if_true]
  refine gC (ae heq Nb) ?_
  rw[List.length_cons]at hl
  rw[if_pos (by omega)]
  refine cS ?_
  exact .inl ⟨3,1,rfl,ab _ _ _⟩
end Go.Proofs.YtlhemmpklhhgoaaGreat
