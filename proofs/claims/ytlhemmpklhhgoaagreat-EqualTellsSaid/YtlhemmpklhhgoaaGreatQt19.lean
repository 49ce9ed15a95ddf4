/-
  A PART OF THE PROOF. Conditions: none.
-/
import Derived.Test.YtlhemmpklhhgoaaGreatQt18
set_option linter.unusedSimpArgs false
set_option linter.unusedVariables false
set_option maxHeartbeats 4000000
namespace Go.Proofs.YtlhemmpklhhgoaaGreat
def xp(o:Nat->ab)(nx:Nat)(s:c6)(m:ab):Nat->ab:=
 ay (ay (ay (ay o nx (.row s.row)) (nx+1) (.row [.ax, .ax, .ax, .ax, .ax, .d .dK])) (nx+4) m) (nx+6) (.row (s.row++[.mp (nx+4)]))
theorem kpH_0(o:Nat->ab)(nx:Nat)(s:c6)(m:ab):xp o nx s m nx= .row s.row:=by
 unfold xp;rw[ae _ _ _ _ (by omega),ae _ _ _ _ (by omega),ae _ _ _ _ (by omega),aa]
theorem kpH_1(o:Nat->ab)(nx:Nat)(s:c6)(m:ab):xp o nx s m (nx+1)= .row [.ax, .ax, .ax, .ax, .ax, .d .dK]:=by
 unfold xp;rw[ae _ _ _ _ (by omega),ae _ _ _ _ (by omega),aa]
theorem kpH_4(o:Nat->ab)(nx:Nat)(s:c6)(m:ab):xp o nx s m (nx+4)=m:=by
 unfold xp;rw[ae _ _ _ _ (by omega),aa]
theorem kpH_6(o:Nat->ab)(nx:Nat)(s:c6)(m:ab):xp o nx s m (nx+6)= .row (s.row++[.mp (nx+4)]):=by unfold xp;rw[aa]
theorem Mu(o:Nat->ab)(nx:Nat)(s:c6)(m:ab){j:Nat}(h0:j≠nx)(h1:j≠nx+1)(h4:j≠nx+4)(h6:j≠nx+6):xp o nx s m j=o j:=by
 unfold xp;rw[ae _ _ _ _ h6,ae _ _ _ _ h4,ae _ _ _ _ h1,ae _ _ _ _ h0]
theorem Hi(o:Nat->ab)(nx:Nat)(s:c6)(m m':ab)(j:Nat):ay (xp o nx s m) (nx+4) m' j=xp o nx s m' j:=by
 by_cases e:j=nx+4
 ·subst e;rw[aa,kpH_4]
 ·rw[ae _ _ _ _ e]
  unfold xp
  by_cases e6:j=nx+6
  ·subst e6;rw[aa,aa]
  ·rw[ae _ _ _ _ e6,ae _ _ _ _ e6,ae _ _ _ _ e,ae _ _ _ _ e]
theorem rp{o:Nat->ab}{nx:Nat}(hg:Good o nx)(s:c6){m:ab}(hm:m.refs=[]):Good (xp o nx s m) (nx+7):=by
 unfold xp
 refine Good.ay (Good.ay (Good.ay (Good.ay (hg.mono af) af rfl) af rfl) af (by rw[hm];rfl)) af qb
theorem Pp(o:Nat->ab)(nx:Nat)(s:c6)(j:Nat):
 ay (ay (ay (ay (ay o nx (.row s.row)) (nx+1) (.row [.ax, .ax, .ax, .ax, .ax, .d .dK])) (nx+4) (dg [])) (nx+6) (.row [.ax, .ax, .ax, .ax, .ax, .d .dK])) (nx+6) (.row (s.row++[.mp (nx+4)])) j=xp o nx s (dg []) j:=by
 unfold xp
 by_cases e:j=nx+6
 ·subst e;rw[aa,aa]
 ·rw[ae _ _ _ _ e,ae _ _ _ _ e,ae _ _ _ _ e]
set_option maxRecDepth 100000 in
theorem Pq(s:c6)(hs:s.Fin)(o:Nat->ab)(nx:Nat)(hg:Good o nx)(K X:V->(Nat->ab)->Nat->Prop)
 (wT:bO s->∀o' nx' id,nx<=nx'->Good o' nx'->(∀j,j<nx->o' j=o j)->o' id= .b7 (enc (D.int .i64) (j8 (ah s.binds)))->K (.bS [.agg (s.row++[.mp id]), .d (.bool true)]) o' nx')
 (oQ: ¬bO s->∀o' nx' id m,nx<=nx'->id<nx'->Good o' nx'->(∀j,j<nx->o' j=o j)->o' id=dg m\/o' id= .b7 (enc (D.int .i64) (j8 m))->K (.bS [.agg (s.row++[.mp id]), .d (.bool false)]) o' nx'):
 bZ Tryz.prog 79 [.d s.d] o nx K X:=by
 refine bZ.aG mix abf aH ?_
 rw[c79]
 refine gH ?_
 refine ak (wz s.sig hs.sig) rfl ?_
 have u7:=hs.bl
 have tY:=hs.nl
 have Jl:=hs.ml
 cases h1:kU s.sig with
 |false=>
  simp+contextual (disch:=first|omega|simp only[go_sem,false_implies]) only[go_sem,wrap64,if_pos,mO,Nat.add_assoc,Nat.left_eq_add,Nat.add_eq_left,Nat.add_left_cancel_iff,List.length_map]
  refine oQ (fun h=> ?_) _ _ (nx+4) [] ?_ ?_ ?_ (fun j hj=> ?_) (.inl ?_)
  rotate_left
  ·omega
  ·omega
  ·exact dB
  ·exact cF
  ·exact cF
  have:=h.sig
  rw[h1]at this;cases this
 |true=>
 by_cases h2:20<s.binds.length
 ·have eO:decide ((s.binds.length:Int)>20)=true:=by simp;omega
  simp+contextual (disch:=first|omega|simp only[go_sem,false_implies]) only[go_sem,wrap64,if_pos,mO,Nat.add_assoc,Nat.left_eq_add,Nat.add_eq_left,Nat.add_left_cancel_iff,List.length_map,eO]
  refine oQ (fun h=> ?_) _ _ (nx+4) [] ?_ ?_ ?_ (fun j hj=> ?_) (.inl ?_)
  rotate_left
  ·omega
  ·omega
  ·exact dB
  ·exact cF
  ·exact cF
  have:=h.kZ.len
  omega
 have eO:decide ((s.binds.length:Int)>20)=false:=by simp;omega
 by_cases h3:12<s.aJ.length
 ·have j6:decide ((s.aJ.length:Int)>12)=true:=by simp;omega
  simp+contextual (disch:=first|omega|simp only[go_sem,false_implies]) only[go_sem,wrap64,if_pos,mO,Nat.add_assoc,Nat.left_eq_add,Nat.add_eq_left,Nat.add_left_cancel_iff,List.length_map,eO,j6]
  refine oQ (fun h=> ?_) _ _ (nx+4) [] ?_ ?_ ?_ (fun j hj=> ?_) (.inl ?_)
  rotate_left
  ·omega
  ·omega
  ·exact dB
  ·exact cF
  ·exact cF
  have:=h.wM
  omega
 have j6:decide ((s.aJ.length:Int)>12)=false:=by simp;omega
 by_cases h4:8<s.marks.length
 ·have HZ:decide ((s.marks.length:Int)>8)=true:=by simp;omega
  refine X9 eO j6 HZ ?_
  refine oQ (fun h=> ?_) _ _ (nx+4) [] ?_ ?_ ?_ (fun j hj=> ?_) (.inl ?_)
  rotate_left
  ·omega
  ·omega
  ·exact dB
  ·exact cF
  ·exact cF
  have:=h.I6
  omega
 have HZ:decide ((s.marks.length:Int)>8)=false:=by simp;omega
 refine X9 eO j6 HZ ?_
 have fin:∀ (m:List (Int×Tm)) (M:ab),(M=dg m\/M= .b7 (enc (D.int .i64) (j8 m)))->∀O n,nx+7<=n->Good O n->(∀j,j<nx+7->j≠nx+1->O j=xp o nx s M j)-> ¬bO s->K (.bS [.agg (s.row++[.mp (nx+4)]), .d (.bool false)]) O n:=fun m M hM O n i1 i2 i3 i4=>
  oQ i4 O n (nx+4) m af af i2 (fun j hj=>by rw[i3 j (by omega) (by omega),Mu _ _ _ _ (by omega) (by omega) (by omega) (by omega)]) (by rw[i3 (nx+4) (by omega) (by omega),kpH_4];exact hM)
 refine aC (fun k:Nat=>⟨aY [.ad, .ptr nx 0, .ptr (nx+1) 0, .ad, .ptr (nx+6) 0, .ad, .ad, .ad, .ad, .ad, .ad, .ad, .ad, .ad, .ad, .ad, .ad, .ad, .ad, .ad, .ad, .ad, .ad, .ad, .ad, .ad, .ad, .ad, .ad, .ad, .ad, .ad, .ad, .ad, .ad, .ad, .ad, .ad, .ad, .ad, .ad, .ad, .ad, .d (.sl (s.binds.map TB.d)), .d (.i s.binds.length), .d (.i k)],xp o nx s (dg (ah (s.binds.take k))),nx+7⟩)
  (fun k=>k<=s.binds.length/\((ah (s.binds.take k)).map (·.1)).Nodup/\∀x∈s.binds.take k,(0<=x.var/\x.var<20)/\bn s.sig x.term=true) (fun k=>s.binds.length - k) 0 ⟨Nat.zero_le _,List.nodup_nil,fun x hx=>by simp at hx⟩ (bH.bM _ (show nx<=nx+7 from af) af (rp hg s (by rfl)) (fun j hj=> ?_) ?_) (fun k hk=> ?_)
 ·exact Pp o nx s j
 ·exact dC
 obtain⟨hk,zZ,aW⟩:=hk
 have Pa:bO s->((ah (s.binds.take (k+1))).map (·.1)).Nodup:=fun h=>h.kZ.keys.sublist (((List.take_sublist _ _).map _).map _)
 have hgk:=rp (m:=dg (ah (s.binds.take k))) hg s rfl
 have hg0:=hg
 clear hg
 have hg:=hgk
 have e0:=kpH_0 o nx s (dg (ah (s.binds.take k)))
 have e1:=kpH_1 o nx s (dg (ah (s.binds.take k)))
 have e4:=kpH_4 o nx s (dg (ah (s.binds.take k)))
 have e6:=kpH_6 o nx s (dg (ah (s.binds.take k)))
 refine Bt e0 e1 e4 e6 ?_
 refine ao (fun h5=> ?_) (fun h5=> ?_)
 ·replace h5:k<s.binds.length:=by simp at h5;omega
  obtain⟨x,hx⟩:=aA h5
  have cy:=List.mem_of_getElem? hx
  have rL:=DD s.binds hx
  have hnk:∀ (P:Prop),(ji s.sig s.binds->P)->(bO s->P):=fun P h hs=>h hs.kZ
  cases hl:bR (ah (s.binds.take k)) x.var with
  |some z=>
   obtain⟨jz,hj⟩:=fP hl
   refine Ya e0 e1 e4 e6 hx hj ?_
   refine fin _ _ (.inl rfl) _ _ af dB (fun j j1 j2=>by(repeat(first|rfl|rw[aa]|rw[ae _ _ _ _ (by omega)]))) (fun h=> ?_)
   have h7:=Pa h
   rw[rL,List.map_append,List.nodup_append]at h7
   exact h7.2.2 x.var (List.mem_map.2 ⟨_,cK hl,rfl⟩) x.var aH rfl
  |none=>
   have hln:=eE hl
   by_cases h6:x.var<0
   ·have I9:decide (x.var<0)=true:=decide_eq_true h6
    refine Tc e0 e1 e4 e6 hx hln I9 ?_
    refine fin _ _ (.inl rfl) _ _ af dB (fun j j1 j2=>by(repeat(first|rfl|rw[aa]|rw[ae _ _ _ _ (by omega)]))) (fun h=> ?_)
    have:=(h.kZ.ok x cy).1
    omega
   have I9:decide (x.var<0)=false:=decide_eq_false h6
   by_cases h7:20<=x.var
   ·have h7':decide (x.var≥20)=true:=decide_eq_true h7
    refine Tb e0 e1 e4 e6 hx hln I9 h7' ?_
    refine fin _ _ (.inl rfl) _ _ af dB (fun j j1 j2=>by(repeat(first|rfl|rw[aa]|rw[ae _ _ _ _ (by omega)]))) (fun h=> ?_)
    have:=(h.kZ.ok x cy).1
    omega
   have h7':decide (x.var≥20)=false:=decide_eq_false h7
   refine Tb e0 e1 e4 e6 hx hln I9 h7' ?_
   refine ak (nV s hs.sig (ah (s.binds.take k)) x.term (hs.bt x cy)) rfl ?_
   cases hv:bn s.sig x.term with
   |false=>
    refine Bt e0 e1 e4 e6 ?_
    refine fin _ _ (.inl rfl) _ _ af dB (fun j j1 j2=>by(repeat(first|rfl|rw[aa]|rw[ae _ _ _ _ (by omega)]))) (fun h=> ?_)
    have:=(h.kZ.ok x cy).2
    rw[hv]at this;cases this
   |true=>
    have has:=Dk (x:=x.term) hl
    refine Hn e0 e1 e4 e6 has ?_
    refine aj (k+1) ⟨h5, ?_,fun y hy=> ?_⟩ af (bH.bM _ (show nx<=nx+7 from af) af (rp hg0 s (by rfl)) (fun j hj=> ?_) ?_)
    ·rw[rL,List.map_append,List.nodup_append]
     refine⟨zZ,aH,fun a ha c hc e=> ?_⟩
     simp at hc
     rw[e,hc]at ha
     exact lJ.1 hl ha
    ·rw[List.take_add_one,hx]at hy
     rcases List.mem_append.1 hy with hy|hy
     ·exact aW y hy
     ·simp at hy
      subst hy
      exact⟨af,hv⟩
    ·have hj:j<nx+7:=hj
     rw[rL, <- Hi o nx s (dg (ah (s.binds.take k)))]
     by_cases e:j=nx+4
     ·exact uQ
     ·exact cF
    ·exact dC
 ·replace h5:k=s.binds.length:=by simp at h5;omega
  subst h5
  rw[List.take_length]at zZ aW e0 e1 e4 e6|-
  refine Bs e0 e1 e4 e6 ?_
  obtain⟨b,hb⟩:∃b,b=ah s.binds:=⟨_,rfl⟩
  have nU:∀p∈b,p.2.fits:=fun p hp=>by
   rw[hb]at hp
   obtain⟨x,hx,rfl⟩:=dz hp
   exact(hs.bt x hx).fits
  have FV:∀p∈b,Vs s.sig p.2:=fun p hp=>by
   rw[hb]at hp
   obtain⟨x,hx,rfl⟩:=dz hp
   exact(b9 (aW x hx).2).1
  rw[<- hb]at zZ|-
  clear hg hgk
  have hg:=rp (m:= .b7 (enc (D.int .i64) (j8 b))) hg0 s (by rfl)
  have f0:=kpH_0 o nx s (.b7 (enc (D.int .i64) (j8 b)))
  have f1:=kpH_1 o nx s (.b7 (enc (D.int .i64) (j8 b)))
  have f4:=kpH_4 o nx s (.b7 (enc (D.int .i64) (j8 b)))
  have f6:=kpH_6 o nx s (.b7 (enc (D.int .i64) (j8 b)))
  clear e0 e1 e4 e6
  refine aC (fun i:List (Int×Tm)×Option (D×D)=>⟨aY [.ad, .ptr nx 0, .ptr (nx+1) 0, .ad, .ptr (nx+6) 0, .ad, .ad, .ad, .ad, .ad, .ad, .ad, .ad, .ad, .ad, .ad, .ad, .ad, .ad, .ad, .ad, .ad, .ad, .ad, .ad, .ad, .ad, .ad, .ad, .ad, .ad, .ad, .ad, .ad, .ad, .ad, .ad, .ad, .ad, .ad, .ad, .ad, .ad, .ad, .ad, .ad, .ad, .ad, .ad, .ad, .ad, .ad, .ad, .ad, .ad, .ad, .ad, .ad, .ad, .ad, .ad, .ad, .ad, .ad, .ad, .ad, .ad, .ad, .ad, .ad, .ad, .ad, .ad, .ad, .ad, .ad, .ad, .ad, .ad, .ad, .ad, .ad, .ad, .ad, .ad, .ptr (nx+10) 0],ay (xp o nx s (.b7 (enc (D.int .i64) (j8 b)))) (nx+10) (.rG (enc (D.int .i64) (j8 i.1)) i.2),nx+11⟩)
   (fun i=>(∀p∈i.1,p∈b)/\∀p∈b,p∉i.1-> ¬mH b p.1 p.2) (fun i=>i.1.length) (b,none) ⟨fun _ h=>h,fun p h h'=>absurd h h'⟩ (bH.bM _ (show nx<=nx+11 from af) af dB (fun j hj=> ?_) ?_) ?_
  ·dsimp only
   by_cases e:j=nx+10
   ·subst e;rw[aa,aa]
   ·rw[ae _ _ _ _ e,ae _ _ _ _ e,Hi]
  ·exact dC
  rintro⟨rest,last⟩ ⟨hr,hd⟩
  dsimp only at hr hd|-
  refine Bs f0 f1 f4 f6 ?_
  refine sM (fun h0=> ?_) fun i v x hm=> ?_
  ·subst h0
   have Mv:Wn b:=fun v x hx=>hd (v,x) (cK hx) aH
   have tV:=oA (by rw[<- hb];exact zZ) aW (by rw[<- hb];exact Mv)
   rw[<- hb]at tV
   obtain⟨l',ρ,R,hS,hl⟩:=tV
   have hle:∀p∈b,∃f r,tK f b p.2 40 12=some r:=fun p hp=>by
    exact QQ
   obtain⟨fo,xn⟩:∃fo:Bool,fo=true↔∀p∈b,ui b p.2:=by
    classical
    exact⟨decide (∀p∈b,ui b p.2),aH⟩
   refine Bs f0 f1 f4 f6 ?_
   refine ak (zd nU hle xn) rfl ?_
   cases fo with
   |false=>
    refine Bs f0 f1 f4 f6 ?_
    refine fin _ _ (.inr rfl) _ _ af dB (fun j j1 j2=>by(repeat(first|rfl|rw[aa]|rw[ae _ _ _ _ (by omega)]))) (fun h=> ?_)
    have:=xn.2 fun p hp=>by
     rw[hb]at hp|-
     obtain⟨x,hx,rfl⟩:=dz hp
     exact h.kZ.SU x hx
    cases this
   |true=>
    have T4:ji s.sig s.binds:=⟨af,by rw[<- hb];exact zZ,aW,by rw[<- hb];exact Mv,fun x hx=>by rw[<- hb];exact xn.1 rfl _ (hb ▸ gY hx)⟩
    refine Bt f0 f1 f4 f6 ?_
    refine aC (fun k:Nat=>⟨aY [.ad, .ptr nx 0, .ptr (nx+1) 0, .ad, .ptr (nx+6) 0, .ad, .ad, .ad, .ad, .ad, .ad, .ad, .ad, .ad, .ad, .ad, .ad, .ad, .ad, .ad, .ad, .ad, .ad, .ad, .ad, .ad, .ad, .ad, .ad, .ad, .ad, .ad, .ad, .ad, .ad, .ad, .ad, .ad, .ad, .ad, .ad, .ad, .ad, .ad, .ad, .ad, .ad, .ad, .ad, .ad, .ad, .ad, .ad, .ad, .ad, .ad, .ad, .ad, .ad, .ad, .ad, .ad, .ad, .ad, .ad, .ad, .ad, .ad, .ad, .ad, .ad, .ad, .ad, .ad, .ad, .ad, .ad, .ad, .ad, .ad, .ad, .ad, .ad, .ad, .ad, .ad, .ad, .ad, .ad, .ad, .ad, .ad, .ad, .ad, .ad, .ad, .ad, .ad, .ad, .ad, .ad, .ad, .ad, .d (.sl (s.aJ.map Nt.d)), .d (.i s.aJ.length), .d (.i k)],xp o nx s (.b7 (enc (D.int .i64) (j8 b))),nx+7⟩)
     (fun k=>k<=s.aJ.length/\∀n∈s.aJ.take k,bn s.sig n.a=true/\bn s.sig n.b=true/\ ¬A1 b n) (fun k=>s.aJ.length - k) 0 ⟨Nat.zero_le _,fun n hn=>by simp at hn⟩ (bH.bM _ (show nx<=nx+7 from af) af hg (fun j hj=> ?_) ?_) (fun k hk=> ?_)
    ·have hj:j<nx+7:=hj
     exact cF
    ·exact dC
    obtain⟨hk,Wz⟩:=hk
    refine Bt f0 f1 f4 f6 ?_
    refine ao (fun h6=> ?_) (fun h6=> ?_)
    ·replace h6:k<s.aJ.length:=by simp at h6;omega
     obtain⟨n,hn⟩:=aA h6
     have xi:=List.mem_of_getElem? hn
     obtain⟨na,nb⟩:=hs.nt n xi
     refine Hn f0 f1 f4 f6 hn ?_
     refine ak (nV s hs.sig b n.a na) rfl ?_
     cases va:bn s.sig n.a with
     |false=>
      refine Bs f0 f1 f4 f6 ?_
      refine fin _ _ (.inr rfl) _ _ af dB (fun j j1 j2=>by(repeat(first|rfl|rw[aa]|rw[ae _ _ _ _ (by omega)]))) (fun h=> ?_)
      have:=(h.aJ n xi).1
      rw[va]at this;cases this
     |true=>
      refine Bs f0 f1 f4 f6 ?_
      refine ak (nV s hs.sig b n.b nb) rfl ?_
      cases vb:bn s.sig n.b with
      |false=>
       refine Bs f0 f1 f4 f6 ?_
       refine fin _ _ (.inr rfl) _ _ af dB (fun j j1 j2=>by(repeat(first|rfl|rw[aa]|rw[ae _ _ _ _ (by omega)]))) (fun h=> ?_)
       have:=(h.aJ n xi).2.1
       rw[vb]at this;cases this
      |true=>
       obtain⟨a1,a2,a3⟩:=b9 va
       obtain⟨b1,b2,b3⟩:=b9 vb
       have cQ:∀p∈b,ui b p.2:=xn.1 rfl
       have za:=mz hS cQ a1
       have zb:=mz hS cQ b1
       have ua:uI (R+3+3200) b n.a=some (bc (ah l') n.a):=pg hS 3200 n.a a1 af
       have ub:uI (R+3+3200) b n.b=some (bc (ah l') n.b):=pg hS 3200 n.b b1 af
       have uM:=A2 (n:=n) hS a1 b1
       refine Bs f0 f1 f4 f6 ?_
       refine ak (ze s nU n na.fits nb.fits ua ub (Tm.dv _ af) (Tm.dv _ af) af af) rfl ?_
       cases xh:hO (bc (ah l') n.a) (bc (ah l') n.b)with
       |true=>
        refine Bs f0 f1 f4 f6 ?_
        refine fin _ _ (.inr rfl) _ _ af dB (fun j j1 j2=>by(repeat(first|rfl|rw[aa]|rw[ae _ _ _ _ (by omega)]))) (fun h=> ?_)
        exact(h.aJ n xi).2.2 (hb ▸ uM.2 ((gB _ _).1 xh))
       |false=>
        refine Bs f0 f1 f4 f6 ?_
        refine aj (k+1) ⟨h6,fun y hy=> ?_⟩ af (bH.bM _ (show nx<=nx+7 from af) af hg (fun j hj=> ?_) ?_)
        ·rw[List.take_add_one,hn]at hy
         rcases List.mem_append.1 hy with hy|hy
         ·exact Wz y hy
         ·simp at hy
          subst hy
          refine⟨va,vb,fun h=> ?_⟩
          rw[(gB _ _).2 (uM.1 h)]at xh;cases xh
        ·have hj:j<nx+7:=hj
         exact cF
        ·exact dC
    ·replace h6:k=s.aJ.length:=by simp at h6;omega
     subst h6
     rw[List.take_length]at Wz
     refine Bt f0 f1 f4 f6 ?_
     refine aC (fun i:Nat×Int×Int=>⟨aY [.ad, .ptr nx 0, .ptr (nx+1) 0, .ad, .ptr (nx+6) 0, .ad, .ad, .ad, .ad, .ad, .ad, .ad, .ad, .ptr (nx+8) 0, .ad, .ad, .ad, .ad, .ad, .ad, .ad, .ad, .ad, .ad, .ad, .ad, .ad, .ad, .ad, .ad, .ad, .ad, .ad, .ad, .ad, .ad, .ad, .ad, .ad, .ad, .ad, .ad, .ad, .ad, .ad, .ad, .ad, .ad, .ad, .ad, .ad, .ad, .ad, .ad, .ad, .ad, .ad, .ad, .ad, .ad, .ad, .ad, .ad, .ad, .ad, .ad, .ad, .ad, .ad, .ad, .ad, .ad, .ad, .ad, .ad, .ad, .ad, .ad, .ad, .ad, .ad, .ad, .ad, .ad, .ad, .ad, .ad, .ad, .ad, .ad, .ad, .ad, .ad, .ad, .ad, .ad, .ad, .ad, .ad, .ad, .ad, .ad, .ad, .ad, .ad, .ad, .ad, .ad, .ad, .ad, .ad, .ad, .ad, .ad, .ad, .ad, .ad, .ad, .ad, .ad, .ad, .ad, .ad, .ad, .ad, .ad, .ad, .ad, .ad, .d (.sl (s.marks.map rM)), .d (.i s.marks.length), .d (.i i.1)],ay (xp o nx s (.b7 (enc (D.int .i64) (j8 b)))) (nx+8) (.row [.d (.i i.2.1), .d (.i i.2.2)]),nx+9⟩)
      (fun i=>i.1<=s.marks.length/\sV s.binds.length s.aJ.length i.2 (s.marks.drop i.1)=sV s.binds.length s.aJ.length (0,0) s.marks) (fun i=>s.marks.length - i.1) (0,0,0) ⟨Nat.zero_le _,rfl⟩ (bH.bM _ (show nx<=nx+9 from af) af dB (fun j hj=>by(repeat(first|rfl|rw[aa]|rw[ae _ _ _ _ (by omega)]))) ?_) ?_
     ·exact dC
     rintro⟨k,l1,l2⟩ ⟨hk,lW⟩
     dsimp only at hk lW|-
     refine Bt f0 f1 f4 f6 ?_
     refine ao (fun h7=> ?_) (fun h7=> ?_)
     ·replace h7:k<s.marks.length:=by simp at h7;omega
      obtain⟨⟨m1,m2⟩,hm⟩:=aA h7
      have I5:s.marks.drop k=(m1,m2)::s.marks.drop (k+1):=by
       obtain⟨i1,i2⟩:=List.getElem?_eq_some_iff.1 hm
       exact zu
      rw[I5,sV]at lW
      dsimp only at lW
      cases g1:decide (m1<l1)with
      |true=>
       rw[g1]at lW
       simp only[Bool.true_or,Bool.or_true,Bool.not_true,Bool.false_and]at lW
       refine Tc f0 f1 f4 f6 hm hm g1 ?_
       exact zw1
      |false=>
      rw[g1]at lW
      cases g2:decide (m1>(s.binds.length:Int))with
      |true=>
       rw[g2]at lW
       simp only[Bool.true_or,Bool.or_true,Bool.not_true,Bool.false_and]at lW
       refine Tc f0 f1 f4 f6 hm g1 g2 ?_
       exact zw1
      |false=>
      rw[g2]at lW
      cases g3:decide (m2<l2)with
      |true=>
       rw[g3]at lW
       simp only[Bool.true_or,Bool.or_true,Bool.not_true,Bool.false_and]at lW
       refine Tb f0 f1 f4 f6 hm g1 g2 g3 ?_
       exact zw1
      |false=>
      rw[g3]at lW
      cases g4:decide (m2>(s.aJ.length:Int))with
      |true=>
       rw[g4]at lW
       simp only[Bool.true_or,Bool.or_true,Bool.not_true,Bool.false_and]at lW
       simp+contextual (disch:=first|omega|simp only[go_sem,false_implies]) only[go_sem,wrap64,if_pos,f0,f1,f4,f6,hm,g1,g2,g3,g4,List.length_map,Nat.add_assoc,Nat.left_eq_add,Nat.add_eq_left,Nat.add_left_cancel_iff]
       exact zw1
      |false=>
      rw[g4]at lW
      simp only[Bool.or_false,Bool.not_false,Bool.true_and]at lW
      simp+contextual (disch:=first|omega|simp only[go_sem,false_implies]) only[go_sem,wrap64,if_pos,f0,f1,f4,f6,hm,g1,g2,g3,g4,List.length_map,Nat.add_assoc,Nat.left_eq_add,Nat.add_eq_left,Nat.add_left_cancel_iff]
      refine aj (k+1,m1,m2) ⟨h7,lW⟩ mQ (bH.bM _ (show nx<=nx+9 from af) af dB (fun j hj=> ?_) ?_)
      ·have hj:j<nx+9:=hj
       by_cases e:j=nx+8
       ·exact uQ
       ·exact cF
      ·exact dC
     ·replace h7:k=s.marks.length:=by simp at h7;omega
      subst h7
      rw[List.drop_length]at lW
      refine Bs f0 f1 f4 f6 ?_
      refine wT ⟨h1,af,af,T4,fun n hn=> ?_,lW.symm⟩ _ _ (nx+4) af dB (fun j hj=> ?_) ?_
      ·rw[<- hb];exact Wz n hn
      ·(repeat(first|rfl|rw[aa]|rw[ae _ _ _ _ (by omega)]));exact Mu _ _ _ _ af af af af
      ·(repeat(first|rfl|rw[aa]|rw[ae _ _ _ _ (by omega)]));rw[f4,hb]
  ·have oI:=List.mem_of_getElem? hm
   have Nc:=hr _ oI
   have uU:=pT hm
   have hlen:(rest.eraseIdx i).length<rest.length:=by
    exact TM
   obtain⟨is,A0⟩:∃is:Bool,is=true↔mH b v x:=by
    classical
    exact⟨decide (mH b v x),aH⟩
   refine Bs f0 f1 f4 f6 ?_
   refine ak (Hd FV nU v x (FV _ Nc) (nU _ Nc) A0) rfl ?_
   cases is with
   |true=>
    refine Bs f0 f1 f4 f6 ?_
    refine fin _ _ (.inr rfl) _ _ af dB (fun j j1 j2=>by(repeat(first|rfl|rw[aa]|rw[ae _ _ _ _ (by omega)]))) (fun h=> ?_)
    exact h.kZ.I2 v x ((lK h.kZ.keys).2 (hb ▸ Nc)) (hb ▸ A0.1 rfl)
   |false=>
    refine Bs f0 f1 f4 f6 ?_
    refine aj (rest.eraseIdx i,some (.int .i64 v,x.d)) ⟨fun p hp=>hr p (uU.mem_iff.1 (List.mem_cons_of_mem _ hp)),fun p hp hpn=> ?_⟩ hlen (bH.bM _ (show nx<=nx+11 from af) af dB (fun j hj=> ?_) ?_)
    ·by_cases e:p=(v,x)
     ·subst e
      exact fun h=>Bool.false_ne_true (A0.2 h)
     ·exact hd p hp fun tn=>by
       rcases List.mem_cons.1 (uU.mem_iff.2 tn)with h|h
       ·exact e h
       ·exact hpn h
    ·have hj:j<nx+11:=hj
     by_cases e:j=nx+10
     ·exact uQ
     ·exact cF
    ·exact dC
end Go.Proofs.YtlhemmpklhhgoaaGreat
namespace Go.Proofs.YtlhemmpklhhgoaaGreat
structure Srt (s:aF) (l:List TB):Prop where
 srt:l.Pairwise fun x y=>x.var<y.var
 ok:∀x∈l,(0<=x.var/\x.var<20)/\Vs s x.term
structure MS (b:List (Int×Tm)) (l:List TB):Prop where
 keys:(b.map (·.1)).Nodup
 lk:∀v,bR b v=bR (ah l) v
theorem wU:∀ (l:List TB) (n:Int) (t:Tm),∃k,k<=l.length/\(∀x∈l.take k,x.var<n)/\(∀x,l[k]? =some x-> ¬x.var<n)/\mN l n t=l.take k++⟨n,t⟩::l.drop k
 |[],n,t=>⟨0,Nat.zero_le _,aH,aH,by simp[mN]⟩
 |x::l,n,t=>by
  obtain⟨k,h1,h2,h3,h4⟩:=wU l n t
  by_cases hx:x.var<n
  ·refine⟨k+1,by simp;omega, ?_,by simpa using h3, ?_⟩
   ·intro y hy
    simp only[List.take_succ_cons,List.mem_cons]at hy
    rcases hy with rfl|hy
    ·exact hx
    ·exact h2 y hy
   ·simp only[mN,if_pos hx,h4,List.take_succ_cons,List.drop_succ_cons]
    simp
  ·exact⟨0,Nat.zero_le _,aH,by simpa using hx,by simp[mN,if_neg hx]⟩
theorem WA(l:List TB)(n:Int)(t:Tm)(hl:l.length<=1000000):aV Tryz.prog 168 [.sl (l.map TB.d), .i n,t.d] (.ret [.sl ((mN l n t).map TB.d)]):=by
 obtain⟨j,j1,j2,j3,j4⟩:=wU l n t
 have tk:∀ (i:Nat) (l:List TB),List.take i (l.map TB.d)=(l.take i).map TB.d:=fun i l=>List.map_take.symm
 have dr:∀ (i:Nat) (l:List TB),List.drop i (l.map TB.d)=(l.drop i).map TB.d:=fun i l=>List.map_drop.symm
 have ap:∀ (a b:List TB),a.map TB.d++[D.agg [.i n, .i t.op, .i t.n, .sl (t.kids.map Tm.d)]]++b.map TB.d=(a++⟨n,t⟩::b).map TB.d:=fun a b=>aH
 rw[j4]
 refine aV.aG mix ab3 aH ?_
 rw[ab2]
 refine bI ?_
 refine aC (fun k:Nat=>⟨aY [.d (.sl (l.map TB.d)), .d (.i n), .ad, .ad, .ad, .ptr 0 0, .ad, .d (.i k)],nL t.row,1⟩)
  (fun k=>k<=j) (fun k=>l.length - k) 0 (Nat.zero_le _) (bH.d1 _ (cc rfl) af rfl ?_) (fun k hk=> ?_)
 ·exact dC
 by_cases hkj:k=j
 ·subst hkj
  by_cases h5:k<l.length
  ·obtain⟨x,hx⟩:=aA h5
   have h6:=j3 x hx
   have tS:(k:Int)<l.length:=af
   refine S9 hx tS h6 tk dr ?_
   refine aE bD ?_
   refine S9 hx tS h6 tk dr ?_
   rw[<- ap]
  ·have tS: ¬ (k:Int)<l.length:=af
   refine Ta tS tk dr ?_
   refine aE bD ?_
   refine Ta tS tk dr ?_
   rw[<- ap]
 ·have ck:k<l.length:=af
  obtain⟨x,hx⟩:=aA ck
  have tS:(k:Int)<l.length:=af
  have h6:x.var<n:=j2 x (List.mem_of_getElem? (i:=k) (by rw[List.getElem?_take_of_lt (by omega)];exact hx))
  refine Bu hx tS h6 ?_
  refine aj (k+1) af af (bH.d1 _ (cc rfl) af rfl ?_)
  exact dC
theorem wV(l:List TB)(hl:l.length<=1000000)(hf:∀x∈l,x.term.fits):aV Tryz.prog 60 [.sl (l.map TB.d), .sl (l.map TB.d)] (.ret [.bool true]):=by
 refine aV.aG mix aa5 aH ?_
 rw[c60]
 simp+contextual (disch:=first|omega|simp only[go_sem,false_implies]) only[go_sem,wrap64,if_pos,List.length_map,bne_self_eq_false]
 refine aC (fun k:Nat=>⟨aY [.d (.sl (l.map TB.d)), .d (.sl (l.map TB.d)), .ad, .ad, .ad, .d (.i k)],fun _=> .no,0⟩)
  (fun k=>k<=l.length) (fun k=>l.length - k) 0 (Nat.zero_le _) (bH.d0 _ ?_) (fun k hk=> ?_)
 ·exact dC
 refine uj ?_
 refine ao (fun h2=> ?_) (fun h2=> ?_)
 ·simp at h2
  obtain⟨x,hx⟩:=aA h2
  have yn:=wo x.term (hf x (List.mem_of_getElem? hx)) x.term (hf x (List.mem_of_getElem? hx))
  rw[pR]at yn
  refine Tg hx ?_
  refine aZ yn rfl ?_
  exact Zr
 ·exact jW
mutual
def Tm.kX:Tm->Prop
 | .mk _ _ kids=>kids.length<=1000/\Tm.Mw kids
def Tm.Mw:List Tm->Prop
 |[]=>True
 |k::l=>k.kX/\Tm.Mw l
end
theorem Tm.DF:∀l:List Tm,Tm.Mw l↔∀k∈l,k.kX
 |[]=>by simp[Tm.Mw]
 |k::l=>by simp[Tm.Mw,Tm.DF l]
theorem Tm.fS (t:Tm):t.kX↔t.kids.length<=1000/\∀k∈t.kids,k.kX:=by cases t;simp[Tm.kX,Tm.DF,Tm.kids]
theorem Tm.Fm:∀t:Tm,t.sz<=1000->t.kX:=by
 refine Tm.eY fun t ih h=> ?_
 rw[Tm.fS]
 have:=my t.kids
 have h2:=Tm.jR t
 exact Qk
theorem Tm.sX {b:List (Int×Tm)}(hb:∀p∈b,p.2.kX):∀t:Tm,t.kX->(bc b t).kX:=by
 refine Tm.eY fun t ih h=> ?_
 have h':=(Tm.fS t).1 h
 rw[sN]
 split
 ·split
  ·rename_i x hx;exact hb _ (cK hx)
  ·exact h
 ·rw[Tm.fS]
  refine⟨by simp only[Tm.kids,List.length_map];exact h'.1,fun k hk=> ?_⟩
  obtain⟨y,hy,rfl⟩:=List.mem_map.1 hk
  exact ih y hy (h'.2 y hy)
theorem Tm.wW:∀t:Tm,t.kX->t.fits:=by
 refine Tm.eY fun t ih h=> ?_
 have h':=(Tm.fS t).1 h
 rw[Tm.bT]
 exact⟨af,fun k hk=>ih k hk (h'.2 k hk)⟩
theorem A5{s:aF}:∀t:Tm,Vs s t->t.kX->∀l:List TB,l.length<=100->aV Tryz.prog 82 [t.d, .sl (l.map TB.d)] (.ret [(bc (ah l) t).d]):=by
 refine Tm.eY fun t ih hv hw l hlen=> ?_
 have hw':=(Tm.fS t).1 hw
 refine aV.aG mix aeX aH ?_
 rw[c82]
 by_cases h1:t.op=1
 ·have db:(t.op==1)=true:=by simpa using h1
  refine lT db ?_
  refine ak (Wj l t.n af) rfl ?_
  rcases rb l t.n with⟨f1,f2⟩|⟨k,x,f1,f2,f3⟩
  ·have hs:bc (ah l) t=t:=by rw[sN,if_pos h1,f2]
   have f3:decide (0<=findF l t.n)=false:=by simpa using f1
   rw[hs]
   exact Jz db f3
  ·have hs:bc (ah l) t=x.term:=by rw[sN,if_pos h1,f3]
   rw[hs,f1]
   exact Jz db f2
 ·have db:(t.op==1)=false:=by simpa using h1
  have h8':(t.op==8)=false:=by simpa using hv.n8
  rw[jf h1]
  refine Bh db h8' ?_
  refine aC (fun i:Nat=>⟨aY [.ad, .d (.sl (l.map TB.d)), .ptr 0 0, .ad, .ptr 1 0, .ad, .osl 2 0, .d (.i i)],ay (ay (ay (fun _=> .no) 0 (.row t.row)) 1 (.row [.d (.i 0), .d (.i 0), .ax])) 2 (.arr 0 33 3 (((t.kids.take i).map (bc (ah l))).map Tm.d)),3⟩)
   (fun i=>i<=t.kids.length) (fun i=>t.kids.length - i) 0 (Nat.zero_le _) (bH.sG (ty:=33) (sz:=3) (es:=[]) (fun _=>False) .ax 2 _ af (lt2 (bC rfl qb) (bC rfl qb)) (by rw[aa];simp) (.inl ⟨rfl,rfl,bD⟩) (fun j hj=>by(repeat(first|rfl|rw[aa]|rw[ae _ _ _ _ (by omega)]))) (fun _ h=>h.elim) ?_) ?_
  ·exact rE
  rintro k hk
  replace hk:k<=t.kids.length:=hk
  refine uj ?_
  refine ao (fun h2=> ?_) (fun h2=> ?_)
  ·simp at h2
   obtain⟨x,hx⟩:=aA h2
   have cy:=List.mem_of_getElem? hx
   have rL:t.kids.take (k+1)=t.kids.take k++[x]:=by rw[List.take_add_one,hx];rfl
   have e0:(t.kids.take k).length=k:=by rw[List.length_take];omega
   refine rN hx e0 ?_
   refine bw (rs:=[(bc (ah l) x).d]) (ih x cy (hv.kY cy) (hw'.2 x cy) l hlen) ?_
   refine rN hx e0 ?_
   refine aj (k+1) h2 af (bH.sG (fun j=>j=2) (.osl 2 1) 2 _ af (lt2 (kD (y:= .row t.row) cF cF (bC rfl qb)) (kD (y:= .row [.d (.i 0), .d (.i 0), .ax]) cF cF (bC rfl qb))) (aa _ _ _) (.inr ⟨2,1,rfl,rfl,by(repeat(first|rfl|rw[aa]|rw[ae _ _ _ _ (by omega)]));rw[rL,List.map_append,List.map_append];rfl⟩) (fun j hj=>by(repeat(first|rfl|rw[aa]|rw[ae _ _ _ _ (by omega)]))) (fun j h h2=>af) ?_)
   exact rE
  ·simp at h2
   have HN:k=t.kids.length:=af
   subst HN
   rw[List.take_length]
   refine uj ?_
   rw[Tm.K7]
theorem A6{s:aF}{t:Tm}(hv:Vs s t):(cJ t).length<=20:=AQ (fun n hn=>hv.range (((dE t).2 n).1 hn)) (dE t).1
theorem rq{s:aF}:∀t:Tm,Vs s t->t.kX->aV Tryz.prog 141 [t.d] (.ret [.sl ((cJ t).map .i)]):=by
 refine Tm.eY fun t ih hv ht=> ?_
 have hw':=(Tm.fS t).1 ht
 refine aV.aG mix abO aH ?_
 rw[abN]
 by_cases h1:t.op=1
 ·refine lT h1 ?_
  rw[ra,if_pos h1]
  rfl
 ·have db:(t.op==1)=false:=by simpa using h1
  have b1:(t.op !=8)=true:=by simpa using hv.n8
  refine lT db ?_
  rw[ra,if_neg h1]
  refine aC (fun i:Nat×List Int=>⟨aY [.ad, .ptr 0 0, .ad, .d (.sl (i.2.map .i)), .d (.i i.1)],nL t.row,1⟩)
   (fun i=>i.1<=t.kids.length/\mw t.op t.n t.kids 0 []=mw t.op t.n (t.kids.drop i.1) i.1 i.2/\E7 i.2/\∀v∈i.2,0<=v/\v<20) (fun i=>t.kids.length - i.1) (0,[]) ⟨Nat.zero_le _,rfl,List.Pairwise.nil,fun _ h=>by cases h⟩
   (bH.acK (fun _=>False) 1 _ af (lt1 (bC rfl qb)) (fun j hj=>ae _ _ _ _ af) (fun _ h=>h.elim) ?_) ?_
  ·try dsimp only
   exact rE
  rintro⟨k,out⟩ ⟨hk,IV,ac6,hrg⟩
  simp only at hk IV ac6 hrg
  refine bI ?_
  refine ao (fun h2=> ?_) (fun h2=> ?_)
  ·simp at h2
   obtain⟨x,hx⟩:=aA h2
   have cy:=List.mem_of_getElem? hx
   have vx:=hv.kY cy
   have hvl:=A6 vx
   have I5:t.kids.drop k=x::t.kids.drop (k+1):=by
    obtain⟨h5,h6⟩:=List.getElem?_eq_some_iff.1 hx
    exact JT
   have part:∀L:List Int,(∀v∈L,v∈cJ x)->E7 (pS t.op t.n k L out)/\∀v∈pS t.op t.n k L out,0<=v/\v<20:=fun L hL=>by
    obtain⟨q1,q2⟩:=ox t.op t.n k L out ac6
    refine⟨q1,fun v L1=> ?_⟩
    rcases(q2 v).1 L1 with h|h
    ·exact hrg v h
    ·exact vx.range (((dE x).2 v).1 (hL v h.1))
   refine lT hx ?_
   refine bw (ih x cy vx (hw'.2 x cy)) ?_
   refine lT hx ?_
   refine aC (fun j:Nat=>⟨aY [.ad, .ptr 0 0, .ad, .d (.sl ((pS t.op t.n k ((cJ x).take j) out).map .i)), .d (.i k), .d (.sl ((cJ x).map .i)), .d (.i j)],nL t.row,1⟩)
    (fun j=>j<=(cJ x).length) (fun j=>(cJ x).length - j) 0 (Nat.zero_le _) (bH.d1 _ (cc rfl) af rfl ?_) (fun j hj=> ?_)
   ·exact dC
   refine bI ?_
   refine ao (fun h3=> ?_) (fun h3=> ?_)
   ·simp at h3
    obtain⟨v,L1⟩:=aA h3
    have zO:=part ((cJ x).take j) (fun v hv=>List.mem_of_mem_take hv)
    have HN:=AQ zO.2 zO.1
    have hc:(t.op !=8||(k:Int)!=1||v !=t.n)=true:=by rw[b1];rfl
    refine Bh L1 b1 ?_
    refine aE bD ?_
    refine lT L1 ?_
    refine bw (acY _ v af) ?_
    refine bI ?_
    refine aj (j+1) h3 af (bH.d1 _ (cc rfl) af rfl ?_)
    rw[IZ L1,if_pos hc]
    exact dC
   ·simp at h3
    refine bI ?_
    rw[List.take_of_length_le (by omega)]
    obtain⟨p1,p2⟩:=part (cJ x) (fun v hv=>hv)
    refine aj (k+1,pS t.op t.n k (cJ x) out) ⟨h2,by rw[IV,I5];rfl,p1,p2⟩ mQ (bH.d1 _ (cc rfl) af rfl ?_)
    exact dC
  ·simp at h2
   refine bI ?_
   rw[IV,List.drop_eq_nil_of_le (by omega)]
   rfl
theorem Fo(n low high:Int):aV Tryz.prog 77 [.i n, .i low, .i high] (.ret [.bool (dS n low high)]):=by
 refine aV.aG mix aeU aH ?_
 rw[c77]
 refine cM ?_
 rfl
theorem lP(s:aF)(hs:s.Fits)(t:Tm)(ht:t.fits):aV Tryz.prog 39 [s.d,t.d] (.ret [.bool (gA s t&&eZ t)]):=by
 refine aV.aG mix aeD aH ?_
 rw[c39]
 refine bI ?_
 refine ak (V7 s hs t ht) rfl ?_
 cases h:gA s t with
 |false=>exact jW
 |true=>
  refine bI ?_
  refine ak (ON t ht) rfl ?_
  exact jW
theorem wX{s:aF}(h:kU s=true)(t:Tm):bn s t=(gA s t&&eZ t):=by
 unfold bn ja
 rw[h]
 simp only[List.all_cons,List.all_nil,Bool.and_true,Bool.true_and,pQ]
 cases h1:gA s t with
 |false=>rfl
 |true=>rw[ow h1]
theorem lQ(l:List TB)(n:Int)(hl:l.length<=1000000):aV Tryz.prog 116 [.sl (l.map TB.d), .i n] (.ret [.i (findF l n)]):=by
 refine aV.aG mix abr aH ?_
 rw[abq]
 refine bI ?_
 refine aC (fun k:Nat=>⟨aY [.d (.sl (l.map TB.d)), .d (.i n), .ad, .ad, .ad, .d (.i k)],fun _=> .no,0⟩)
  (fun k=>k<=l.length/\∀j x,j<k->l[j]? =some x->x.var≠n) (fun k=>l.length - k) 0 ⟨Nat.zero_le _,fun _ _ h=>absurd h af⟩ (bH.d0 _ ?_) (fun k hk=> ?_)
 ·exact dC
 refine uj ?_
 refine ao (fun h2=> ?_) (fun h2=> ?_)
 ·simp at h2
  obtain⟨x,hx⟩:=aA h2
  refine rD hx ?_
  refine ao (fun h3=> ?_) (fun h3=> ?_)
  ·have j6:x.var=n:=by simpa using h3
   have:findF l n=k:=by
    have:l.findIdx? (·.var==n)=some k:=by
     rw[List.findIdx?_eq_some_iff_getElem]
     obtain⟨HN,e⟩:=List.getElem?_eq_some_iff.1 hx
     refine⟨HN,by rw[e];simpa using j6,fun j hj=> ?_⟩
     have:=hk.2 j _ hj (List.getElem?_eq_getElem af)
     simpa using this
    rw[findF,this]
   rw[this]
   exact jW
  ·have j6:x.var≠n:=by simpa using h3
   refine bI ?_
   refine aj (k+1) ⟨h2,fun j y hj hy=> ?_⟩ af (bH.d0 _ ?_)
   ·by_cases e:j=k
    ·exact Qo
    ·exact hk.2 j y af hy
   ·exact dC
 ·simp at h2
  have:findF l n= -1:=by
   have:l.findIdx? (·.var==n)=none:=by
    rw[List.findIdx?_eq_none_iff]
    intro x hx
    obtain⟨j,hj,e⟩:=List.getElem_of_mem hx
    have:=hk.2 j x af (by rw[List.getElem?_eq_getElem hj,e])
    simpa using this
   rw[findF,this]
  rw[this]
  exact jW
theorem Hj(l:List Int)(n:Int)(hl:l.length<=1000000):aV Tryz.prog 142 [.sl (l.map .i), .i n] (.ret [.bool (l.contains n)]):=by
 refine aV.aG mix abQ aH ?_
 rw[abP]
 refine bI ?_
 refine aC (fun k:Nat=>⟨aY [.d (.sl (l.map .i)), .d (.i n), .ad, .ad, .ad, .d (.i k)],fun _=> .no,0⟩)
  (fun k=>k<=l.length/\(l.take k).contains n=false) (fun k=>l.length - k) 0 ⟨Nat.zero_le _,aH⟩ (bH.d0 _ ?_) (fun k hk=> ?_)
 ·exact dC
 refine bI ?_
 refine ao (fun h2=> ?_) (fun h2=> ?_)
 ·simp at h2
  obtain⟨x,hx⟩:=aA h2
  refine lT hx ?_
  refine ao (fun h3=> ?_) (fun h3=> ?_)
  ·refine bI ?_
   have:l.contains n=true:=by
    exact YV
   rw[this]
  ·refine bI ?_
   refine aj (k+1) ⟨h2, ?_⟩ af (bH.d0 _ ?_)
   ·have h4: ¬n=x:=fun e=>by subst e;simp at h3
    have h5:=hk.2
    rw[List.take_add_one,hx]
    rw[Bool.eq_false_iff]at h5|-
    intro hc;apply h5
    rw[List.contains_iff_mem]at hc|-
    rcases List.mem_append.1 hc with hc|hc
    ·exact hc
    ·simp at hc;exact absurd hc h4
   ·exact dC
 ·simp at h2
  refine bI ?_
  have:=hk.2
  rw[List.take_of_length_le (by omega)]at this
  rw[this]
def SV(o:Nat->ab)(nx:Nat)(l:List Int):Nat->ab:=ay o nx (.arr 0 3 1 (l.map D.i))
theorem ilH_0(o:Nat->ab)(nx:Nat)(l:List Int):SV o nx l nx= .arr 0 3 1 (l.map D.i):=by unfold SV;rw[aa]
theorem sY(o:Nat->ab)(nx:Nat)(l:List Int){j:Nat}(h:j≠nx):SV o nx l j=o j:=by unfold SV;rw[ae _ _ _ _ h]
theorem sZ{o:Nat->ab}{nx b:Nat}(Um:Good o nx)(hb:b<=nx){e:Nat->V}{so:Nat->ab}{m:Nat}(L:List V)(l:List Int){x:V}(gone:Nat->Prop)(uh:∀id,gone id->id<nx->o id= .no)
 (gx:fY so gone 3 1 (l.map D.i) x) (sr:∀j,j<nx->so j=o j\/o j= .no) (he:iY nx [⟨x,3,1,l.map D.i⟩] so gone e L 0):bH b ⟨e,so,m⟩ ⟨aY L,SV o nx l,nx+1⟩:=by
 refine bH.sG gone x nx L hb (fun j hj=> ?_) (ilH_0 o nx l) gx (fun j hj=> ?_) (fun j h1 h2=>by rw[sY _ _ _ (by omega)];exact uh j h1 h2) he
 ·rw[sY _ _ _ (by omega)]
  rcases sr j hj with h|h
  ·exact bC h (fun r hr=>Um.refs j r hr)
  ·rw[h];exact mo
 ·rw[sY _ _ _ (by omega)]
  exact Um.fresh j af
def IsL(o:Nat->ab)(x:V)(l:List Int):Prop:=(x= .ax/\l=[])\/∃id ep,x= .osl id ep/\o id= .arr ep 3 1 (l.map D.i)
theorem Mx:∀ (more l:List Int),(pW l more).length<=l.length+more.length
 |[],l=>by simp[pW]
 |u::more,l=>by
  have h1:(ei l u).length<=l.length+1:=by
   unfold ei
   split
   ·omega
   ·rw[List.length_append,List.length_singleton];omega
  have h2:=Mx more (ei l u)
  show(pW (ei l u) more).length<=_
  rw[List.length_cons];omega
theorem IsL.SW {o:Nat->ab}{x:V}{l:List Int}(h:IsL o x l):fY o (fun _=>True) 3 1 (l.map D.i) x:=by
 rcases h with⟨rfl,rfl⟩|⟨id,ep,rfl,ho⟩
 ·exact .inl ⟨rfl,rfl,bD⟩
 ·exact .inr ⟨id,ep,trivial,rfl,ho⟩
theorem My(l more:List Int)(hl:l.length<=100000)(hm:more.length<=100000){x:V}{o:Nat->ab}{nx:Nat}(hg:Good o nx)(hx:IsL o x l){K X:V->(Nat->ab)->Nat->Prop}
 (hK:∀y o' nx',nx<=nx'->Good o' nx'->(∀j,j<nx->(∀ep,x≠ .osl j ep)->o' j=o j)->IsL o' y (pW l more)->K y o' nx'):bZ Tryz.prog 140 [x, .d (.sl (more.map D.i))] o nx K X:=by
 refine bZ.aG mix abM aH ?_
 rw[abL]
 refine gH ?_
 obtain⟨o0,gone,c1,c2,c3,c4,c5⟩:∃ (o0:Nat->ab) (gone:Nat->Prop),Good o0 nx/\(∀j,j<nx->o j=o0 j\/o0 j= .no)/\(∀id,gone id->id<nx->o0 id= .no)/\fY o gone 3 1 (l.map D.i) x/\(∀j,j<nx->(∀ep,x≠ .osl j ep)->o0 j=o j):=by
  rcases hx with⟨rfl,rfl⟩|⟨id,ep,rfl,ho⟩
  ·exact⟨o,fun _=>False,hg,fun j _=> .inl rfl,fun _ h=>h.elim, .inl ⟨rfl,rfl,bD⟩,fun j _ _=>rfl⟩
  ·have aw:id<nx:=hg.lt (by rw[ho];exact ab.noConfusion)
   refine⟨ay o id .no,(· =id),hg.ay aw rfl,fun j hj=> ?_,fun j e _=>by rw[e,aa], .inr ⟨id,ep,rfl,rfl,ho⟩,fun j hj jo=> ?_⟩
   ·by_cases e:j=id
    ·subst e;rw[aa];exact .inr rfl
    ·rw[ae _ _ _ _ e];exact .inl rfl
   ·by_cases e:j=id
    ·subst e;exact absurd rfl (jo ep)
    ·exact FQ
 refine aC (fun k:Nat=>⟨aY [.osl nx 0, .d (.sl (more.map D.i)), .ad, .ad, .ad, .d (.i k)],SV o0 nx (pW l (more.take k)),nx+1⟩)
  (fun k=>k<=more.length) (fun k=>more.length - k) 0 (Nat.zero_le _) (sZ c1 (Nat.le_refl _) _ (pW l []) gone c3 c4 c2 ?_) (fun k hk=> ?_)
 ·exact rE
 replace hk:k<=more.length:=hk
 have q0:=ilH_0 o0 nx (pW l (more.take k))
 have hlen:=Mx (more.take k) l
 rw[List.length_take]at hlen
 refine Yd q0 ?_
 refine ao (fun h2=> ?_) (fun h2=> ?_)
 ·replace h2:k<more.length:=by simp at h2;omega
  obtain⟨v,hv⟩:=aA h2
  have rL:pW l (more.take (k+1))=ei (pW l (more.take k)) v:=by unfold pW;rw[List.take_add_one,hv,List.foldl_append];rfl
  simp+contextual (disch:=first|omega|simp only[go_sem,false_implies]) only[go_sem,wrap64,if_pos,q0,hv,List.length_map,Nat.add_assoc,Nat.left_eq_add,Nat.add_eq_left,Nat.add_left_cancel_iff]
  refine ak (Hj (pW l (more.take k)) v af) rfl ?_
  cases hc:(pW l (more.take k)).contains v with
  |true=>
   have e1:ei (pW l (more.take k)) v=pW l (more.take k):=by unfold ei;rw[if_pos hc]
   refine Yd q0 ?_
   refine aj (k+1) h2 af ?_
   rw[rL,e1]
   refine sZ c1 (Nat.le_refl _) _ _ (fun id=>nx<=id) (fun id h1 h2=>af) (x:= .osl nx 0) (.inr ⟨nx,0,Nat.le_refl _,rfl,q0⟩) (fun j hj=> .inl (by rw[sY _ _ _ (by omega)])) ?_
   exact rE
  |false=>
   have e1:ei (pW l (more.take k)) v=pW l (more.take k)++[v]:=by unfold ei;rw[if_neg (by rw[hc];exact Bool.false_ne_true)]
   have fE:(pW l (more.take k)).length<=140737488355327/\((pW l (more.take k)).length+1)*8<=140737488355328:=af
   simp+contextual (disch:=first|omega|simp only[go_sem,false_implies]) only[go_sem,wrap64,if_pos,q0,hv,List.length_map,if_pos fE,Nat.add_assoc,Nat.left_eq_add,Nat.add_eq_left,Nat.add_left_cancel_iff]
   refine aj (k+1) h2 af ?_
   rw[rL,e1]
   refine sZ c1 (Nat.le_refl _) _ _ (fun id=>nx<=id) (fun id h1 h2=>af) (x:= .osl nx 1) (.inr ⟨nx,1,Nat.le_refl _,rfl,by(repeat(first|rfl|rw[aa]|rw[ae _ _ _ _ (by omega)]));rw[List.map_append];rfl⟩) (fun j hj=> .inl (by(repeat(first|rfl|rw[aa]|rw[ae _ _ _ _ (by omega)]));rw[sY _ _ _ (by omega)])) ?_
   exact rE
 ·replace h2:k=more.length:=by simp at h2;omega
  subst h2
  rw[List.take_length]at q0|-
  refine Ju q0 ?_
  refine hK _ _ _ ?_ ?_ (fun j hj jo=> ?_) (.inr ⟨nx,0,rfl,q0⟩)
  ·omega
  ·unfold SV;exact(c1.mono af).ay af rfl
  ·rw[sY _ _ _ (by omega)];exact c5 j hj jo
theorem O9.done {s:aF}{b:List (Int×Tm)}{t:Tm}{all:List Int}(h:O9 s b t all.length all)(n:Int):n∈all↔mH b n t:=by
 refine⟨fun hn=>h.snd n hn,fun hr=> ?_⟩
 have key:∀x,mH b n x->(∀v,gC v x=true->v∈all)->n∈all:=by
  intro x hr
  induction hr with
  |here h1=>exact fun hs=>hs _ h1
  |step h1 h2 _ ih=>
   intro hs
   refine ih fun u hu=> ?_
   obtain⟨j,hj⟩:=List.mem_iff_getElem?.1 (hs _ h1)
   exact h.cl j (List.getElem?_eq_some_iff.1 hj).1 _ _ hj h2 u hu
 exact key t hr h.fst
theorem wY{s:aF}{l:List TB}(hl:l.length<=1000)(hb:∀p∈ah l,Vs s p.2)(hf:∀p∈ah l,p.2.kX)(n:Int)(t:Tm)(ht:Vs s t)(Wt:t.kX){is:Bool}(A0:is=true↔mH (ah l) n t):
 aV Tryz.prog 117 [.sl (l.map TB.d),t.d, .i n] (.ret [.bool is]):=by
 have Pr:∀t,Vs s t->(cJ t).length<=100000:=fun t ht=>by
  have hv:=dE t
  have:(cJ t).length<=20:=Dv (IY hv.1) fun v h=>ht.range ((hv.2 v).1 h)
  omega
 refine aV.aG mix abu aH ?_
 rw[abt]
 refine bI ?_
 refine bw (rq t ht Wt) ?_
 refine bI ?_
 refine bX (My [] (cJ t) aH (Pr t ht) dB (.inl ⟨rfl,rfl⟩) (fun y o' nx' w1 w2 w3 w4=> ?_))
 refine bI ?_
 refine aC (fun i:Nat×List Int=>⟨aY [.d (.sl (l.map TB.d)), .ad, .d (.i n), .ad, .ad, .ad, .ad, .osl 0 0, .d (.i i.1)],SV (fun _=> .no) 0 i.2,0+1⟩)
  (fun i=>O9 s (ah l) t i.1 i.2) (fun i=>21 - i.1) (0,pW [] (cJ t)) (O9.zero ht) (sZ Good.nil (Nat.le_refl _) _ _ (fun _=>True) (fun id _ h=>absurd h af) w4.SW (fun j hj=>absurd hj af) ?_) ?_
 ·exact rE
 rintro⟨i,all⟩ hI
 dsimp only at hI|-
 have q0:=ilH_0 (fun _=> .no) 0 all
 have h20:=Dv hI.nd hI.rg
 have hle:=hI.le
 refine rD q0 ?_
 refine ao (fun h2=> ?_) (fun h2=> ?_)
 ·replace h2:i<all.length:=by simp at h2;omega
  obtain⟨v,hv⟩:=aA h2
  refine rN q0 hv ?_
  refine ak (lQ l v af) rfl ?_
  have jb:=hI.succ hb hv
  rcases rb l v with⟨g1,g2⟩|⟨k,x,g1,g2,g3⟩
  ·have DY:decide (findF l v≥0)=false:=by simp;omega
   have e1:L9 (ah l) all v=all:=by unfold L9;rw[g2]
   rw[e1]at jb
   refine rN q0 DY ?_
   refine aj (i+1,all) jb mQ (sZ Good.nil (Nat.le_refl _) _ _ (fun _=>True) (fun id _ h=>absurd h af) (x:= .osl 0 0) (.inr ⟨0,0,trivial,rfl,q0⟩) (fun j hj=>absurd hj af) ?_)
   exact rE
  ·have DY:decide (((k:Nat):Int)≥0)=true:=aH
   have e1:L9 (ah l) all v=pW all (cJ x.term):=by unfold L9;rw[g3]
   rw[e1]at jb
   have cy:=gY (List.mem_of_getElem? g2)
   refine Jw q0 g1 DY g2 ?_
   refine bw (rq x.term (hb _ cy) (hf _ cy)) ?_
   refine rD q0 ?_
   refine bX (My all (cJ x.term) af (Pr _ (hb _ cy)) (Good.ay Good.nil af rfl) (.inr ⟨0,0,rfl,q0⟩) (fun y o2 nx2 u1 u2 u3 u4=> ?_))
   refine bI ?_
   refine aj (i+1,pW all (cJ x.term)) jb mQ (sZ Good.nil (Nat.le_refl _) _ _ (fun _=>True) (fun id _ h=>absurd h af) u4.SW (fun j hj=>absurd hj af) ?_)
   exact rE
 ·replace h2:i=all.length:=by simp at h2;omega
  subst h2
  have:is=all.contains n:=by rw[Bool.eq_iff_iff,A0,List.contains_iff_mem];exact(hI.done n).symm
  refine rD q0 ?_
  refine ak (Hj all n af) rfl ?_
  rw[this]
  exact jW
def Ps:IC:=OJ.snd.snd
theorem Fq{l:List TB}{F:Tm->Int->Option Int}{x:Tm}(hx:x.fits){n:Int}{d:Nat}{r:Int}(hn:0<=n/\n<=1000)(hd:d<=1000)(hF:∀k m q,0<=m->F k m=some q-> -1<=q/\q<=m)
 (ih:∀k∈x.kids,∀m q d',d=d'+1->0<=m/\m<=1000->F k m=some q->aV Tryz.prog 143 [.sl (l.map TB.d),k.d, .i m, .i d'] (.ret [.i q]))
 (h:(match d with|0=>some (-1)|_+1=>Br F x.kids (n - 1))=some r) {e:Nat->V} {o:Nat->ab} {nx:Nat} (hg:Good o nx) (e0:e 0= .d (.sl (l.map TB.d))) (e2:e 2= .d (.i n)) (e3:e 3= .d (.i d)) (e5:e 5= .ptr 0 0) (ho:o 0= .row x.row) (h1:1<=nx):
 kT Tryz.prog 55 0 false Ps (zY Tryz.prog [.tmp 8] (.ret [.i r])) ⟨e,o,nx⟩:=by
 have I4:=(Tm.bT x).1 hx
 simp only[Ps,OJ,IC.snd]
 cases d with
 |zero=>
  cases h
  simp+contextual (disch:=first|omega|simp only[go_sem,false_implies]) only[go_sem,wrap64,if_pos,e0,e2,e3,e5,ho]
 |succ d=>
  dsimp only at h
  have N2:(((d+1:Nat):Int)==0)=false:=by rw[beq_eq_false_iff_ne];omega
  refine Hq e0 e2 e3 e5 ho N2 ?_
  refine aC (fun i:Nat×Int=>⟨aY [.d (.sl (l.map TB.d)), .ad, .d (.i i.2), .d (.i (d+1:Nat)), .ad, .ptr 0 0, .ad, .ad, .ad, .ad, .d (.i i.1)],ay (fun _=> .no) 0 (.row x.row),1⟩)
   (fun i=>i.1<=x.kids.length/\Br F (x.kids.drop i.1) i.2=some r/\ -1<=i.2/\i.2<=1000) (fun i=>x.kids.length - i.1) (0,n - 1) ⟨Nat.zero_le _,h,by dsimp only;omega,by dsimp only;omega⟩ (bH.bM _ af af (Good.ay Good.nil af rfl) (fun j hj=> ?_) ?_) ?_
  ·have hj:j<1:=hj
   have:j=0:=af
   subst this
   rw[aa];exact ho
  ·exact nZ (by(repeat(first|rfl|rw[aa]|rw[ae _ _ _ _ (by omega)]));exact e0) (fU (nZ rfl (nZ Hu (fU (FB (by(repeat(first|rfl|rw[aa]|rw[ae _ _ _ _ (by omega)]));exact e5) rP (fU (fU (fU (fU (nZ rfl xQ))))))))))
  rintro⟨k,m⟩ ⟨hk,hl,Jn,M9⟩
  simp only at hk hl Jn M9
  by_cases h2:k<x.kids.length
  ·have eO:decide ((k:Int)<(x.kids.length:Int))=true:=by simp;omega
   obtain⟨y,hy⟩:=aA h2
   have OO:=List.mem_of_getElem? hy
   have I5:x.kids.drop k=y::x.kids.drop (k+1):=by
    obtain⟨i1,i2⟩:=List.getElem?_eq_some_iff.1 hy
    exact zu
   rw[I5]at hl
   simp only[Br]at hl
   by_cases h0:m<0
   ·have zS:decide (m≥0)=false:=by simp;omega
    rw[if_pos h0]at hl
    cases hl
    exact Nq hy eO zS
   ·have zS:decide (m≥0)=true:=by simp;omega
    rw[if_neg h0]at hl
    cases e:F y m with
    |none=>rw[e]at hl;cases hl
    |some q=>
    rw[e]at hl
    have hq:=hF y m q af e
    refine Bu hy eO zS ?_
    rw[show(((d+1:Nat):Int) - 1)=((d:Nat):Int) by omega]
    refine ak (ih y OO m q d rfl af e) rfl ?_
    refine bI ?_
    refine aj (k+1,q) ⟨h2,hl,by dsimp only;omega,by dsimp only;omega⟩ mQ (bH.bM _ af af (Good.ay Good.nil af rfl) (fun j hj=>rfl) ?_)
    exact dC
  ·have eO:decide ((k:Int)<(x.kids.length:Int))=false:=by simp;omega
   have:k=x.kids.length:=af
   subst this
   rw[List.drop_length]at hl
   cases hl
   exact Jy eO
theorem wZ{l:List TB}(hl:l.length<=1000)(nU:∀p∈ah l,p.2.fits):∀ (f:Nat) (t:Tm) (n:Int) (d:Nat) (r:Int),t.fits->0<=n/\n<=1000->d<=1000->tK f (ah l) t n d=some r->
 aV Tryz.prog 143 [.sl (l.map TB.d),t.d, .i n, .i d] (.ret [.i r])
 |0,_,_,_,_,_,_,_,h=>by cases h
 |f+1,t,n,d,r,ht,hn,hd,h=>by
  simp only[tK]at h
  cases ha:jY f (ah l) t with
  |none=>rw[ha]at h;cases h
  |some x=>
  rw[ha]at h
  dsimp only at h
  have I4:=rk nU f t x ht ha
  have afg:∀ (d':Nat) (k:Tm) (m q:Int),0<=m->tK f (ah l) k m d'=some q-> -1<=q/\q<=m:=fun d' k m q=>AW f k m d' q
  have rest:∀ {e:Nat->V} {o:Nat->ab} {nx:Nat},Good o nx->e 0= .d (.sl (l.map TB.d))->e 2= .d (.i n)->e 3= .d (.i d)->e 5= .ptr 0 0->o 0= .row x.row->1<=nx->kT Tryz.prog 55 0 false Ps (zY Tryz.prog [.tmp 8] (.ret [.i r])) ⟨e,o,nx⟩:=by
   intro e o nx hg e0 e2 e3 e5 ho h1
   refine Fq (F:=fun k m=>tK f (ah l) k m (d - 1)) I4 hn hd (fun k m q h1 h2=>afg _ k m q h1 h2) (fun k hk m q d' he hm hF=> ?_) ?_ hg e0 e2 e3 e5 ho h1
   ·subst he
    exact wZ hl nU f k m d' q ((Tm.bT x).1 I4 |>.2 k hk) hm af hF
   ·cases d with
    |zero=>exact h
    |succ d=>exact h
  have chain:∀ (g:Nat) (t:Tm),t.fits->jY g (ah l) t=some x->aV Tryz.prog 143 [.sl (l.map TB.d),t.d, .i n, .i d] (.ret [.i r]):=by
   intro g
   induction g with
   |zero=>intro t _ h;cases h
   |succ g ihg=>
    intro t ht Jm
    simp only[jY]at Jm
    refine aV.aG mix abR aH ?_
    rw[OJ]
    show kT _ _ _ _ (.seq _ (.seq _ Ps)) _ _
    by_cases h1:t.op=1
    ·have db:(t.op==1)=true:=by simpa using h1
     rw[if_pos h1]at Jm
     refine lT db ?_
     refine ak (lQ l t.n af) rfl ?_
     rcases rb l t.n with⟨g1,g2⟩|⟨k,y,g1,g2,g3⟩
     ·have DY:decide (findF l t.n≥0)=false:=by simp;omega
      rw[g2]at Jm
      cases Jm
      refine lT DY ?_
      exact rest dB rfl rfl rfl rfl rfl af
     ·have DY:decide (((k:Nat):Int)≥0)=true:=aH
      rw[g3]at Jm
      refine Bu g1 DY g2 ?_
      refine ak (ihg y.term (nU _ (gY (List.mem_of_getElem? g2))) Jm) rfl ?_
      exact jW
    ·have db:(t.op==1)=false:=by simpa using h1
     rw[if_neg h1]at Jm
     cases Jm
     refine lT db ?_
     exact rest dB rfl rfl rfl rfl rfl af
  exact chain f t ht ha
theorem tL{l:List TB}(hl:l.length<=1000)(nU:∀p∈ah l,p.2.fits)(hle:∀p∈ah l,∃f r,tK f (ah l) p.2 40 12=some r){ok:Bool}(aW:ok=true↔∀x∈l,ui (ah l) x.term):
 aV Tryz.prog 118 [.sl (l.map TB.d)] (.ret [.bool ok]):=by
 refine aV.aG mix abw aH ?_
 rw[abv]
 refine bI ?_
 refine aC (fun k:Nat=>⟨aY [.d (.sl (l.map TB.d)), .ad, .ad, .d (.i k)],fun _=> .no,0⟩)
  (fun k=>k<=l.length/\∀x∈l.take k,ui (ah l) x.term) (fun k=>l.length - k) 0 ⟨Nat.zero_le _,fun x hx=>by simp at hx⟩ (bH.d0 _ ?_) (fun k hk=> ?_)
 ·exact dC
 obtain⟨hk,ho⟩:=hk
 refine uj ?_
 refine ao (fun h2=> ?_) (fun h2=> ?_)
 ·replace h2:k<l.length:=by simp at h2;omega
  obtain⟨x,hx⟩:=aA h2
  have cy:=List.mem_of_getElem? hx
  obtain⟨f,r,hf⟩:=hle _ (gY cy)
  have cQ:=G6 hf
  refine rD hx ?_
  refine ak (wZ hl nU f x.term 40 12 r (nU _ (gY cy)) af af hf) rfl ?_
  by_cases h0:r<0
  ·have zS:decide (r<0)=true:=decide_eq_true h0
   have:ok=false:=by
    cases ok with
    |false=>rfl
    |true=>have:=cQ.1 (aW.1 rfl x cy);omega
   subst this
   exact xq zS
  ·have zS:decide (r<0)=false:=decide_eq_false h0
   refine lT zS ?_
   refine aj (k+1) ⟨h2,fun y hy=> ?_⟩ af (bH.d0 _ ?_)
   ·rw[List.take_add_one,hx]at hy
    rcases List.mem_append.1 hy with hy|hy
    ·exact ho y hy
    ·simp at hy
     subst hy
     exact cQ.2 af
   ·exact dC
 ·replace h2:k=l.length:=by simp at h2;omega
  subst h2
  rw[List.take_length]at ho
  have:ok=true:=aW.2 ho
  exact zA
theorem Pt{l:List TB}{i:Nat}{x:TB}(hx:l[i]? =some x):findF l x.var<(i:Int)↔x.var∈(ah (l.take i)).map (·.1):=by
 have e:(ah (l.take i)).map (·.1)=(l.take i).map (·.var):=by unfold ah;rw[List.map_map];rfl
 rw[e]
 obtain⟨hi,hxe⟩:=List.getElem?_eq_some_iff.1 hx
 unfold findF
 cases h:l.findIdx? (·.var==x.var)with
 |none=>
  rw[List.findIdx?_eq_none_iff]at h
  have:=h x (List.mem_of_getElem? hx)
  simp at this
 |some k=>
  rw[List.findIdx?_eq_some_iff_getElem]at h
  obtain⟨hk,h1,h2⟩:=h
  dsimp only
  constructor
  ·intro ck
   have ck:k<i:=af
   refine List.mem_map.2 ⟨l[k], ?_,by simpa using h1⟩
   rw[List.mem_iff_getElem?]
   exact⟨k,by rw[List.getElem?_take,if_pos ck,List.getElem?_eq_getElem hk]⟩
  ·intro hm
   obtain⟨y,hy,hyv⟩:=List.mem_map.1 hm
   obtain⟨j,hj⟩:=List.mem_iff_getElem?.1 hy
   rw[List.getElem?_take]at hj
   split at hj
   ·rename_i hji
    obtain⟨hjl,WZ⟩:=List.getElem?_eq_some_iff.1 hj
    rcases Nat.lt_or_ge j k with QR|QR
    ·have:=h2 j QR
     rw[WZ]at this
     simp[hyv]at this
    ·omega
   ·cases hj
theorem Fs(s:aF)(hs:s.Fits)(C6:kU s=true)(l:List TB)(hl:l.length<=1000)(hlf:∀x∈l,x.term.fits){ok:Bool}(aW:ok=true↔ji s l):
 aV Tryz.prog 76 [s.d, .sl (l.map TB.d)] (.ret [.bool ok]):=by
 have no: ¬ji s l->ok=false:=fun h=>by
  cases ok with
  |false=>rfl
  |true=>exact absurd (aW.1 rfl) h
 refine aV.aG mix aeT aH ?_
 rw[c76]
 by_cases h20:20<l.length
 ·have WB:decide ((l.length:Int)>20)=true:=by simp;omega
  have:=no fun h=>by have:=h.len;omega
  subst this
  exact Jy WB
 have WB:decide ((l.length:Int)>20)=false:=by simp;omega
 refine rD WB ?_
 refine aC (fun k:Nat=>⟨aY [.ad, .d (.sl (l.map TB.d)), .ptr 0 0, .ad, .ad, .d (.i k)],ay (fun _=> .no) 0 (.row [.d (.sl (s.cons.map ef.d)), .d (.sl (s.bW.map ef.d))]),1⟩)
  (fun k=>k<=l.length/\((ah (l.take k)).map (·.1)).Nodup/\∀x∈l.take k,(0<=x.var/\x.var<20)/\bn s x.term=true) (fun k=>l.length - k) 0 ⟨Nat.zero_le _,List.nodup_nil,fun x hx=>by simp at hx⟩ (bH.bM _ af af dB (fun j hj=>rfl) ?_) (fun k hk=> ?_)
 ·exact dC
 obtain⟨hk,zZ,ho⟩:=hk
 refine uj ?_
 refine ao (fun h2=> ?_) (fun h2=> ?_)
 ·replace h2:k<l.length:=by simp at h2;omega
  obtain⟨x,hx⟩:=aA h2
  have cy:=List.mem_of_getElem? hx
  have rL:=DD l hx
  refine rD hx ?_
  refine aZ (Fo x.var 0 19) rfl ?_
  have F2:dS x.var 0 19=true↔0<=x.var/\x.var<20:=by unfold dS;simp;omega
  cases h6:dS x.var 0 19 with
  |false=>
   have:=no fun h=>by
    have:=F2.2 (h.ok x cy).1
    rw[h6]at this;cases this
   exact QH
  |true=>
   refine rD hx ?_
   refine aZ (lQ l x.var af) rfl ?_
   have ck:=Pt hx
   cases h7:decide (findF l x.var<(k:Int))with
   |true=>
    have:=no fun h=>by
     have h8:=ck.1 (of_decide_eq_true h7)
     have h9:=h.keys.sublist (((List.take_sublist (k+1) l).map _).map _)
     have h9:((ah (l.take (k+1))).map (·.1)).Nodup:=h9
     rw[rL,List.map_append,List.nodup_append]at h9
     exact h9.2.2 x.var h8 x.var aH rfl
    subst this
    refine rN hx h7 ?_
    refine aE (ba rfl) ?_
    exact jW
   |false=>
    refine rN hx h7 ?_
    refine aZ (lP s hs x.term (hlf x cy)) rfl ?_
    have hve:=wX C6 x.term
    cases h8:(gA s x.term&&eZ x.term)with
    |false=>
     have:=no fun h=>by
      have:=(h.ok x cy).2
      rw[hve,h8]at this;cases this
     exact QH
    |true=>
     refine rD hx ?_
     refine aE (ba rfl) ?_
     refine bI ?_
     refine aj (k+1) ⟨h2, ?_,fun y hy=> ?_⟩ af (bH.bM _ af af dB (fun j hj=>rfl) ?_)
     ·rw[rL,List.map_append,List.nodup_append]
      refine⟨zZ,aH,fun a ha c hc e=> ?_⟩
      simp at hc
      rw[e,hc]at ha
      exact of_decide_eq_false h7 (ck.2 ha)
     ·rw[List.take_add_one,hx]at hy
      rcases List.mem_append.1 hy with hy|hy
      ·exact ho y hy
      ·simp at hy
       subst hy
       exact⟨F2.1 h6,by rw[hve,h8]⟩
     ·exact dC
 ·replace h2:k=l.length:=by simp at h2;omega
  subst h2
  rw[List.take_length]at zZ ho
  have FV:∀p∈ah l,Vs s p.2:=fun p hp=>by
   obtain⟨x,hx,rfl⟩:=dz hp
   exact(b9 (ho x hx).2).1
  have nU:∀p∈ah l,p.2.kX:=fun p hp=>by
   obtain⟨x,hx,rfl⟩:=dz hp
   exact Tm.Fm _ (by have:=(b9 (ho x hx).2).2.1;show x.term.sz<=1000;omega)
  refine bI ?_
  refine aC (fun k:Nat=>⟨aY [.ad, .d (.sl (l.map TB.d)), .ad, .ad, .ad, .ad, .d (.i k)],fun _=> .no,0⟩)
   (fun k=>k<=l.length/\∀x∈l.take k, ¬mH (ah l) x.var x.term) (fun k=>l.length - k) 0 ⟨Nat.zero_le _,fun x hx=>by simp at hx⟩ (bH.d0 _ ?_) (fun k hk=> ?_)
  ·exact dC
  obtain⟨hk,hc⟩:=hk
  refine uj ?_
  refine ao (fun h2=> ?_) (fun h2=> ?_)
  ·replace h2:k<l.length:=by simp at h2;omega
   obtain⟨x,hx⟩:=aA h2
   have cy:=List.mem_of_getElem? hx
   obtain⟨is,A0⟩:∃is:Bool,is=true↔mH (ah l) x.var x.term:=by
    classical
    exact⟨decide (mH (ah l) x.var x.term),aH⟩
   refine rD hx ?_
   refine aZ (wY hl FV nU x.var x.term (FV _ (gY cy)) (nU _ (gY cy)) A0) rfl ?_
   cases is with
   |true=>
    have:=no fun h=>h.I2 x.var x.term ((lK h.keys).2 (gY cy)) (A0.1 rfl)
    subst this
    exact J2
   |false=>
    refine bI ?_
    refine aE (ba rfl) ?_
    refine bI ?_
    refine aj (k+1) ⟨h2,fun y hy=> ?_⟩ af (bH.d0 _ ?_)
    ·rw[List.take_add_one,hx]at hy
     rcases List.mem_append.1 hy with hy|hy
     ·exact hc y hy
     ·simp at hy
      subst hy
      exact fun h=>Bool.false_ne_true (A0.2 h)
    ·exact dC
  ·replace h2:k=l.length:=by simp at h2;omega
   subst h2
   rw[List.take_length]at hc
   have Mv:Wn (ah l):=fun v t ht=>by
    obtain⟨x,hx,e⟩:=dz (cK ht)
    cases e
    exact hc x hx
   obtain⟨l',ρ,R,hS,Gb⟩:=oA zZ ho Mv
   have hle:∀p∈ah l,∃f r,tK f (ah l) p.2 40 12=some r:=fun p hp=>by
    exact QQ
   refine bI ?_
   refine ak (tL (ok:=ok) hl (fun p hp=>Tm.wW _ (nU p hp)) hle (aW.trans ⟨fun h=>h.SU,fun h=>⟨af,zZ,ho,Mv,h⟩⟩)) rfl ?_
   exact jW
theorem Hk(gone:Nat->Prop)(x:V)(L:List V)(uh:∀id,gone id->12<=id){op n:Int}{ks:List Tm}{k:Nat}{t:Tm}{e:Nat->V}{so:Nat->ab}{m:Nat}(gx:fY so gone 33 3 ((ks.take k).map Tm.d) x)
 (s0:so 0= .row t.row) (s1:so 1= .row [.d (.i 0), .d (.i 0), .ax]) (s11:so 11= .row [.d (.i op), .d (.i n),x]) (he:iY 12 [⟨x,33,3,(ks.take k).map Tm.d⟩] so gone e L 0):bH 0 ⟨e,so,m⟩ ⟨aY L,ay (Fg op n ks k) 0 (.row t.row),12+1⟩:=by
 refine bH.sG gone x 12 L af (fun j hj=> ?_) (by rw[ae _ _ _ _ (by omega)];exact fuH_12 op n ks k) gx (fun j hj=>by rw[ae _ _ _ _ (by omega)];exact AY _ _ _ _ af af af) (fun j h1 h2=>absurd (uh j h1) af) he
 by_cases e0:j=0
 ·subst e0
  rw[aa]
  exact bC s0 (fun r hr=>by simp[ab.refs,V.aO,V.refs]at hr)
 rw[ae _ _ _ _ e0]
 by_cases e1:j=1
 ·subst e1
  rw[fuH_1]
  exact Qg
 ·by_cases e2:j=11
  ·subst e2
   rw[fuH_11]
   exact Qm
  ·rw[AY _ _ _ _ e1 e2 (by omega)]
   exact mo
theorem s7{l:List TB}(hl:l.length<=1000)(nU:∀p∈ah l,p.2.fits):∀ (f:Nat) (t y:Tm) (d:Nat),t.fits->d<=1000->G7 f (ah l) t d=some y->y.sz<=1000000->
 aV Tryz.prog 93 [.sl (l.map TB.d),t.d, .i d] (.ret [y.d, .bool true])
 |0,_,_,_,_,_,h,_=>by cases h
 |f+1,t,y,d,ht,hd,h,hz=>by
  simp only[G7]at h
  have Wt:=(Tm.bT t).1 ht
  refine aV.aG mix ae1 aH ?_
  rw[c93]
  by_cases h1:t.op=1
  ·have db:(t.op==1)=true:=by simpa using h1
   rw[if_pos h1]at h
   refine lT db ?_
   refine ak (lQ l t.n af) rfl ?_
   rcases rb l t.n with⟨g1,g2⟩|⟨k,z,g1,g2,g3⟩
   ·have DY:decide (findF l t.n<0)=true:=by simp;omega
    rw[g2]at h
    cases h
    exact xq DY
   ·have DY:decide (((k:Nat):Int)<0)=false:=aH
    rw[g3]at h
    cases d with
    |zero=>cases h
    |succ d=>
     have N2:(((d+1:Nat):Int)==0)=false:=by rw[beq_eq_false_iff_ne];omega
     refine Jw g1 DY g2 N2 ?_
     rw[show(((d+1:Nat):Int) - 1)=((d:Nat):Int) by omega]
     refine bw (s7 hl nU f z.term y d (nU _ (gY (List.mem_of_getElem? g2))) af h hz) ?_
     exact jW
  ·have db:(t.op==1)=false:=by simpa using h1
   rw[if_neg h1]at h
   cases hL:Dy (fun k=>G7 f (ah l) k d) t.kids with
   |none=>rw[hL]at h;cases h
   |some ks=>
   rw[hL]at h
   cases h
   obtain⟨HN,HC⟩:=AX hL
   have ek:rK ks+1<=1000000:=by rw[Tm.jR]at hz;simp only[Tm.kids]at hz;omega
   have hle:=my ks
   refine lT db ?_
   refine aC (fun i:Nat=>⟨aY [.d (.sl (l.map TB.d)), .ad, .d (.i d), .ad, .ptr 0 0, .ad, .ptr 1 0, .ad, .ad, .ptr 11 0, .d (.i i)],ay (Fg t.op t.n ks i) 0 (.row t.row),12+1⟩)
    (fun i=>i<=t.kids.length) (fun i=>t.kids.length - i) 0 (Nat.zero_le _) (Hk (fun _=>False) .ax _ (fun _ h=>h.elim) (.inl ⟨rfl,rfl,bD⟩) cF cF cF ?_) (fun k hk=> ?_)
   ·exact rE
   replace hk:k<=t.kids.length:=hk
   have q0:ay (Fg t.op t.n ks k) 0 (.row t.row) 0= .row t.row:=aa _ _ _
   have q1:ay (Fg t.op t.n ks k) 0 (.row t.row) 1= .row [.d (.i 0), .d (.i 0), .ax]:=rfl
   have Pf:ay (Fg t.op t.n ks k) 0 (.row t.row) 11= .row [.d (.i t.op), .d (.i t.n), .osl 12 0]:=rfl
   have Pg:ay (Fg t.op t.n ks k) 0 (.row t.row) 12= .arr 0 33 3 ((ks.take k).map Tm.d):=rfl
   refine Jw q0 q1 Pf Pg ?_
   refine ao (fun h2=> ?_) (fun h2=> ?_)
   ·replace h2:k<t.kids.length:=by simp at h2;omega
    obtain⟨z,Wy⟩:=aA h2
    obtain⟨z',NN,hF⟩:=HC k z Wy
    have SS:=List.mem_of_getElem? Wy
    have rL:ks.take (k+1)=ks.take k++[z']:=by rw[List.take_add_one,NN];rfl
    have e0:(ks.take k).length=k:=by rw[List.length_take];omega
    have hzs:z'.sz<=1000000:=by have:=Hc (List.mem_of_getElem? NN);omega
    have fE:k<=140737488355327/\(k+1)*24<=140737488355328:=af
    simp+contextual (disch:=first|omega|simp only[go_sem,false_implies]) only[go_sem,wrap64,if_pos,q0,q1,Pf,Pg,Wy,List.length_map]
    refine bw (s7 hl nU f z z' d (Wt.2 z SS) hd hF hzs) ?_
    simp+contextual (disch:=first|omega|simp only[go_sem,false_implies]) only[go_sem,wrap64,if_pos,q0,q1,Pf,Pg,Wy,List.length_map,e0,if_pos fE]
    refine aj (k+1) h2 af (Hk (fun j=>12<=j) (.osl 12 1) _ (fun _ h=>h) (.inr ⟨12,1,Nat.le_refl _,rfl,by(repeat(first|rfl|rw[aa]|rw[ae _ _ _ _ (by omega)]));rw[rL,List.map_append];rfl⟩) cF YY cF ?_)
    exact rE
   ·replace h2:k=t.kids.length:=by simp at h2;omega
    subst h2
    have Wr:ay (Fg t.op t.n ks t.kids.length) 0 (.row t.row) 12= .arr 0 33 3 (ks.map Tm.d):=by rw[Pg, <- HN,List.take_length]
    simp+contextual (disch:=first|omega|simp only[go_sem,false_implies]) only[go_sem,wrap64,if_pos,q0,q1,Pf,Wr]
    rw[Tm.K7]
theorem oF{l:List TB}(hl:l.length<=1000)(nU:∀p∈ah l,p.2.fits){t y:Tm}{f:Nat}(ht:t.fits)(h:G7 f (ah l) t (ah l).length=some y)(hz:y.sz<=1000000):aV Tryz.prog 42 [.sl (l.map TB.d),t.d] (.ret [y.d]):=by
 have e:(ah l).length=l.length:=by unfold ah;rw[List.length_map]
 rw[e]at h
 refine aV.aG mix aeE aH ?_
 rw[c42]
 refine uj ?_
 refine bw (s7 hl nU f t y l.length ht hl h hz) ?_
 exact jW
theorem tM{l:List TB}(hl:l.length<=1000)(nU:∀p∈ah l,p.2.fits){n:Nt}{x y:Tm}{f g:Nat}(ha:n.a.fits)(hb:n.b.fits)(hx:G7 f (ah l) n.a (ah l).length=some x)(hy:G7 g (ah l) n.b (ah l).length=some y)(zx:x.sz<=1000000)(zy:y.sz<=1000000):
 aV Tryz.prog 71 [.sl (l.map TB.d),n.d] (.ret [.bool (hO x y)]):=by
 refine aV.aG mix aeQ aH ?_
 rw[c71]
 refine bI ?_
 refine aS (oF hl nU ha hx zx) ?_
 refine bI ?_
 refine aS (oF hl nU hb hy zy) ?_
 refine bI ?_
 refine aZ (wo x (Tm.dv _ zx) y (Tm.dv _ zy)) rfl ?_
 exact J2
end Go.Proofs.YtlhemmpklhhgoaaGreat
set_option maxHeartbeats 2000000
namespace Go.Proofs.YtlhemmpklhhgoaaGreat
theorem WC(nb nn:Int)(l m:Int×Int)(ms:List (Int×Int)):sV nb nn l (m::ms)=(dS m.1 l.1 nb&&dS m.2 l.2 nn&&sV nb nn m ms):=by
 rw[sV]
 congr 1
 unfold dS
 rw[Bool.eq_iff_iff]
 simp
 omega
theorem pX(s:c6)(hs:s.Fin){ok:Bool}(aW:ok=true↔bO s):aV Tryz.prog 22 [s.d] (.ret [.bool ok]):=by
 have no: ¬bO s->ok=false:=fun h=>by
  cases ok with
  |false=>rfl
  |true=>exact absurd (aW.1 rfl) h
 have u7:=hs.bl
 have tY:=hs.nl
 have Jl:=hs.ml
 refine aV.aG mix aey aH ?_
 rw[c22]
 refine bI ?_
 refine ak (acN s.sig hs.sig) rfl ?_
 cases h1:kU s.sig with
 |false=>
  have:=no fun h=>by have:=h.sig;rw[h1]at this;cases this
  exact zA
 |true=>
 obtain⟨bo,T4⟩:∃bo:Bool,bo=true↔ji s.sig s.binds:=by
  classical
  exact⟨decide (ji s.sig s.binds),aH⟩
 refine bI ?_
 refine ak (Fs s.sig hs.sig h1 s.binds u7 (fun x hx=>(hs.bt x hx).fits) T4) rfl ?_
 cases bo with
 |false=>
  have:=no fun h=>Bool.false_ne_true (T4.2 h.kZ)
  exact zA
 |true=>
 have hb:=T4.1 rfl
 by_cases h3:12<s.aJ.length
 ·have j6:decide ((s.aJ.length:Int)>12)=true:=by simp;omega
  have:=no fun h=>by have:=h.wM;omega
  subst this
  exact Jy j6
 have j6:decide ((s.aJ.length:Int)>12)=false:=by simp;omega
 by_cases h4:8<s.marks.length
 ·have HZ:decide ((s.marks.length:Int)>8)=true:=by simp;omega
  have:=no fun h=>by have:=h.I6;omega
  subst this
  exact Jx j6 HZ
 have HZ:decide ((s.marks.length:Int)>8)=false:=by simp;omega
 obtain⟨l',ρ,R,hS,Gb⟩:=oA hb.keys hb.ok hb.I2
 have nU:∀p∈ah s.binds,p.2.fits:=fun p hp=>by
  obtain⟨x,hx,rfl⟩:=dz hp
  exact(hs.bt x hx).fits
 have cQ:∀p∈ah s.binds,ui (ah s.binds) p.2:=fun p hp=>by
  obtain⟨x,hx,rfl⟩:=dz hp
  exact hb.SU x hx
 refine rN j6 HZ ?_
 refine aC (fun k:Nat=>⟨aY [.ad, .ptr 0 0, .ad, .d (.i k)],ay (fun _=> .no) 0 (.row s.row),1⟩)
  (fun k=>k<=s.aJ.length/\∀n∈s.aJ.take k,bn s.sig n.a=true/\bn s.sig n.b=true/\ ¬A1 (ah s.binds) n) (fun k=>s.aJ.length - k) 0 ⟨Nat.zero_le _,fun n hn=>by simp at hn⟩ (bH.bM _ af af dB (fun j hj=>rfl) ?_) (fun k hk=> ?_)
 ·exact dC
 obtain⟨hk,ho⟩:=hk
 refine uj ?_
 refine ao (fun h6=> ?_) (fun h6=> ?_)
 ·replace h6:k<s.aJ.length:=by simp at h6;omega
  obtain⟨n,hn⟩:=aA h6
  have xi:=List.mem_of_getElem? hn
  obtain⟨na,nb⟩:=hs.nt n xi
  have ea:=wX h1 n.a
  have eb:=wX h1 n.b
  refine rD hn ?_
  refine aZ (lP s.sig hs.sig n.a na.fits) rfl ?_
  cases va:(gA s.sig n.a&&eZ n.a)with
  |false=>
   have:=no fun h=>by have:=(h.aJ n xi).1;rw[ea,va]at this;cases this
   exact TI
  |true=>
   refine rD hn ?_
   refine aZ (lP s.sig hs.sig n.b nb.fits) rfl ?_
   cases vb:(gA s.sig n.b&&eZ n.b)with
   |false=>
    have:=no fun h=>by have:=(h.aJ n xi).2.1;rw[eb,vb]at this;cases this
    exact TI
   |true=>
    obtain⟨a1,a2,a3⟩:=b9 (ea.trans va)
    obtain⟨b1,b2,b3⟩:=b9 (eb.trans vb)
    have za:=mz hS cQ a1
    have zb:=mz hS cQ b1
    obtain⟨fa,ua⟩:=sU hS a1
    obtain⟨fb,ub⟩:=sU hS b1
    have uM:=A2 (n:=n) hS a1 b1
    refine rD hn ?_
    refine aZ (tM u7 nU (n:=n) na.fits nb.fits ua ub af af) rfl ?_
    cases xh:hO (bc (ah l') n.a) (bc (ah l') n.b)with
    |true=>
     have:=no fun h=>(h.aJ n xi).2.2 (uM.2 ((gB _ _).1 xh))
     exact TI
    |false=>
     refine rD hn ?_
     refine aE (ba rfl) ?_
     refine bI ?_
     refine aj (k+1) ⟨h6,fun y hy=> ?_⟩ af (bH.bM _ af af dB (fun j hj=>rfl) ?_)
     ·rw[List.take_add_one,hn]at hy
      rcases List.mem_append.1 hy with hy|hy
      ·exact ho y hy
      ·simp at hy
       subst hy
       refine⟨ea.trans va,eb.trans vb,fun h=> ?_⟩
       rw[(gB _ _).2 (uM.1 h)]at xh;cases xh
     ·exact dC
 ·replace h6:k=s.aJ.length:=by simp at h6;omega
  subst h6
  rw[List.take_length]at ho
  have fin:sV s.binds.length s.aJ.length (0,0) s.marks=ok:=by
   rw[Bool.eq_iff_iff,aW]
   exact⟨fun h=>⟨h1,af,af,hb,ho,h⟩,fun h=>h.marks⟩
  refine uj ?_
  refine aC (fun i:Nat×Int×Int=>⟨aY [.ad, .ptr 0 0, .ad, .ad, .ptr 7 0, .d (.i i.1)],ay (ay (fun _=> .no) 0 (.row s.row)) 7 (.row [.d (.i i.2.1), .d (.i i.2.2)]),8⟩)
   (fun i=>i.1<=s.marks.length/\sV s.binds.length s.aJ.length i.2 (s.marks.drop i.1)=ok) (fun i=>s.marks.length - i.1) (0,0,0) ⟨Nat.zero_le _,fin⟩ (bH.bM _ (show 0<=8 from af) af dB (fun j hj=> ?_) ?_) ?_
  ·by_cases e:j=7
   ·exact uQ
   ·exact cF
  ·exact dC
  rintro⟨k,l1,l2⟩ ⟨hk,lW⟩
  dsimp only at hk lW|-
  refine uj ?_
  refine ao (fun h7=> ?_) (fun h7=> ?_)
  ·replace h7:k<s.marks.length:=by simp at h7;omega
   obtain⟨⟨m1,m2⟩,hm⟩:=aA h7
   have I5:s.marks.drop k=(m1,m2)::s.marks.drop (k+1):=by
    obtain⟨i1,i2⟩:=List.getElem?_eq_some_iff.1 hm
    exact zu
   rw[I5,WC]at lW
   dsimp only at lW
   refine rD hm ?_
   refine ak (Fo m1 l1 s.binds.length) rfl ?_
   cases g1:dS m1 l1 s.binds.length with
   |false=>
    rw[g1]at lW
    simp only[Bool.false_and]at lW
    subst lW
    exact jW
   |true=>
    rw[g1]at lW
    refine rD hm ?_
    refine ak (Fo m2 l2 s.aJ.length) rfl ?_
    cases g2:dS m2 l2 s.aJ.length with
    |false=>
     rw[g2]at lW
     simp only[Bool.true_and,Bool.false_and]at lW
     subst lW
     exact jW
    |true=>
     rw[g2]at lW
     simp only[Bool.true_and]at lW
     refine rD hm ?_
     refine aj (k+1,m1,m2) ⟨h7,lW⟩ mQ (bH.bM _ (show 0<=8 from af) af dB (fun j hj=> ?_) ?_)
     ·have hj:j<8:=hj
      by_cases e:j=7
      ·exact uQ
      ·(repeat(first|rfl|rw[aa]|rw[ae _ _ _ _ (by omega)]));rw[ae _ 7 _ _ e]
     ·exact dC
  ·replace h7:k=s.marks.length:=by simp at h7;omega
   subst h7
   rw[List.drop_length]at lW
   have lW:true=ok:=lW
   subst lW
   exact jW
structure c6.Fits (s:c6):Prop where
 sig:s.sig.Fits
 bl:s.binds.length<=9223372036854775807
 nl:s.aJ.length<=9223372036854775807
 ml:s.marks.length<=9223372036854775807
 bt:∀x∈s.binds,x.term.fits
 nt:∀n∈s.aJ,n.a.fits/\n.b.fits
structure zg (s:c6):Prop where
 sig:ju s.sig=true
 bl:s.binds.length<=22
 nl:s.aJ.length<=14
 ml:s.marks.length<=10
 bt:∀x∈s.binds,eg x.term=true
 nt:∀n∈s.aJ,eg n.a=true/\eg n.b=true
theorem WD{s:c6}(hf:s.Fits)(h:zg s):s.Fin:=by
 have sm:∀t:Tm,t.fits->eg t=true->t.Fin:=fun t h1 h2=>⟨h1,by have:=((wA t).1 h2).2;omega⟩
 have:=h.bl
 have:=h.nl
 have:=h.ml
 exact⟨hf.sig,af,af,af,fun x hx=>sm _ (hf.bt x hx) (h.bt x hx),fun n hn=>⟨sm _ (hf.nt n hn).1 (h.nt n hn).1,sm _ (hf.nt n hn).2 (h.nt n hn).2⟩⟩
theorem Ft(s:c6)(hs:s.Fits){ok:Bool}(aW:ok=true↔zg s):aV Tryz.prog 23 [s.d] (.ret [.bool ok]):=by
 have no: ¬zg s->ok=false:=fun h=>by
  cases ok with
  |false=>rfl
  |true=>exact absurd (aW.1 rfl) h
 have u7:=hs.bl
 have tY:=hs.nl
 have Jl:=hs.ml
 refine aV.aG mix aez aH ?_
 rw[c23]
 refine bI ?_
 refine ak (E0 s.sig hs.sig) rfl ?_
 cases h1:ju s.sig with
 |false=>
  have:=no fun h=>by have:=h.sig;rw[h1]at this;cases this
  exact zA
 |true=>
 by_cases h2:22<s.binds.length
 ·have eO:decide ((s.binds.length:Int)>22)=true:=by simp;omega
  have:=no fun h=>by have:=h.bl;omega
  subst this
  exact Jy eO
 have eO:decide ((s.binds.length:Int)>22)=false:=by simp;omega
 by_cases h3:14<s.aJ.length
 ·have j6:decide ((s.aJ.length:Int)>14)=true:=by simp;omega
  have:=no fun h=>by have:=h.nl;omega
  subst this
  exact Jx eO j6
 have j6:decide ((s.aJ.length:Int)>14)=false:=by simp;omega
 by_cases h4:10<s.marks.length
 ·have HZ:decide ((s.marks.length:Int)>10)=true:=by simp;omega
  have:=no fun h=>by have:=h.ml;omega
  subst this
  exact Nq eO j6 HZ
 have HZ:decide ((s.marks.length:Int)>10)=false:=by simp;omega
 refine Bu eO j6 HZ ?_
 refine aC (fun k:Nat=>⟨aY [.ad, .ptr 0 0, .ad, .d (.i k)],ay (fun _=> .no) 0 (.row s.row),1⟩)
  (fun k=>k<=s.binds.length/\∀x∈s.binds.take k,eg x.term=true) (fun k=>s.binds.length - k) 0 ⟨Nat.zero_le _,fun n hn=>by simp at hn⟩ (bH.bM _ af af dB (fun j hj=>rfl) ?_) (fun k hk=> ?_)
 ·exact dC
 obtain⟨hk,ho⟩:=hk
 refine uj ?_
 refine ao (fun h6=> ?_) (fun h6=> ?_)
 ·replace h6:k<s.binds.length:=by simp at h6;omega
  obtain⟨x,hx⟩:=aA h6
  have cy:=List.mem_of_getElem? hx
  refine rD hx ?_
  refine ak (qV x.term (hs.bt x cy)) rfl ?_
  cases hv:eg x.term with
  |false=>
   have:=no fun h=>by have:=h.bt x cy;rw[hv]at this;cases this
   exact zA
  |true=>
   refine bI ?_
   refine aj (k+1) ⟨h6,fun y hy=> ?_⟩ af (bH.bM _ af af dB (fun j hj=>rfl) ?_)
   ·rw[List.take_add_one,hx]at hy
    rcases List.mem_append.1 hy with hy|hy
    ·exact ho y hy
    ·simp at hy
     subst hy
     exact hv
   ·exact dC
 ·replace h6:k=s.binds.length:=by simp at h6;omega
  subst h6
  rw[List.take_length]at ho
  refine uj ?_
  refine aC (fun k:Nat=>⟨aY [.ad, .ptr 0 0, .ad, .ad, .d (.i k)],ay (fun _=> .no) 0 (.row s.row),1⟩)
   (fun k=>k<=s.aJ.length/\∀n∈s.aJ.take k,eg n.a=true/\eg n.b=true) (fun k=>s.aJ.length - k) 0 ⟨Nat.zero_le _,fun n hn=>by simp at hn⟩ (bH.bM _ af af dB (fun j hj=>rfl) ?_) (fun k hk=> ?_)
  ·exact dC
  obtain⟨hk,ho2⟩:=hk
  refine uj ?_
  refine ao (fun h6=> ?_) (fun h6=> ?_)
  ·replace h6:k<s.aJ.length:=by simp at h6;omega
   obtain⟨n,hn⟩:=aA h6
   have xi:=List.mem_of_getElem? hn
   obtain⟨na,nb⟩:=hs.nt n xi
   refine rD hn ?_
   refine ak (qV n.a na) rfl ?_
   cases va:eg n.a with
   |false=>
    have:=no fun h=>by have:=(h.nt n xi).1;rw[va]at this;cases this
    exact zA
   |true=>
    refine rD hn ?_
    refine ak (qV n.b nb) rfl ?_
    cases vb:eg n.b with
    |false=>
     have:=no fun h=>by have:=(h.nt n xi).2;rw[vb]at this;cases this
     exact zA
    |true=>
     refine bI ?_
     refine aj (k+1) ⟨h6,fun y hy=> ?_⟩ af (bH.bM _ af af dB (fun j hj=>rfl) ?_)
     ·rw[List.take_add_one,hn]at hy
      rcases List.mem_append.1 hy with hy|hy
      ·exact ho2 y hy
      ·simp at hy
       subst hy
       exact⟨va,vb⟩
     ·exact dC
  ·replace h6:k=s.aJ.length:=by simp at h6;omega
   subst h6
   rw[List.take_length]at ho2
   have:ok=true:=aW.2 ⟨h1,af,af,af,ho,ho2⟩
   exact zA
end Go.Proofs.YtlhemmpklhhgoaaGreat
namespace Go.Proofs.YtlhemmpklhhgoaaGreat
theorem SX:∀ (f:Nat) (t:Tm),t.mm<=f->uI (f+1) [] t=some t
 |0,t,h=>by rw[Tm.pP]at h;omega
 |f+1,t,h=>by
  have ha:jY (f+1) [] t=some t:=by
   simp only[jY,bR]
   split<;>rfl
  rw[uI,ha]
  show(Dy (uI (f+1) []) t.kids).map (fun ks=>Tm.mk t.op t.n ks)=_
  rw[show Dy (uI (f+1) []) t.kids=some (t.kids.map id)from uJ fun k hk=>SX f k (by have:=Tm.qP hk;omega),List.map_id]
  show some (Tm.mk t.op t.n t.kids)=some t
  rw[Tm.eta]
theorem w6(t:Tm)(hz:t.sz<=1000000):aV Tryz.prog 107 [t.d] (.ret [t.d]):=by
 refine aV.aG mix RX aH ?_
 rw[Vj]
 refine bI ?_
 refine bw (wL (b:=[]) (fun _ h=>by cases h) (t.mm+1) t t (Tm.dv t hz) (SX _ t (Nat.le_refl _)) hz) ?_
 exact jW
theorem DG(l:List ef)(hl:l.length<=1000000):aV Tryz.prog 105 [.sl (l.map ef.d)] (.ret [.sl (l.map ef.d)]):=by
 refine aV.aG mix RV aH ?_
 rw[Vh]
 have hu:Tryz.prog.underlying 22=some (.slice 124):=ai
 cases l with
 |nil=>
  have heq:∀O,rR Tryz.prog O 22 true (.d (.sl [])) .ax=some .fC:=by
   intro O
   unfold rR
   rw[hu]
   rfl
  simp only[List.map_cons,List.map_nil]
  refine lT heq ?_
  simp only[List.isEmpty_nil,if_true]
  exact xq heq
 |cons a l=>
  have heq:∀O,rR Tryz.prog O 22 true (.d (.sl (a.d::l.map ef.d))) .ax=some (.d (.bool false)):=by
   intro O
   unfold rR
   rw[hu]
   rfl
  have Kr:(a.d::l.map ef.d).all (fun z=>z.cells.length==2)=true:=by
   rw[List.all_eq_true]
   intro z hz
   obtain⟨r,_,rfl⟩:=List.mem_map.1 (show z∈(a::l).map ef.d from hz)
   rfl
  simp only[List.map_cons,List.map_nil]
  refine lT heq ?_
  simp only[List.isEmpty_nil,if_true]
  refine Bh heq Kr ?_
  rw[List.length_cons]at hl
  rw[if_pos (by omega)]
  exact jW
theorem Fu(l:List (Int×Int))(hl:l.length<=1000000)(o:Nat->ab)(fr:Nat):Bo Tryz.prog 106 [.d (.sl (l.map rM))] [] o fr (.osl fr 0) [(fr, .arr 0 77 2 (l.map rM))]:=by
 refine Bo.K9 (ds:=[.sl (l.map rM)]) ?_
 refine bZ.aG mix RW aH ?_
 rw[Vi]
 have hu:Tryz.prog.underlying 27=some (.slice 77):=ai
 cases l with
 |nil=>
  have heq:∀O,rR Tryz.prog O 27 true (.d (.sl [])) .ax=some .fC:=by
   intro O
   unfold rR
   rw[hu]
   rfl
  simp only[List.map_cons,List.map_nil]
  refine lT heq ?_
  simp only[List.isEmpty_nil,if_true]
  refine lT heq ?_
  exact .inl ⟨3,1,rfl,aa _ _ _⟩
 |cons a l=>
  have heq:∀O,rR Tryz.prog O 27 true (.d (.sl (rM a::l.map rM))) .ax=some (.d (.bool false)):=by
   intro O
   unfold rR
   rw[hu]
   rfl
  have Kr:(rM a::l.map rM).all (fun z=>z.cells.length==2)=true:=by
   rw[List.all_eq_true]
   intro z hz
   obtain⟨r,_,rfl⟩:=List.mem_map.1 (show z∈(a::l).map rM from hz)
   rfl
  simp only[List.map_cons,List.map_nil]
  refine lT heq ?_
  simp only[List.isEmpty_nil,if_true]
  refine Bh heq Kr ?_
  rw[List.length_cons]at hl
  rw[if_pos (by omega)]
  refine bI ?_
  exact .inl ⟨3,1,rfl,aa _ _ _⟩
end Go.Proofs.YtlhemmpklhhgoaaGreat
