/-
  A PART OF THE PROOF. Conditions: none.
-/
import Derived.Test.YtlhemmpklhhgoaaGreatQn18
set_option linter.unusedSimpArgs false
set_option linter.unusedVariables false
set_option maxHeartbeats 4000000
namespace Go.Proofs.YtlhemmpklhhgoaaGreat
def xI(o:Nat->ab)(nx:Nat)(s:bU)(m:ab):Nat->ab:=
 ay (ay (ay (ay o nx (.row s.row)) (nx+1) (.row [.aw, .aw, .aw, .aw, .aw, .d .dL])) (nx+4) m) (nx+6) (.row (s.row++[.mp (nx+4)]))
theorem kpH_0(o:Nat->ab)(nx:Nat)(s:bU)(m:ab):xI o nx s m nx= .row s.row:=by
 unfold xI;rw[ae _ _ _ _ (by omega),ae _ _ _ _ (by omega),ae _ _ _ _ (by omega),aa]
theorem kpH_1(o:Nat->ab)(nx:Nat)(s:bU)(m:ab):xI o nx s m (nx+1)= .row [.aw, .aw, .aw, .aw, .aw, .d .dL]:=by
 unfold xI;rw[ae _ _ _ _ (by omega),ae _ _ _ _ (by omega),aa]
theorem kpH_4(o:Nat->ab)(nx:Nat)(s:bU)(m:ab):xI o nx s m (nx+4)=m:=by
 unfold xI;rw[ae _ _ _ _ (by omega),aa]
theorem kpH_6(o:Nat->ab)(nx:Nat)(s:bU)(m:ab):xI o nx s m (nx+6)= .row (s.row++[.mp (nx+4)]):=by unfold xI;rw[aa]
theorem N9(o:Nat->ab)(nx:Nat)(s:bU)(m:ab){j:Nat}(h0:j≠nx)(h1:j≠nx+1)(h4:j≠nx+4)(h6:j≠nx+6):xI o nx s m j=o j:=by
 unfold xI;rw[ae _ _ _ _ h6,ae _ _ _ _ h4,ae _ _ _ _ h1,ae _ _ _ _ h0]
theorem Ip(o:Nat->ab)(nx:Nat)(s:bU)(m m':ab)(j:Nat):ay (xI o nx s m) (nx+4) m' j=xI o nx s m' j:=by
 by_cases e:j=nx+4
 ·subst e;rw[aa,kpH_4]
 ·rw[ae _ _ _ _ e]
  unfold xI
  by_cases e6:j=nx+6
  ·subst e6;rw[aa,aa]
  ·rw[ae _ _ _ _ e6,ae _ _ _ _ e6,ae _ _ _ _ e,ae _ _ _ _ e]
theorem rY{o:Nat->ab}{nx:Nat}(hg:Good o nx)(s:bU){m:ab}(hm:m.refs=[]):Good (xI o nx s m) (nx+7):=by
 unfold xI
 refine Good.ay (Good.ay (Good.ay (Good.ay (hg.mono af) af rfl) af rfl) af (by rw[hm];rfl)) af ur
theorem Rl(o:Nat->ab)(nx:Nat)(s:bU)(j:Nat):
 ay (ay (ay (ay (ay o nx (.row s.row)) (nx+1) (.row [.aw, .aw, .aw, .aw, .aw, .d .dL])) (nx+4) (dv [])) (nx+6) (.row [.aw, .aw, .aw, .aw, .aw, .d .dL])) (nx+6) (.row (s.row++[.mp (nx+4)])) j=xI o nx s (dv []) j:=by
 unfold xI
 by_cases e:j=nx+6
 ·subst e;rw[aa,aa]
 ·rw[ae _ _ _ _ e,ae _ _ _ _ e,ae _ _ _ _ e]
set_option maxRecDepth 100000 in
theorem Rm(s:bU)(hs:s.Fin)(o:Nat->ab)(nx:Nat)(hg:Good o nx)(K X:V->(Nat->ab)->Nat->Prop)
 (xh:bw s->∀o' nx' id,nx<=nx'->Good o' nx'->(∀j,j<nx->o' j=o j)->o' id= .cj (enc (D.int .i64) (kD (ah s.binds)))->K (.bW [.agg (s.row++[.mp id]), .d (.bool true)]) o' nx')
 (nk: ¬bw s->∀o' nx' id m,nx<=nx'->id<nx'->Good o' nx'->(∀j,j<nx->o' j=o j)->o' id=dv m\/o' id= .cj (enc (D.int .i64) (kD m))->K (.bW [.agg (s.row++[.mp id]), .d (.bool false)]) o' nx'):
 bQ Tryz.prog 79 [.d s.d] o nx K X:=by
 refine bQ.aG mix adm aE ?_
 rw[c79]
 refine fZ ?_
 refine ak (wT s.sig hs.sig) rfl ?_
 have ss:=hs.bl
 have uD:=hs.nl
 have KN:=hs.ml
 cases h1:ju s.sig with
 |false=>
  simp+contextual (disch:=first|omega|simp only[go_sem,false_implies]) only[go_sem,wrap64,if_pos,np,Nat.add_assoc,Nat.left_eq_add,Nat.add_eq_left,Nat.add_left_cancel_iff,List.length_map]
  refine nk (fun h=> ?_) _ _ (nx+4) [] ?_ ?_ ?_ (fun j hj=> ?_) (.inl ?_)
  rotate_left
  ·omega
  ·omega
  ·exact dt
  ·exact cg
  ·exact cg
  have:=h.sig
  rw[h1]at this;cases this
 |true=>
 by_cases h2:20<s.binds.length
 ·have mY:decide ((s.binds.length:Int)>20)=true:=by simp;omega
  simp+contextual (disch:=first|omega|simp only[go_sem,false_implies]) only[go_sem,wrap64,if_pos,np,Nat.add_assoc,Nat.left_eq_add,Nat.add_eq_left,Nat.add_left_cancel_iff,List.length_map,mY]
  refine nk (fun h=> ?_) _ _ (nx+4) [] ?_ ?_ ?_ (fun j hj=> ?_) (.inl ?_)
  rotate_left
  ·omega
  ·omega
  ·exact dt
  ·exact cg
  ·exact cg
  have:=h.jk.len
  omega
 have mY:decide ((s.binds.length:Int)>20)=false:=by simp;omega
 by_cases h3:12<s.aH.length
 ·have kK:decide ((s.aH.length:Int)>12)=true:=by simp;omega
  simp+contextual (disch:=first|omega|simp only[go_sem,false_implies]) only[go_sem,wrap64,if_pos,np,Nat.add_assoc,Nat.left_eq_add,Nat.add_eq_left,Nat.add_left_cancel_iff,List.length_map,mY,kK]
  refine nk (fun h=> ?_) _ _ (nx+4) [] ?_ ?_ ?_ (fun j hj=> ?_) (.inl ?_)
  rotate_left
  ·omega
  ·omega
  ·exact dt
  ·exact cg
  ·exact cg
  have:=h.rW
  omega
 have kK:decide ((s.aH.length:Int)>12)=false:=by simp;omega
 by_cases h4:8<s.marks.length
 ·have JB:decide ((s.marks.length:Int)>8)=true:=by simp;omega
  refine aaj mY kK JB ?_
  refine nk (fun h=> ?_) _ _ (nx+4) [] ?_ ?_ ?_ (fun j hj=> ?_) (.inl ?_)
  rotate_left
  ·omega
  ·omega
  ·exact dt
  ·exact cg
  ·exact cg
  have:=h.D8
  omega
 have JB:decide ((s.marks.length:Int)>8)=false:=by simp;omega
 refine aaj mY kK JB ?_
 have fin:∀ (m:List (Int×Tm)) (M:ab),(M=dv m\/M= .cj (enc (D.int .i64) (kD m)))->∀O n,nx+7<=n->Good O n->(∀j,j<nx+7->j≠nx+1->O j=xI o nx s M j)-> ¬bw s->K (.bW [.agg (s.row++[.mp (nx+4)]), .d (.bool false)]) O n:=fun m M hM O n i1 i2 i3 i4=>
  nk i4 O n (nx+4) m af af i2 (fun j hj=>by rw[i3 j (by omega) (by omega),N9 _ _ _ _ (by omega) (by omega) (by omega) (by omega)]) (by rw[i3 (nx+4) (by omega) (by omega),kpH_4];exact hM)
 refine aD (fun k:Nat=>⟨aZ [.ad, .ptr nx 0, .ptr (nx+1) 0, .ad, .ptr (nx+6) 0, .ad, .ad, .ad, .ad, .ad, .ad, .ad, .ad, .ad, .ad, .ad, .ad, .ad, .ad, .ad, .ad, .ad, .ad, .ad, .ad, .ad, .ad, .ad, .ad, .ad, .ad, .ad, .ad, .ad, .ad, .ad, .ad, .ad, .ad, .ad, .ad, .ad, .ad, .d (.sl (s.binds.map TB.d)), .d (.i s.binds.length), .d (.i k)],xI o nx s (dv (ah (s.binds.take k))),nx+7⟩)
  (fun k=>k<=s.binds.length/\((ah (s.binds.take k)).map (·.1)).Nodup/\∀x∈s.binds.take k,(0<=x.var/\x.var<20)/\bB s.sig x.term=true) (fun k=>s.binds.length - k) 0 ⟨Nat.zero_le _,List.nodup_nil,fun x hx=>by simp at hx⟩ (bO.cc _ (show nx<=nx+7 from af) af (rY hg s (by rfl)) (fun j hj=> ?_) ?_) (fun k hk=> ?_)
 ·exact Rl o nx s j
 ·exact dW
 obtain⟨hk,AF,aY⟩:=hk
 have Q9:bw s->((ah (s.binds.take (k+1))).map (·.1)).Nodup:=fun h=>h.jk.keys.sublist (((List.take_sublist _ _).map _).map _)
 have hgk:=rY (m:=dv (ah (s.binds.take k))) hg s rfl
 have Ec:=hg
 clear hg
 have hg:=hgk
 have e0:=kpH_0 o nx s (dv (ah (s.binds.take k)))
 have e1:=kpH_1 o nx s (dv (ah (s.binds.take k)))
 have e4:=kpH_4 o nx s (dv (ah (s.binds.take k)))
 have e6:=kpH_6 o nx s (dv (ah (s.binds.take k)))
 refine BW e0 e1 e4 e6 ?_
 refine ao (fun h5=> ?_) (fun h5=> ?_)
 ·replace h5:k<s.binds.length:=by simp at h5;omega
  obtain⟨x,hx⟩:=aB h5
  have ck:=List.mem_of_getElem? hx
  have oz:=D9 s.binds hx
  have hnk:∀ (P:Prop),(iF s.sig s.binds->P)->(bw s->P):=fun P h hs=>h hs.jk
  cases hl:bS (ah (s.binds.take k)) x.var with
  |some z=>
   obtain⟨jz,hj⟩:=gk hl
   refine aak e0 e1 e4 e6 hx hj ?_
   refine fin _ _ (.inl rfl) _ _ af dt (fun j j1 j2=>by(repeat(first|rfl|rw[aa]|rw[ae _ _ _ _ (by omega)]))) (fun h=> ?_)
   have h7:=Q9 h
   rw[oz,List.map_append,List.nodup_append]at h7
   exact h7.2.2 x.var (List.mem_map.2 ⟨_,cK hl,rfl⟩) x.var aE rfl
  |none=>
   have hln:=eJ hl
   by_cases h6:x.var<0
   ·have h6':decide (x.var<0)=true:=decide_eq_true h6
    refine Vt e0 e1 e4 e6 hx hln h6' ?_
    refine fin _ _ (.inl rfl) _ _ af dt (fun j j1 j2=>by(repeat(first|rfl|rw[aa]|rw[ae _ _ _ _ (by omega)]))) (fun h=> ?_)
    have:=(h.jk.ok x ck).1
    omega
   have h6':decide (x.var<0)=false:=decide_eq_false h6
   by_cases h7:20<=x.var
   ·have h7':decide (x.var≥20)=true:=decide_eq_true h7
    refine Vr e0 e1 e4 e6 hx hln h6' h7' ?_
    refine fin _ _ (.inl rfl) _ _ af dt (fun j j1 j2=>by(repeat(first|rfl|rw[aa]|rw[ae _ _ _ _ (by omega)]))) (fun h=> ?_)
    have:=(h.jk.ok x ck).1
    omega
   have h7':decide (x.var≥20)=false:=decide_eq_false h7
   refine Vr e0 e1 e4 e6 hx hln h6' h7' ?_
   refine ak (oB s hs.sig (ah (s.binds.take k)) x.term (hs.bt x ck)) rfl ?_
   cases hv:bB s.sig x.term with
   |false=>
    refine BW e0 e1 e4 e6 ?_
    refine fin _ _ (.inl rfl) _ _ af dt (fun j j1 j2=>by(repeat(first|rfl|rw[aa]|rw[ae _ _ _ _ (by omega)]))) (fun h=> ?_)
    have:=(h.jk.ok x ck).2
    rw[hv]at this;cases this
   |true=>
    have has:=DO (x:=x.term) hl
    refine IU e0 e1 e4 e6 has ?_
    refine aj (k+1) ⟨h5, ?_,fun y hy=> ?_⟩ af (bO.cc _ (show nx<=nx+7 from af) af (rY Ec s (by rfl)) (fun j hj=> ?_) ?_)
    ·rw[oz,List.map_append,List.nodup_append]
     refine⟨AF,aE,fun a ha c hc e=> ?_⟩
     simp at hc
     rw[e,hc]at ha
     exact l6.1 hl ha
    ·rw[List.take_add_one,hx]at hy
     rcases List.mem_append.1 hy with hy|hy
     ·exact aY y hy
     ·simp at hy
      subst hy
      exact⟨af,hv⟩
    ·have hj:j<nx+7:=hj
     rw[oz, <- Ip o nx s (dv (ah (s.binds.take k)))]
     by_cases e:j=nx+4
     ·exact vl
     ·exact cg
    ·exact dW
 ·replace h5:k=s.binds.length:=by simp at h5;omega
  subst h5
  rw[List.take_length]at AF aY e0 e1 e4 e6|-
  refine BK e0 e1 e4 e6 ?_
  obtain⟨b,hb⟩:∃b,b=ah s.binds:=⟨_,rfl⟩
  have oA:∀p∈b,p.2.fits:=fun p hp=>by
   rw[hb]at hp
   obtain⟨x,hx,rfl⟩:=ez hp
   exact(hs.bt x hx).fits
  have G0:∀p∈b,Vs s.sig p.2:=fun p hp=>by
   rw[hb]at hp
   obtain⟨x,hx,rfl⟩:=ez hp
   exact(bz (aY x hx).2).1
  rw[<- hb]at AF|-
  clear hg hgk
  have hg:=rY (m:= .cj (enc (D.int .i64) (kD b))) Ec s (by rfl)
  have f0:=kpH_0 o nx s (.cj (enc (D.int .i64) (kD b)))
  have f1:=kpH_1 o nx s (.cj (enc (D.int .i64) (kD b)))
  have f4:=kpH_4 o nx s (.cj (enc (D.int .i64) (kD b)))
  have f6:=kpH_6 o nx s (.cj (enc (D.int .i64) (kD b)))
  clear e0 e1 e4 e6
  refine aD (fun i:List (Int×Tm)×Option (D×D)=>⟨aZ [.ad, .ptr nx 0, .ptr (nx+1) 0, .ad, .ptr (nx+6) 0, .ad, .ad, .ad, .ad, .ad, .ad, .ad, .ad, .ad, .ad, .ad, .ad, .ad, .ad, .ad, .ad, .ad, .ad, .ad, .ad, .ad, .ad, .ad, .ad, .ad, .ad, .ad, .ad, .ad, .ad, .ad, .ad, .ad, .ad, .ad, .ad, .ad, .ad, .ad, .ad, .ad, .ad, .ad, .ad, .ad, .ad, .ad, .ad, .ad, .ad, .ad, .ad, .ad, .ad, .ad, .ad, .ad, .ad, .ad, .ad, .ad, .ad, .ad, .ad, .ad, .ad, .ad, .ad, .ad, .ad, .ad, .ad, .ad, .ad, .ad, .ad, .ad, .ad, .ad, .ad, .ptr (nx+10) 0],ay (xI o nx s (.cj (enc (D.int .i64) (kD b)))) (nx+10) (.sn (enc (D.int .i64) (kD i.1)) i.2),nx+11⟩)
   (fun i=>(∀p∈i.1,p∈b)/\∀p∈b,p∉i.1-> ¬ox b p.1 p.2) (fun i=>i.1.length) (b,none) ⟨fun _ h=>h,fun p h h'=>absurd h h'⟩ (bO.cc _ (show nx<=nx+11 from af) af dt (fun j hj=> ?_) ?_) ?_
  ·dsimp only
   by_cases e:j=nx+10
   ·subst e;rw[aa,aa]
   ·rw[ae _ _ _ _ e,ae _ _ _ _ e,Ip]
  ·exact dW
  rintro⟨rest,last⟩ ⟨hr,hd⟩
  dsimp only at hr hd|-
  refine BK f0 f1 f4 f6 ?_
  refine tn (fun h0=> ?_) fun i v x hm=> ?_
  ·subst h0
   have Oa:YC b:=fun v x hx=>hd (v,x) (cK hx) aE
   have uA:=iu (by rw[<- hb];exact AF) aY (by rw[<- hb];exact Oa)
   rw[<- hb]at uA
   obtain⟨l',ρ,R,hS,hl⟩:=uA
   have hle:∀p∈b,∃f r,ui f b p.2 40 12=some r:=fun p hp=>by
    exact Tc
   obtain⟨fo,BT⟩:∃fo:Bool,fo=true↔∀p∈b,zQ b p.2:=by
    classical
    exact⟨decide (∀p∈b,zQ b p.2),aE⟩
   refine BK f0 f1 f4 f6 ?_
   refine ak (zS oA hle BT) rfl ?_
   cases fo with
   |false=>
    refine BK f0 f1 f4 f6 ?_
    refine fin _ _ (.inr rfl) _ _ af dt (fun j j1 j2=>by(repeat(first|rfl|rw[aa]|rw[ae _ _ _ _ (by omega)]))) (fun h=> ?_)
    have:=BT.2 fun p hp=>by
     rw[hb]at hp|-
     obtain⟨x,hx,rfl⟩:=ez hp
     exact h.jk.YJ x hx
    cases this
   |true=>
    have Wk:iF s.sig s.binds:=⟨af,by rw[<- hb];exact AF,aY,by rw[<- hb];exact Oa,fun x hx=>by rw[<- hb];exact BT.1 rfl _ (hb ▸ ir hx)⟩
    refine BW f0 f1 f4 f6 ?_
    refine aD (fun k:Nat=>⟨aZ [.ad, .ptr nx 0, .ptr (nx+1) 0, .ad, .ptr (nx+6) 0, .ad, .ad, .ad, .ad, .ad, .ad, .ad, .ad, .ad, .ad, .ad, .ad, .ad, .ad, .ad, .ad, .ad, .ad, .ad, .ad, .ad, .ad, .ad, .ad, .ad, .ad, .ad, .ad, .ad, .ad, .ad, .ad, .ad, .ad, .ad, .ad, .ad, .ad, .ad, .ad, .ad, .ad, .ad, .ad, .ad, .ad, .ad, .ad, .ad, .ad, .ad, .ad, .ad, .ad, .ad, .ad, .ad, .ad, .ad, .ad, .ad, .ad, .ad, .ad, .ad, .ad, .ad, .ad, .ad, .ad, .ad, .ad, .ad, .ad, .ad, .ad, .ad, .ad, .ad, .ad, .ad, .ad, .ad, .ad, .ad, .ad, .ad, .ad, .ad, .ad, .ad, .ad, .ad, .ad, .ad, .ad, .ad, .ad, .d (.sl (s.aH.map Nt.d)), .d (.i s.aH.length), .d (.i k)],xI o nx s (.cj (enc (D.int .i64) (kD b))),nx+7⟩)
     (fun k=>k<=s.aH.length/\∀n∈s.aH.take k,bB s.sig n.a=true/\bB s.sig n.b=true/\ ¬oZ b n) (fun k=>s.aH.length - k) 0 ⟨Nat.zero_le _,fun n hn=>by simp at hn⟩ (bO.cc _ (show nx<=nx+7 from af) af hg (fun j hj=> ?_) ?_) (fun k hk=> ?_)
    ·have hj:j<nx+7:=hj
     exact cg
    ·exact dW
    obtain⟨hk,YP⟩:=hk
    refine BW f0 f1 f4 f6 ?_
    refine ao (fun h6=> ?_) (fun h6=> ?_)
    ·replace h6:k<s.aH.length:=by simp at h6;omega
     obtain⟨n,hn⟩:=aB h6
     have BP:=List.mem_of_getElem? hn
     obtain⟨na,nb⟩:=hs.nt n BP
     refine IU f0 f1 f4 f6 hn ?_
     refine ak (oB s hs.sig b n.a na) rfl ?_
     cases va:bB s.sig n.a with
     |false=>
      refine BK f0 f1 f4 f6 ?_
      refine fin _ _ (.inr rfl) _ _ af dt (fun j j1 j2=>by(repeat(first|rfl|rw[aa]|rw[ae _ _ _ _ (by omega)]))) (fun h=> ?_)
      have:=(h.aH n BP).1
      rw[va]at this;cases this
     |true=>
      refine BK f0 f1 f4 f6 ?_
      refine ak (oB s hs.sig b n.b nb) rfl ?_
      cases vb:bB s.sig n.b with
      |false=>
       refine BK f0 f1 f4 f6 ?_
       refine fin _ _ (.inr rfl) _ _ af dt (fun j j1 j2=>by(repeat(first|rfl|rw[aa]|rw[ae _ _ _ _ (by omega)]))) (fun h=> ?_)
       have:=(h.aH n BP).2.1
       rw[vb]at this;cases this
      |true=>
       obtain⟨a1,a2,a3⟩:=bz va
       obtain⟨b1,b2,b3⟩:=bz vb
       have c9:∀p∈b,zQ b p.2:=BT.1 rfl
       have za:=mS hS c9 a1
       have zb:=mS hS c9 b1
       have ua:ve (R+3+3200) b n.a=some (aS (ah l') n.a):=pU hS 3200 n.a a1 af
       have ub:ve (R+3+3200) b n.b=some (aS (ah l') n.b):=pU hS 3200 n.b b1 af
       have py:=o6 (n:=n) hS a1 b1
       refine BK f0 f1 f4 f6 ?_
       refine ak (zT s oA n na.fits nb.fits ua ub (Tm.dD _ af) (Tm.dD _ af) af af) rfl ?_
       cases E1:hY (aS (ah l') n.a) (aS (ah l') n.b)with
       |true=>
        refine BK f0 f1 f4 f6 ?_
        refine fin _ _ (.inr rfl) _ _ af dt (fun j j1 j2=>by(repeat(first|rfl|rw[aa]|rw[ae _ _ _ _ (by omega)]))) (fun h=> ?_)
        exact(h.aH n BP).2.2 (hb ▸ py.2 ((dR _ _).1 E1))
       |false=>
        refine BK f0 f1 f4 f6 ?_
        refine aj (k+1) ⟨h6,fun y hy=> ?_⟩ af (bO.cc _ (show nx<=nx+7 from af) af hg (fun j hj=> ?_) ?_)
        ·rw[List.take_add_one,hn]at hy
         rcases List.mem_append.1 hy with hy|hy
         ·exact YP y hy
         ·simp at hy
          subst hy
          refine⟨va,vb,fun h=> ?_⟩
          rw[(dR _ _).2 (py.1 h)]at E1;cases E1
        ·have hj:j<nx+7:=hj
         exact cg
        ·exact dW
    ·replace h6:k=s.aH.length:=by simp at h6;omega
     subst h6
     rw[List.take_length]at YP
     refine BW f0 f1 f4 f6 ?_
     refine aD (fun i:Nat×Int×Int=>⟨aZ [.ad, .ptr nx 0, .ptr (nx+1) 0, .ad, .ptr (nx+6) 0, .ad, .ad, .ad, .ad, .ad, .ad, .ad, .ad, .ptr (nx+8) 0, .ad, .ad, .ad, .ad, .ad, .ad, .ad, .ad, .ad, .ad, .ad, .ad, .ad, .ad, .ad, .ad, .ad, .ad, .ad, .ad, .ad, .ad, .ad, .ad, .ad, .ad, .ad, .ad, .ad, .ad, .ad, .ad, .ad, .ad, .ad, .ad, .ad, .ad, .ad, .ad, .ad, .ad, .ad, .ad, .ad, .ad, .ad, .ad, .ad, .ad, .ad, .ad, .ad, .ad, .ad, .ad, .ad, .ad, .ad, .ad, .ad, .ad, .ad, .ad, .ad, .ad, .ad, .ad, .ad, .ad, .ad, .ad, .ad, .ad, .ad, .ad, .ad, .ad, .ad, .ad, .ad, .ad, .ad, .ad, .ad, .ad, .ad, .ad, .ad, .ad, .ad, .ad, .ad, .ad, .ad, .ad, .ad, .ad, .ad, .ad, .ad, .ad, .ad, .ad, .ad, .ad, .ad, .ad, .ad, .ad, .ad, .ad, .ad, .ad, .ad, .d (.sl (s.marks.map tx)), .d (.i s.marks.length), .d (.i i.1)],ay (xI o nx s (.cj (enc (D.int .i64) (kD b)))) (nx+8) (.row [.d (.i i.2.1), .d (.i i.2.2)]),nx+9⟩)
      (fun i=>i.1<=s.marks.length/\mR s.binds.length s.aH.length i.2 (s.marks.drop i.1)=mR s.binds.length s.aH.length (0,0) s.marks) (fun i=>s.marks.length - i.1) (0,0,0) ⟨Nat.zero_le _,rfl⟩ (bO.cc _ (show nx<=nx+9 from af) af dt (fun j hj=>by(repeat(first|rfl|rw[aa]|rw[ae _ _ _ _ (by omega)]))) ?_) ?_
     ·exact dW
     rintro⟨k,l1,l2⟩ ⟨hk,mj⟩
     dsimp only at hk mj|-
     refine BW f0 f1 f4 f6 ?_
     refine ao (fun h7=> ?_) (fun h7=> ?_)
     ·replace h7:k<s.marks.length:=by simp at h7;omega
      obtain⟨⟨m1,m2⟩,hm⟩:=aB h7
      have D5:s.marks.drop k=(m1,m2)::s.marks.drop (k+1):=by
       obtain⟨i1,i2⟩:=List.getElem?_eq_some_iff.1 hm
       exact EM
      rw[D5,mR]at mj
      dsimp only at mj
      cases g1:decide (m1<l1)with
      |true=>
       rw[g1]at mj
       simp only[Bool.true_or,Bool.or_true,Bool.not_true,Bool.false_and]at mj
       refine Vt f0 f1 f4 f6 hm hm g1 ?_
       exact zw3
      |false=>
      rw[g1]at mj
      cases g2:decide (m1>(s.binds.length:Int))with
      |true=>
       rw[g2]at mj
       simp only[Bool.true_or,Bool.or_true,Bool.not_true,Bool.false_and]at mj
       refine Vt f0 f1 f4 f6 hm g1 g2 ?_
       exact zw3
      |false=>
      rw[g2]at mj
      cases g3:decide (m2<l2)with
      |true=>
       rw[g3]at mj
       simp only[Bool.true_or,Bool.or_true,Bool.not_true,Bool.false_and]at mj
       refine Vr f0 f1 f4 f6 hm g1 g2 g3 ?_
       exact zw3
      |false=>
      rw[g3]at mj
      cases g4:decide (m2>(s.aH.length:Int))with
      |true=>
       rw[g4]at mj
       simp only[Bool.true_or,Bool.or_true,Bool.not_true,Bool.false_and]at mj
       simp+contextual (disch:=first|omega|simp only[go_sem,false_implies]) only[go_sem,wrap64,if_pos,f0,f1,f4,f6,hm,g1,g2,g3,g4,List.length_map,Nat.add_assoc,Nat.left_eq_add,Nat.add_eq_left,Nat.add_left_cancel_iff]
       exact zw3
      |false=>
      rw[g4]at mj
      simp only[Bool.or_false,Bool.not_false,Bool.true_and]at mj
      simp+contextual (disch:=first|omega|simp only[go_sem,false_implies]) only[go_sem,wrap64,if_pos,f0,f1,f4,f6,hm,g1,g2,g3,g4,List.length_map,Nat.add_assoc,Nat.left_eq_add,Nat.add_eq_left,Nat.add_left_cancel_iff]
      refine aj (k+1,m1,m2) ⟨h7,mj⟩ lK (bO.cc _ (show nx<=nx+9 from af) af dt (fun j hj=> ?_) ?_)
      ·have hj:j<nx+9:=hj
       by_cases e:j=nx+8
       ·exact vl
       ·exact cg
      ·exact dW
     ·replace h7:k=s.marks.length:=by simp at h7;omega
      subst h7
      rw[List.drop_length]at mj
      refine BK f0 f1 f4 f6 ?_
      refine xh ⟨h1,af,af,Wk,fun n hn=> ?_,mj.symm⟩ _ _ (nx+4) af dt (fun j hj=> ?_) ?_
      ·rw[<- hb];exact YP n hn
      ·(repeat(first|rfl|rw[aa]|rw[ae _ _ _ _ (by omega)]));exact N9 _ _ _ _ af af af af
      ·(repeat(first|rfl|rw[aa]|rw[ae _ _ _ _ (by omega)]));rw[f4,hb]
  ·have ng:=List.mem_of_getElem? hm
   have O2:=hr _ ng
   have vr:=qA hm
   have hlen:(rest.eraseIdx i).length<rest.length:=by
    exact V2
   obtain⟨is,Gf⟩:∃is:Bool,is=true↔ox b v x:=by
    classical
    exact⟨decide (ox b v x),aE⟩
   refine BK f0 f1 f4 f6 ?_
   refine ak (Ii G0 oA v x (G0 _ O2) (oA _ O2) Gf) rfl ?_
   cases is with
   |true=>
    refine BK f0 f1 f4 f6 ?_
    refine fin _ _ (.inr rfl) _ _ af dt (fun j j1 j2=>by(repeat(first|rfl|rw[aa]|rw[ae _ _ _ _ (by omega)]))) (fun h=> ?_)
    exact h.jk.DZ v x ((jj h.jk.keys).2 (hb ▸ O2)) (hb ▸ Gf.1 rfl)
   |false=>
    refine BK f0 f1 f4 f6 ?_
    refine aj (rest.eraseIdx i,some (.int .i64 v,x.d)) ⟨fun p hp=>hr p (vr.mem_iff.1 (List.mem_cons_of_mem _ hp)),fun p hp hpn=> ?_⟩ hlen (bO.cc _ (show nx<=nx+11 from af) af dt (fun j hj=> ?_) ?_)
    ·by_cases e:p=(v,x)
     ·subst e
      exact fun h=>Bool.false_ne_true (Gf.2 h)
     ·exact hd p hp fun tN=>by
       rcases List.mem_cons.1 (vr.mem_iff.2 tN)with h|h
       ·exact e h
       ·exact hpn h
    ·have hj:j<nx+11:=hj
     by_cases e:j=nx+10
     ·exact vl
     ·exact cg
    ·exact dW
end Go.Proofs.YtlhemmpklhhgoaaGreat
namespace Go.Proofs.YtlhemmpklhhgoaaGreat
structure Srt (s:aA) (l:List TB):Prop where
 srt:l.Pairwise fun x y=>x.var<y.var
 ok:∀x∈l,(0<=x.var/\x.var<20)/\Vs s x.term
structure MS (b:List (Int×Tm)) (l:List TB):Prop where
 keys:(b.map (·.1)).Nodup
 lk:∀v,bS b v=bS (ah l) v
theorem xi(l:List TB)(hl:l.length<=1000000)(hf:∀x∈l,x.term.fits):aX Tryz.prog 60 [.sl (l.map TB.d), .sl (l.map TB.d)] (.ret [.bool true]):=by
 refine aX.aG mix ada aE ?_
 rw[c60]
 simp+contextual (disch:=first|omega|simp only[go_sem,false_implies]) only[go_sem,wrap64,if_pos,List.length_map,bne_self_eq_false]
 refine aD (fun k:Nat=>⟨aZ [.d (.sl (l.map TB.d)), .d (.sl (l.map TB.d)), .ad, .ad, .ad, .d (.i k)],fun _=> .no,0⟩)
  (fun k=>k<=l.length) (fun k=>l.length - k) 0 (Nat.zero_le _) (bO.d0 _ ?_) (fun k hk=> ?_)
 ·exact dW
 refine uL ?_
 refine ao (fun h2=> ?_) (fun h2=> ?_)
 ·simp at h2
  obtain⟨x,hx⟩:=aB h2
  have tR:=wM x.term (hf x (List.mem_of_getElem? hx)) x.term (hf x (List.mem_of_getElem? hx))
  rw[qy]at tR
  refine Vx hx ?_
  refine a7 tR rfl ?_
  exact abA
 ·exact pX
mutual
def Tm.iz:Tm->Prop
 | .mk _ _ kids=>kids.length<=1000/\Tm.ya kids
def Tm.ya:List Tm->Prop
 |[]=>True
 |k::l=>k.iz/\Tm.ya l
end
theorem Tm.Ed:∀l:List Tm,Tm.ya l↔∀k∈l,k.iz
 |[]=>by simp[Tm.ya]
 |k::l=>by simp[Tm.ya,Tm.Ed l]
theorem Tm.iA (t:Tm):t.iz↔t.kids.length<=1000/\∀k∈t.kids,k.iz:=by cases t;simp[Tm.iz,Tm.Ed,Tm.kids]
theorem Tm.Gj:∀t:Tm,t.sz<=1000->t.iz:=by
 refine Tm.eN fun t ih h=> ?_
 rw[Tm.iA]
 have:=mQ t.kids
 have h2:=Tm.ko t
 exact Sv
theorem Tm.oC {b:List (Int×Tm)}(hb:∀p∈b,p.2.iz):∀t:Tm,t.iz->(aS b t).iz:=by
 refine Tm.eN fun t ih h=> ?_
 have h':=(Tm.iA t).1 h
 rw[ou]
 split
 ·split
  ·rename_i x hx;exact hb _ (cK hx)
  ·exact h
 ·rw[Tm.iA]
  refine⟨by simp only[Tm.kids,List.length_map];exact h'.1,fun k hk=> ?_⟩
  obtain⟨y,hy,rfl⟩:=List.mem_map.1 hk
  exact ih y hy (h'.2 y hy)
theorem Tm.rZ:∀t:Tm,t.iz->t.fits:=by
 refine Tm.eN fun t ih h=> ?_
 have h':=(Tm.iA t).1 h
 rw[Tm.cm]
 exact⟨af,fun k hk=>ih k hk (h'.2 k hk)⟩
theorem Iq{s:aA}:∀t:Tm,Vs s t->t.iz->∀l:List TB,l.length<=100->aX Tryz.prog 82 [t.d, .sl (l.map TB.d)] (.ret [(aS (ah l) t).d]):=by
 refine Tm.eN fun t ih hv hw l hlen=> ?_
 have hw':=(Tm.iA t).1 hw
 refine aX.aG mix ado aE ?_
 rw[c82]
 by_cases h1:t.op=1
 ·have eW:(t.op==1)=true:=by simpa using h1
  refine oF eW ?_
  refine ak (NH l t.n af) rfl ?_
  rcases rQ l t.n with⟨f1,f2⟩|⟨k,x,f1,f2,f3⟩
  ·have hs:aS (ah l) t=t:=by rw[ou,if_pos h1,f2]
   have f3:decide (0<=findF l t.n)=false:=by simpa using f1
   rw[hs]
   exact Po eW f3
  ·have hs:aS (ah l) t=x.term:=by rw[ou,if_pos h1,f3]
   rw[hs,f1]
   exact Po eW f2
 ·have eW:(t.op==1)=false:=by simpa using h1
  have h8':(t.op==8)=false:=by simpa using hv.n8
  rw[fQ h1]
  refine IW eW h8' ?_
  refine aD (fun i:Nat=>⟨aZ [.ad, .d (.sl (l.map TB.d)), .ptr 0 0, .ad, .ptr 1 0, .ad, .osl 2 0, .d (.i i)],ay (ay (ay (fun _=> .no) 0 (.row t.row)) 1 (.row [.d (.i 0), .d (.i 0), .aw])) 2 (.arr 0 33 3 (((t.kids.take i).map (aS (ah l))).map Tm.d)),3⟩)
   (fun i=>i<=t.kids.length) (fun i=>t.kids.length - i) 0 (Nat.zero_le _) (bO.uK (ty:=33) (sz:=3) (es:=[]) (fun _=>False) .aw 2 _ af (lt2 (bD rfl ur) (bD rfl ur)) (by rw[aa];simp) (.inl ⟨rfl,rfl,bC⟩) (fun j hj=>by(repeat(first|rfl|rw[aa]|rw[ae _ _ _ _ (by omega)]))) (fun _ h=>h.elim) ?_) ?_
  ·exact kG
  rintro k hk
  replace hk:k<=t.kids.length:=hk
  refine uL ?_
  refine ao (fun h2=> ?_) (fun h2=> ?_)
  ·simp at h2
   obtain⟨x,hx⟩:=aB h2
   have ck:=List.mem_of_getElem? hx
   have oz:t.kids.take (k+1)=t.kids.take k++[x]:=by rw[List.take_add_one,hx];rfl
   have e0:(t.kids.take k).length=k:=by rw[List.length_take];omega
   refine pf hx e0 ?_
   refine bc (rs:=[(aS (ah l) x).d]) (ih x ck (hv.kA ck) (hw'.2 x ck) l hlen) ?_
   refine pf hx e0 ?_
   refine aj (k+1) h2 af (bO.uK (fun j=>j=2) (.osl 2 1) 2 _ af (lt2 (mP (y:= .row t.row) cg cg (bD rfl ur)) (mP (y:= .row [.d (.i 0), .d (.i 0), .aw]) cg cg (bD rfl ur))) (aa _ _ _) (.inr ⟨2,1,rfl,rfl,by(repeat(first|rfl|rw[aa]|rw[ae _ _ _ _ (by omega)]));rw[oz,List.map_append,List.map_append];rfl⟩) (fun j hj=>by(repeat(first|rfl|rw[aa]|rw[ae _ _ _ _ (by omega)]))) (fun j h h2=>af) ?_)
   exact kG
  ·simp at h2
   have Cu:k=t.kids.length:=af
   subst Cu
   rw[List.take_length]
   refine uL ?_
   rw[Tm.Df]
theorem Rn{s:aA}{t:Tm}(hv:Vs s t):(cM t).length<=20:=Bn (fun n hn=>hv.range (((cQ t).2 n).1 hn)) (cQ t).1
theorem Ee{s:aA}:∀t:Tm,Vs s t->t.iz->aX Tryz.prog 141 [t.d] (.ret [.sl ((cM t).map .i)]):=by
 refine Tm.eN fun t ih hv ht=> ?_
 have hw':=(Tm.iA t).1 ht
 refine aX.aG mix adP aE ?_
 rw[adO]
 by_cases h1:t.op=1
 ·refine oF h1 ?_
  rw[rP,if_pos h1]
  rfl
 ·have eW:(t.op==1)=false:=by simpa using h1
  have b1:(t.op !=8)=true:=by simpa using hv.n8
  refine oF eW ?_
  rw[rP,if_neg h1]
  refine aD (fun i:Nat×List Int=>⟨aZ [.ad, .ptr 0 0, .ad, .d (.sl (i.2.map .i)), .d (.i i.1)],qp t.row,1⟩)
   (fun i=>i.1<=t.kids.length/\mO t.op t.n t.kids 0 []=mO t.op t.n (t.kids.drop i.1) i.1 i.2/\F1 i.2/\∀v∈i.2,0<=v/\v<20) (fun i=>t.kids.length - i.1) (0,[]) ⟨Nat.zero_le _,rfl,List.Pairwise.nil,fun _ h=>by cases h⟩
   (bO.aeA (fun _=>False) 1 _ af (lt1 (bD rfl ur)) (fun j hj=>ae _ _ _ _ af) (fun _ h=>h.elim) ?_) ?_
  ·try dsimp only
   exact kG
  rintro⟨k,out⟩ ⟨hk,Kl,aeV,hrg⟩
  simp only at hk Kl aeV hrg
  refine bY ?_
  refine ao (fun h2=> ?_) (fun h2=> ?_)
  ·simp at h2
   obtain⟨x,hx⟩:=aB h2
   have ck:=List.mem_of_getElem? hx
   have vx:=hv.kA ck
   have hvl:=Rn vx
   have D5:t.kids.drop k=x::t.kids.drop (k+1):=by
    obtain⟨h5,h6⟩:=List.getElem?_eq_some_iff.1 hx
    rw[List.drop_eq_getElem_cons h5,h6]
   have part:∀L:List Int,(∀v∈L,v∈cM x)->F1 (qz t.op t.n k L out)/\∀v∈qz t.op t.n k L out,0<=v/\v<20:=fun L hL=>by
    obtain⟨q1,q2⟩:=oV t.op t.n k L out aeV
    refine⟨q1,fun v NJ=> ?_⟩
    rcases(q2 v).1 NJ with h|h
    ·exact hrg v h
    ·exact vx.range (((cQ x).2 v).1 (hL v h.1))
   refine oF hx ?_
   refine bc (ih x ck vx (hw'.2 x ck)) ?_
   refine oF hx ?_
   refine aD (fun j:Nat=>⟨aZ [.ad, .ptr 0 0, .ad, .d (.sl ((qz t.op t.n k ((cM x).take j) out).map .i)), .d (.i k), .d (.sl ((cM x).map .i)), .d (.i j)],qp t.row,1⟩)
    (fun j=>j<=(cM x).length) (fun j=>(cM x).length - j) 0 (Nat.zero_le _) (bO.d1 _ (cW rfl) af rfl ?_) (fun j hj=> ?_)
   ·exact dW
   refine bY ?_
   refine ao (fun h3=> ?_) (fun h3=> ?_)
   ·simp at h3
    obtain⟨v,NJ⟩:=aB h3
    have yH:=part ((cM x).take j) (fun v hv=>List.mem_of_mem_take hv)
    have Cu:=Bn yH.2 yH.1
    have hc:(t.op !=8||(k:Int)!=1||v !=t.n)=true:=by rw[b1];rfl
    refine IW NJ b1 ?_
    refine aI bC ?_
    refine oF NJ ?_
    refine bc (aeN _ v af) ?_
    refine bY ?_
    refine aj (j+1) h3 af (bO.d1 _ (cW rfl) af rfl ?_)
    rw[Kp NJ,if_pos hc]
    exact dW
   ·simp at h3
    refine bY ?_
    rw[List.take_of_length_le (by omega)]
    obtain⟨p1,p2⟩:=part (cM x) (fun v hv=>hv)
    refine aj (k+1,qz t.op t.n k (cM x) out) ⟨h2,by rw[Kl,D5];rfl,p1,p2⟩ lK (bO.d1 _ (cW rfl) af rfl ?_)
    exact dW
  ·simp at h2
   refine bY ?_
   rw[Kl,List.drop_eq_nil_of_le (by omega)]
   rfl
theorem Gk(n low high:Int):aX Tryz.prog 77 [.i n, .i low, .i high] (.ret [.bool (dU n low high)]):=by
 refine aX.aG mix agN aE ?_
 rw[c77]
 refine cT ?_
 rfl
theorem l9(s:aA)(hs:s.Fits)(t:Tm)(ht:t.fits):aX Tryz.prog 39 [s.d,t.d] (.ret [.bool (gM s t&&ft t)]):=by
 refine aX.aG mix agz aE ?_
 rw[c39]
 refine bY ?_
 refine ak (Ym s hs t ht) rfl ?_
 cases h:gM s t with
 |false=>exact pX
 |true=>
  refine bY ?_
  refine ak (QO t ht) rfl ?_
  exact pX
theorem xj{s:aA}(h:ju s=true)(t:Tm):bB s t=(gM s t&&ft t):=by
 unfold bB jw
 rw[h]
 simp only[List.all_cons,List.all_nil,Bool.and_true,Bool.true_and,qx]
 cases h1:gM s t with
 |false=>rfl
 |true=>rw[oS h1]
theorem r8(l:List TB)(n:Int)(hl:l.length<=1000000):aX Tryz.prog 116 [.sl (l.map TB.d), .i n] (.ret [.i (findF l n)]):=by
 refine aX.aG mix adx aE ?_
 rw[adw]
 refine bY ?_
 refine aD (fun k:Nat=>⟨aZ [.d (.sl (l.map TB.d)), .d (.i n), .ad, .ad, .ad, .d (.i k)],fun _=> .no,0⟩)
  (fun k=>k<=l.length/\∀j x,j<k->l[j]? =some x->x.var≠n) (fun k=>l.length - k) 0 ⟨Nat.zero_le _,fun _ _ h=>absurd h af⟩ (bO.d0 _ ?_) (fun k hk=> ?_)
 ·exact dW
 refine uL ?_
 refine ao (fun h2=> ?_) (fun h2=> ?_)
 ·simp at h2
  obtain⟨x,hx⟩:=aB h2
  refine mV hx ?_
  refine ao (fun h3=> ?_) (fun h3=> ?_)
  ·have kK:x.var=n:=by simpa using h3
   have:findF l n=k:=by
    have:l.findIdx? (·.var==n)=some k:=by
     rw[List.findIdx?_eq_some_iff_getElem]
     obtain⟨Cu,e⟩:=List.getElem?_eq_some_iff.1 hx
     refine⟨Cu,by rw[e];simpa using kK,fun j hj=> ?_⟩
     have:=hk.2 j _ hj (List.getElem?_eq_getElem af)
     simpa using this
    rw[findF,this]
   exact yz
  ·have kK:x.var≠n:=by simpa using h3
   refine bY ?_
   refine aj (k+1) ⟨h2,fun j y hj hy=> ?_⟩ af (bO.d0 _ ?_)
   ·by_cases e:j=k
    ·exact SA
    ·exact hk.2 j y af hy
   ·exact dW
 ·simp at h2
  have:findF l n= -1:=by
   have:l.findIdx? (·.var==n)=none:=by
    rw[List.findIdx?_eq_none_iff]
    intro x hx
    obtain⟨j,hj,e⟩:=List.getElem_of_mem hx
    have:=hk.2 j x af (by rw[List.getElem?_eq_getElem hj,e])
    simpa using this
   rw[findF,this]
  exact yz
theorem Ir(l:List Int)(n:Int)(hl:l.length<=1000000):aX Tryz.prog 142 [.sl (l.map .i), .i n] (.ret [.bool (l.contains n)]):=by
 refine aX.aG mix adR aE ?_
 rw[adQ]
 refine bY ?_
 refine aD (fun k:Nat=>⟨aZ [.d (.sl (l.map .i)), .d (.i n), .ad, .ad, .ad, .d (.i k)],fun _=> .no,0⟩)
  (fun k=>k<=l.length/\(l.take k).contains n=false) (fun k=>l.length - k) 0 ⟨Nat.zero_le _,aE⟩ (bO.d0 _ ?_) (fun k hk=> ?_)
 ·exact dW
 refine bY ?_
 refine ao (fun h2=> ?_) (fun h2=> ?_)
 ·simp at h2
  obtain⟨x,hx⟩:=aB h2
  refine oF hx ?_
  refine ao (fun h3=> ?_) (fun h3=> ?_)
  ·refine bY ?_
   have:l.contains n=true:=by
    rw[List.contains_iff_mem, <- (by simpa using h3:x=n)];exact List.mem_of_getElem? hx
   rw[this]
  ·refine bY ?_
   refine aj (k+1) ⟨h2, ?_⟩ af (bO.d0 _ ?_)
   ·have h4: ¬n=x:=fun e=>by subst e;simp at h3
    have h5:=hk.2
    rw[List.take_add_one,hx]
    rw[Bool.eq_false_iff]at h5|-
    intro hc;apply h5
    rw[List.contains_iff_mem]at hc|-
    rcases List.mem_append.1 hc with hc|hc
    ·exact hc
    ·simp at hc;exact absurd hc h4
   ·exact dW
 ·simp at h2
  refine bY ?_
  have:=hk.2
  rw[List.take_of_length_le (by omega)]at this
  rw[this]
def U9(o:Nat->ab)(nx:Nat)(l:List Int):Nat->ab:=ay o nx (.arr 0 3 1 (l.map D.i))
theorem ilH_0(o:Nat->ab)(nx:Nat)(l:List Int):U9 o nx l nx= .arr 0 3 1 (l.map D.i):=by unfold U9;rw[aa]
theorem tz(o:Nat->ab)(nx:Nat)(l:List Int){j:Nat}(h:j≠nx):U9 o nx l j=o j:=by unfold U9;rw[ae _ _ _ _ h]
theorem tA{o:Nat->ab}{nx b:Nat}(WC:Good o nx)(hb:b<=nx){e:Nat->V}{so:Nat->ab}{m:Nat}(L:List V)(l:List Int){x:V}(gone:Nat->Prop)(ta:∀id,gone id->id<nx->o id= .no)
 (gx:fW so gone 3 1 (l.map D.i) x) (sr:∀j,j<nx->so j=o j\/o j= .no) (he:iV nx [⟨x,3,1,l.map D.i⟩] so gone e L 0):bO b ⟨e,so,m⟩ ⟨aZ L,U9 o nx l,nx+1⟩:=by
 refine bO.uK gone x nx L hb (fun j hj=> ?_) (ilH_0 o nx l) gx (fun j hj=> ?_) (fun j h1 h2=>by rw[tz _ _ _ (by omega)];exact ta j h1 h2) he
 ·rw[tz _ _ _ (by omega)]
  rcases sr j hj with h|h
  ·exact bD h (fun r hr=>WC.refs j r hr)
  ·rw[h];exact kW
 ·rw[tz _ _ _ (by omega)]
  exact WC.fresh j af
def IsL(o:Nat->ab)(x:V)(l:List Int):Prop:=(x= .aw/\l=[])\/∃id ep,x= .osl id ep/\o id= .arr ep 3 1 (l.map D.i)
theorem Ob:∀ (more l:List Int),(qC l more).length<=l.length+more.length
 |[],l=>by simp[qC]
 |u::more,l=>by
  have h1:(ew l u).length<=l.length+1:=by
   unfold ew
   split
   ·omega
   ·rw[List.length_append,List.length_singleton];omega
  have h2:=Ob more (ew l u)
  show(qC (ew l u) more).length<=_
  rw[List.length_cons];omega
theorem IsL.Va {o:Nat->ab}{x:V}{l:List Int}(h:IsL o x l):fW o (fun _=>True) 3 1 (l.map D.i) x:=by
 rcases h with⟨rfl,rfl⟩|⟨id,ep,rfl,ho⟩
 ·exact .inl ⟨rfl,rfl,bC⟩
 ·exact .inr ⟨id,ep,trivial,rfl,ho⟩
theorem Oc(l more:List Int)(hl:l.length<=100000)(hm:more.length<=100000){x:V}{o:Nat->ab}{nx:Nat}(hg:Good o nx)(hx:IsL o x l){K X:V->(Nat->ab)->Nat->Prop}
 (hK:∀y o' nx',nx<=nx'->Good o' nx'->(∀j,j<nx->(∀ep,x≠ .osl j ep)->o' j=o j)->IsL o' y (qC l more)->K y o' nx'):bQ Tryz.prog 140 [x, .d (.sl (more.map D.i))] o nx K X:=by
 refine bQ.aG mix adN aE ?_
 rw[adM]
 refine fZ ?_
 obtain⟨o0,gone,c1,c2,c3,c4,c5⟩:∃ (o0:Nat->ab) (gone:Nat->Prop),Good o0 nx/\(∀j,j<nx->o j=o0 j\/o0 j= .no)/\(∀id,gone id->id<nx->o0 id= .no)/\fW o gone 3 1 (l.map D.i) x/\(∀j,j<nx->(∀ep,x≠ .osl j ep)->o0 j=o j):=by
  rcases hx with⟨rfl,rfl⟩|⟨id,ep,rfl,ho⟩
  ·exact⟨o,fun _=>False,hg,fun j _=> .inl rfl,fun _ h=>h.elim, .inl ⟨rfl,rfl,bC⟩,fun j _ _=>rfl⟩
  ·have ax:id<nx:=hg.lt LL
   refine⟨ay o id .no,(· =id),hg.ay ax rfl,fun j hj=> ?_,fun j e _=>by rw[e,aa], .inr ⟨id,ep,rfl,rfl,ho⟩,fun j hj je=> ?_⟩
   ·by_cases e:j=id
    ·subst e;rw[aa];exact .inr rfl
    ·rw[ae _ _ _ _ e];exact .inl rfl
   ·by_cases e:j=id
    ·subst e;exact absurd rfl (je ep)
    ·exact GV
 refine aD (fun k:Nat=>⟨aZ [.osl nx 0, .d (.sl (more.map D.i)), .ad, .ad, .ad, .d (.i k)],U9 o0 nx (qC l (more.take k)),nx+1⟩)
  (fun k=>k<=more.length) (fun k=>more.length - k) 0 (Nat.zero_le _) (tA c1 (Nat.le_refl _) _ (qC l []) gone c3 c4 c2 ?_) (fun k hk=> ?_)
 ·exact kG
 replace hk:k<=more.length:=hk
 have q0:=ilH_0 o0 nx (qC l (more.take k))
 have hlen:=Ob (more.take k) l
 rw[List.length_take]at hlen
 refine aao q0 ?_
 refine ao (fun h2=> ?_) (fun h2=> ?_)
 ·replace h2:k<more.length:=by simp at h2;omega
  obtain⟨v,hv⟩:=aB h2
  have oz:qC l (more.take (k+1))=ew (qC l (more.take k)) v:=by unfold qC;rw[List.take_add_one,hv,List.foldl_append];rfl
  simp+contextual (disch:=first|omega|simp only[go_sem,false_implies]) only[go_sem,wrap64,if_pos,q0,hv,List.length_map,Nat.add_assoc,Nat.left_eq_add,Nat.add_eq_left,Nat.add_left_cancel_iff]
  refine ak (Ir (qC l (more.take k)) v af) rfl ?_
  cases hc:(qC l (more.take k)).contains v with
  |true=>
   have e1:ew (qC l (more.take k)) v=qC l (more.take k):=by unfold ew;rw[if_pos hc]
   refine aao q0 ?_
   refine aj (k+1) h2 af ?_
   rw[oz,e1]
   refine tA c1 (Nat.le_refl _) _ _ (fun id=>nx<=id) (fun id h1 h2=>af) (x:= .osl nx 0) (.inr ⟨nx,0,Nat.le_refl _,rfl,q0⟩) (fun j hj=> .inl (by rw[tz _ _ _ (by omega)])) ?_
   exact kG
  |false=>
   have e1:ew (qC l (more.take k)) v=qC l (more.take k)++[v]:=by unfold ew;rw[if_neg (by rw[hc];exact Bool.false_ne_true)]
   have eE:(qC l (more.take k)).length<=140737488355327/\((qC l (more.take k)).length+1)*8<=140737488355328:=af
   simp+contextual (disch:=first|omega|simp only[go_sem,false_implies]) only[go_sem,wrap64,if_pos,q0,hv,List.length_map,if_pos eE,Nat.add_assoc,Nat.left_eq_add,Nat.add_eq_left,Nat.add_left_cancel_iff]
   refine aj (k+1) h2 af ?_
   rw[oz,e1]
   refine tA c1 (Nat.le_refl _) _ _ (fun id=>nx<=id) (fun id h1 h2=>af) (x:= .osl nx 1) (.inr ⟨nx,1,Nat.le_refl _,rfl,by(repeat(first|rfl|rw[aa]|rw[ae _ _ _ _ (by omega)]));rw[List.map_append];rfl⟩) (fun j hj=> .inl (by(repeat(first|rfl|rw[aa]|rw[ae _ _ _ _ (by omega)]));rw[tz _ _ _ (by omega)])) ?_
   exact kG
 ·replace h2:k=more.length:=by simp at h2;omega
  subst h2
  rw[List.take_length]at q0|-
  refine IQ q0 ?_
  refine hK _ _ _ ?_ ?_ (fun j hj je=> ?_) (.inr ⟨nx,0,rfl,q0⟩)
  ·omega
  ·unfold U9;exact(c1.mono af).ay af rfl
  ·rw[tz _ _ _ (by omega)];exact c5 j hj je
theorem Q8.done {s:aA}{b:List (Int×Tm)}{t:Tm}{all:List Int}(h:Q8 s b t all.length all)(n:Int):n∈all↔ox b n t:=by
 refine⟨fun hn=>h.snd n hn,fun hr=> ?_⟩
 have key:∀x,ox b n x->(∀v,fX v x=true->v∈all)->n∈all:=by
  intro x hr
  induction hr with
  |here h1=>exact fun hs=>hs _ h1
  |step h1 h2 _ ih=>
   intro hs
   refine ih fun u hu=> ?_
   obtain⟨j,hj⟩:=List.mem_iff_getElem?.1 (hs _ h1)
   exact h.cl j (List.getElem?_eq_some_iff.1 hj).1 _ _ hj h2 u hu
 exact key t hr h.fst
theorem Gl{s:aA}{l:List TB}(hl:l.length<=1000)(hb:∀p∈ah l,Vs s p.2)(hf:∀p∈ah l,p.2.iz)(n:Int)(t:Tm)(ht:Vs s t)(YI:t.iz){is:Bool}(Gf:is=true↔ox (ah l) n t):
 aX Tryz.prog 117 [.sl (l.map TB.d),t.d, .i n] (.ret [.bool is]):=by
 have Od:∀t,Vs s t->(cM t).length<=100000:=fun t ht=>by
  have hv:=cQ t
  have:(cM t).length<=20:=DY (Ko hv.1) fun v h=>ht.range ((hv.2 v).1 h)
  omega
 refine aX.aG mix adz aE ?_
 rw[ady]
 refine bY ?_
 refine bc (Ee t ht YI) ?_
 refine bY ?_
 refine bM (Oc [] (cM t) aE (Od t ht) dt (.inl ⟨rfl,rfl⟩) (fun y o' nx' w1 w2 w3 w4=> ?_))
 refine bY ?_
 refine aD (fun i:Nat×List Int=>⟨aZ [.d (.sl (l.map TB.d)), .ad, .d (.i n), .ad, .ad, .ad, .ad, .osl 0 0, .d (.i i.1)],U9 (fun _=> .no) 0 i.2,0+1⟩)
  (fun i=>Q8 s (ah l) t i.1 i.2) (fun i=>21 - i.1) (0,qC [] (cM t)) (Q8.zero ht) (tA Good.nil (Nat.le_refl _) _ _ (fun _=>True) (fun id _ h=>absurd h af) w4.Va (fun j hj=>absurd hj af) ?_) ?_
 ·exact kG
 rintro⟨i,all⟩ hI
 dsimp only at hI|-
 have q0:=ilH_0 (fun _=> .no) 0 all
 have h20:=DY hI.nd hI.rg
 have hle:=hI.le
 refine mV q0 ?_
 refine ao (fun h2=> ?_) (fun h2=> ?_)
 ·replace h2:i<all.length:=by simp at h2;omega
  obtain⟨v,hv⟩:=aB h2
  refine pf q0 hv ?_
  refine ak (r8 l v af) rfl ?_
  have jA:=hI.succ hb hv
  rcases rQ l v with⟨g1,g2⟩|⟨k,x,g1,g2,g3⟩
  ·have Kv:decide (findF l v≥0)=false:=by simp;omega
   have e1:NP (ah l) all v=all:=by unfold NP;rw[g2]
   rw[e1]at jA
   refine pf q0 Kv ?_
   refine aj (i+1,all) jA lK (tA Good.nil (Nat.le_refl _) _ _ (fun _=>True) (fun id _ h=>absurd h af) (x:= .osl 0 0) (.inr ⟨0,0,trivial,rfl,q0⟩) (fun j hj=>absurd hj af) ?_)
   exact kG
  ·have Kv:decide (((k:Nat):Int)≥0)=true:=aE
   have e1:NP (ah l) all v=qC all (cM x.term):=by unfold NP;rw[g3]
   rw[e1]at jA
   have ck:=ir (List.mem_of_getElem? g2)
   refine Pm q0 g1 Kv g2 ?_
   refine bc (Ee x.term (hb _ ck) (hf _ ck)) ?_
   refine mV q0 ?_
   refine bM (Oc all (cM x.term) af (Od _ (hb _ ck)) (Good.ay Good.nil af rfl) (.inr ⟨0,0,rfl,q0⟩) (fun y o2 nx2 u1 u2 u3 u4=> ?_))
   refine bY ?_
   refine aj (i+1,qC all (cM x.term)) jA lK (tA Good.nil (Nat.le_refl _) _ _ (fun _=>True) (fun id _ h=>absurd h af) u4.Va (fun j hj=>absurd hj af) ?_)
   exact kG
 ·replace h2:i=all.length:=by simp at h2;omega
  subst h2
  have:is=all.contains n:=by rw[Bool.eq_iff_iff,Gf,List.contains_iff_mem];exact(hI.done n).symm
  refine mV q0 ?_
  refine ak (Ir all n af) rfl ?_
  exact yz
def Ro:IC:=QK.snd.snd
theorem Gm{l:List TB}{F:Tm->Int->Option Int}{x:Tm}(hx:x.fits){n:Int}{d:Nat}{r:Int}(hn:0<=n/\n<=1000)(hd:d<=1000)(hF:∀k m q,0<=m->F k m=some q-> -1<=q/\q<=m)
 (ih:∀k∈x.kids,∀m q d',d=d'+1->0<=m/\m<=1000->F k m=some q->aX Tryz.prog 143 [.sl (l.map TB.d),k.d, .i m, .i d'] (.ret [.i q]))
 (h:(match d with|0=>some (-1)|_+1=>BU F x.kids (n - 1))=some r) {e:Nat->V} {o:Nat->ab} {nx:Nat} (hg:Good o nx) (e0:e 0= .d (.sl (l.map TB.d))) (e2:e 2= .d (.i n)) (e3:e 3= .d (.i d)) (e5:e 5= .ptr 0 0) (ho:o 0= .row x.row) (h1:1<=nx):
 ke Tryz.prog 55 0 false Ro (AE Tryz.prog [.tmp 8] (.ret [.i r])) ⟨e,o,nx⟩:=by
 have K5:=(Tm.cm x).1 hx
 simp only[Ro,QK,IC.snd]
 cases d with
 |zero=>
  cases h
  simp+contextual (disch:=first|omega|simp only[go_sem,false_implies]) only[go_sem,wrap64,if_pos,e0,e2,e3,e5,ho]
 |succ d=>
  dsimp only at h
  have PZ:(((d+1:Nat):Int)==0)=false:=by rw[beq_eq_false_iff_ne];omega
  refine BX e0 e2 e3 e5 ho PZ ?_
  refine aD (fun i:Nat×Int=>⟨aZ [.d (.sl (l.map TB.d)), .ad, .d (.i i.2), .d (.i (d+1:Nat)), .ad, .ptr 0 0, .ad, .ad, .ad, .ad, .d (.i i.1)],ay (fun _=> .no) 0 (.row x.row),1⟩)
   (fun i=>i.1<=x.kids.length/\BU F (x.kids.drop i.1) i.2=some r/\ -1<=i.2/\i.2<=1000) (fun i=>x.kids.length - i.1) (0,n - 1) ⟨Nat.zero_le _,h,by dsimp only;omega,by dsimp only;omega⟩ (bO.cc _ af af (Good.ay Good.nil af rfl) (fun j hj=> ?_) ?_) ?_
  ·have hj:j<1:=hj
   have:j=0:=af
   subst this
   rw[aa];exact ho
  ·exact oG (by(repeat(first|rfl|rw[aa]|rw[ae _ _ _ _ (by omega)]));exact e0) (gw (oG rfl (oG I6 (gw (GA Se pk (gw (gw (gw (gw (oG rfl yh))))))))))
  rintro⟨k,m⟩ ⟨hk,hl,KQ,OZ⟩
  simp only at hk hl KQ OZ
  by_cases h2:k<x.kids.length
  ·have mY:decide ((k:Int)<(x.kids.length:Int))=true:=by simp;omega
   obtain⟨y,hy⟩:=aB h2
   have QP:=List.mem_of_getElem? hy
   have D5:x.kids.drop k=y::x.kids.drop (k+1):=by
    obtain⟨i1,i2⟩:=List.getElem?_eq_some_iff.1 hy
    exact EM
   rw[D5]at hl
   simp only[BU]at hl
   by_cases h0:m<0
   ·have Ax:decide (m≥0)=false:=by simp;omega
    rw[if_pos h0]at hl
    cases hl
    exact aau hy mY Ax
   ·have Ax:decide (m≥0)=true:=by simp;omega
    rw[if_neg h0]at hl
    cases e:F y m with
    |none=>rw[e]at hl;cases hl
    |some q=>
    rw[e]at hl
    have hq:=hF y m q af e
    refine Le hy mY Ax ?_
    rw[show(((d+1:Nat):Int) - 1)=((d:Nat):Int) by omega]
    refine ak (ih y QP m q d rfl af e) rfl ?_
    refine bY ?_
    refine aj (k+1,q) ⟨h2,hl,by dsimp only;omega,by dsimp only;omega⟩ lK (bO.cc _ af af (Good.ay Good.nil af rfl) (fun j hj=>rfl) ?_)
    exact dW
  ·have mY:decide ((k:Int)<(x.kids.length:Int))=false:=by simp;omega
   have:k=x.kids.length:=af
   subst this
   rw[List.drop_length]at hl
   cases hl
   exact Lg mY
theorem xk{l:List TB}(hl:l.length<=1000)(oA:∀p∈ah l,p.2.fits):∀ (f:Nat) (t:Tm) (n:Int) (d:Nat) (r:Int),t.fits->0<=n/\n<=1000->d<=1000->ui f (ah l) t n d=some r->
 aX Tryz.prog 143 [.sl (l.map TB.d),t.d, .i n, .i d] (.ret [.i r])
 |0,_,_,_,_,_,_,_,h=>by cases h
 |f+1,t,n,d,r,ht,hn,hd,h=>by
  simp only[ui]at h
  cases ha:lI f (ah l) t with
  |none=>rw[ha]at h;cases h
  |some x=>
  rw[ha]at h
  dsimp only at h
  have K5:=rU oA f t x ht ha
  have ahc:∀ (d':Nat) (k:Tm) (m q:Int),0<=m->ui f (ah l) k m d'=some q-> -1<=q/\q<=m:=fun d' k m q=>Bq f k m d' q
  have rest:∀ {e:Nat->V} {o:Nat->ab} {nx:Nat},Good o nx->e 0= .d (.sl (l.map TB.d))->e 2= .d (.i n)->e 3= .d (.i d)->e 5= .ptr 0 0->o 0= .row x.row->1<=nx->ke Tryz.prog 55 0 false Ro (AE Tryz.prog [.tmp 8] (.ret [.i r])) ⟨e,o,nx⟩:=by
   intro e o nx hg e0 e2 e3 e5 ho h1
   refine Gm (F:=fun k m=>ui f (ah l) k m (d - 1)) K5 hn hd (fun k m q h1 h2=>ahc _ k m q h1 h2) (fun k hk m q d' he hm hF=> ?_) ?_ hg e0 e2 e3 e5 ho h1
   ·subst he
    exact xk hl oA f k m d' q ((Tm.cm x).1 K5 |>.2 k hk) hm af hF
   ·cases d with
    |zero=>exact h
    |succ d=>exact h
  have chain:∀ (g:Nat) (t:Tm),t.fits->lI g (ah l) t=some x->aX Tryz.prog 143 [.sl (l.map TB.d),t.d, .i n, .i d] (.ret [.i r]):=by
   intro g
   induction g with
   |zero=>intro t _ h;cases h
   |succ g ihg=>
    intro t ht KO
    simp only[lI]at KO
    refine aX.aG mix adS aE ?_
    rw[QK]
    show ke _ _ _ _ (.seq _ (.seq _ Ro)) _ _
    by_cases h1:t.op=1
    ·have eW:(t.op==1)=true:=by simpa using h1
     rw[if_pos h1]at KO
     refine oF eW ?_
     refine ak (r8 l t.n af) rfl ?_
     rcases rQ l t.n with⟨g1,g2⟩|⟨k,y,g1,g2,g3⟩
     ·have Kv:decide (findF l t.n≥0)=false:=by simp;omega
      rw[g2]at KO
      cases KO
      refine oF Kv ?_
      exact rest dt rfl rfl rfl rfl rfl af
     ·have Kv:decide (((k:Nat):Int)≥0)=true:=aE
      rw[g3]at KO
      refine Le g1 Kv g2 ?_
      refine ak (ihg y.term (oA _ (ir (List.mem_of_getElem? g2))) KO) rfl ?_
      exact pX
    ·have eW:(t.op==1)=false:=by simpa using h1
     rw[if_neg h1]at KO
     cases KO
     refine oF eW ?_
     exact rest dt rfl rfl rfl rfl rfl af
  exact chain f t ht ha
theorem Eg{l:List TB}(hl:l.length<=1000)(oA:∀p∈ah l,p.2.fits)(hle:∀p∈ah l,∃f r,ui f (ah l) p.2 40 12=some r){ok:Bool}(aY:ok=true↔∀x∈l,zQ (ah l) x.term):
 aX Tryz.prog 118 [.sl (l.map TB.d)] (.ret [.bool ok]):=by
 refine aX.aG mix adB aE ?_
 rw[adA]
 refine bY ?_
 refine aD (fun k:Nat=>⟨aZ [.d (.sl (l.map TB.d)), .ad, .ad, .d (.i k)],fun _=> .no,0⟩)
  (fun k=>k<=l.length/\∀x∈l.take k,zQ (ah l) x.term) (fun k=>l.length - k) 0 ⟨Nat.zero_le _,fun x hx=>by simp at hx⟩ (bO.d0 _ ?_) (fun k hk=> ?_)
 ·exact dW
 obtain⟨hk,ho⟩:=hk
 refine uL ?_
 refine ao (fun h2=> ?_) (fun h2=> ?_)
 ·replace h2:k<l.length:=by simp at h2;omega
  obtain⟨x,hx⟩:=aB h2
  have ck:=List.mem_of_getElem? hx
  obtain⟨f,r,hf⟩:=hle _ (ir ck)
  have c9:=H9 hf
  refine mV hx ?_
  refine ak (xk hl oA f x.term 40 12 r (oA _ (ir ck)) af af hf) rfl ?_
  by_cases h0:r<0
  ·have Ax:decide (r<0)=true:=decide_eq_true h0
   have:ok=false:=by
    cases ok with
    |false=>rfl
    |true=>have:=c9.1 (aY.1 rfl x ck);omega
   subst this
   exact Ad Ax
  ·have Ax:decide (r<0)=false:=decide_eq_false h0
   refine oF Ax ?_
   refine aj (k+1) ⟨h2,fun y hy=> ?_⟩ af (bO.d0 _ ?_)
   ·rw[List.take_add_one,hx]at hy
    rcases List.mem_append.1 hy with hy|hy
    ·exact ho y hy
    ·simp at hy
     subst hy
     exact c9.2 af
   ·exact dW
 ·replace h2:k=l.length:=by simp at h2;omega
  subst h2
  rw[List.take_length]at ho
  have:ok=true:=aY.2 ho
  exact Ah
theorem Rp{l:List TB}{i:Nat}{x:TB}(hx:l[i]? =some x):findF l x.var<(i:Int)↔x.var∈(ah (l.take i)).map (·.1):=by
 have e:(ah (l.take i)).map (·.1)=(l.take i).map (·.var):=by unfold ah;rw[List.map_map];rfl
 rw[e]
 obtain⟨hi,hxe⟩:=List.getElem?_eq_some_iff.1 hx
 unfold findF
 cases h:l.findIdx? (·.var==x.var)with
 |none=>
  rw[List.findIdx?_eq_none_iff]at h
  have:=h x (List.mem_of_getElem? hx)
  simp at this
 |some k=>
  rw[List.findIdx?_eq_some_iff_getElem]at h
  obtain⟨hk,h1,h2⟩:=h
  dsimp only
  constructor
  ·intro cu
   have cu:k<i:=af
   refine List.mem_map.2 ⟨l[k], ?_,by simpa using h1⟩
   rw[List.mem_iff_getElem?]
   exact⟨k,by rw[List.getElem?_take,if_pos cu,List.getElem?_eq_getElem hk]⟩
  ·intro hm
   obtain⟨y,hy,hyv⟩:=List.mem_map.1 hm
   obtain⟨j,hj⟩:=List.mem_iff_getElem?.1 hy
   rw[List.getElem?_take]at hj
   split at hj
   ·rename_i hji
    obtain⟨hjl,Zm⟩:=List.getElem?_eq_some_iff.1 hj
    rcases Nat.lt_or_ge j k with Td|Td
    ·have:=h2 j Td
     rw[Zm]at this
     simp[hyv]at this
    ·omega
   ·cases hj
theorem Gn(s:aA)(hs:s.Fits)(qq:ju s=true)(l:List TB)(hl:l.length<=1000)(hlf:∀x∈l,x.term.fits){ok:Bool}(aY:ok=true↔iF s l):
 aX Tryz.prog 76 [s.d, .sl (l.map TB.d)] (.ret [.bool ok]):=by
 have no: ¬iF s l->ok=false:=fun h=>by
  cases ok with
  |false=>rfl
  |true=>exact absurd (aY.1 rfl) h
 refine aX.aG mix agM aE ?_
 rw[c76]
 by_cases h20:20<l.length
 ·have YQ:decide ((l.length:Int)>20)=true:=by simp;omega
  have:=no fun h=>by have:=h.len;omega
  subst this
  exact Lg YQ
 have YQ:decide ((l.length:Int)>20)=false:=by simp;omega
 refine mV YQ ?_
 refine aD (fun k:Nat=>⟨aZ [.ad, .d (.sl (l.map TB.d)), .ptr 0 0, .ad, .ad, .d (.i k)],ay (fun _=> .no) 0 (.row [.d (.sl (s.cons.map ei.d)), .d (.sl (s.b9.map ei.d))]),1⟩)
  (fun k=>k<=l.length/\((ah (l.take k)).map (·.1)).Nodup/\∀x∈l.take k,(0<=x.var/\x.var<20)/\bB s x.term=true) (fun k=>l.length - k) 0 ⟨Nat.zero_le _,List.nodup_nil,fun x hx=>by simp at hx⟩ (bO.cc _ af af dt (fun j hj=>rfl) ?_) (fun k hk=> ?_)
 ·exact dW
 obtain⟨hk,AF,ho⟩:=hk
 refine uL ?_
 refine ao (fun h2=> ?_) (fun h2=> ?_)
 ·replace h2:k<l.length:=by simp at h2;omega
  obtain⟨x,hx⟩:=aB h2
  have ck:=List.mem_of_getElem? hx
  have oz:=D9 l hx
  refine mV hx ?_
  refine a7 (Gk x.var 0 19) rfl ?_
  have G7:dU x.var 0 19=true↔0<=x.var/\x.var<20:=by unfold dU;simp;omega
  cases h6:dU x.var 0 19 with
  |false=>
   have:=no fun h=>by
    have:=G7.2 (h.ok x ck).1
    rw[h6]at this;cases this
   exact S4
  |true=>
   refine mV hx ?_
   refine a7 (r8 l x.var af) rfl ?_
   have cu:=Rp hx
   cases h7:decide (findF l x.var<(k:Int))with
   |true=>
    have:=no fun h=>by
     have h8:=cu.1 (of_decide_eq_true h7)
     have h9:=h.keys.sublist (((List.take_sublist (k+1) l).map _).map _)
     have h9:((ah (l.take (k+1))).map (·.1)).Nodup:=h9
     rw[oz,List.map_append,List.nodup_append]at h9
     exact h9.2.2 x.var h8 x.var aE rfl
    subst this
    refine pf hx h7 ?_
    refine aI (a8 rfl) ?_
    exact pX
   |false=>
    refine pf hx h7 ?_
    refine a7 (l9 s hs x.term (hlf x ck)) rfl ?_
    have hve:=xj qq x.term
    cases h8:(gM s x.term&&ft x.term)with
    |false=>
     have:=no fun h=>by
      have:=(h.ok x ck).2
      rw[hve,h8]at this;cases this
     exact S4
    |true=>
     refine mV hx ?_
     refine aI (a8 rfl) ?_
     refine bY ?_
     refine aj (k+1) ⟨h2, ?_,fun y hy=> ?_⟩ af (bO.cc _ af af dt (fun j hj=>rfl) ?_)
     ·rw[oz,List.map_append,List.nodup_append]
      refine⟨AF,aE,fun a ha c hc e=> ?_⟩
      simp at hc
      rw[e,hc]at ha
      exact of_decide_eq_false h7 (cu.2 ha)
     ·rw[List.take_add_one,hx]at hy
      rcases List.mem_append.1 hy with hy|hy
      ·exact ho y hy
      ·simp at hy
       subst hy
       exact⟨G7.1 h6,by rw[hve,h8]⟩
     ·exact dW
 ·replace h2:k=l.length:=by simp at h2;omega
  subst h2
  rw[List.take_length]at AF ho
  have G0:∀p∈ah l,Vs s p.2:=fun p hp=>by
   obtain⟨x,hx,rfl⟩:=ez hp
   exact(bz (ho x hx).2).1
  have oA:∀p∈ah l,p.2.iz:=fun p hp=>by
   obtain⟨x,hx,rfl⟩:=ez hp
   exact Tm.Gj _ (by have:=(bz (ho x hx).2).2.1;show x.term.sz<=1000;omega)
  refine bY ?_
  refine aD (fun k:Nat=>⟨aZ [.ad, .d (.sl (l.map TB.d)), .ad, .ad, .ad, .ad, .d (.i k)],fun _=> .no,0⟩)
   (fun k=>k<=l.length/\∀x∈l.take k, ¬ox (ah l) x.var x.term) (fun k=>l.length - k) 0 ⟨Nat.zero_le _,fun x hx=>by simp at hx⟩ (bO.d0 _ ?_) (fun k hk=> ?_)
  ·exact dW
  obtain⟨hk,hc⟩:=hk
  refine uL ?_
  refine ao (fun h2=> ?_) (fun h2=> ?_)
  ·replace h2:k<l.length:=by simp at h2;omega
   obtain⟨x,hx⟩:=aB h2
   have ck:=List.mem_of_getElem? hx
   obtain⟨is,Gf⟩:∃is:Bool,is=true↔ox (ah l) x.var x.term:=by
    classical
    exact⟨decide (ox (ah l) x.var x.term),aE⟩
   refine mV hx ?_
   refine a7 (Gl hl G0 oA x.var x.term (G0 _ (ir ck)) (oA _ (ir ck)) Gf) rfl ?_
   cases is with
   |true=>
    have:=no fun h=>h.DZ x.var x.term ((jj h.keys).2 (ir ck)) (Gf.1 rfl)
    subst this
    exact PA
   |false=>
    refine bY ?_
    refine aI (a8 rfl) ?_
    refine bY ?_
    refine aj (k+1) ⟨h2,fun y hy=> ?_⟩ af (bO.d0 _ ?_)
    ·rw[List.take_add_one,hx]at hy
     rcases List.mem_append.1 hy with hy|hy
     ·exact hc y hy
     ·simp at hy
      subst hy
      exact fun h=>Bool.false_ne_true (Gf.2 h)
    ·exact dW
  ·replace h2:k=l.length:=by simp at h2;omega
   subst h2
   rw[List.take_length]at hc
   have Oa:YC (ah l):=fun v t ht=>by
    obtain⟨x,hx,e⟩:=ez (cK ht)
    cases e
    exact hc x hx
   obtain⟨l',ρ,R,hS,yT⟩:=iu AF ho Oa
   have hle:∀p∈ah l,∃f r,ui f (ah l) p.2 40 12=some r:=fun p hp=>by
    exact Tc
   refine bY ?_
   refine ak (Eg (ok:=ok) hl (fun p hp=>Tm.rZ _ (oA p hp)) hle (aY.trans ⟨fun h=>h.YJ,fun h=>⟨af,AF,ho,Oa,h⟩⟩)) rfl ?_
   exact pX
theorem Is(gone:Nat->Prop)(x:V)(L:List V)(ta:∀id,gone id->12<=id){op n:Int}{ks:List Tm}{k:Nat}{t:Tm}{e:Nat->V}{so:Nat->ab}{m:Nat}(gx:fW so gone 33 3 ((ks.take k).map Tm.d) x)
 (s0:so 0= .row t.row) (s1:so 1= .row [.d (.i 0), .d (.i 0), .aw]) (s11:so 11= .row [.d (.i op), .d (.i n),x]) (he:iV 12 [⟨x,33,3,(ks.take k).map Tm.d⟩] so gone e L 0):bO 0 ⟨e,so,m⟩ ⟨aZ L,ay (Gc op n ks k) 0 (.row t.row),12+1⟩:=by
 refine bO.uK gone x 12 L af (fun j hj=> ?_) (by rw[ae _ _ _ _ (by omega)];exact fuH_12 op n ks k) gx (fun j hj=>by rw[ae _ _ _ _ (by omega)];exact Bs _ _ _ _ af af af) (fun j h1 h2=>absurd (ta j h1) af) he
 by_cases e0:j=0
 ·subst e0
  rw[aa]
  exact bD s0 (fun r hr=>by simp[ab.refs,V.aL,V.refs]at hr)
 rw[ae _ _ _ _ e0]
 by_cases e1:j=1
 ·subst e1
  rw[fuH_1]
  exact Sr
 ·by_cases e2:j=11
  ·subst e2
   rw[fuH_11]
   exact Sx
  ·rw[Bs _ _ _ _ e1 e2 (by omega)]
   exact kW
theorem tC{l:List TB}(hl:l.length<=1000)(oA:∀p∈ah l,p.2.fits):∀ (f:Nat) (t y:Tm) (d:Nat),t.fits->d<=1000->Ia f (ah l) t d=some y->y.sz<=1000000->
 aX Tryz.prog 93 [.sl (l.map TB.d),t.d, .i d] (.ret [y.d, .bool true])
 |0,_,_,_,_,_,h,_=>by cases h
 |f+1,t,y,d,ht,hd,h,hz=>by
  simp only[Ia]at h
  have YI:=(Tm.cm t).1 ht
  refine aX.aG mix agV aE ?_
  rw[c93]
  by_cases h1:t.op=1
  ·have eW:(t.op==1)=true:=by simpa using h1
   rw[if_pos h1]at h
   refine oF eW ?_
   refine ak (r8 l t.n af) rfl ?_
   rcases rQ l t.n with⟨g1,g2⟩|⟨k,z,g1,g2,g3⟩
   ·have Kv:decide (findF l t.n<0)=true:=by simp;omega
    rw[g2]at h
    cases h
    exact Ad Kv
   ·have Kv:decide (((k:Nat):Int)<0)=false:=aE
    rw[g3]at h
    cases d with
    |zero=>cases h
    |succ d=>
     have PZ:(((d+1:Nat):Int)==0)=false:=by rw[beq_eq_false_iff_ne];omega
     refine Pm g1 Kv g2 PZ ?_
     rw[show(((d+1:Nat):Int) - 1)=((d:Nat):Int) by omega]
     refine bc (tC hl oA f z.term y d (oA _ (ir (List.mem_of_getElem? g2))) af h hz) ?_
     exact pX
  ·have eW:(t.op==1)=false:=by simpa using h1
   rw[if_neg h1]at h
   cases hL:D2 (fun k=>Ia f (ah l) k d) t.kids with
   |none=>rw[hL]at h;cases h
   |some ks=>
   rw[hL]at h
   cases h
   obtain⟨Cu,Jg⟩:=Br hL
   have eB:sy ks+1<=1000000:=by rw[Tm.ko]at hz;simp only[Tm.kids]at hz;omega
   have hle:=mQ ks
   refine oF eW ?_
   refine aD (fun i:Nat=>⟨aZ [.d (.sl (l.map TB.d)), .ad, .d (.i d), .ad, .ptr 0 0, .ad, .ptr 1 0, .ad, .ad, .ptr 11 0, .d (.i i)],ay (Gc t.op t.n ks i) 0 (.row t.row),12+1⟩)
    (fun i=>i<=t.kids.length) (fun i=>t.kids.length - i) 0 (Nat.zero_le _) (Is (fun _=>False) .aw _ (fun _ h=>h.elim) (.inl ⟨rfl,rfl,bC⟩) cg cg cg ?_) (fun k hk=> ?_)
   ·exact kG
   replace hk:k<=t.kids.length:=hk
   have q0:ay (Gc t.op t.n ks k) 0 (.row t.row) 0= .row t.row:=aa _ _ _
   have q1:ay (Gc t.op t.n ks k) 0 (.row t.row) 1= .row [.d (.i 0), .d (.i 0), .aw]:=rfl
   have Rc:ay (Gc t.op t.n ks k) 0 (.row t.row) 11= .row [.d (.i t.op), .d (.i t.n), .osl 12 0]:=rfl
   have Re:ay (Gc t.op t.n ks k) 0 (.row t.row) 12= .arr 0 33 3 ((ks.take k).map Tm.d):=rfl
   refine Pm q0 q1 Rc Re ?_
   refine ao (fun h2=> ?_) (fun h2=> ?_)
   ·replace h2:k<t.kids.length:=by simp at h2;omega
    obtain⟨z,YO⟩:=aB h2
    obtain⟨z',Jn,hF⟩:=Jg k z YO
    have hzm:=List.mem_of_getElem? YO
    have oz:ks.take (k+1)=ks.take k++[z']:=by rw[List.take_add_one,Jn];rfl
    have e0:(ks.take k).length=k:=by rw[List.length_take];omega
    have hzs:z'.sz<=1000000:=by have:=Ih (List.mem_of_getElem? Jn);omega
    have eE:k<=140737488355327/\(k+1)*24<=140737488355328:=af
    simp+contextual (disch:=first|omega|simp only[go_sem,false_implies]) only[go_sem,wrap64,if_pos,q0,q1,Rc,Re,YO,List.length_map]
    refine bc (tC hl oA f z z' d (YI.2 z hzm) hd hF hzs) ?_
    simp+contextual (disch:=first|omega|simp only[go_sem,false_implies]) only[go_sem,wrap64,if_pos,q0,q1,Rc,Re,YO,List.length_map,e0,if_pos eE]
    refine aj (k+1) h2 af (Is (fun j=>12<=j) (.osl 12 1) _ (fun _ h=>h) (.inr ⟨12,1,Nat.le_refl _,rfl,by(repeat(first|rfl|rw[aa]|rw[ae _ _ _ _ (by omega)]));rw[oz,List.map_append];rfl⟩) cg R9 cg ?_)
    exact kG
   ·replace h2:k=t.kids.length:=by simp at h2;omega
    subst h2
    have YG:ay (Gc t.op t.n ks t.kids.length) 0 (.row t.row) 12= .arr 0 33 3 (ks.map Tm.d):=by rw[Re, <- Cu,List.take_length]
    simp+contextual (disch:=first|omega|simp only[go_sem,false_implies]) only[go_sem,wrap64,if_pos,q0,q1,Rc,YG]
    rw[Tm.Df]
theorem zW{l:List TB}(hl:l.length<=1000)(oA:∀p∈ah l,p.2.fits){t y:Tm}{f:Nat}(ht:t.fits)(h:Ia f (ah l) t (ah l).length=some y)(hz:y.sz<=1000000):aX Tryz.prog 42 [.sl (l.map TB.d),t.d] (.ret [y.d]):=by
 have e:(ah l).length=l.length:=by unfold ah;rw[List.length_map]
 rw[e]at h
 refine aX.aG mix agA aE ?_
 rw[c42]
 refine uL ?_
 refine bc (tC hl oA f t y l.length ht hl h hz) ?_
 exact pX
theorem uj{l:List TB}(hl:l.length<=1000)(oA:∀p∈ah l,p.2.fits){n:Nt}{x y:Tm}{f g:Nat}(ha:n.a.fits)(hb:n.b.fits)(hx:Ia f (ah l) n.a (ah l).length=some x)(hy:Ia g (ah l) n.b (ah l).length=some y)(zx:x.sz<=1000000)(zy:y.sz<=1000000):
 aX Tryz.prog 71 [.sl (l.map TB.d),n.d] (.ret [.bool (hY x y)]):=by
 refine aX.aG mix agK aE ?_
 rw[c71]
 refine bY ?_
 refine aV (zW hl oA ha hx zx) ?_
 refine bY ?_
 refine aV (zW hl oA hb hy zy) ?_
 refine bY ?_
 refine a7 (wM x (Tm.dD _ zx) y (Tm.dD _ zy)) rfl ?_
 exact PA
end Go.Proofs.YtlhemmpklhhgoaaGreat
set_option maxHeartbeats 2000000
namespace Go.Proofs.YtlhemmpklhhgoaaGreat
theorem YR(nb nn:Int)(l m:Int×Int)(ms:List (Int×Int)):mR nb nn l (m::ms)=(dU m.1 l.1 nb&&dU m.2 l.2 nn&&mR nb nn m ms):=by
 rw[mR]
 congr 1
 unfold dU
 rw[Bool.eq_iff_iff]
 simp
 omega
theorem Gp(s:bU)(hs:s.Fin){ok:Bool}(aY:ok=true↔bw s):aX Tryz.prog 22 [s.d] (.ret [.bool ok]):=by
 have no: ¬bw s->ok=false:=fun h=>by
  cases ok with
  |false=>rfl
  |true=>exact absurd (aY.1 rfl) h
 have ss:=hs.bl
 have uD:=hs.nl
 have KN:=hs.ml
 refine aX.aG mix ago aE ?_
 rw[c22]
 refine bY ?_
 refine ak (UY s.sig hs.sig) rfl ?_
 cases h1:ju s.sig with
 |false=>
  have:=no fun h=>by have:=h.sig;rw[h1]at this;cases this
  exact Ah
 |true=>
 obtain⟨bo,Wk⟩:∃bo:Bool,bo=true↔iF s.sig s.binds:=by
  classical
  exact⟨decide (iF s.sig s.binds),aE⟩
 refine bY ?_
 refine ak (Gn s.sig hs.sig h1 s.binds ss (fun x hx=>(hs.bt x hx).fits) Wk) rfl ?_
 cases bo with
 |false=>
  have:=no fun h=>Bool.false_ne_true (Wk.2 h.jk)
  exact Ah
 |true=>
 have hb:=Wk.1 rfl
 by_cases h3:12<s.aH.length
 ·have kK:decide ((s.aH.length:Int)>12)=true:=by simp;omega
  have:=no fun h=>by have:=h.rW;omega
  subst this
  exact Lg kK
 have kK:decide ((s.aH.length:Int)>12)=false:=by simp;omega
 by_cases h4:8<s.marks.length
 ·have JB:decide ((s.marks.length:Int)>8)=true:=by simp;omega
  have:=no fun h=>by have:=h.D8;omega
  subst this
  exact Lf kK JB
 have JB:decide ((s.marks.length:Int)>8)=false:=by simp;omega
 obtain⟨l',ρ,R,hS,yT⟩:=iu hb.keys hb.ok hb.DZ
 have oA:∀p∈ah s.binds,p.2.fits:=fun p hp=>by
  obtain⟨x,hx,rfl⟩:=ez hp
  exact(hs.bt x hx).fits
 have c9:∀p∈ah s.binds,zQ (ah s.binds) p.2:=fun p hp=>by
  obtain⟨x,hx,rfl⟩:=ez hp
  exact hb.YJ x hx
 refine pf kK JB ?_
 refine aD (fun k:Nat=>⟨aZ [.ad, .ptr 0 0, .ad, .d (.i k)],ay (fun _=> .no) 0 (.row s.row),1⟩)
  (fun k=>k<=s.aH.length/\∀n∈s.aH.take k,bB s.sig n.a=true/\bB s.sig n.b=true/\ ¬oZ (ah s.binds) n) (fun k=>s.aH.length - k) 0 ⟨Nat.zero_le _,fun n hn=>by simp at hn⟩ (bO.cc _ af af dt (fun j hj=>rfl) ?_) (fun k hk=> ?_)
 ·exact dW
 obtain⟨hk,ho⟩:=hk
 refine uL ?_
 refine ao (fun h6=> ?_) (fun h6=> ?_)
 ·replace h6:k<s.aH.length:=by simp at h6;omega
  obtain⟨n,hn⟩:=aB h6
  have BP:=List.mem_of_getElem? hn
  obtain⟨na,nb⟩:=hs.nt n BP
  have ea:=xj h1 n.a
  have eb:=xj h1 n.b
  refine mV hn ?_
  refine a7 (l9 s.sig hs.sig n.a na.fits) rfl ?_
  cases va:(gM s.sig n.a&&ft n.a)with
  |false=>
   have:=no fun h=>by have:=(h.aH n BP).1;rw[ea,va]at this;cases this
   exact VZ
  |true=>
   refine mV hn ?_
   refine a7 (l9 s.sig hs.sig n.b nb.fits) rfl ?_
   cases vb:(gM s.sig n.b&&ft n.b)with
   |false=>
    have:=no fun h=>by have:=(h.aH n BP).2.1;rw[eb,vb]at this;cases this
    exact VZ
   |true=>
    obtain⟨a1,a2,a3⟩:=bz (ea.trans va)
    obtain⟨b1,b2,b3⟩:=bz (eb.trans vb)
    have za:=mS hS c9 a1
    have zb:=mS hS c9 b1
    obtain⟨fa,ua⟩:=Bp hS a1
    obtain⟨fb,ub⟩:=Bp hS b1
    have py:=o6 (n:=n) hS a1 b1
    refine mV hn ?_
    refine a7 (uj ss oA (n:=n) na.fits nb.fits ua ub af af) rfl ?_
    cases E1:hY (aS (ah l') n.a) (aS (ah l') n.b)with
    |true=>
     have:=no fun h=>(h.aH n BP).2.2 (py.2 ((dR _ _).1 E1))
     exact VZ
    |false=>
     refine mV hn ?_
     refine aI (a8 rfl) ?_
     refine bY ?_
     refine aj (k+1) ⟨h6,fun y hy=> ?_⟩ af (bO.cc _ af af dt (fun j hj=>rfl) ?_)
     ·rw[List.take_add_one,hn]at hy
      rcases List.mem_append.1 hy with hy|hy
      ·exact ho y hy
      ·simp at hy
       subst hy
       refine⟨ea.trans va,eb.trans vb,fun h=> ?_⟩
       rw[(dR _ _).2 (py.1 h)]at E1;cases E1
     ·exact dW
 ·replace h6:k=s.aH.length:=by simp at h6;omega
  subst h6
  rw[List.take_length]at ho
  have fin:mR s.binds.length s.aH.length (0,0) s.marks=ok:=by
   rw[Bool.eq_iff_iff,aY]
   exact⟨fun h=>⟨h1,af,af,hb,ho,h⟩,fun h=>h.marks⟩
  refine uL ?_
  refine aD (fun i:Nat×Int×Int=>⟨aZ [.ad, .ptr 0 0, .ad, .ad, .ptr 7 0, .d (.i i.1)],ay (ay (fun _=> .no) 0 (.row s.row)) 7 (.row [.d (.i i.2.1), .d (.i i.2.2)]),8⟩)
   (fun i=>i.1<=s.marks.length/\mR s.binds.length s.aH.length i.2 (s.marks.drop i.1)=ok) (fun i=>s.marks.length - i.1) (0,0,0) ⟨Nat.zero_le _,fin⟩ (bO.cc _ (show 0<=8 from af) af dt (fun j hj=> ?_) ?_) ?_
  ·by_cases e:j=7
   ·exact vl
   ·exact cg
  ·exact dW
  rintro⟨k,l1,l2⟩ ⟨hk,mj⟩
  dsimp only at hk mj|-
  refine uL ?_
  refine ao (fun h7=> ?_) (fun h7=> ?_)
  ·replace h7:k<s.marks.length:=by simp at h7;omega
   obtain⟨⟨m1,m2⟩,hm⟩:=aB h7
   have D5:s.marks.drop k=(m1,m2)::s.marks.drop (k+1):=by
    obtain⟨i1,i2⟩:=List.getElem?_eq_some_iff.1 hm
    exact EM
   rw[D5,YR]at mj
   dsimp only at mj
   refine mV hm ?_
   refine ak (Gk m1 l1 s.binds.length) rfl ?_
   cases g1:dU m1 l1 s.binds.length with
   |false=>
    rw[g1]at mj
    simp only[Bool.false_and]at mj
    subst mj
    exact pX
   |true=>
    rw[g1]at mj
    refine mV hm ?_
    refine ak (Gk m2 l2 s.aH.length) rfl ?_
    cases g2:dU m2 l2 s.aH.length with
    |false=>
     rw[g2]at mj
     simp only[Bool.true_and,Bool.false_and]at mj
     subst mj
     exact pX
    |true=>
     rw[g2]at mj
     simp only[Bool.true_and]at mj
     refine mV hm ?_
     refine aj (k+1,m1,m2) ⟨h7,mj⟩ lK (bO.cc _ (show 0<=8 from af) af dt (fun j hj=> ?_) ?_)
     ·have hj:j<8:=hj
      by_cases e:j=7
      ·exact vl
      ·(repeat(first|rfl|rw[aa]|rw[ae _ _ _ _ (by omega)]));rw[ae _ 7 _ _ e]
     ·exact dW
  ·replace h7:k=s.marks.length:=by simp at h7;omega
   subst h7
   rw[List.drop_length]at mj
   have mj:true=ok:=mj
   subst mj
   exact pX
structure bU.Fits (s:bU):Prop where
 sig:s.sig.Fits
 bl:s.binds.length<=9223372036854775807
 nl:s.aH.length<=9223372036854775807
 ml:s.marks.length<=9223372036854775807
 bt:∀x∈s.binds,x.term.fits
 nt:∀n∈s.aH,n.a.fits/\n.b.fits
structure Oe (s:bU):Prop where
 sig:eH s.sig=true
 bl:s.binds.length<=22
 nl:s.aH.length<=14
 ml:s.marks.length<=10
 bt:∀x∈s.binds,gA x.term=true
 nt:∀n∈s.aH,gA n.a=true/\gA n.b=true
theorem xm(s:bU)(hs:s.Fits){ok:Bool}(aY:ok=true↔Oe s):aX Tryz.prog 23 [s.d] (.ret [.bool ok]):=by
 have no: ¬Oe s->ok=false:=fun h=>by
  cases ok with
  |false=>rfl
  |true=>exact absurd (aY.1 rfl) h
 have ss:=hs.bl
 have uD:=hs.nl
 have KN:=hs.ml
 refine aX.aG mix agp aE ?_
 rw[c23]
 refine bY ?_
 refine ak (wN s.sig hs.sig) rfl ?_
 cases h1:eH s.sig with
 |false=>
  have:=no fun h=>by have:=h.sig;rw[h1]at this;cases this
  exact Ah
 |true=>
 by_cases h2:22<s.binds.length
 ·have mY:decide ((s.binds.length:Int)>22)=true:=by simp;omega
  have:=no fun h=>by have:=h.bl;omega
  subst this
  exact Lg mY
 have mY:decide ((s.binds.length:Int)>22)=false:=by simp;omega
 by_cases h3:14<s.aH.length
 ·have kK:decide ((s.aH.length:Int)>14)=true:=by simp;omega
  have:=no fun h=>by have:=h.nl;omega
  subst this
  exact Lf mY kK
 have kK:decide ((s.aH.length:Int)>14)=false:=by simp;omega
 by_cases h4:10<s.marks.length
 ·have JB:decide ((s.marks.length:Int)>10)=true:=by simp;omega
  have:=no fun h=>by have:=h.ml;omega
  subst this
  exact aau mY kK JB
 have JB:decide ((s.marks.length:Int)>10)=false:=by simp;omega
 refine Le mY kK JB ?_
 refine aD (fun k:Nat=>⟨aZ [.ad, .ptr 0 0, .ad, .d (.i k)],ay (fun _=> .no) 0 (.row s.row),1⟩)
  (fun k=>k<=s.binds.length/\∀x∈s.binds.take k,gA x.term=true) (fun k=>s.binds.length - k) 0 ⟨Nat.zero_le _,fun n hn=>by simp at hn⟩ (bO.cc _ af af dt (fun j hj=>rfl) ?_) (fun k hk=> ?_)
 ·exact dW
 obtain⟨hk,ho⟩:=hk
 refine uL ?_
 refine ao (fun h6=> ?_) (fun h6=> ?_)
 ·replace h6:k<s.binds.length:=by simp at h6;omega
  obtain⟨x,hx⟩:=aB h6
  have ck:=List.mem_of_getElem? hx
  refine mV hx ?_
  refine ak (rI x.term (hs.bt x ck)) rfl ?_
  cases hv:gA x.term with
  |false=>
   have:=no fun h=>by have:=h.bt x ck;rw[hv]at this;cases this
   exact Ah
  |true=>
   refine bY ?_
   refine aj (k+1) ⟨h6,fun y hy=> ?_⟩ af (bO.cc _ af af dt (fun j hj=>rfl) ?_)
   ·rw[List.take_add_one,hx]at hy
    rcases List.mem_append.1 hy with hy|hy
    ·exact ho y hy
    ·simp at hy
     subst hy
     exact hv
   ·exact dW
 ·replace h6:k=s.binds.length:=by simp at h6;omega
  subst h6
  rw[List.take_length]at ho
  refine uL ?_
  refine aD (fun k:Nat=>⟨aZ [.ad, .ptr 0 0, .ad, .ad, .d (.i k)],ay (fun _=> .no) 0 (.row s.row),1⟩)
   (fun k=>k<=s.aH.length/\∀n∈s.aH.take k,gA n.a=true/\gA n.b=true) (fun k=>s.aH.length - k) 0 ⟨Nat.zero_le _,fun n hn=>by simp at hn⟩ (bO.cc _ af af dt (fun j hj=>rfl) ?_) (fun k hk=> ?_)
  ·exact dW
  obtain⟨hk,ho2⟩:=hk
  refine uL ?_
  refine ao (fun h6=> ?_) (fun h6=> ?_)
  ·replace h6:k<s.aH.length:=by simp at h6;omega
   obtain⟨n,hn⟩:=aB h6
   have BP:=List.mem_of_getElem? hn
   obtain⟨na,nb⟩:=hs.nt n BP
   refine mV hn ?_
   refine ak (rI n.a na) rfl ?_
   cases va:gA n.a with
   |false=>
    have:=no fun h=>by have:=(h.nt n BP).1;rw[va]at this;cases this
    exact Ah
   |true=>
    refine mV hn ?_
    refine ak (rI n.b nb) rfl ?_
    cases vb:gA n.b with
    |false=>
     have:=no fun h=>by have:=(h.nt n BP).2;rw[vb]at this;cases this
     exact Ah
    |true=>
     refine bY ?_
     refine aj (k+1) ⟨h6,fun y hy=> ?_⟩ af (bO.cc _ af af dt (fun j hj=>rfl) ?_)
     ·rw[List.take_add_one,hn]at hy
      rcases List.mem_append.1 hy with hy|hy
      ·exact ho2 y hy
      ·simp at hy
       subst hy
       exact⟨va,vb⟩
     ·exact dW
  ·replace h6:k=s.aH.length:=by simp at h6;omega
   subst h6
   rw[List.take_length]at ho2
   have:ok=true:=aY.2 ⟨h1,af,af,af,ho,ho2⟩
   exact Ah
end Go.Proofs.YtlhemmpklhhgoaaGreat
namespace Go.Proofs.YtlhemmpklhhgoaaGreat
theorem Vb:∀ (f:Nat) (t:Tm),t.mK<=f->ve (f+1) [] t=some t
 |0,t,h=>by rw[Tm.qw]at h;omega
 |f+1,t,h=>by
  have ha:lI (f+1) [] t=some t:=by
   simp only[lI,bS]
   split<;>rfl
  rw[ve,ha]
  show(D2 (ve (f+1) []) t.kids).map (fun ks=>Tm.mk t.op t.n ks)=_
  rw[show D2 (ve (f+1) []) t.kids=some (t.kids.map id)from vf fun k hk=>Vb f k (by have:=Tm.rB hk;omega),List.map_id]
  show some (Tm.mk t.op t.n t.kids)=some t
  rw[Tm.eta]
theorem xn(t:Tm)(hz:t.sz<=1000000):aX Tryz.prog 107 [t.d] (.ret [t.d]):=by
 refine aX.aG mix Ug aE ?_
 rw[Xx]
 refine bY ?_
 refine bc (w9 (b:=[]) (fun _ h=>by cases h) (t.mK+1) t t (Tm.dD t hz) (Vb _ t (Nat.le_refl _)) hz) ?_
 exact pX
theorem Eh(l:List ei)(hl:l.length<=1000000):aX Tryz.prog 105 [.sl (l.map ei.d)] (.ret [.sl (l.map ei.d)]):=by
 refine aX.aG mix Ue aE ?_
 rw[Xv]
 have hu:Tryz.prog.underlying 22=some (.slice 124):=ai
 cases l with
 |nil=>
  have heq:∀O,pn Tryz.prog O 22 true (.d (.sl [])) .aw=some .fF:=by
   intro O
   unfold pn
   rw[hu]
   rfl
  simp only[List.map_cons,List.map_nil]
  refine oF heq ?_
  simp only[List.isEmpty_nil,if_true]
  exact Ad heq
 |cons a l=>
  have heq:∀O,pn Tryz.prog O 22 true (.d (.sl (a.d::l.map ei.d))) .aw=some (.d (.bool false)):=by
   intro O
   unfold pn
   rw[hu]
   rfl
  have KI:(a.d::l.map ei.d).all (fun z=>z.cells.length==2)=true:=by
   rw[List.all_eq_true]
   intro z hz
   obtain⟨r,_,rfl⟩:=List.mem_map.1 (show z∈(a::l).map ei.d from hz)
   rfl
  simp only[List.map_cons,List.map_nil]
  refine oF heq ?_
  simp only[List.isEmpty_nil,if_true]
  refine IW heq KI ?_
  rw[List.length_cons]at hl
  rw[if_pos (by omega)]
  exact pX
theorem Gq(l:List (Int×Int))(hl:l.length<=1000000)(o:Nat->ab)(fr:Nat):zd Tryz.prog 106 [.d (.sl (l.map tx))] [] o fr (.osl fr 0) [(fr, .arr 0 77 2 (l.map tx))]:=by
 refine zd.FI (ds:=[.sl (l.map tx)]) ?_
 refine bQ.aG mix Uf aE ?_
 rw[Xw]
 have hu:Tryz.prog.underlying 27=some (.slice 77):=ai
 cases l with
 |nil=>
  have heq:∀O,pn Tryz.prog O 27 true (.d (.sl [])) .aw=some .fF:=by
   intro O
   unfold pn
   rw[hu]
   rfl
  exact abz
 |cons a l=>
  have heq:∀O,pn Tryz.prog O 27 true (.d (.sl (tx a::l.map tx))) .aw=some (.d (.bool false)):=by
   intro O
   unfold pn
   rw[hu]
   rfl
  have KI:(tx a::l.map tx).all (fun z=>z.cells.length==2)=true:=by
   rw[List.all_eq_true]
   intro z hz
   obtain⟨r,_,rfl⟩:=List.mem_map.1 (show z∈(a::l).map tx from hz)
   rfl
  exact abi
end Go.Proofs.YtlhemmpklhhgoaaGreat
