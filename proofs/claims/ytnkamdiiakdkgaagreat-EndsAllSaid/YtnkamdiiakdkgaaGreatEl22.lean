/-
  A PART OF THE PROOF. Conditions: none.
-/
import Derived.Test.YtnkamdiiakdkgaaGreatEl21
set_option linter.unusedSimpArgs false
set_option linter.unusedVariables false
section
open Go
set_option maxHeartbeats 4000000
namespace Go.Proofs.YtnkamdiiakdkgaaGreat
def Od:IC:=MR.snd.snd.snd
def EE(o:Nat->ab)(pc pm nx:Nat)(s:GS):Nat->ab:=
 ax (ax (ax o pc (.row [.osl nx 0, .mp pm])) pm (.map 162 37 (nX s))) nx (.arr 0 162 18 ((gs s).map kG))
theorem Gg(o:Nat->ab){pc pm nx:Nat}(s:GS)(lc:pc<nx)(cm:pc≠pm):EE o pc pm nx s pc= .row [.osl nx 0, .mp pm]:=by
 unfold EE;rw[ae _ _ _ _ (by omega),ae _ _ _ _ cm,af]
theorem Gh(o:Nat->ab){pc pm nx:Nat}(s:GS)(lm:pm<nx):EE o pc pm nx s pm= .map 162 37 (nX s):=by
 unfold EE;rw[ae _ _ _ _ (by omega),af]
theorem f2H_0(o:Nat->ab)(pc pm nx:Nat)(s:GS):EE o pc pm nx s nx= .arr 0 162 18 ((gs s).map kG):=by unfold EE;rw[af]
theorem lY(o:Nat->ab){pc pm nx:Nat}(s:GS){id:Nat}(h:id<nx\/nx+1<=id)(h1:id≠pc)(h2:id≠pm):EE o pc pm nx s id=o id:=by
 unfold EE;rw[ae _ _ _ _ (by omega),ae _ _ _ _ h2,ae _ _ _ _ h1]
theorem xd{o:Nat->ab}{pc pm nx:Nat}(oX:Good o nx)(lc:pc<nx)(lm:pm<nx)(s:GS):Good (EE o pc pm nx s) (nx+1):=by
 unfold EE
 refine Good.ax (Good.ax (Good.ax (oX.mono ag) ag ?_) ag rfl) ag rfl
 exact KY
theorem sZ{o:Nat->ab}{nx pc pm:Nat}(oX:Good o nx)(gY:∀id,nx<=id->o id= .no)(lc:pc<nx)(lm:pm<nx)(cm:pc≠pm)(b:Nat)(hb:b<=nx){e:Nat->V}{so:Nat->ab}{m:Nat}(L:List V)(s:GS){id ep:Nat}
 (sc:so pc= .row [.osl id ep, .mp pm]) (aq:o id= .no/\id≠pc/\id≠pm) (sa:so id= .arr ep 162 18 ((gs s).map kG)) (sm:so pm= .map 162 37 (nX s)) (sr:∀id,id<nx->id≠pc->id≠pm->so id=o id\/o id= .no)
 (he:kx nx [⟨.osl id ep,162,18,(gs s).map kG⟩] so (fun j=>j=id\/nx<=j) e L 0):bt b ⟨e,so,m⟩ ⟨aU L,EE o pc pm nx s,nx+1⟩:=by
 refine bt.xK (fun j=>j=id\/nx<=j) (.osl id ep) nx L hb (fun j hj=> ?_) (f2H_0 o pc pm nx s) (.inr ⟨id,ep, .inl rfl,rfl,sa⟩) (fun j hj=> ?_) (fun j h1 h2=> ?_) he
 ·by_cases e1:j=pc
  ·subst e1
   rw[Gg o s lc cm]
   exact qX sc (AZ 0 rfl rfl rfl (MV (fun r hr=>by simp[V.refs]at hr;omega) qW))
  ·by_cases e2:j=pm
   ·subst e2
    rw[Gh o s lm]
    exact cV sm (fun r hr=>by simp[ab.refs]at hr)
   ·rw[lY o s (.inl hj) e1 e2]
    rcases sr j hj e1 e2 with h|h
    ·exact cV h (fun r hr=>oX.refs j r hr)
    ·rw[h];exact Qf
 ·rw[lY o s (.inr hj) (by omega) (by omega)]
  exact gY j ag
 ·rcases h1 with h|h
  ·subst h;rw[lY o s (.inl h2) aq.2.1 aq.2.2];exact aq.1
  ·omega
theorem kC_0(g:cB):((kC g).map V.d)[0]? =some (.d (.i g.f)):=rfl
theorem kC_1(g:cB):((kC g).map V.d)[1]? =some (.d (.i g.t)):=rfl
theorem kC_2(g:cB)(h:g.m.length=16):List.take 16 (List.drop 2 ((kC g).map V.d))=(g.m.map D.i).map V.d:=by
 unfold kC
 simp only[List.map_cons,List.drop_succ_cons,List.drop_zero]
 exact gR g.m h
theorem Ks{o:Nat->ab}{nx pc pm:Nat}(oX:Good o nx)(gY:∀id,nx<=id->o id= .no)(lc:pc<nx)(lm:pm<nx)(cm:pc≠pm)(fs:GS)(xS:fs.length<=60)(hlen:∀x∈fs,x.1.m.length=16)(KG:(gs fs).Nodup)(xy:∀y∈fs,y.2.length<=1)
 (Yt:∀a b:List Int,a.length<=1000->b.length<=1000->aV Tryz.prog 157 [.sl [.sl (a.map D.i), .sl (b.map D.i)]] (.ret [.sl ((a++b).map D.i)]))
 {K X:V->(Nat->ab)->Nat->Prop}
 (hK:∀s e' o' nx',wT fs 501=some s->nx<=nx'->Kr o' nx' pc nx pm e' s->(∀id,id<nx->id≠pc->id≠pm->o' id=o id)->K (.bW []) o' nx')
 (hX:∀o' nx',wT fs 501=none->nx<=nx'->Good o' nx'->(∀id,id<nx->id≠pc->id≠pm->o' id=o id)->X (.d (.iface 154 (.agg []))) o' nx')
 {e:Nat->V} {M:Nat} (e0:e 0= .ptr pc 0) (e6:e 6= .osl nx 0) (e7:e 7= .osl (nx+1) 0) (hM:nx+3<=M):
 kN Tryz.prog 125 nx false Od (qN Tryz.prog [] K X) ⟨e,Er o pc pm nx fs,M⟩:=by
 have o1:=Gd o fs lc cm
 have o2:=Ge o (pc:=pc) fs lm
 have o3:=flH_0 o pc pm nx fs
 have o4:=flH_1 o pc pm nx fs
 have o5:=flH_2 o pc pm nx fs
 simp only[Od,MR,IC.snd]
 refine xk e0 e6 e7 ?_
 refine az (fun i:Nat×GS=>⟨aU [.ptr pc 0, .aa, .aa, .aa, .aa, .aa, .d (.sl ((gs fs).map kG)), .d (.sl (BH fs)), .aa, .aa, .aa, .aa, .aa, .aa, .aa, .d (.i i.1)],EE o pc pm nx i.2,nx+1⟩)
  (fun i=>wT fs i.1=some i.2/\i.1<=i.2.length/\i.2.length<=500/\(∀x∈i.2,x.1.m.length=16)/\(gs i.2).Nodup/\∀y∈i.2,y.2.length<=i.1+1) (fun i=>501 - i.1) (0,fs) ⟨rfl,Nat.zero_le _,Nat.le_trans xS bI,hlen,KG,fun y hy=>xy y hy⟩
  (sZ oX gY lc lm cm nx (Nat.le_refl _) _ fs (id:=nx+2) (ep:=0) o1 ⟨gY _ ag,ag,ag⟩ o5 o2 (fun id i1 i2 i3=> .inl (xb o fs (.inl i1) i2 i3)) ?_) (fun i hi=> ?_)
 ·have ik:∀ (j:Nat),j<nx+2->∀g∈[(⟨.osl (nx+2) 0,162,18,(gs fs).map kG⟩:Gr)],∀ep,g.x≠ .osl j ep:=fun j hj g hg ep h=>by
   rw[List.mem_singleton.1 hg]at h;injection h with h;omega
  refine mZ (by(repeat(first|rfl|rw[af]|rw[ae _ _ _ _ (by omega)]));exact e0) (fun r hr=>by simp[V.refs]at hr;omega) (dk (dk (dk (dk (dk (rN ?_ ?_ (rN ?_ ?_ ?_)))))))
  ·rw[show ∀ (f:Nat->V) v,ax f 15 v 6=f 6 from fun f v=>ae _ _ _ _ (by omega),e6];simp[dB,o3]
  ·intro j hj
   rw[show ∀ (f:Nat->V) v,ax f 15 v 6=f 6 from fun f v=>ae _ _ _ _ (by omega),e6]at hj
   simp[V.ids]at hj
   subst hj
   exact⟨.inr (Nat.le_refl _),ik _ ag⟩
  ·rw[show ∀ (f:Nat->V) v,ax f 15 v 7=f 7 from fun f v=>ae _ _ _ _ (by omega),e7];simp[dB,o4]
  ·intro j hj
   rw[show ∀ (f:Nat->V) v,ax f 15 v 7=f 7 from fun f v=>ae _ _ _ _ (by omega),e7]at hj
   simp[V.ids]at hj
   subst hj
   exact⟨.inr ag,ik _ ag⟩
  ·exact tU
 obtain⟨i,s⟩:=i
 obtain⟨EA,Vi,hi3,ZX,hi5,hi6⟩:=hi
 dsimp only at EA Vi hi3 ZX hi5 hi6|-
 have q1:=Gg o s lc cm
 have q2:=Gh o (pc:=pc) s lm
 have q3:=f2H_0 o pc pm nx s
 refine OJ q1 q2 q3 ?_
 refine aj (fun h2=> ?_) (fun h2=> ?_)
 ·replace h2:i<s.length:=by simp[gV]at h2;omega
  obtain⟨⟨g,cg⟩,hx⟩:=aF h2
  have Yu:(gs s)[i]? =some g:=by unfold gs;rw[List.getElem?_map,hx];rfl
  have kT:=ZX _ (List.mem_of_getElem? hx)
  dsimp only at kT
  have kt:=lW g kT
  have kl:=nZ g kT
  have tM:=pU g kT
  have mJ:i<(gs s).length:=by rw[gV];exact h2
  have kc:(kG g).cells=kC g:=rfl
  have ad:pf ((kC g).map V.d)=some (kC g):=bF _
  simp+contextual (disch:=first|omega|simp only[go_sem,false_implies]) only[go_sem,wrap64,if_pos,q1,q2,q3,List.length_map,if_pos mJ,Yu,kc,kt,kl,ad,bw,tM,Nat.add_assoc,Nat.left_eq_add,Nat.add_eq_left,Nat.add_left_cancel_iff]
  obtain⟨o2,OB⟩:∃o2,o2=ax o (nx+15) (.row ((kC g).map V.d)):=⟨_,rfl⟩
  have Ku:Good o2 (nx+16):=by rw[OB];exact(oX.mono ag).ax ag EO
  have Gi:∀id,nx+16<=id->o2 id= .no:=fun id aq=>by rw[OB,ae _ _ _ _ (by omega)];exact gY id ag
  have aeB:o2 (nx+15)= .row ((kC g).map V.d):=by rw[OB,af]
  refine az (fun k:Nat×GS=>⟨aU [.ptr pc 0, .aa, .aa, .aa, .aa, .aa, .d (.sl ((gs fs).map kG)), .d (.sl (BH fs)), .aa, .aa, .aa, .aa, .aa, .aa, .aa, .d (.i i), .ptr (nx+15) 0, .aa, .aa, .aa, .aa, .aa, .aa, .aa, .aa, .aa, .aa, .aa, .aa, .aa, .aa, .aa, .aa, .aa, .aa, .aa, .aa, .aa, .aa, .aa, .aa, .aa, .aa, .aa, .aa, .aa, .aa, .aa, .aa, .aa, .aa, .aa, .aa, .aa, .aa, .aa, .aa, .aa, .aa, .aa, .aa, .aa, .aa, .aa, .aa, .aa, .aa, .aa, .aa, .aa, .aa, .aa, .aa, .aa, .aa, .aa, .aa, .aa, .aa, .aa, .aa, .aa, .aa, .aa, .aa, .aa, .aa, .aa, .d (.sl ((gs fs).map kG)), .d (.i fs.length), .d (.i k.1)],EE o2 pc pm (nx+16) k.2,nx+17⟩)
   (fun k=>k.1<=fs.length/\Ii (fs.take k.1) g cg s=some k.2/\i<k.2.length/\k.2.length<=500/\(∀x∈k.2,x.1.m.length=16)/\(gs k.2).Nodup/\k.2[i]? =some (g,cg)/\∀y∈k.2,y.2.length<=i+2) (fun k=>fs.length - k.1) (0,s) ⟨Nat.zero_le _,rfl,h2,hi3,ZX,hi5,hx,fun y hy=>Nat.le_trans (hi6 y hy) (Nat.le_succ _)⟩
   (sZ Ku Gi ag ag cm nx ag _ s (id:=nx) (ep:=0) ?_ ⟨?_,ag,ag⟩ ?_ ?_ (fun id i1 i2 i3=> ?_) ?_) (fun k hk=> ?_)
  ·(repeat(first|rfl|rw[af]|rw[ae _ _ _ _ (by omega)]));exact q1
  ·rw[OB,ae _ _ _ _ (by omega)];exact gY nx (Nat.le_refl _)
  ·(repeat(first|rfl|rw[af]|rw[ae _ _ _ _ (by omega)]));exact q3
  ·(repeat(first|rfl|rw[af]|rw[ae _ _ _ _ (by omega)]));exact q2
  ·by_cases e1:id=nx+15
   ·subst e1;left;rw[aeB];(repeat(first|rfl|rw[af]|rw[ae _ _ _ _ (by omega)]))
   ·by_cases e2:id=nx
    ·subst e2;right;rw[OB,ae _ _ _ _ (by omega)];exact gY _ (Nat.le_refl _)
    ·left;rw[OB,ae _ _ _ _ e1];(repeat(first|rfl|rw[af]|rw[ae _ _ _ _ (by omega)]))
     exact lY o s ag i2 i3
  ·refine mZ fq (fun r hr=>by simp[V.refs]at hr;omega) ?_
   (repeat(first|exact p6|refine dk ?_|refine jG rfl ?_|refine jG (BI (BJ ag)) ?_|refine mY 0 rfl rfl rfl ?_|refine mZ rfl zy4 ?_|refine rN rfl Ux ?_))
   refine jG (by(repeat(first|rfl|rw[af]|rw[ae _ _ _ _ (by omega)]));rw[gV]) ?_
   exact tU
  obtain⟨k,s2⟩:=k
  obtain⟨k1,k2,k3,k4,k5,k6,k7,k8⟩:=hk
  dsimp only at k1 k2 k3 k4 k5 k6 k7 k8|-
  have hcg:cg.length<=i+1:=hi6 _ (List.mem_of_getElem? hx)
  have r1:=Gg o2 s2 (pc:=pc) (nx:=nx+16) ag cm
  have r2:=Gh o2 (pc:=pc) (nx:=nx+16) s2 (by omega:pm<nx+16)
  have r3:=f2H_0 o2 pc pm (nx+16) s2
  have r4:EE o2 pc pm (nx+16) s2 (nx+15)= .row ((kC g).map V.d):=by rw[lY o2 s2 (.inl (by omega)) (by omega) (by omega)];exact aeB
  have m8:(gs fs).length=fs.length:=gV fs
  simp+contextual (disch:=first|omega|simp only[go_sem,false_implies]) only[go_sem,wrap64,if_pos,r1,r2,r3,r4,List.length_map]
  refine aj (fun h3=> ?_) (fun h3=> ?_)
  ·replace h3:k<fs.length:=by simp at h3;omega
   obtain⟨⟨x,cx⟩,hfx⟩:=aF h3
   have agr:(gs fs)[k]? =some x:=by unfold gs;rw[List.getElem?_map,hfx];rfl
   have gf:=hlen _ (List.mem_of_getElem? hfx)
   dsimp only at gf
   have hcx:cx.length<=1:=xy _ (List.mem_of_getElem? hfx)
   have iY:=N7 (g:=g) (cg:=cg) (s:=s) hfx
   rw[k2]at iY
   unfold xT at iY
   rw[Option.bind_some]at iY
   dsimp only at iY
   have xc:(kG x).cells=kC x:=rfl
   have xt:=lW x gf
   have xl:=nZ x gf
   have xkl:=pU x gf
   have xad:pf ((kC x).map V.d)=some (kC x):=bF _
   have v1:∀y,ax (EE o2 pc pm (nx+16) s2) (nx+25) y (nx+15)= .row ((kC g).map V.d):=fun y=>by rw[ae _ _ _ _ (by omega)];exact r4
   simp+contextual (disch:=first|omega|simp only[go_sem,false_implies]) only[go_sem,wrap64,if_pos,r1,r2,r3,r4,List.length_map,agr,xc,xt,xl,xkl,xad,bw,m8,kC_0,kC_1,Nat.add_assoc,Nat.left_eq_add,Nat.add_eq_left,Nat.add_left_cancel_iff]
   have w1:∀ (f:Nat->ab) y,ax f (nx+21) y pc=f pc:=fun f y=>ae _ _ _ _ ag
   have w2:∀ (f:Nat->ab) y,ax f (nx+21) y pm=f pm:=fun f y=>ae _ _ _ _ ag
   refine aj (fun h4=> ?_) (fun h4=> ?_)
   ·replace h4:g.t=x.f:=by simpa using h4
    rw[if_pos h4]at iY
    have Yv:=kC_2 g kT
    have xt2:=kC_2 x gf
    simp+contextual (disch:=first|omega|simp only[go_sem,false_implies]) only[go_sem,wrap64,if_pos,r1,r2,r3,r4,w1,w2,List.length_map,xt,xl,xkl,xad,bw,kC_0,kC_1,Yv,xt2,bF,bX _ kT,bX _ gf,Nat.add_assoc,Nat.left_eq_add,Nat.add_eq_left,Nat.add_left_cancel_iff]
    refine ba (A0 g.m x.m kT gf) rfl ?_
    have hf:=nY kT s2 i k5 k6 k7 0
    rw[show kG g= .agg (kC g)from rfl]at hf
    have ck:=Bv g kT
    rw[show kG g= .agg (kC g)from rfl]at ck
    have Gj:(c7 g.m x.m).length=16:=by simp[c7]
    have ags:pf (V.d (D.i g.f)::V.d (D.i x.t)::List.map V.d (List.map D.i (c7 g.m x.m)))=some (kC (jk g x)):=bF (kC (jk g x))
    have agS:((c7 g.m x.m).length=16/\2+(c7 g.m x.m).length<=18):=by rw[Gj];decide
    have hby:(BH fs)[k]? =some (.sl (cx.map D.i)):=by unfold BH;rw[List.getElem?_map,hfx];rfl
    simp+contextual (disch:=first|omega|simp only[go_sem,false_implies]) only[go_sem,wrap64,if_pos,r1,r2,r3,r4,w1,w2,List.length_map,xt,xl,xkl,xad,kt,kl,tM,ad,bw,kC_0,kC_1,Yv,xt2,bF,bX _ kT,bX _ gf,hf,ck,hby,Gj,ags,Nat.add_assoc,Nat.left_eq_add,Nat.add_eq_left,Nat.add_left_cancel_iff]
    refine dZ (Yt cg cx ?_ ?_) ?_
    ·omega
    ·exact Nat.le_trans hcx bI
    simp+contextual (disch:=first|omega|simp only[go_sem,false_implies]) only[go_sem,wrap64,if_pos,r1,r2,r3,r4,w1,w2,Nat.add_assoc,Nat.left_eq_add,Nat.add_eq_left,Nat.add_left_cancel_iff]
    rw[show(D.agg (D.i g.f::D.i x.t::List.map D.i (c7 g.m x.m)))=kG (jk g x)from rfl]
    have Rc:(jk g x).m.length=16:=Gj
    have hO:∀ (y1 y2 y3 y4:ab),(∀n,(y1.refs.all fun r=>decide (r<n))=true)->(∀n,(y2.refs.all fun r=>decide (r<n))=true)->(∀n,(y3.refs.all fun r=>decide (r<n))=true)->(∀n,(y4.refs.all fun r=>decide (r<n))=true)->
     Kr (ax (ax (ax (ax (EE o2 pc pm (nx+16) s2) (nx+21) y1) (nx+21) y2) (nx+50) y3) (nx+50) y4) (nx+52) pc (nx+16) pm 0 s2:=fun y1 y2 y3 y4 z1 z2 z3 z4=>by
     refine⟨((((xd Ku ag ag s2).mono ag).ax ag (z1 _)).ax ag (z2 _)).ax ag (z3 _) |>.ax ag (z4 _),ag,ag,ag,ag,cm,ag, ?_, ?_, ?_,k5,k4,k6⟩
     ·rw[ae _ _ _ _ (by omega),ae _ _ _ _ (by omega),ae _ _ _ _ (by omega),ae _ _ _ _ (by omega)];exact r1
     ·rw[ae _ _ _ _ (by omega),ae _ _ _ _ (by omega),ae _ _ _ _ (by omega),ae _ _ _ _ (by omega)];exact r3
     ·rw[ae _ _ _ _ (by omega),ae _ _ _ _ (by omega),ae _ _ _ _ (by omega),ae _ _ _ _ (by omega)];exact r2
    by_cases jb:jk g x∈gs s2
    ·refine nH gE (Q9 (hO _ _ _ _ (fun n=>by rfl) (fun n=>by simp[ab.refs,jq]) (fun n=>rfl) (fun n=>rfl)) (jk g x) Rc (cg++cx) jb) ?_
     refine iD ?_
     refine aH (bO (ids:=[pc,pm]) (nx:=nx) gE gE [([],[]),([17],[]),([17],[]),([23],[]),([23],[]),([17],[]),([17],[]),([23],[]),([23],[]),([],[]),([],[]),([],[]),([0],[]),([0],[]),([0],[]),([17],[]),([1],[]),([],[]),([],[]),([],[]),([],[]),([],[52]),([52],[52]),([0,18,1],[])] bI) ?_
     refine iD ?_
     have Kv:pZ s2 (jk g x) (cg++cx)=some s2:=by unfold pZ;rw[if_pos jb]
     refine ak (k+1,s2) ⟨h3,iY.trans Kv,k3,k4,k5,k6,k7,k8⟩ K9 ?_
     refine sZ Ku Gi ag ag cm nx ag _ s2 (id:=nx+16) (ep:=0) Rr ⟨Gi _ ag,ag,ag⟩ Rs Rt (fun id i1 i2 i3=> .inl ?_) ?_
     ·(repeat(first|rfl|rw[af]|rw[ae _ _ _ _ (by omega)]))
      exact Ll
     ·exact U7
    ·by_cases h5:s2.length=500
     ·have Kv:pZ s2 (jk g x) (cg++cx)=none:=by unfold pZ;rw[if_neg jb,if_pos h5]
      refine FM gE (Rb (hO _ _ _ _ (fun n=>by rfl) (fun n=>by simp[ab.refs,jq]) (fun n=>rfl) (fun n=>rfl)) (jk g x) Rc (cg++cx) Kv) ?_
      refine MT ⟨bO (ids:=[pc,pm]) (nx:=nx) gE gE [([],[]),([17],[]),([17],[]),([23],[]),([23],[]),([17],[]),([17],[]),([23],[]),([23],[]),([],[]),([],[]),([],[]),([0],[]),([0],[]),([0],[]),([17],[]),([1],[]),([],[]),([],[]),([],[]),([],[]),([],[52]),([52],[52]),([0,18,1],[])] bI, ?_⟩
      simp only[uh,Mm,FA,Jt,Jr]
      have hI:Ii fs g cg s=none:=by
       have e1:Ii fs g cg s=(fs.drop (k+1)).foldl (xT g cg) (Ii (fs.take (k+1)) g cg s):=by
        unfold Ii;rw[<- List.foldl_append,List.take_append_drop]
       rw[e1,iY.trans Kv];exact wU g cg _
      have hO1:wT fs (i+1)=none:=by
       rw[sW,EA]
       show(match s[i]? with|some x=>Ii fs x.1 x.2 s|none=>some s)=none
       rw[hx];exact hI
      have HG:=(((xd Ku (pc:=pc) (pm:=pm) ag ag s2).mono (show nx+16+1<=nx+29 from ag)).ax (i:=nx+21) (x:= .row ((kC x).map V.d)) ag EO)
      refine hX _ _ (Q0 hO1 ag) (Nat.le_trans (Nat.le_add_right nx 29) (Nat.le_add_right _ _)) ⟨fun id aq=> ?_,fun id r hr=> ?_⟩ (fun id i1 i2 i3=> ?_)
      ·have rP:nx+29<=id:=Nat.le_trans (Nat.le_add_right _ _) aq
       split
       ·rfl
       ·rw[df];exact HG.fresh id rP
      ·split at hr
       ·cases hr
       ·rw[df]at hr
        exact Nat.lt_of_lt_of_le (HG.refs id r hr) (Nat.le_add_right _ _)
      ·rw[if_neg (by simp;omega),df,ae _ _ _ _ (by omega),lY o2 s2 (.inl (by omega)) i2 i3,OB,ae _ _ _ _ (by omega)]
     ·refine nH gE (Ra (hO _ _ _ _ (fun n=>by rfl) (fun n=>by simp[ab.refs,jq]) (fun n=>rfl) (fun n=>rfl)) (jk g x) Rc (cg++cx) jb h5) ?_
      simp+contextual (disch:=first|omega|simp only[go_sem,false_implies]) only[go_sem,wrap64,if_pos,Nat.add_assoc,Nat.left_eq_add,Nat.add_eq_left,Nat.add_left_cancel_iff,Ep]
      refine aH (bO (ids:=[pc,pm]) (nx:=nx) gE gE [([],[]),([17],[]),([17],[]),([23],[]),([23],[]),([17],[]),([17],[]),([23],[]),([23],[]),([],[]),([],[]),([],[]),([0],[]),([0],[]),([0],[]),([17],[]),([1],[]),([],[]),([],[]),([],[]),([],[]),([],[52]),([52],[52]),([0,18,1],[0,18,1])] bI) ?_
      refine iD ?_
      have Kv:pZ s2 (jk g x) (cg++cx)=some (s2++[(jk g x,cg++cx)]):=by unfold pZ;rw[if_neg jb,if_neg h5]
      have ZY:gs (s2++[(jk g x,cg++cx)])=gs s2++[jk g x]:=by simp[gs]
      refine ak (k+1,s2++[(jk g x,cg++cx)]) ⟨h3,iY.trans Kv, ?_, ?_, ?_, ?_, ?_, ?_⟩ K9 ?_
      ·rw[List.length_append];omega
      ·exact K4
      ·intro y hy
       rcases List.mem_append.1 hy with h|h
       ·exact k5 y h
       ·rw[List.mem_singleton.1 h];exact Rc
      ·rw[ZY,List.nodup_append]
       refine⟨k6,aI,fun a ha b hb e=> ?_⟩
       rw[List.mem_singleton]at hb
       exact jb (hb ▸ e ▸ ha)
      ·dsimp only
       rw[List.getElem?_append_left k3];exact k7
      ·intro y hy
       rcases List.mem_append.1 hy with h|h
       ·exact k8 y h
       ·rw[List.mem_singleton.1 h]
        dsimp only
        rw[List.length_append];omega
      ·refine sZ Ku Gi ag ag cm nx ag _ _ (id:=nx+16) (ep:=1) fq ⟨Gi _ ag,ag,ag⟩ fq fq (fun id i1 i2 i3=> .inl ?_) ?_
       ·(repeat(first|rfl|rw[af]|rw[ae _ _ _ _ (by omega)]))
        exact Ll
       ·exact U7
   ·have KF: ¬g.t=x.f:=by simpa using h4
    rw[if_neg KF]at iY
    refine iD ?_
    refine ak (k+1,s2) ⟨h3,iY,k3,k4,k5,k6,k7,k8⟩ K9 ?_
    refine sZ Ku Gi ag ag cm nx ag _ s2 (id:=nx+16) (ep:=0) Rr ⟨Gi _ ag,ag,ag⟩ Rs Rt (fun id i1 i2 i3=> .inl ?_) ?_
    ·(repeat(first|rfl|rw[af]|rw[ae _ _ _ _ (by omega)]))
     exact Ll
    ·exact U7
  ·replace h3:k=fs.length:=by simp at h3;omega
   subst h3
   rw[List.take_length]at k2
   simp+contextual (disch:=first|omega|simp only[go_sem,false_implies]) only[go_sem,wrap64,if_pos,r1,r2,r3,r4,List.length_map]
   refine ak (i+1,s2) ⟨by rw[sW,EA];show(match s[i]? with|some x=>Ii fs x.1 x.2 s|none=>some s)=_;rw[hx];exact k2,k3,k4,k5,k6,k8⟩ (by show 501 - (i+1)<501 - i;omega) ?_
   refine sZ oX gY lc lm cm nx (Nat.le_refl _) _ s2 (id:=nx+16) (ep:=0) r1 ⟨gY _ ag,ag,ag⟩ r3 r2 (fun id i1 i2 i3=> .inl ?_) ?_
   ·rw[lY o2 s2 (.inl (by omega)) i2 i3,OB,ae _ _ _ _ (by omega)]
   ·exact tU
 ·replace h2:i=s.length:=by simp[gV]at h2;omega
  refine OJ q1 q2 q3 ?_
  refine hK s 0 _ _ (Kk EA ag ag) ag ⟨(xd oX lc lm s).mono ag,ag,ag,ag,ag,cm,ag,q1,q3,q2,ZX,hi3,hi5⟩ (fun id i1 i2 i3=>lY o s (.inl i1) i2 i3)
end Go.Proofs.YtnkamdiiakdkgaaGreat
end
section
open Go
set_option maxHeartbeats 4000000
namespace Go.Proofs.YtnkamdiiakdkgaaGreat
theorem Oe{o:Nat->ab}{nx pc pm:Nat}(oX:Good o nx)(gY:∀id,nx<=id->o id= .no)(lc:pc<nx)(lm:pm<nx)(cm:pc≠pm)(oc:o pc= .row [.aZ, .mp pm])(om:o pm= .map 162 37 [])
 (l:List Cl) (hl:l.length<=60) (mT:∀c∈l,pO c) (ns:List Int) (hns:∀n∈ns,0<=n/\∃c,l[n.toNat]? =some c) (tp:ns.length<=60)
 (Yt:∀a b:List Int,a.length<=1000->b.length<=1000->aV Tryz.prog 157 [.sl [.sl (a.map D.i), .sl (b.map D.i)]] (.ret [.sl ((a++b).map D.i)]))
 {K X:V->(Nat->ab)->Nat->Prop}
 (hK:∀s e' o' nx',wT (fk l ns) 501=some s->nx<=nx'->Kr o' nx' pc nx pm e' s->(∀id,id<nx->id≠pc->id≠pm->o' id=o id)->K (.bW []) o' nx')
 (hX:∀o' nx',wT (fk l ns) 501=none->nx<=nx'->Good o' nx'->(∀id,id<nx->id≠pc->id≠pm->o' id=o id)->X (.d (.iface 154 (.agg []))) o' nx'):
 cH Tryz.prog 120 [.ptr pc 0, .d (.sl (l.map Cl.d)), .d (.sl (ns.map D.i))] o nx K X:=by
 refine cH.aJ mix Ti aI ?_
 rw[MR]
 show kN _ _ _ _ (.seq _ (.seq _ (.seq _ Od))) _ _
 refine rM ?_
 refine az (fun k:Nat=>⟨aU [.ptr pc 0, .d (.sl (l.map Cl.d)), .d (.sl (ns.map D.i)), .aa, .aa, .aa, .osl nx 0, .osl (nx+1) 0, .aa, .aa, .aa, .aa, .aa, .aa, .aa, .aa, .aa, .aa, .aa, .d (.sl (ns.map D.i)), .d (.i ns.length), .d (.i k)],Er o pc pm nx (fk l (ns.take k)),nx+3⟩)
  (fun k=>k<=ns.length) (fun k=>ns.length - k) 0 (Nat.zero_le _) (Gf oX gY lc lm cm (gone:=fun _=>False) (fun _ h=>h.elim) _ [] oc om (fun _ _ _ _=>rfl) (.inl ⟨rfl,rfl,bI⟩) (.inl ⟨rfl,rfl,bI⟩) (.inl ⟨rfl,rfl,bI⟩) (fun _ _ _ h=>V.noConfusion h) (fun _ _ _ h=>V.noConfusion h) (fun _ _ _ h=>V.noConfusion h) ?_) (fun k hk=> ?_)
 ·(repeat(first|exact p6|refine dk ?_|refine jG rfl ?_|refine jG (BI (BJ ag)) ?_|refine mY 0 rfl rfl rfl ?_|refine mZ rfl zy4 ?_|refine rN rfl Ux ?_))
  refine mY 1 rfl rfl rfl ?_
  exact tU
 ·replace hk:k<=ns.length:=hk
  refine a8 ?_
  refine aj (fun h2=> ?_) (fun h2=> ?_)
  ·replace h2:k<ns.length:=by simp at h2;omega
   obtain⟨n,hn⟩:=aF h2
   obtain⟨n0,c,hc⟩:=hns n (List.mem_of_getElem? hn)
   have hmc:=mT c (List.mem_of_getElem? hc)
   have iY:=Kl (l:=l) hn
   unfold xU at iY
   rw[hc]at iY
   dsimp only at iY
   have o1:=Gd o (fk l (ns.take k)) lc cm
   have o2:=Ge o (pc:=pc) (fk l (ns.take k)) lm
   have o3:=flH_0 o pc pm nx (fk l (ns.take k))
   have o4:=flH_1 o pc pm nx (fk l (ns.take k))
   have o5:=flH_2 o pc pm nx (fk l (ns.take k))
   have PO:(fk l (ns.take k)).length<=60:=by
    have h1:(fk l (ns.take k)).length<=([]:GS).length+(ns.take k).length:=uW l (ns.take k) []
    simp only[List.length_nil,List.length_take]at h1
    omega
   have hlen:∀x∈fk l (ns.take k),x.1.m.length=16:=by
    exact abl
   have KG:(gs (fk l (ns.take k))).Nodup:=by
    have:gs (fk l (ns.take k))=lV (Yk l (ns.take k)):=Bt l _ []
    rw[this];exact pR _
   generalize fk l (ns.take k)=s at iY o1 o2 o3 o4 o5 PO hlen KG|-
   obtain⟨c1,c2,c3,c4,c5,c6⟩:=c
   have hl6:c6.length<=1000000:=by
    have h1:=hmc.eq
    have h2:=AH (cM ⟨c1,c2,c3,c4,c5,c6⟩) 16
    simp only at h1
    rw[<- h1]at h2;omega
   simp+contextual (disch:=first|omega|simp only[go_sem,false_implies]) only[go_sem,wrap64,if_pos,hn,hc,Cl.C5,Option.map_some,List.length_map]
   refine a7 (HH c6 hl6) ?_
   have Ui:(pH c6).1.length=16:=hmc.GC.1
   simp+contextual (disch:=first|omega|simp only[go_sem,false_implies]) only[go_sem,wrap64,if_pos,hn,hc,Cl.C5,Option.map_some,List.length_map,gR _ Ui,bF,bw,bX _ Ui,o1,o2,o3,o4,o5,Nat.add_assoc,Nat.left_eq_add,Nat.add_eq_left,Nat.add_left_cancel_iff]
   obtain⟨g,hg⟩:∃g:cB,g=⟨c2,c3,(pH c6).1⟩:=⟨_,rfl⟩
   have kT:g.m.length=16:=by rw[hg];exact Ui
   have bG:(V.d (D.i c2)::V.d (D.i c3)::List.map V.d (List.map D.i (pH c6).1))=(kC g).map V.d:=by rw[hg];rfl
   have hgc:sV ⟨c1,c2,c3,c4,c5,c6⟩=g:=by rw[hg];rfl
   rw[bG]
   rw[hgc]at iY
   clear bG
   refine aH (bO (ids:=[]) (nx:=nx) aI aI [([],[]),([],[]),([],[]),([],[]),([],[]),([],[]),([],[]),([],[]),([],[]),([],[]),([16],[]),([],[]),([],[31]),([31],[31])] bI) ?_
   have u1:∀ (f:Nat->ab) x,ax f (nx+16) x pc=f pc:=fun f x=>ae _ _ _ _ ag
   have u2:∀ (f:Nat->ab) x,ax f (nx+31) x pc=f pc:=fun f x=>ae _ _ _ _ ag
   have u3:∀ (f:Nat->ab) x,ax f (nx+16) x pm=f pm:=fun f x=>ae _ _ _ _ ag
   have u4:∀ (f:Nat->ab) x,ax f (nx+31) x pm=f pm:=fun f x=>ae _ _ _ _ ag
   have kt:=lW g kT
   have kl:=nZ g kT
   have tM:=pU g kT
   have ad:pf ((kC g).map V.d)=some (kC g):=bF _
   have ck:=Bv g kT
   rw[show kG g= .agg (kC g)from rfl]at ck
   have yi:(BH s).length=s.length:=by simp[BH]
   have fu:(gs s).length<=140737488355327/\((gs s).length+1)*144<=140737488355328:=by rw[gV];omega
   have wh:(BH s).length<=140737488355327/\((BH s).length+1)*24<=140737488355328:=by rw[yi];omega
   have hs5: ¬s.length=500:=ag
   by_cases jb:g∈gs s
   ·obtain⟨⟨g',cg⟩,hp,EW⟩:=List.mem_map.1 jb
    dsimp only at EW
    rw[EW]at hp
    obtain⟨j,hj⟩:=List.mem_iff_getElem?.1 hp
    have hf:=nY kT s j hlen KG hj 0
    rw[show kG g= .agg (kC g)from rfl]at hf
    simp+contextual (disch:=first|omega|simp only[go_sem,false_implies]) only[go_sem,wrap64,if_pos,o1,o2,o3,o4,o5,u1,u2,u3,u4,kt,kl,ad,bw,tM,hf,ck,Nat.add_assoc,Nat.left_eq_add,Nat.add_eq_left,Nat.add_left_cancel_iff]
    refine aH (aR rfl) ?_
    simp+contextual (disch:=first|omega|simp only[go_sem,false_implies]) only[go_sem,wrap64,if_pos,o1,o2,o3,o4,o5,u1,u2,u3,u4,kt,kl,ad,bw,tM,hf,ck,if_pos fu,if_pos wh,List.length_map,Nat.add_assoc,Nat.left_eq_add,Nat.add_eq_left,Nat.add_left_cancel_iff]
    refine aS (Et (s:=s) (pa:=nx+2) (pm:=pm) (e:=0) ⟨?_,ag,ag,ag,ag,cm,ag, ?_, ?_, ?_,hlen,ag,KG⟩ g kT n ag ag ag ag fq ?_ ?_)
    ·refine Good.ax (Good.ax (Good.ax (Good.ax (Good.ax ((Es oX lc lm s).mono ag) ?_ ?_) ?_ ?_) ?_ ?_) ?_ ?_) ?_ ?_
     all_goals first|omega|exact mO _ _|simp[ab.refs,jq,V.aE,V.refs]
    ·exact Ru
    ·exact Rv
    ·exact Rw
    ·intro s' e' o' nx' h3 h4 h5 h6
     have jr:s'=s:=by
      unfold pZ at h3
      simp only[if_pos jb]at h3
      exact(Option.some.inj h3).symm
     subst jr
     rw[if_pos jb]at iY
     have p0:o' nx= .arr 0 162 18 ((gs s').map kG):=by
      rw[h6 nx (by omega) (by omega) (by omega) (by omega) (by omega)];(repeat(first|rfl|rw[af]|rw[ae _ _ _ _ (by omega)]));exact o3
     have p1:o' (nx+1)= .arr 0 37 1 (BH s'):=by
      rw[h6 (nx+1) (by omega) (by omega) (by omega) (by omega) (by omega)];(repeat(first|rfl|rw[af]|rw[ae _ _ _ _ (by omega)]));exact o4
     refine iD ?_
     refine ak (k+1) h2 ag ?_
     rw[iY]
     refine Gf oX gY lc lm cm (gone:=fun id=>nx<=id) (fun id h=>h) _ s' (x:= .osl nx 0) (y:= .osl (nx+1) 0) (z:= .osl (nx+2) e') h5.oc h5.om (fun id i1 i2 i3=> ?_) (.inr ⟨nx,0,Nat.le_refl _,rfl,p0⟩) (.inr ⟨nx+1,0,ag,rfl,p1⟩) (.inr ⟨nx+2,e',ag,rfl,h5.oa⟩)
      (fun id ep fF a b=>by cases a;injection b with b;omega) (fun id ep fF a b=>by cases a;injection b with b;omega) (fun id ep fF a b=>by cases a;injection b with b;omega) ?_
     ·rw[h6 id (by omega) i2 (by omega) i3 (by omega)]
      (repeat(first|rfl|rw[af]|rw[ae _ _ _ _ (by omega)]))
      exact xb o s' (.inl i1) i2 i3
     ·refine mZ rfl (fun r hr=>by simp[V.refs]at hr;omega) (jG rfl (jG rfl (dk (dk (dk (mY 0 rfl rfl rfl (mY 1 rfl rfl rfl ?_)))))))
      exact tU
    ·intro o' nx' h3
     unfold pZ at h3
     simp only[if_pos jb]at h3
     cases h3
   ·have hf:=Bu kT s hlen jb 0
    rw[show kG g= .agg (kC g)from rfl]at hf
    simp+contextual (disch:=first|omega|simp only[go_sem,false_implies]) only[go_sem,wrap64,if_pos,o1,o2,o3,o4,o5,u1,u2,u3,u4,kt,kl,ad,bw,tM,hf,ck,Nat.add_assoc,Nat.left_eq_add,Nat.add_eq_left,Nat.add_left_cancel_iff]
    refine aH (aR rfl) ?_
    simp+contextual (disch:=first|omega|simp only[go_sem,false_implies]) only[go_sem,wrap64,if_pos,o1,o2,o3,o4,o5,u1,u2,u3,u4,kt,kl,ad,bw,tM,hf,ck,if_pos fu,if_pos wh,List.length_map,Nat.add_assoc,Nat.left_eq_add,Nat.add_eq_left,Nat.add_left_cancel_iff]
    refine aS (Et (s:=s) (pa:=nx+2) (pm:=pm) (e:=0) ⟨?_,ag,ag,ag,ag,cm,ag, ?_, ?_, ?_,hlen,ag,KG⟩ g kT n ag ag ag ag fq ?_ ?_)
    ·refine Good.ax (Good.ax (Good.ax (Good.ax (Good.ax (Good.ax (Good.ax (Good.ax (Good.ax (Good.ax (Good.ax ((Es oX lc lm s).mono ag) ?_ ?_) ?_ ?_) ?_ ?_) ?_ ?_) ?_ ?_) ?_ ?_) ?_ ?_) ?_ ?_) ?_ ?_) ?_ ?_) ?_ ?_
     all_goals first|omega|exact mO _ _|simp[ab.refs,jq,V.aE,V.refs]
    ·exact Ru
    ·exact Rv
    ·exact Rw
    ·intro s' e' o' nx' h3 h4 h5 h6
     have jr:s'=s++[(g,[n])]:=by
      unfold pZ at h3
      simp only[if_neg jb,if_neg hs5]at h3
      exact(Option.some.inj h3).symm
     subst jr
     rw[if_neg jb]at iY
     have ZY:gs (s++[(g,[n])])=gs s++[g]:=by simp[gs]
     have hby:BH (s++[(g,[n])])=BH s++[.sl [.i n]]:=by simp[BH]
     have p0:o' nx= .arr 1 162 18 ((gs (s++[(g,[n])])).map kG):=by
      rw[h6 nx (by omega) (by omega) (by omega) (by omega) (by omega),ZY,List.map_append];(repeat(first|rfl|rw[af]|rw[ae _ _ _ _ (by omega)]))
     have p1:o' (nx+1)= .arr 1 37 1 (BH (s++[(g,[n])])):=by
      rw[h6 (nx+1) (by omega) (by omega) (by omega) (by omega) (by omega),hby];(repeat(first|rfl|rw[af]|rw[ae _ _ _ _ (by omega)]))
     refine iD ?_
     refine ak (k+1) h2 ag ?_
     rw[iY]
     refine Gf oX gY lc lm cm (gone:=fun id=>nx<=id) (fun id h=>h) _ (s++[(g,[n])]) (x:= .osl nx 1) (y:= .osl (nx+1) 1) (z:= .osl (nx+2) e') h5.oc h5.om (fun id i1 i2 i3=> ?_) (.inr ⟨nx,1,Nat.le_refl _,rfl,p0⟩) (.inr ⟨nx+1,1,ag,rfl,p1⟩) (.inr ⟨nx+2,e',ag,rfl,h5.oa⟩)
      (fun id ep fF a b=>by cases a;injection b with b;omega) (fun id ep fF a b=>by cases a;injection b with b;omega) (fun id ep fF a b=>by cases a;injection b with b;omega) ?_
     ·rw[h6 id (by omega) i2 (by omega) i3 (by omega)]
      (repeat(first|rfl|rw[af]|rw[ae _ _ _ _ (by omega)]))
      exact xb o s (.inl i1) i2 i3
     ·(repeat(first|exact p6|refine dk ?_|refine jG rfl ?_|refine jG (BI (BJ ag)) ?_|refine mY 0 rfl rfl rfl ?_|refine mZ rfl zy4 ?_|refine rN rfl Ux ?_))
      refine mY 1 rfl rfl rfl ?_
      exact tU
    ·intro o' nx' h3
     unfold pZ at h3
     rw[if_neg jb,if_neg hs5]at h3
     cases h3
  ·have Vq:k=ns.length:=by simp at h2;omega
   subst Vq
   rw[List.take_length]
   have m8:(fk l ns).length<=60:=by
    have h1:(fk l ns).length<=([]:GS).length+ns.length:=uW l ns []
    simp only[List.length_nil]at h1
    omega
   have hlen:∀x∈fk l ns,x.1.m.length=16:=by
    exact abl
   have xy:∀x∈fk l ns,x.2.length<=1:=by
    intro x hx
    obtain⟨n',_,c',s8,rfl⟩:=p9 l _ x hx
    exact Nat.le_refl _
   have KG:(gs (fk l ns)).Nodup:=by
    have:gs (fk l ns)=lV (Yk l ns):=Bt l _ []
    rw[this];exact pR _
   generalize fk l ns=fs at hK hX m8 hlen xy KG|-
   refine a8 ?_
   exact Ks oX gY lc lm cm fs m8 hlen KG xy Yt hK hX fq fq fq ag
end Go.Proofs.YtnkamdiiakdkgaaGreat
end
section
open Go
set_option maxHeartbeats 4000000
namespace Go.Proofs.YtnkamdiiakdkgaaGreat
theorem Yw(n:Nat)(hn:n<=10000){o:Nat->ab}{nx:Nat}(oX:Good o nx){K X:V->(Nat->ab)->Nat->Prop}(h0:n=0->∀nx',nx<=nx'->K .aZ o nx')
 (h1:∀id ep o' nx',nx<=id->id<nx'->Good o' nx'->o' id= .arr ep 3 1 []->(∀j,j<nx->o' j=o j)->K (.osl id ep) o' nx'):cH Tryz.prog 170 [.aZ, .d (.i n)] o nx K X:=by
 refine cH.aJ mix TJ aI ?_
 rw[Xi]
 have Yn:decide ((n:Int)<0)=false:=aI
 refine jz Yn ?_
 refine aj (fun h2=> ?_) (fun h2=> ?_)
 ·have h3:0<n:=by simp at h2;omega
  have hc:n<=140737488355327/\n*8<=140737488355328:=ag
  simp+contextual (disch:=first|omega|simp only[go_sem,false_implies]) only[go_sem,wrap64,if_pos,if_pos hc,Int.sub_zero,Nat.add_assoc,Nat.left_eq_add,Nat.add_eq_left,Nat.add_left_cancel_iff]
  change jT _ (VI V.aZ [])
  simp+contextual (disch:=first|omega|simp only[go_sem,false_implies]) only[go_sem,wrap64,if_pos,if_pos hc,Int.sub_zero,Nat.add_assoc,Nat.left_eq_add,Nat.add_eq_left,Nat.add_left_cancel_iff]
  exact h1 (nx+18) 1 _ _ ag ag (((oX.mono ag).ax ag rfl).ax ag rfl) (af _ _ _) (fun j hj=>by rw[ae _ _ _ _ (by omega),ae _ _ _ _ (by omega)])
 ·have h3:n=0:=by simp at h2;omega
  refine a8 ?_
  exact h0 h3 _ ag
def ZZ(a b:List Int):Nat->Int
 |0=>0
 |1=>a.length
 |_=>a.length+b.length
theorem szF_0(a b:List Int):ZZ a b 0=0:=rfl
theorem szF_1(a b:List Int):ZZ a b (0+1)=a.length:=rfl
theorem szF_2(a b:List Int):ZZ a b (1+1)=a.length+b.length:=rfl
def zL(a b:List Int):Nat->List Int
 |0=>[]
 |1=>a
 |_=>a++b
def Kw(a b:List Int)(k:Nat):Nat->ab:=ax (fun _=> .no) 0 (.arr 0 3 1 ((zL a b k).map D.i))
theorem catH_0(a b:List Int)(k:Nat):Kw a b k 0= .arr 0 3 1 ((zL a b k).map D.i):=by unfold Kw;rw[af]
theorem uy(a b:List Int)(k:Nat){e:Nat->V}{so:Nat->ab}{m:Nat}(L:List V){x:V}(hx:pE so (fun _=>True) 3 1 ((zL a b k).map D.i) x)
 (he:kx 0 [⟨x,3,1,(zL a b k).map D.i⟩] so (fun _=>True) e L 0):bt 0 ⟨e,so,m⟩ ⟨aU L,Kw a b k,1⟩:=
 bt.xK (fun _=>True) x 0 L (Nat.le_refl _) lt0 (catH_0 a b k) hx (fun j hj=>by unfold Kw;exact ae _ _ _ _ ag) (fun j _ h=>absurd h ag) he
theorem Of(a b:List Int)(ha:a.length<=1000)(hb:b.length<=1000):aV Tryz.prog 157 [.sl [.sl (a.map D.i), .sl (b.map D.i)]] (.ret [.sl ((a++b).map D.i)]):=by
 refine aV.aJ mix TC aI ?_
 rw[Xb]
 refine rM ?_
 refine az (fun k:Nat=>⟨aU [.d (.sl [.sl (a.map D.i), .sl (b.map D.i)]), .aa, .aa, .d (.i (ZZ a b k)), .aa, .aa, .aa, .aa, .aa, .d (.sl [.sl (a.map D.i), .sl (b.map D.i)]), .d (.i 2), .d (.i k)],fun _=> .no,0⟩)
  (fun k=>k<=2) (fun k=>2 - k) 0 (Nat.zero_le _) (bt.d0 _ ?_) (fun k hk=> ?_)
 ·exact cz
 replace hk:k<=2:=hk
 match k,hk with
 |0,_=>
  have h0:decide ((0:Int)+(a.length:Int)<0)=false:=aI
  have Pf:decide ((a.length:Int)<0)=false:=aI
  simp+contextual (disch:=first|omega|simp only[go_sem,false_implies]) only[go_sem,wrap64,if_pos,List.length_map,h0,Pf,szF_0,Int.zero_add]
  refine ak (0+1) ag ag (bt.d0 _ ?_)
  rw[szF_1]
  exact cz
 |1,_=>
  have h0:decide ((a.length:Int)+(b.length:Int)<0)=false:=by simp;omega
  simp+contextual (disch:=first|omega|simp only[go_sem,false_implies]) only[go_sem,wrap64,if_pos,List.length_map,h0,show ZZ a b 1=a.length from rfl]
  refine ak (1+1) ag ag (bt.d0 _ ?_)
  rw[szF_2]
  exact cz
 |2,_=>
  simp+contextual (disch:=first|omega|simp only[go_sem,false_implies]) only[go_sem,wrap64,if_pos,List.length_map,show ZZ a b 2=a.length+b.length from rfl]
  unfold tA
  refine Or.inr (Or.inl ?_)
  rw[show((a.length:Int)+b.length)=((a.length+b.length:Nat):Int) by omega]
  have KA:(zL a b 0).length+a.length<=140737488355328/\((zL a b 0).length+a.length)*8<=140737488355328:=by
   show([]:List Int).length+a.length<=_/\(([]:List Int).length+a.length)*8<=_
   simp only[List.length_nil];omega
  have hc1:(zL a b 1).length+b.length<=140737488355328/\((zL a b 1).length+b.length)*8<=140737488355328:=by
   show a.length+b.length<=_/\(a.length+b.length)*8<=_
   omega
  refine Yw (a.length+b.length) ag Good.nil (fun e nx' vw=> ?_) (fun id ep o' nx' i1 i2 i3 i4 i5=> ?_)
  ·refine a8 ?_
   refine az (fun k:Nat=>⟨aU [.d (.sl [.sl (a.map D.i), .sl (b.map D.i)]), .aa, .aa, .aa, .aa, .aa, .osl 0 0, .aa, .aa, .aa, .aa, .aa, .aa, .aa, .aa, .aa, .aa, .aa, .aa, .aa, .aa, .aa, .aa, .aa, .aa, .d (.sl [.sl (a.map D.i), .sl (b.map D.i)]), .d (.i 2), .d (.i k)],Kw a b k,1⟩)
    (fun k=>k<=2) (fun k=>2 - k) 0 (Nat.zero_le _) (uy a b 0 _ (.inl ⟨rfl,rfl,bI⟩) ?_) (fun k hk=> ?_)
   ·exact tU
   replace hk:k<=2:=hk
   match k,hk with
   |0,_=>
    have q:=catH_0 a b 0
    exact aaV
   |1,_=>
    have q:=catH_0 a b 1
    exact zw7
   |2,_=>
    have q:=catH_0 a b 2
    refine oC q ?_
    rfl
  ·refine a8 ?_
   refine az (fun k:Nat=>⟨aU [.d (.sl [.sl (a.map D.i), .sl (b.map D.i)]), .aa, .aa, .aa, .aa, .aa, .osl 0 0, .aa, .aa, .aa, .aa, .aa, .aa, .aa, .aa, .aa, .aa, .aa, .aa, .aa, .aa, .aa, .aa, .aa, .aa, .d (.sl [.sl (a.map D.i), .sl (b.map D.i)]), .d (.i 2), .d (.i k)],Kw a b k,1⟩)
    (fun k=>k<=2) (fun k=>2 - k) 0 (Nat.zero_le _) (uy a b 0 _ (.inr ⟨id,ep,trivial,rfl,i4⟩) ?_) (fun k hk=> ?_)
   ·exact tU
   replace hk:k<=2:=hk
   match k,hk with
   |0,_=>
    have q:=catH_0 a b 0
    exact aaV
   |1,_=>
    have q:=catH_0 a b 1
    exact zw7
   |2,_=>
    have q:=catH_0 a b 2
    refine oC q ?_
    rfl
end Go.Proofs.YtnkamdiiakdkgaaGreat
end
namespace Go.Proofs.YtnkamdiiakdkgaaGreat
section
variable {P:Program}
def s5(P:Program)(n t t1:Nat)(ic:IC)(aM:List V)(u:V)(o:Nat->ab)(nx:Nat)(K:(Nat->ab)->Nat->Prop):Prop:=
 aM.length<=n/\kN P n nx true ic (Jy K) ⟨ax (ax (cp aM) t u) t1 u,o,nx⟩
def rJ(P:Program)(n t t1:Nat)(ic:IC)(aM:List V)(rs:List ResultVar)(K X:V->(Nat->ab)->Nat->Prop)(e:fG)(s:S):Prop:=
 match e with
 | .normal| .ret=>s5 P n t t1 ic aM (.d .fe) s.o s.nx fun o nx=>qN P rs K X .ret ⟨s.env,o,nx⟩
 | .bE v=>s5 P n t t1 ic aM v s.o s.nx fun o nx=>qN P rs K X .ret ⟨s.env,o,nx⟩
 | .exit _=>False
def Bx(P:Program)(n t:Nat)(eI:IC)(fi:List Operand)(g:FuncId)(D:List V->fG->S->Prop)(e:fG)(s:S):Prop:=
 match e with
 | .normal=>kN P n s.nx false eI (D (fi.map s.ev)) ⟨ax s.env t (.func (.func g) [] (fi.map s.ev)),s.o,s.nx⟩
 |_=>False
variable {n t t1:Nat}{ic eI:IC}{aM:List V}{rs:List ResultVar}{K X:V->(Nat->ab)->Nat->Prop}{s:S}{v:V}{fi:List Operand}{g:FuncId}{D:List V->fG->S->Prop}{KR:(Nat->ab)->Nat->Prop}
@[go_sem ↓] theorem Og:rJ P n t t1 ic aM rs K X .normal s=s5 P n t t1 ic aM (.d .fe) s.o s.nx fun o nx=>qN P rs K X .ret ⟨s.env,o,nx⟩:=propext Iff.rfl
@[go_sem ↓] theorem Uj:rJ P n t t1 ic aM rs K X .ret s=s5 P n t t1 ic aM (.d .fe) s.o s.nx fun o nx=>qN P rs K X .ret ⟨s.env,o,nx⟩:=propext Iff.rfl
@[go_sem ↓] theorem Uk:rJ P n t t1 ic aM rs K X (.bE v) s=s5 P n t t1 ic aM v s.o s.nx fun o nx=>qN P rs K X .ret ⟨s.env,o,nx⟩:=propext Iff.rfl
@[go_sem ↓] theorem Oh:Bx P n t eI fi g D .normal s=kN P n s.nx false eI (D (fi.map s.ev)) ⟨ax s.env t (.func (.func g) [] (fi.map s.ev)),s.o,s.nx⟩:=propext Iff.rfl
@[go_sem ↓] theorem Ul:Jy KR .normal s=KR s.o s.nx:=propext Iff.rfl
@[go_sem ↓] theorem aeC:Jy KR .ret s=KR s.o s.nx:=propext Iff.rfl
theorem s5.w {o:Nat->ab}{nx:Nat}{K K':(Nat->ab)->Nat->Prop}(hK:∀o nx,K o nx->K' o nx)(h:s5 P n t t1 ic aM v o nx K):FE P n t t1 ic aM v o nx K':=by
 refine⟨h.1,dY ic _ _ _ (fun e s h=> ?_) h.2⟩
 unfold Jy at h|-
 cases e with
 |normal=>exact hK _ _ h
 |ret=>exact hK _ _ h
 |_=>exact h
theorem cH.Kx (bd:P.follows .mixedOrders=true){f g:FuncId}{iZ eI yW:IC}{t m r r1:Nat}{fi:List Operand}{rs:List ResultVar}(hf:Hl P f n iZ eI g t fi rs)(hg:Db P g m r r1 yW)
 {args:List V} {o:Nat->ab} {nx:Nat} {K X:V->(Nat->ab)->Nat->Prop} (hl:args.length<=n)
 (h:kN P n nx true iZ (Bx P n t eI fi g fun aM=>rJ P m r r1 yW aM rs K X) ⟨cp args,o,nx⟩):cH P f args o nx K X:=by
 refine cH.De bd hf hg hl (dY iZ _ _ _ (fun e s h=> ?_) h)
 unfold Bx at h
 unfold Dc
 cases e with
 |normal=>
  refine dY eI _ _ _ (fun e s h=> ?_) h
  unfold rJ at h
  unfold AM
  cases e with
  |normal=>exact s5.w (fun _ _ h=>by unfold qN at h;exact h) h
  |ret=>exact s5.w (fun _ _ h=>by unfold qN at h;exact h) h
  |bE v=>exact s5.w (fun _ _ h=>by unfold qN at h;exact h) h
  |exit _=>exact h
 |_=>exact h
end
attribute [irreducible] s5
theorem pV{P:Program}{n t t1:Nat}{ic:IC}{aM:List V}{v:V}{o:Nat->ab}{nx:Nat}{K:(Nat->ab)->Nat->Prop}(h1:aM.length<=n)(h2:kN P n nx true ic (Jy K) ⟨ax (ax (cp aM) t v) t1 v,o,nx⟩):s5 P n t t1 ic aM v o nx K:=by
 unfold s5
 exact⟨h1,h2⟩
end Go.Proofs.YtnkamdiiakdkgaaGreat
section
open Go
set_option maxHeartbeats 4000000
namespace Go.Proofs.YtnkamdiiakdkgaaGreat
def Um:D:= .iface 154 (.agg [])
theorem Uu{o:Nat->ab}:uA Tryz.prog o 20 true (.d .fe) (.d .fe)=some (.d (.bool true)):=ai
theorem Re{o:Nat->ab}:uA Tryz.prog o 20 true (.d Um) (.d .fe)=some (.d (.bool false)):=ai
theorem Eu:zU Tryz.prog 154=true:=ai
theorem Gk(l:List Cl)(hl:l.length<=60)(mT:∀c∈l,pO c)(w:Cl->Bool)(o:Nat->ab)(nx:Nat)(hg:Good o nx)(K X:V->(Nat->ab)->Nat->Prop)
 (hK:∀x o' nx',(x= .d (.sl ((pS l w).2.1.map D.i))\/(x= .aZ/\(pS l w).2.1=[]))->nx<=nx'->Good o' nx'->(∀j,j<nx->o' j=o j)->K (.bW [.d (.bool (pS l w).1),x, .d (.i (pS l w).2.2)]) o' nx'):
 cH Tryz.prog 84 [.d (.sl (l.map Cl.d)), .d (.sl ((fN l w l.length).map D.i))] o nx K X:=by
 have hns:∀n∈fN l w l.length,0<=n/\∃c,l[n.toNat]? =some c:=fun n hn=>⟨(rF hn).1,(rF hn).2.imp fun c h=>h.1⟩
 have tp:(fN l w l.length).length<=60:=Nat.le_trans (wZ l w l.length) hl
 rw[Iu]at hK
 generalize agT:fN l w l.length=ns at hK hns tp|-
 refine cH.Kx mix Ta MQ aI ?_
 rw[WM,c84]
 refine iD ?_
 refine aS (Oe (pc:=nx+5) (pm:=nx+3) ?_ (fun id aq=> ?_) ag ag ag fq fq l hl mT ns hns tp Of (fun s e' o1 n1 g1 g2 g3 g4=> ?_) (fun o1 n1 g1 g2 g3 g4=> ?_))
 ·exact fm
 ·(repeat(first|rfl|rw[af]|rw[ae _ _ _ _ (by omega)]));exact hg.fresh id ag
 ·have q0:o1 nx= .row [.d (.bool false)]:=by rw[g4 _ (by omega) (by omega) (by omega)];(repeat(first|rfl|rw[af]|rw[ae _ _ _ _ (by omega)]))
  have q1:o1 (nx+1)= .row [.aZ]:=by rw[g4 _ (by omega) (by omega) (by omega)];(repeat(first|rfl|rw[af]|rw[ae _ _ _ _ (by omega)]))
  have q2:o1 (nx+2)= .row [.d (.i 0)]:=by rw[g4 _ (by omega) (by omega) (by omega)];(repeat(first|rfl|rw[af]|rw[ae _ _ _ _ (by omega)]))
  have cP:∀j,j<nx->o1 j=o j:=fun j hj=>by rw[g4 j (by omega) (by omega) (by omega)];(repeat(first|rfl|rw[af]|rw[ae _ _ _ _ (by omega)]))
  rw[g1]at hK
  have qc:=g3.oc;have qa:=g3.oa;have qm:=g3.om
  refine Z3 q0 q1 q2 qc qa qm ?_
  have b1:nx+10<n1:=g3.la
  have Wh:=g3.len
  have gO:=g3.fin
  refine az (fun k:Nat=>⟨aU [.aa, .aa, .aa, .aa, .ptr nx 0, .ptr (nx+1) 0, .ptr (nx+2) 0, .ptr (nx+5) 0, .aa, .aa, .aa, .aa, .aa, .aa, .aa, .aa, .aa, .aa, .aa, .aa, .aa, .aa, .osl (nx+10) e', .d (.i (gs s).length), .d (.i k)],ax o1 nx (.row [.d (.bool (!(gs (s.take k)).any ki))]),n1⟩)
   (fun k=>k<=s.length/\iB s=((iB (s.drop k)).1&& !(gs (s.take k)).any ki,(iB (s.drop k)).2)) (fun k=>s.length - k) 0 ⟨Nat.zero_le _,by simp[gs]⟩ (bt.aT _ (show nx+3<=n1 from ag) ag ?_ (fun j hj=>by(repeat(first|rfl|rw[af]|rw[ae _ _ _ _ (by omega)]))) ?_) (fun k hk=> ?_)
  ·exact g3.bn.ax ag rfl
  ·exact cz
  obtain⟨hk,Ev⟩:=hk
  refine Z3 q0 q1 q2 qc qa qm ?_
  refine aj (fun h2=> ?_) (fun h2=> ?_)
  ·replace h2:k<s.length:=by simp[gV]at h2;omega
   obtain⟨⟨g,cg⟩,hx⟩:=aF h2
   have Yu:(gs s)[k]? =some g:=by unfold gs;rw[List.getElem?_map,hx];rfl
   have kT:=Wh _ (List.mem_of_getElem? hx)
   dsimp only at kT
   have kc:(kG g).cells=kC g:=rfl
   have kt:=lW g kT
   have kl:=nZ g kT
   have tM:=pU g kT
   have ad:pf ((kC g).map V.d)=some (kC g):=bF _
   have mJ:k<(gs s).length:=by rw[gV];exact h2
   have Yv:=kC_2 g kT
   have Ub:s.drop k=(g,cg)::s.drop (k+1):=by
    obtain⟨i1,i2⟩:=List.getElem?_eq_some_iff.1 hx
    rw[List.drop_eq_getElem_cons i1,i2]
   have EJ:gs (s.take (k+1))=gs (s.take k)++[g]:=by rw[List.take_add_one,hx,Option.toList_some];unfold gs;rw[List.map_append];rfl
   have va:∀x,ax o1 nx x (nx+10)= .arr e' 162 18 ((gs s).map kG):=fun x=>by rw[ae _ _ _ _ (by omega)];exact qa
   cases c1:g.f==g.t with
   |false=>
    have Qk:(g.f !=g.t)=true:=by simp[bne,c1]
    have hb:ki g=false:=by unfold ki;rw[c1];rfl
    rw[Ub,iB,hb]at Ev
    simp only[Bool.false_eq_true,if_false]at Ev
    simp+contextual (disch:=first|omega|simp only[go_sem,false_implies]) only[go_sem,wrap64,if_pos,va,if_pos mJ,Yu,kc,kt,kl,ad,bw,tM,kC_0,kC_1,Qk,List.length_map,Nat.add_assoc,Nat.left_eq_add,Nat.add_eq_left,Nat.add_left_cancel_iff]
    refine aH (aR rfl) ?_
    refine iD ?_
    refine ak (k+1) ⟨h2,by rw[EJ,List.any_append,List.any_cons,hb,List.any_nil,Bool.or_false,Bool.or_false];exact Ev⟩ ag (bt.aT _ (show nx+3<=n1 from ag) ag (g3.bn.ax ag rfl) (fun j hj=> ?_) ?_)
    ·exact Uz
    ·exact cz
   |true=>
    have Qk:(g.f !=g.t)=false:=by simp[bne,c1]
    have Gj:(c7 g.m g.m).length=16:=by simp[c7]
    have heq:=xa (fun _=> .no) false (c7 g.m g.m) g.m Gj kT
    by_cases aq:c7 g.m g.m=g.m
    ·simp+contextual (disch:=first|omega|simp only[go_sem,false_implies]) only[go_sem,wrap64,if_pos,va,if_pos mJ,Yu,kc,kt,kl,ad,bw,tM,kC_0,kC_1,Qk,List.length_map,Yv,bF,bX _ kT,Nat.add_assoc,Nat.left_eq_add,Nat.add_eq_left,Nat.add_left_cancel_iff]
     refine ba (A0 g.m g.m kT kT) rfl ?_
     simp+contextual (disch:=first|omega|simp only[go_sem,false_implies]) only[go_sem,wrap64,if_pos,va,if_pos mJ,Yu,kc,kt,kl,ad,bw,tM,kC_0,kC_1,Qk,List.length_map,Yv,bF,bX _ kT,xa _ _ _ _ Gj kT,decide_eq_true aq,Option.bind_some,Nat.add_assoc,Nat.left_eq_add,Nat.add_eq_left,Nat.add_left_cancel_iff]
     refine aH (aR rfl) ?_
     refine iD ?_
     refine az (fun i:Nat=>⟨aU [.aa, .aa, .aa, .aa, .ptr nx 0, .ptr (nx+1) 0, .ptr (nx+2) 0, .ptr (nx+5) 0, .aa, .ptr (n1+3) 0, .aa, .aa, .aa, .aa, .aa, .aa, .aa, .aa, .aa, .aa, .aa, .aa, .osl (nx+10) e', .d (.i (gs s).length), .d (.i k), .aa, .aa, .aa, .aa, .aa, .aa, .aa, .aa, .aa, .aa, .aa, .aa, .aa, .aa, .aa, .aa, .aa, .aa, .d (.i i)],ax (ax o1 nx (.row [.d (.bool (!(gs (s.take k)).any ki))])) (n1+3) (.row ((kC g).map V.d)),n1+4⟩)
      (fun i=>i<=4/\∀j,j<i->mg g.m j j≠2) (fun i=>4 - i) 0 ⟨Nat.zero_le _,fun j h=>absurd h (Nat.not_lt_zero _)⟩ (bt.aT _ (show nx+3<=n1+4 from ag) ag ?_ (fun j hj=> ?_) ?_) (fun i hi=> ?_)
     ·exact((g3.bn.mono ag).ax ag rfl).ax ag EO
     ·rw[df]
     ·exact cz
     obtain⟨hi,hdg⟩:=hi
     have vb:ax (ax o1 nx (.row [.d (.bool (!(gs (s.take k)).any ki))])) (n1+3) (.row ((kC g).map V.d)) (n1+3)= .row ((kC g).map V.d):=af _ _ _
     refine iD ?_
     refine aj (fun h3=> ?_) (fun h3=> ?_)
     ·replace h3:i<4:=by simp at h3;omega
      have hrg:((kC g).map V.d)[2+(i*4+i)]? =some (V.d (D.i (mg g.m i i))):=by
       unfold kC
       rw[List.map_cons,List.map_cons,show 2+(i*4+i)=(i*4+i)+1+1 by omega,List.getElem?_cons_succ,List.getElem?_cons_succ]
       exact uN kT h3 h3
      have agt:Option.map V.d (kC g)[2+(i*4+i*1)]? =some (V.d (D.i (mg g.m i i))):=by rw[Nat.mul_one, <- List.getElem?_map];exact hrg
      refine OI vb agt ?_
      refine aj (fun h4=> ?_) (fun h4=> ?_)
      ·have KF:mg g.m i i=2:=by simpa using h4
       have hb:ki g=false:=by
        cases e:ki g with
        |false=>rfl
        |true=>exact absurd KF ((rG.1 e).2.2 i h3)
       rw[Ub,iB,hb]at Ev
       simp only[Bool.false_eq_true,if_false]at Ev
       refine iD ?_
       refine ak (k+1) ⟨h2,by rw[EJ,List.any_append,List.any_cons,hb,List.any_nil,Bool.or_false,Bool.or_false];exact Ev⟩ ag (bt.aT _ (show nx+3<=n1 from ag) ag (g3.bn.ax ag rfl) (fun j hj=> ?_) ?_)
       ·exact Uz
       ·exact cz
      ·have KF:mg g.m i i≠2:=by simpa using h4
       refine iD ?_
       refine ak (i+1) ⟨h3,fun j hj=> ?_⟩ ag (bt.aT _ (show nx+3<=n1+4 from ag) ag (((g3.bn.mono ag).ax ag rfl).ax ag EO) (fun j hj=>rfl) ?_)
       ·rcases Nat.lt_or_ge j i with h|h
        ·exact hdg j h
        ·rw[show j=i by omega];exact KF
       ·exact cz
     ·replace h3:i=4:=by simp at h3;omega
      subst h3
      have hb:ki g=true:=rG.2 ⟨by simpa using c1,aq,hdg⟩
      rw[Ub,iB,hb]at Ev
      simp only[if_true,Bool.false_and]at Ev
      have hf:=nY kT s k g3.len g3.nd hx 0
      rw[show kG g= .agg (kC g)from rfl]at hf
      have ck:=Bv g kT
      rw[show kG g= .agg (kC g)from rfl]at ck
      have w0:∀ (f:Nat->ab) x,ax f (n1+3) x nx=f nx:=fun f x=>ae _ _ _ _ ag
      have w1:∀ (f:Nat->ab) x,ax f (n1+3) x (nx+1)=f (nx+1):=fun f x=>ae _ _ _ _ ag
      have w3:∀ (f:Nat->ab) x,ax f (n1+3) x (nx+3)=f (nx+3):=fun f x=>ae _ _ _ _ ag
      have w5:∀ (f:Nat->ab) x,ax f (n1+3) x (nx+5)=f (nx+5):=fun f x=>ae _ _ _ _ ag
      have w6:∀ (f:Nat->ab) x,ax f nx x (n1+3)=f (n1+3):=fun f x=>ae _ _ _ _ ag
      simp+contextual (disch:=first|omega|simp only[go_sem,false_implies]) only[go_sem,wrap64,if_pos,vb,w0,w1,w3,w5,w6,q0,q1,qc,qm,kt,kl,ad,bw,tM,hf,ck,List.length_map,Nat.add_assoc,Nat.left_eq_add,Nat.add_eq_left,Nat.add_left_cancel_iff]
      refine aH (aR rfl) ?_
      refine iD ?_
      refine aj (fun h5=> ?_) (fun h5=> ?_)
      ·replace h5:cg.length<=40:=by simp at h5;omega
       rw[if_pos h5]at Ev
       simp+contextual (disch:=first|omega|simp only[go_sem,false_implies]) only[go_sem,wrap64,if_pos,vb,w0,w1,w3,w5,w6,q0,q1,qc,qm,kt,kl,ad,bw,tM,hf,ck,List.length_map,Nat.add_assoc,Nat.left_eq_add,Nat.add_eq_left,Nat.add_left_cancel_iff]
       refine aH (bO (ids:=[nx+1,nx+3,nx+5]) (nx:=n1) aI gE [([],[]),([2],[]),([2],[]),([2],[]),([6],[]),([1],[]),([],[0])] bI) ?_
       simp+contextual (disch:=first|omega|simp only[go_sem,false_implies]) only[go_sem,wrap64,if_pos,vb,w0,w1,w3,w5,w6,q0,q1,q2,qc,qm,List.length_map,Nat.add_assoc,Nat.left_eq_add,Nat.add_eq_left,Nat.add_left_cancel_iff]
       refine aH (bO (ids:=[]) (nx:=nx) aI aI [([0],[]),([1],[]),([0],[0]),([1],[1]),([2],[2])] bI) ?_
       refine iD ?_
       refine pV aI ?_
       rw[MP]
       refine Z6 ?_
       rw[show Q3 (some s)=((iB s).1,(iB s).2,0)from rfl,Ev]at hK
       dsimp only at hK
       refine hK (.d (.sl (cg.map D.i))) _ _ (.inl rfl) ag ?_ (fun j hj=> ?_)
       ·repeat(first|exact g3.bn.mono ag|refine Good.ax ?_ ag rfl|refine Good.ax ?_ ag EO)
       ·exact aaI
      ·replace h5: ¬cg.length<=40:=by simp at h5;omega
       rw[if_neg h5]at Ev
       refine iD ?_
       refine ak (k+1) ⟨h2,by rw[EJ,List.any_append,List.any_cons,hb,List.any_nil,Bool.or_false,Bool.or_true,Bool.not_true,Bool.and_false];exact Ev⟩ ag (bt.aT _ (show nx+3<=n1 from ag) ag (g3.bn.ax ag rfl) (fun j hj=> ?_) ?_)
       ·rw[EJ,List.any_append,List.any_cons,hb,List.any_nil,Bool.or_false,Bool.or_true,Bool.not_true]
        by_cases ej:j=nx
        ·subst ej;rw[af,af]
        ·rw[ae _ nx _ _ ej,ae _ (n1+3) _ _ (by omega),ae _ nx _ _ ej,ae _ nx _ _ ej]
       ·exact cz
    ·have hb:ki g=false:=by unfold ki;rw[decide_eq_false aq,Bool.false_and,Bool.and_false]
     rw[Ub,iB,hb]at Ev
     simp only[Bool.false_eq_true,if_false]at Ev
     simp+contextual (disch:=first|omega|simp only[go_sem,false_implies]) only[go_sem,wrap64,if_pos,va,if_pos mJ,Yu,kc,kt,kl,ad,bw,tM,kC_0,kC_1,Qk,List.length_map,Yv,bF,bX _ kT,Nat.add_assoc,Nat.left_eq_add,Nat.add_eq_left,Nat.add_left_cancel_iff]
     refine ba (A0 g.m g.m kT kT) rfl ?_
     simp+contextual (disch:=first|omega|simp only[go_sem,false_implies]) only[go_sem,wrap64,if_pos,va,if_pos mJ,Yu,kc,kt,kl,ad,bw,tM,kC_0,kC_1,Qk,List.length_map,Yv,bF,bX _ kT,xa _ _ _ _ Gj kT,decide_eq_false aq,Option.bind_some,Nat.add_assoc,Nat.left_eq_add,Nat.add_eq_left,Nat.add_left_cancel_iff]
     refine aH (aR rfl) ?_
     refine iD ?_
     refine ak (k+1) ⟨h2,by rw[EJ,List.any_append,List.any_cons,hb,List.any_nil,Bool.or_false,Bool.or_false];exact Ev⟩ ag (bt.aT _ (show nx+3<=n1 from ag) ag (g3.bn.ax ag rfl) (fun j hj=> ?_) ?_)
     ·exact Uz
     ·exact cz
  ·replace h2:k=s.length:=by simp[gV]at h2;omega
   subst h2
   rw[List.drop_length,List.take_length]at Ev
   have y1:∀x,ax o1 nx x (nx+1)= .row [.aZ]:=fun x=>by rw[ae _ _ _ _ (by omega)];exact q1
   have y2:∀x,ax o1 nx x (nx+2)= .row [.d (.i 0)]:=fun x=>by rw[ae _ _ _ _ (by omega)];exact q2
   simp+contextual (disch:=first|omega|simp only[go_sem,false_implies]) only[go_sem,wrap64,if_pos,q0,q1,q2,y1,y2,Nat.add_assoc,Nat.left_eq_add,Nat.add_eq_left,Nat.add_left_cancel_iff]
   refine aH (bO (ids:=[]) (nx:=nx) aI aI [([0],[]),([1],[]),([0],[0]),([1],[1]),([2],[2])] bI) ?_
   refine iD ?_
   refine pV aI ?_
   rw[MP]
   refine Z6 ?_
   rw[show Q3 (some s)=((iB s).1,(iB s).2,0)from rfl,Ev]at hK
   dsimp only[iB]at hK
   rw[Bool.true_and]at hK
   rw[List.take_length]
   refine hK .aZ _ _ (.inr ⟨rfl,rfl⟩) ag ?_ (fun j hj=> ?_)
   ·have hg:=g3.bn
    exact fm
   ·exact aaI
 ·have q0:o1 nx= .row [.d (.bool false)]:=by rw[g4 _ (by omega) (by omega) (by omega)];(repeat(first|rfl|rw[af]|rw[ae _ _ _ _ (by omega)]))
  have q1:o1 (nx+1)= .row [.aZ]:=by rw[g4 _ (by omega) (by omega) (by omega)];(repeat(first|rfl|rw[af]|rw[ae _ _ _ _ (by omega)]))
  have q2:o1 (nx+2)= .row [.d (.i 0)]:=by rw[g4 _ (by omega) (by omega) (by omega)];(repeat(first|rfl|rw[af]|rw[ae _ _ _ _ (by omega)]))
  have cP:∀j,j<nx->o1 j=o j:=fun j hj=>by rw[g4 j (by omega) (by omega) (by omega)];(repeat(first|rfl|rw[af]|rw[ae _ _ _ _ (by omega)]))
  rw[g1]at hK
  clear hg
  have hg:=g3
  refine pV aI ?_
  rw[MP]
  have z0:∀k,nx≠n1+k:=fun k=>ag
  have z1:∀k,nx+1≠n1+k:=fun k=>ag
  have z2:∀k,nx+2≠n1+k:=fun k=>ag
  have z3:nx≠n1:=ag
  have z4:nx+1≠n1:=ag
  have z5:nx+2≠n1:=ag
  have hem:=Re (o:=o1)
  unfold Um at hem
  simp+contextual (disch:=first|omega|simp only[go_sem,false_implies]) only[go_sem,wrap64,if_pos,q0,q1,q2,hem,Eu,Nat.add_assoc,Nat.left_eq_add,Nat.add_eq_left,Nat.add_left_cancel_iff]
  exact hK .aZ _ _ (.inr ⟨rfl,rfl⟩) ag fm (fun j hj=>by(repeat(first|rfl|rw[af]|rw[ae _ _ _ _ (by omega)]));exact cP j hj)
end Go.Proofs.YtnkamdiiakdkgaaGreat
end
section
open Go
set_option maxHeartbeats 4000000
namespace Go.Proofs.YtnkamdiiakdkgaaGreat
theorem Gl(l:List Cl)(hl:l.length<=60)(mT:∀c∈l,pO c)(w:Cl->Bool):
 aV Tryz.prog 84 [.sl (l.map Cl.d), .sl ((fN l w l.length).map D.i)] (.ret [.bool (pS l w).1, .sl ((pS l w).2.1.map D.i), .i (pS l w).2.2]):=by
 refine aV.jd (Gk l hl mT w _ 0 Good.nil _ _ fun x o' nx' hx _ _ _=>⟨[.d (.bool (pS l w).1),x, .d (.i (pS l w).2.2)],_,rfl, ?_,rfl⟩)
 rcases hx with rfl|⟨rfl,h⟩
 ·rfl
 ·rw[h];rfl
def lu(p:Pg)(w:Cl->Bool):Bool×List Int×Int:=if cq p=true then(if(dh p).length<=60 then pS (dh p) w else(false,[],3))else(false,[],2)
def Z0(o:Nat->ab)(nx:Nat)(p:Pg)(ns:List Int):Nat->ab:=ax (ax o nx (.row p.row)) (nx+1) (.arr 0 3 1 (ns.map D.i))
theorem enH_1(o:Nat->ab)(nx:Nat)(p:Pg)(ns:List Int):Z0 o nx p ns (nx+1)= .arr 0 3 1 (ns.map D.i):=by unfold Z0;rw[af]
theorem EL(o:Nat->ab)(nx:Nat)(p:Pg)(ns:List Int){j:Nat}(h:j≠nx+1):Z0 o nx p ns j=ax o nx (.row p.row) j:=by unfold Z0;rw[ae _ _ _ _ h]
theorem Gm{o:Nat->ab}{nx:Nat}(oX:Good o nx)(p:Pg){e:Nat->V}{so:Nat->ab}{m:Nat}(L:List V)(ns:List Int){x:V}(gone:Nat->Prop)(Wh:∀id,gone id->nx+1<=id)
 (gx:pE so gone 3 1 (ns.map D.i) x) (sr:∀id,id<nx+1->so id=ax o nx (.row p.row) id) (he:kx (nx+1) [⟨x,3,1,ns.map D.i⟩] so gone e L 0):bt nx ⟨e,so,m⟩ ⟨aU L,Z0 o nx p ns,nx+1+1⟩:=by
 refine bt.xK gone x (nx+1) L ag (fun j hj=> ?_) (enH_1 o nx p ns) gx (fun j hj=> ?_) (fun j h1 h2=>absurd (Wh j h1) ag) he
 ·rw[EL _ _ _ _ (by omega)]
  have hs:=sr j hj
  by_cases e1:j=nx
  ·subst e1
   rw[af]at hs|-
   exact cV hs (fun r hr=>by simp[ab.refs,Pg.row,V.aE,V.refs]at hr)
  ·rw[ae _ _ _ _ e1]at hs|-
   exact cV hs (fun r hr=>Nat.lt_succ_of_lt (oX.refs j r hr))
 ·rw[EL _ _ _ _ (by omega),ae _ _ _ _ (by omega)]
  exact oX.fresh j ag
theorem Oi(p:Pg)(hf:p.Fin)(hp:p.Fw)(hq:lQ p=cq p)(g:Nat)(w:Cl->Bool)(hw:∀c:Cl,aV Tryz.prog g [c.d] (.ret [.bool (w c)]))(o:Nat->ab)(nx:Nat)(hg:Good o nx)(K X:V->(Nat->ab)->Nat->Prop)
 (hK:∀x o' nx',(x= .d (.sl ((lu p w).2.1.map D.i))\/(x= .aZ/\(lu p w).2.1=[]))->K (.bW [.d (.bool (lu p w).1),x, .d (.i (lu p w).2.2)]) o' nx'):
 cH Tryz.prog 55 [.d p.d, .func (.func g) [] []] o nx K X:=by
 refine cH.aJ mix acP aI ?_
 rw[c55]
 refine iD ?_
 refine a7 (QT p hf hp hq) ?_
 unfold lu at hK
 cases h1:cq p with
 |false=>
  have hc:mE p=([],2):=by unfold mE;rw[hq,h1];rfl
  rw[h1]at hK
  refine Us hc ?_
  exact hK .aZ _ _ (.inr ⟨rfl,rfl⟩)
 |true=>
 rw[h1,if_pos rfl]at hK
 by_cases xS:(dh p).length<=60
 ·have hc:mE p=(dh p,0):=by unfold mE;rw[hq,h1,if_pos rfl,if_pos xS]
  have mT:=rD h1
  rw[if_pos xS]at hK
  rw[hc]
  generalize dh p=l at xS mT hK|-
  simp+contextual (disch:=first|omega|simp only[go_sem,false_implies]) only[go_sem,wrap64,if_pos,List.length_map,Nat.add_assoc,Nat.left_eq_add,Nat.add_eq_left,Nat.add_left_cancel_iff]
  refine az (fun k:Nat=>⟨aU [.aa, .func (.func g) [] [], .aa, .aa, .aa, .aa, .aa, .d (.sl (l.map Cl.d)), .aa, .osl (nx+1) 0, .aa, .aa, .aa, .aa, .aa, .aa, .aa, .aa, .aa, .aa, .d (.sl (l.map Cl.d)), .d (.i l.length), .d (.i k)],Z0 o nx p (fN l w k),nx+1+1⟩)
   (fun k=>k<=l.length) (fun k=>l.length - k) 0 (Nat.zero_le _) (Gm hg p _ (fN l w 0) (fun _=>False) (fun _ h=>h.elim) (x:= .aZ) (.inl ⟨rfl,rfl,bI⟩) (fun j hj=> ?_) ?_) (fun k hk=> ?_)
  ·exact fq
  ·exact tU
  replace hk:k<=l.length:=hk
  have q1:=enH_1 o nx p (fN l w k)
  simp+contextual (disch:=first|omega|simp only[go_sem,false_implies]) only[go_sem,wrap64,if_pos,q1,List.length_map,Nat.add_assoc,Nat.left_eq_add,Nat.add_eq_left,Nat.add_left_cancel_iff]
  refine aj (fun h2=> ?_) (fun h2=> ?_)
  ·replace h2:k<l.length:=by simp at h2;omega
   obtain⟨c,th⟩:=aF h2
   have tp:=wZ l w k
   have fu:(fN l w k).length<=140737488355327/\((fN l w k).length+1)*8<=140737488355328:=ag
   have Ff:=zG l w th
   refine OI th q1 ?_
   refine aD (hw c) rfl ?_
   cases hwc:w c with
   |false=>
    rw[hwc]at Ff
    simp only[Bool.false_eq_true,if_false]at Ff
    refine iD ?_
    refine ak (k+1) h2 ag ?_
    rw[Ff]
    refine Gm hg p _ (fN l w k) (fun id=>nx+1<=id) (fun id h=>h) (x:= .osl (nx+1) 0) (.inr ⟨nx+1,0,Nat.le_refl _,rfl,by(repeat(first|rfl|rw[af]|rw[ae _ _ _ _ (by omega)]));exact q1⟩) (fun j hj=> ?_) ?_
    ·exact aay
    ·exact tU
   |true=>
    rw[hwc]at Ff
    simp only[if_true]at Ff
    simp+contextual (disch:=first|omega|simp only[go_sem,false_implies]) only[go_sem,wrap64,if_pos,q1,List.length_map,if_pos fu,Nat.add_assoc,Nat.left_eq_add,Nat.add_eq_left,Nat.add_left_cancel_iff]
    refine ak (k+1) h2 ag ?_
    rw[Ff]
    refine Gm hg p _ (fN l w k++[(k:Int)]) (fun id=>nx+1<=id) (fun id h=>h) (x:= .osl (nx+1) 1) (.inr ⟨nx+1,1,Nat.le_refl _,rfl,by(repeat(first|rfl|rw[af]|rw[ae _ _ _ _ (by omega)]));rw[List.map_append];rfl⟩) (fun j hj=> ?_) ?_
    ·exact aay
    ·exact tU
  ·replace h2:k=l.length:=by simp at h2;omega
   subst h2
   refine Us q1 ?_
   refine a7 (Gl l xS mT w) ?_
   refine iD ?_
   exact hK _ _ _ (.inl rfl)
 ·have hc:mE p=([],3):=by unfold mE;rw[hq,h1,if_pos rfl,if_neg xS]
  rw[if_neg xS]at hK
  refine Us hc ?_
  exact hK .aZ _ _ (.inr ⟨rfl,rfl⟩)
theorem Yx(c:Cl):aV Tryz.prog 56 [c.d] (.ret [.bool true]):=by
 refine aV.aJ mix acQ aI ?_
 rw[c56]
 exact xV
theorem Yy(c:Cl):aV Tryz.prog 57 [c.d] (.ret [.bool c.bare]):=by
 obtain⟨c1,c2,c3,c4,c5,c6⟩:=c
 rw[Cl.C5]
 refine aV.aJ mix acR aI ?_
 rw[c57]
 exact xV
theorem Oj(p:Pg)(hf:p.Fin)(hp:p.Fw)(hq:lQ p=cq p):aV Tryz.prog 19 [p.d] (.ret [.bool (lu p fun _=>true).1, .sl ((lu p fun _=>true).2.1.map D.i), .i (lu p fun _=>true).2.2]):=by
 refine aV.aJ mix acF aI ?_
 rw[c19]
 refine a8 ?_
 refine aS (Oi p hf hp hq 56 _ Yx _ _ fm _ _ fun x o' nx' hx=> ?_)
 rcases hx with rfl|⟨rfl,h⟩
 ·exact xV
 ·exact aap
theorem Bz(p:Pg)(hf:p.Fin)(hp:p.Fw)(hq:lQ p=cq p):aV Tryz.prog 20 [p.d] (.ret [.bool (lu p Cl.bare).1, .sl ((lu p Cl.bare).2.1.map D.i), .i (lu p Cl.bare).2.2]):=by
 refine aV.aJ mix acG aI ?_
 rw[c20]
 refine a8 ?_
 refine aS (Oi p hf hp hq 57 _ Yy _ _ fm _ _ fun x o' nx' hx=> ?_)
 rcases hx with rfl|⟨rfl,h⟩
 ·exact xV
 ·exact aap
end Go.Proofs.YtnkamdiiakdkgaaGreat
end
namespace Go.Proofs.YtnkamdiiakdkgaaGreat
end Go.Proofs.YtnkamdiiakdkgaaGreat
namespace Go.Proofs.YtnkamdiiakdkgaaGreat
end Go.Proofs.YtnkamdiiakdkgaaGreat
section
open Go
set_option maxHeartbeats 4000000
namespace Go.Proofs.YtnkamdiiakdkgaaGreat
theorem Ew{p:Pg}(h1:cq p=true)(c:List Int):xR p c=if oL (dh p) c=true then(if(dh p).length<=60 then(kR (BG (dh p) c),0)else(false,3))else(false,2):=by unfold xR;rw[h1,Bool.true_and]
theorem Ol{p:Pg}(h1:cq p=true):
 (lu p (fun _=>true)=(false,[],3)/\∃b q f,lu p Cl.bare=(b,q,f)/\(f=0\/f=3))\/
 ∃a q b q' f,lu p (fun _=>true)=(a,q,0)/\lu p Cl.bare=(b,q',f)/\(f=0\/f=3)/\(∀x∈[q,q'],x.length<=40/\(x≠[]->xR p x=(false,0)))/\
  (a=true->q=[]/\b=true/\q'=[]/\f=0/\(∀cy,xR p cy=(true,0)\/xR p cy=(false,2))/\∀k,∃q2,lu (pT p k) (fun _=>true)=(true,q2,0)):=by
 have mT:=rD h1
 have hE:∀w,lu p w=if(dh p).length<=60 then pS (dh p) w else(false,[],3):=fun w=>by unfold lu;rw[h1,if_pos rfl]
 by_cases xS:(dh p).length<=60
 ·have hD:∀x,oL (dh p) x=true->kR (BG (dh p) x)=false->xR p x=(false,0):=fun x i1 i2=>by rw[Ew h1,i1,if_pos rfl,if_pos xS,i2]
  have hE1:=hE fun _=>true
  have hE2:=hE Cl.bare
  rw[if_pos xS]at hE1 hE2
  have f2:=w8 mT xS Cl.bare
  have hb:∃b q f,lu p Cl.bare=(b,q,f)/\(f=0\/f=3)/\q.length<=40/\(q≠[]->xR p q=(false,0)):=by
   rcases f2 with⟨_,e⟩|⟨_,q,e,_,i2,i3⟩
   ·exact⟨_,_,_,hE2.trans e, .inr rfl,Nat.zero_le _,fun h=>absurd rfl h⟩
   ·exact⟨_,_,_,hE2.trans e, .inl rfl,i2,fun h=>hD _ (i3 h).1 (i3 h).2.1⟩
  obtain⟨b,q',f,e2,i1,i2,i3⟩:=hb
  rcases w8 mT xS (fun _=>true)with⟨_,e⟩|⟨hg,q,e,j1,j2,j3⟩
  ·exact .inl ⟨hE1.trans e,b,q',f,e2,i1⟩
  ·rw[iU]at hg e j1
   refine .inr ⟨nW (dh p),q,b,q',f,hE1.trans e,e2,i1,fun x hx=> ?_,fun ha=> ?_⟩
   ·simp only[List.mem_cons,List.not_mem_nil,or_false]at hx
    rcases hx with rfl|rfl
    ·exact⟨j2,fun h=>hD _ (j3 h).1 (j3 h).2.1⟩
    ·exact⟨i2,i3⟩
   ·obtain⟨k1,k2⟩:=Ko Cl.bare hg ha
    have e3:b=true/\q'=[]/\f=0:=by
     rcases f2 with⟨h5,_⟩|⟨_,q3,e4,m1,_,_⟩
     ·omega
     ·have:=e2.symm.trans (hE2.trans e4)
      simp only[Prod.mk.injEq]at this
      exact⟨this.1.trans k2,this.2.1.trans (m1 k2),this.2.2⟩
    refine⟨j1 ha,e3.1,e3.2.1,e3.2.2,fun cy=> ?_,fun k=> ?_⟩
    ·rw[Ew h1]
     cases hc:oL (dh p) cy with
     |false=>exact .inr rfl
     |true=>rw[if_pos rfl,if_pos xS,Kn mT hg ha hc];exact .inl rfl
    ·have ma:=Ob h1 k
     obtain⟨c1,c2⟩:=Q7 (p:=p) k
     have aeD:=rD ma
     obtain⟨n1,n2⟩:=zH c2 hg ha
     have Ki:(dh (pT p k)).length<=60:=Nat.le_trans c1 xS
     have CJ:lu (pT p k) (fun _=>true)=pS (dh (pT p k)) fun _=>true:=by unfold lu;rw[ma,if_pos rfl,if_pos Ki]
     rcases w8 aeD Ki (fun _=>true)with⟨h5,_⟩|⟨_,q2,e4,_,_,_⟩
     ·rw[iU]at h5;omega
     ·rw[iU,n2]at e4
      exact⟨q2,CJ.trans e4⟩
 ·refine .inl ⟨by rw[hE,if_neg xS],false,[],3,by rw[hE,if_neg xS], .inr rfl⟩
theorem Ky(hkn:aV Tryz.prog 10 [] (.ret [.bool true]))(p:Pg)(cy:List Int)(t:Int)(hf:p.Fits)(mX:cy.length<=9223372036854775807)(ht:0<=t/\t<=255):
 aV Tryz.prog 8 [p.d, .sl (cy.map .i), .int .u8 t] (.ret [.bool true]):=by
 refine aV.aJ mix fn8 aI ?_
 rw[c8]
 refine a8 ?_
 refine aD (Yg p hf) rfl ?_
 cases h0:iS p with
 |false=>
  refine jz h0 ?_
  exact OV
 |true=>
 obtain⟨gO,YS⟩:=Kd hf h0
 have Yz:=Kg hf h0
 have hq:=HZ p YS
 refine jz h0 ?_
 refine aD (Yf p Yz) rfl ?_
 cases h1:cq p with
 |false=>
  refine jz h1 ?_
  exact OV
 |true=>
 by_cases h50:50<cy.length
 ·have YA:decide ((cy.length:Int)>50)=true:=by simp;omega
  refine On h1 YA ?_
  exact OV
 have YA:decide ((cy.length:Int)>50)=false:=by simp;omega
 refine On h1 YA ?_
 refine a7 (Oj p gO Yz hq) ?_
 refine a8 ?_
 refine a7 (Bz p gO Yz hq) ?_
 rcases Ol h1 with⟨e1,b,q,f,e2,i1⟩|⟨a,q,b,q',f,e1,e2,i1,hx,ha⟩
 ·rw[e1,e2]
  rcases i1 with rfl|rfl
  ·exact Lu
  ·exact Lu
 ·rw[e1,e2]
  refine a8 ?_
  refine az (fun k:Nat=>⟨aU [.d p.d, .d (.sl (cy.map .i)), .d (.int .u8 t), .ptr 0 0, .aa, .aa, .d (.bool false), .d (.bool a), .d (.sl (q.map .i)), .aa, .d (.bool b), .d (.sl (q'.map .i)), .d (.i f), .aa, .aa, .aa, .aa, .aa, .aa, .aa, .aa, .aa, .aa, .aa, .aa, .aa, .aa, .aa, .aa, .aa, .aa, .aa, .aa, .aa, .aa, .aa, .aa, .aa, .aa, .aa, .aa, .aa, .aa, .aa, .aa, .aa, .aa, .aa, .aa, .aa, .aa, .aa, .aa, .aa, .aa, .aa, .aa, .aa, .aa, .aa, .aa, .aa, .aa, .aa, .aa, .aa, .aa, .osl 37 0, .d (.i 2), .d (.i k)],ax (ax (fun _=> .no) 0 (.row p.row)) 37 (.arr 0 37 1 [.sl (q.map .i), .sl (q'.map .i)]),40⟩)
   (fun k=>k<=2) (fun k=>2 - k) 0 (Nat.zero_le _) (bt.aT _ (show 0<=40 from ag) ag fm (fun j hj=>by(repeat(first|rfl|rw[af]|rw[ae _ _ _ _ (by omega)]))) ?_) (fun k hk=> ?_)
  ·exact cz
  replace hk:k<=2:=hk
  by_cases h2:k=2
  ·subst h2
   refine a8 ?_
   cases a with
   |false=>
    refine a8 ?_
    rcases i1 with rfl|rfl
    ·exact Lu
    ·exact Lu
   |true=>
    obtain⟨rfl,rfl,rfl,rfl,g1,g2⟩:=ha rfl
    refine a8 ?_
    refine a7 (wS p gO Yz hq cy ag) ?_
    rcases g1 cy with e3|e3
    all_goals
     rw[e3]
     by_cases ED:p.rules=[]
     ·simp+contextual (disch:=first|omega|simp only[go_sem,false_implies]) only[go_sem,wrap64,if_pos,ED,List.map_nil,List.length_nil]
      exact OV
     ·have hl0:=List.length_pos_iff.2 ED
      have hz:((p.rules.length:Int)==0)=false:=by rw[beq_eq_false_iff_ne];omega
      have ik: ¬ ((p.rules.length:Int)=0):=ag
      obtain⟨k,hk3,tM⟩:∃k:Nat,t.tmod (p.rules.length:Int)=(k:Int)/\k<p.rules.length:=by
       refine⟨t.toNat%p.rules.length, ?_,Nat.mod_lt _ ag⟩
       obtain⟨n,rfl⟩:∃n:Nat,t=n:=⟨t.toNat,ag⟩
       show Int.tmod (Int.ofNat n) (Int.ofNat p.rules.length)=_
       rfl
      have YW:List.take p.rules.length (p.rules.map Rl.d)=p.rules.map Rl.d:=List.take_of_length_le (by rw[List.length_map];exact Nat.le_refl _)
      have BD:List.drop (k+1) (p.rules.map Rl.d)=(p.rules.drop (k+1)).map Rl.d:=List.map_drop.symm
      have ht2:List.take k (p.rules.map Rl.d)=(p.rules.take k).map Rl.d:=List.map_take.symm
      have xi:=Yz.len
      have vl:(p.rules.drop (k+1)).length<=1000:=by rw[List.length_drop];omega
      have YN:(p.rules.take k).length<=1000:=by rw[List.length_take];omega
      have hap:(p.rules.take k).map Rl.d++(p.rules.drop (k+1)).map Rl.d=(pT p k).rules.map Rl.d:=by unfold pT;rw[List.map_append]
      obtain⟨q2,e4⟩:=g2 k
      have hk4:((k:Int)+1).toNat=k+1:=ag
      have Pl:((p.rules.drop (k+1)).map Rl.d).all (fun z=>z.cells.length==6)=true:=by
       rw[List.all_eq_true]
       intro z hz
       obtain⟨r,_,rfl⟩:=List.mem_map.1 hz
       rfl
      have hcp:(p.rules.take k).length+(p.rules.drop (k+1)).length<=140737488355328/\((p.rules.take k).length+(p.rules.drop (k+1)).length)*80<=140737488355328:=ag
      simp+contextual (disch:=first|omega|simp only[go_sem,false_implies]) only[go_sem,wrap64,if_pos,hz,if_neg ik,hk3,hk4,List.length_map,YW,BD,ht2,if_pos Pl,if_pos hcp,hap,Nat.add_assoc,Nat.left_eq_add,Nat.add_eq_left,Nat.add_left_cancel_iff]
      refine aH ai ?_
      refine iD ?_
      refine a7 (Oj (pT p k) (Q8 gO k) (Yr Yz k) (HZ _ (Kp YS k))) ?_
      rw[e4]
      exact Lu
  ·obtain⟨x,hxk,gf⟩:∃x,[q,q'][k]? =some x/\x∈[q,q']:=by
    obtain⟨x,h⟩:=aF (l:=[q,q']) (k:=k) gE
    exact⟨x,h,List.mem_of_getElem? h⟩
   obtain⟨x1,x2⟩:=hx x gf
   have hxd:[D.sl (q.map D.i),D.sl (q'.map D.i)][k]? =some (.sl (x.map .i)):=by
    rw[show [D.sl (q.map D.i),D.sl (q'.map D.i)]=[q,q'].map fun l=>D.sl (l.map D.i)from rfl,List.getElem?_map,hxk];rfl
   have hk2:decide ((k:Int)<2)=true:=by simp;omega
   have x1':decide ((x.length:Int)>40)=false:=by simp;omega
   refine OJ hk2 hxd x1' ?_
   by_cases x0:x=[]
   ·subst x0
    simp+contextual (disch:=first|omega|simp only[go_sem,false_implies]) only[go_sem,wrap64,if_pos,List.length_nil]
    exact aa2
   ·have x0':decide ((x.length:Int)>0)=true:=by
     have:=List.length_pos_iff.2 x0
     simp;omega
    refine jz x0' ?_
    refine a7 (wS p gO Yz hq x ag) ?_
    rw[x2 x0]
    refine a8 ?_
    exact aa2
end Go.Proofs.YtnkamdiiakdkgaaGreat
end
section
namespace Go.Proofs.YtnkamdiiakdkgaaGreat
open Go.ChangeShapes Go.WideShapes Go.RowKit
theorem agu{x:D}(h:D.jj Tryz.prog x 5):∃n:Int,x= .int .u8 n/\(0<=n/\n<=255):=by
 obtain⟨n,h,hw⟩:=ry undT_5 h
 simp[Lit.wf]at hw
 exact⟨n,h,hw⟩
end Go.Proofs.YtnkamdiiakdkgaaGreat
end
section
namespace Go.Proofs.YtnkamdiiakdkgaaGreat
open Go.ChangeShapes Go.WideShapes Go.RowKit
theorem YB{x:D}(h:D.jj Tryz.prog x 37):∃l:List Int,x= .sl (l.map D.i)/\l.length<=9223372036854775807:=by
 obtain⟨es,rfl,h1,h2⟩:=oz undT_37 h
 obtain⟨l,rfl,hl⟩:=lT (fun x h=>by obtain⟨n,h,_⟩:=ry undT_3 h;exact⟨n,h,trivial⟩) es h2
 have:maxLen<=9223372036854775807:=bI
 exact⟨l,rfl,by simp at h1;omega⟩
end Go.Proofs.YtnkamdiiakdkgaaGreat
end
section
namespace Go.Proofs.YtnkamdiiakdkgaaGreat
open Go
def YC:Nat->Bool:=fun g=> !([160,174,175,181,162,177,178,72,101,102,73,103,138,139,140,141,142,143,145,146,164,167,168,180,156,120,119,170,76]:List Nat).contains g
def yP:D:= .agg [.sl [.agg [.str [70,97,108,115,101], .i 0], .agg [.str [84,114,117,101], .i 0], .agg [.str [90], .i 0], .agg [.str [83], .i 1], .agg [.str [78,105,108], .i 0], .agg [.str [67,111,110,115], .i 2]], .sl [.agg [.str [97,100,100], .i 2], .agg [.str [111,114], .i 2], .agg [.str [99,111,105,110], .i 0], .agg [.str [108,101,110], .i 1]], .sl [.agg [.i 0, .sl [.agg [.i 3, .i 2, .sl []], .agg [.i 1, .i 0, .sl []]], .i 1, .i 0, .sl [], .i 1], .agg [.i 0, .sl [.agg [.i 3, .i 3, .sl [.agg [.i 1, .i 0, .sl []]]], .agg [.i 1, .i 1, .sl []]], .i 3, .i 3, .sl [.agg [.i 4, .i 0, .sl [.agg [.i 1, .i 0, .sl []], .agg [.i 1, .i 1, .sl []]]]], .i 2], .agg [.i 1, .sl [.agg [.i 3, .i 1, .sl []], .agg [.i 1, .i 0, .sl []]], .i 3, .i 1, .sl [], .i 1], .agg [.i 1, .sl [.agg [.i 1, .i 0, .sl []], .agg [.i 3, .i 1, .sl []]], .i 3, .i 1, .sl [], .i 1], .agg [.i 1, .sl [.agg [.i 3, .i 0, .sl []], .agg [.i 3, .i 0, .sl []]], .i 3, .i 0, .sl [], .i 0], .agg [.i 2, .sl [], .i 3, .i 2, .sl [], .i 0], .agg [.i 2, .sl [], .i 3, .i 3, .sl [.agg [.i 3, .i 2, .sl []]], .i 0], .agg [.i 3, .sl [.agg [.i 3, .i 5, .sl [.agg [.i 1, .i 0, .sl []], .agg [.i 1, .i 1, .sl []]]]], .i 3, .i 3, .sl [.agg [.i 4, .i 3, .sl [.agg [.i 1, .i 1, .sl []]]]], .i 2], .agg [.i 3, .sl [.agg [.i 1, .i 0, .sl []]], .i 4, .i 0, .sl [.agg [.i 1, .i 1, .sl []], .agg [.i 1, .i 1, .sl []]], .i 2]]]
def yR:D:= .agg [.sl [.agg [.str [70,97,108,115,101], .i 0], .agg [.str [84,114,117,101], .i 0], .agg [.str [90], .i 0], .agg [.str [83], .i 1], .agg [.str [78,105,108], .i 0], .agg [.str [67,111,110,115], .i 2]], .sl [.agg [.str [97,100,100], .i 2], .agg [.str [111,114], .i 2], .agg [.str [99,111,105,110], .i 0], .agg [.str [108,101,110], .i 1]], .sl [.agg [.i 0, .sl [.agg [.i 3, .i 2, .sl []], .agg [.i 1, .i 0, .sl []]], .i 1, .i 0, .sl [], .i 1], .agg [.i 0, .sl [.agg [.i 3, .i 3, .sl [.agg [.i 1, .i 0, .sl []]]], .agg [.i 1, .i 1, .sl []]], .i 3, .i 3, .sl [.agg [.i 4, .i 0, .sl [.agg [.i 1, .i 0, .sl []], .agg [.i 1, .i 1, .sl []]]]], .i 2], .agg [.i 1, .sl [.agg [.i 3, .i 1, .sl []], .agg [.i 1, .i 0, .sl []]], .i 3, .i 1, .sl [], .i 1], .agg [.i 1, .sl [.agg [.i 1, .i 0, .sl []], .agg [.i 3, .i 1, .sl []]], .i 3, .i 1, .sl [], .i 1], .agg [.i 1, .sl [.agg [.i 3, .i 0, .sl []], .agg [.i 3, .i 0, .sl []]], .i 3, .i 0, .sl [], .i 0], .agg [.i 2, .sl [], .i 3, .i 2, .sl [], .i 0], .agg [.i 2, .sl [], .i 3, .i 3, .sl [.agg [.i 3, .i 2, .sl []]], .i 0], .agg [.i 3, .sl [.agg [.i 3, .i 5, .sl [.agg [.i 1, .i 0, .sl []], .agg [.i 1, .i 1, .sl []]]]], .i 3, .i 3, .sl [.agg [.i 4, .i 3, .sl [.agg [.i 1, .i 1, .sl []]]]], .i 2]]]
def yS:D:= .agg [.sl [.agg [.str [70,97,108,115,101], .i 0], .agg [.str [84,114,117,101], .i 0], .agg [.str [90], .i 0], .agg [.str [83], .i 1], .agg [.str [78,105,108], .i 0], .agg [.str [67,111,110,115], .i 2]], .sl [.agg [.str [97,100,100], .i 2], .agg [.str [111,114], .i 2], .agg [.str [99,111,105,110], .i 0], .agg [.str [108,101,110], .i 1]], .sl [.agg [.i 0, .sl [.agg [.i 3, .i 2, .sl []], .agg [.i 1, .i 0, .sl []]], .i 1, .i 0, .sl [], .i 1], .agg [.i 0, .sl [.agg [.i 3, .i 3, .sl [.agg [.i 1, .i 0, .sl []]]], .agg [.i 1, .i 1, .sl []]], .i 3, .i 3, .sl [.agg [.i 4, .i 0, .sl [.agg [.i 1, .i 0, .sl []], .agg [.i 1, .i 1, .sl []]]]], .i 2], .agg [.i 1, .sl [.agg [.i 3, .i 1, .sl []], .agg [.i 1, .i 0, .sl []]], .i 3, .i 1, .sl [], .i 1], .agg [.i 1, .sl [.agg [.i 1, .i 0, .sl []], .agg [.i 3, .i 1, .sl []]], .i 3, .i 1, .sl [], .i 1], .agg [.i 1, .sl [.agg [.i 3, .i 0, .sl []], .agg [.i 3, .i 0, .sl []]], .i 3, .i 0, .sl [], .i 0], .agg [.i 2, .sl [], .i 3, .i 2, .sl [], .i 0], .agg [.i 2, .sl [], .i 3, .i 3, .sl [.agg [.i 3, .i 2, .sl []]], .i 0], .agg [.i 3, .sl [.agg [.i 1, .i 0, .sl []]], .i 4, .i 3, .sl [.agg [.i 1, .i 0, .sl []]], .i 1]]]
def yC:D:= .agg [.sl [.agg [.str [70,97,108,115,101], .i 0], .agg [.str [84,114,117,101], .i 0], .agg [.str [90], .i 0], .agg [.str [83], .i 1], .agg [.str [78,105,108], .i 0], .agg [.str [67,111,110,115], .i 2]], .sl [.agg [.str [97,100,100], .i 2], .agg [.str [111,114], .i 2], .agg [.str [99,111,105,110], .i 0], .agg [.str [108,101,110], .i 1]], .sl [.agg [.i 0, .sl [.agg [.i 3, .i 2, .sl []], .agg [.i 1, .i 0, .sl []]], .i 1, .i 0, .sl [], .i 1], .agg [.i 0, .sl [.agg [.i 3, .i 3, .sl [.agg [.i 1, .i 0, .sl []]]], .agg [.i 1, .i 1, .sl []]], .i 3, .i 3, .sl [.agg [.i 4, .i 0, .sl [.agg [.i 1, .i 0, .sl []], .agg [.i 1, .i 1, .sl []]]]], .i 2], .agg [.i 1, .sl [.agg [.i 3, .i 1, .sl []], .agg [.i 1, .i 0, .sl []]], .i 3, .i 1, .sl [], .i 1], .agg [.i 1, .sl [.agg [.i 1, .i 0, .sl []], .agg [.i 3, .i 1, .sl []]], .i 3, .i 1, .sl [], .i 1], .agg [.i 1, .sl [.agg [.i 3, .i 0, .sl []], .agg [.i 3, .i 0, .sl []]], .i 3, .i 0, .sl [], .i 0], .agg [.i 2, .sl [], .i 3, .i 2, .sl [], .i 0], .agg [.i 2, .sl [], .i 3, .i 3, .sl [.agg [.i 3, .i 2, .sl []]], .i 0], .agg [.i 3, .sl [.agg [.i 1, .i 0, .sl []]], .i 3, .i 5, .sl [.agg [.i 1, .i 0, .sl []], .agg [.i 4, .i 3, .sl [.agg [.i 1, .i 0, .sl []]]]], .i 1]]]
def yT:D:= .agg [.sl [.agg [.str [70,97,108,115,101], .i 0], .agg [.str [84,114,117,101], .i 0], .agg [.str [90], .i 0], .agg [.str [83], .i 1], .agg [.str [78,105,108], .i 0], .agg [.str [67,111,110,115], .i 2]], .sl [.agg [.str [97,100,100], .i 2], .agg [.str [111,114], .i 2], .agg [.str [99,111,105,110], .i 0], .agg [.str [108,101,110], .i 1]], .sl [.agg [.i 0, .sl [.agg [.i 3, .i 3, .sl [.agg [.i 1, .i 0, .sl []]]], .agg [.i 1, .i 1, .sl []]], .i 4, .i 0, .sl [.agg [.i 1, .i 1, .sl []], .agg [.i 1, .i 0, .sl []]], .i 2]]]
def Om:qT Tryz.prog:=qT.of YC [] (fun _ h=>by cases h)
end Go.Proofs.YtnkamdiiakdkgaaGreat
end
section
namespace Go.Proofs.YtnkamdiiakdkgaaGreat
open Go
theorem Rf:oH Tryz.prog bN Om 5000 40 [yP]=some (.ret [.i 0]):=ai
theorem Un:aV Tryz.prog 40 [yP] (.ret [.i 0]):=aV.gP mix gQ Rf
end Go.Proofs.YtnkamdiiakdkgaaGreat
end
section
namespace Go.Proofs.YtnkamdiiakdkgaaGreat
open Go
theorem Rg:oH Tryz.prog bN Om 5000 40 [yR]=some (.ret [.i 0]):=ai
theorem Uo:aV Tryz.prog 40 [yR] (.ret [.i 0]):=aV.gP mix gQ Rg
end Go.Proofs.YtnkamdiiakdkgaaGreat
end
section
namespace Go.Proofs.YtnkamdiiakdkgaaGreat
open Go
theorem Rh:oH Tryz.prog bN Om 5000 40 [yS]=some (.ret [.i 0]):=ai
theorem Up:aV Tryz.prog 40 [yS] (.ret [.i 0]):=aV.gP mix gQ Rh
end Go.Proofs.YtnkamdiiakdkgaaGreat
end
section
namespace Go.Proofs.YtnkamdiiakdkgaaGreat
open Go
theorem Ri:oH Tryz.prog bN Om 5000 40 [yC]=some (.ret [.i 0]):=ai
theorem Uq:aV Tryz.prog 40 [yC] (.ret [.i 0]):=aV.gP mix gQ Ri
end Go.Proofs.YtnkamdiiakdkgaaGreat
end
section
namespace Go.Proofs.YtnkamdiiakdkgaaGreat
open Go
theorem Rj:oH Tryz.prog bN Om 5000 40 [yT]=some (.ret [.i 0]):=ai
theorem Ur:aV Tryz.prog 40 [yT] (.ret [.i 0]):=aV.gP mix gQ Rj
end Go.Proofs.YtnkamdiiakdkgaaGreat
end
section
namespace Go.Proofs.YtnkamdiiakdkgaaGreat
open Go
def Ex:qT Tryz.prog:=qT.of YC [(40,[yP], .ret [.i 0]),(40,[yR], .ret [.i 0]),(40,[yS], .ret [.i 0]),(40,[yC], .ret [.i 0]),(40,[yT], .ret [.i 0])] (fun x h=>by
 simp only[List.mem_cons,List.not_mem_nil,or_false]at h
 rcases h with rfl|rfl|rfl|rfl|rfl
 ·exact Un
 ·exact Uo
 ·exact Up
 ·exact Uq
 ·exact Ur
 )
end Go.Proofs.YtnkamdiiakdkgaaGreat
end
section
namespace Go.Proofs.YtnkamdiiakdkgaaGreat
open Go
theorem YD:oH Tryz.prog bN Ex 5000 11 [yR]=some (.ret [.sl [.agg [.i 1, .i 0, .i 0, .sl [.i 0], .bool false, .sl [.agg [.i 0, .i 0, .bool true], .agg [.i 1, .i 1, .bool false]]], .agg [.i 7, .i 3, .i 3, .sl [.i 0], .bool false, .sl [.agg [.i 0, .i 0, .bool true]]]], .i 0]):=ai
theorem agv:aV Tryz.prog 11 [yR] (.ret [.sl [.agg [.i 1, .i 0, .i 0, .sl [.i 0], .bool false, .sl [.agg [.i 0, .i 0, .bool true], .agg [.i 1, .i 1, .bool false]]], .agg [.i 7, .i 3, .i 3, .sl [.i 0], .bool false, .sl [.agg [.i 0, .i 0, .bool true]]]], .i 0]):=aV.gP mix gQ YD
theorem YE:oH Tryz.prog bN Ex 5000 16 [yR, .sl [.i 0]]=some (.ret [.bool true, .i 0]):=ai
theorem agw:aV Tryz.prog 16 [yR, .sl [.i 0]] (.ret [.bool true, .i 0]):=aV.gP mix gQ YE
end Go.Proofs.YtnkamdiiakdkgaaGreat
end
section
namespace Go.Proofs.YtnkamdiiakdkgaaGreat
open Go
theorem YF:oH Tryz.prog bN Ex 5000 19 [yR]=some (.ret [.bool true, .sl [], .i 0]):=ai
theorem agx:aV Tryz.prog 19 [yR] (.ret [.bool true, .sl [], .i 0]):=aV.gP mix gQ YF
end Go.Proofs.YtnkamdiiakdkgaaGreat
end
section
namespace Go.Proofs.YtnkamdiiakdkgaaGreat
open Go
theorem YG:oH Tryz.prog bN Ex 5000 19 [yS]=some (.ret [.bool false, .sl [.i 1], .i 0]):=ai
theorem agy:aV Tryz.prog 19 [yS] (.ret [.bool false, .sl [.i 1], .i 0]):=aV.gP mix gQ YG
theorem YH:oH Tryz.prog bN Ex 5000 20 [yS]=some (.ret [.bool false, .sl [.i 1], .i 0]):=ai
theorem agz:aV Tryz.prog 20 [yS] (.ret [.bool false, .sl [.i 1], .i 0]):=aV.gP mix gQ YH
end Go.Proofs.YtnkamdiiakdkgaaGreat
end
section
namespace Go.Proofs.YtnkamdiiakdkgaaGreat
open Go
theorem YI:oH Tryz.prog bN Ex 5000 19 [yC]=some (.ret [.bool false, .sl [.i 1], .i 0]):=ai
theorem agA:aV Tryz.prog 19 [yC] (.ret [.bool false, .sl [.i 1], .i 0]):=aV.gP mix gQ YI
theorem YJ:oH Tryz.prog bN Ex 5000 20 [yC]=some (.ret [.bool true, .sl [], .i 0]):=ai
theorem agB:aV Tryz.prog 20 [yC] (.ret [.bool true, .sl [], .i 0]):=aV.gP mix gQ YJ
end Go.Proofs.YtnkamdiiakdkgaaGreat
end
section
namespace Go.Proofs.YtnkamdiiakdkgaaGreat
open Go
theorem YK:oH Tryz.prog bN Ex 5000 19 [yT]=some (.ret [.bool true, .sl [], .i 0]):=ai
theorem agC:aV Tryz.prog 19 [yT] (.ret [.bool true, .sl [], .i 0]):=aV.gP mix gQ YK
end Go.Proofs.YtnkamdiiakdkgaaGreat
end
