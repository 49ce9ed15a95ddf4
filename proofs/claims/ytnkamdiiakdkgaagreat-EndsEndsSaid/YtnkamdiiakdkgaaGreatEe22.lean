/-
  A PART. Conditions: none.
-/
import Derived.Test.YtnkamdiiakdkgaaGreatEe21
set_option linter.unusedSimpArgs false
set_option linter.unusedVariables false
set_option maxHeartbeats 8000000
section
open Go
namespace Go.Proofs.YtnkamdiiakdkgaaGreat
def QP:IC:=Pl.snd.snd.snd
def Gg(o:Nat->aa)(pc pm nx:Nat)(s:GS):Nat->aa:=
 au (au (au o pc (.row [.osl nx 0, .mp pm])) pm (.map 162 37 (pw s))) nx (.arr 0 162 18 ((gs s).map kG))
theorem H9(o:Nat->aa){pc pm nx:Nat}(s:GS)(lc:pc<nx)(cm:pc≠pm):Gg o pc pm nx s pc= .row [.osl nx 0, .mp pm]:=by
 unfold Gg;rw[ab _ _ _ _ (by omega),ab _ _ _ _ cm,af]
theorem Ia(o:Nat->aa){pc pm nx:Nat}(s:GS)(lm:pm<nx):Gg o pc pm nx s pm= .map 162 37 (pw s):=by
 unfold Gg;rw[ab _ _ _ _ (by omega),af]
theorem f2H_0(o:Nat->aa)(pc pm nx:Nat)(s:GS):Gg o pc pm nx s nx= .arr 0 162 18 ((gs s).map kG):=by unfold Gg;rw[af]
theorem m5(o:Nat->aa){pc pm nx:Nat}(s:GS){id:Nat}(h:id<nx\/nx+1<=id)(h1:id≠pc)(h2:id≠pm):Gg o pc pm nx s id=o id:=by
 unfold Gg;rw[ab _ _ _ _ (by omega),ab _ _ _ _ h2,ab _ _ _ _ h1]
theorem yL{o:Nat->aa}{pc pm nx:Nat}(pH:Good o nx)(lc:pc<nx)(lm:pm<nx)(s:GS):Good (Gg o pc pm nx s) (nx+1):=by
 unfold Gg
 refine Good.au (Good.au (Good.au (pH.mono ae) ae ?_) ae rfl) ae rfl
 exact M3
theorem uo{o:Nat->aa}{nx pc pm:Nat}(pH:Good o nx)(eM:∀id,nx<=id->o id= .no)(lc:pc<nx)(lm:pm<nx)(cm:pc≠pm)(b:Nat)(hb:b<=nx){e:Nat->V}{so:Nat->aa}{m:Nat}(L:List V)(s:GS){id ep:Nat}
 (sc:so pc= .row [.osl id ep, .mp pm]) (aq:o id= .no/\id≠pc/\id≠pm) (sa:so id= .arr ep 162 18 ((gs s).map kG)) (sm:so pm= .map 162 37 (pw s)) (sr:∀id,id<nx->id≠pc->id≠pm->so id=o id\/o id= .no)
 (he:lF nx [⟨.osl id ep,162,18,(gs s).map kG⟩] so (fun j=>j=id\/nx<=j) e L 0):aZ b ⟨e,so,m⟩ ⟨aT L,Gg o pc pm nx s,nx+1⟩:=by
 refine aZ.iu (fun j=>j=id\/nx<=j) (.osl id ep) nx L hb (fun j hj=> ?_) (f2H_0 o pc pm nx s) (.inr ⟨id,ep, .inl rfl,rfl,sa⟩) (fun j hj=> ?_) (fun j h1 h2=> ?_) he
 ·by_cases e1:j=pc
  ·subst e1
   rw[H9 o s lc cm]
   exact sq sc (Cj 0 rfl rfl rfl (Pp (fun r hr=>by simp[V.refs]at hr;omega) sn))
  ·by_cases e2:j=pm
   ·subst e2
    rw[Ia o s lm]
    exact bn sm (fun r hr=>by simp[aa.refs]at hr)
   ·rw[m5 o s (.inl hj) e1 e2]
    rcases sr j hj e1 e2 with h|h
    ·exact bn h (fun r hr=>pH.refs j r hr)
    ·rw[h];exact SS
 ·rw[m5 o s (.inr hj) (by omega) (by omega)]
  exact eM j ae
 ·rcases h1 with h|h
  ·subst h;rw[m5 o s (.inl h2) aq.2.1 aq.2.2];exact aq.1
  ·omega
theorem kC_0(g:bI):((kC g).map V.d)[0]? =some (.d (.i g.f)):=rfl
theorem kC_1(g:bI):((kC g).map V.d)[1]? =some (.d (.i g.t)):=rfl
theorem kC_2(g:bI)(h:g.m.length=16):List.take 16 (List.drop 2 ((kC g).map V.d))=(g.m.map D.i).map V.d:=by
 unfold kC
 simp only[List.map_cons,List.drop_succ_cons,List.drop_zero]
 exact o7 g.m h
theorem MB{o:Nat->aa}{nx pc pm:Nat}(pH:Good o nx)(eM:∀id,nx<=id->o id= .no)(lc:pc<nx)(lm:pm<nx)(cm:pc≠pm)(fs:GS)(FV:fs.length<=60)(hlen:∀x∈fs,x.1.m.length=16)(ML:(gs fs).Nodup)(wM:∀y∈fs,y.2.length<=1)
 (abf:∀a b:List Int,a.length<=1000->b.length<=1000->aW Tryz.prog 157 [.sl [.sl (a.map D.i), .sl (b.map D.i)]] (.ret [.sl ((a++b).map D.i)]))
 {K X:V->(Nat->aa)->Nat->Prop}
 (hK:∀s e' o' nx',yr fs 501=some s->nx<=nx'->MA o' nx' pc nx pm e' s->(∀id,id<nx->id≠pc->id≠pm->o' id=o id)->K (.cc []) o' nx')
 (hX:∀o' nx',yr fs 501=none->nx<=nx'->Good o' nx'->(∀id,id<nx->id≠pc->id≠pm->o' id=o id)->X (.d (.iface 154 (.agg []))) o' nx')
 {e:Nat->V} {M:Nat} (e0:e 0= .ptr pc 0) (e6:e 6= .osl nx 0) (e7:e 7= .osl (nx+1) 0) (hM:nx+3<=M):
 lz Tryz.prog 125 nx false QP (rY Tryz.prog [] K X) ⟨e,F6 o pc pm nx fs,M⟩:=by
 have o1:=H6 o fs lc cm
 have o2:=H7 o (pc:=pc) fs lm
 have o3:=flH_0 o pc pm nx fs
 have o4:=flH_1 o pc pm nx fs
 have o5:=flH_2 o pc pm nx fs
 simp only[QP,Pl,IC.snd]
 refine cz (ak e0 (ak e6 e7)) ?_
 refine aw (fun i:Nat×GS=>⟨aT [.ptr pc 0, .ag, .ag, .ag, .ag, .ag, .d (.sl ((gs fs).map kG)), .d (.sl (C7 fs)), .ag, .ag, .ag, .ag, .ag, .ag, .ag, .d (.i i.1)],Gg o pc pm nx i.2,nx+1⟩)
  (fun i=>yr fs i.1=some i.2/\i.1<=i.2.length/\i.2.length<=500/\(∀x∈i.2,x.1.m.length=16)/\(gs i.2).Nodup/\∀y∈i.2,y.2.length<=i.1+1) (fun i=>501 - i.1) (0,fs) ⟨rfl,Nat.zero_le _,Nat.le_trans FV bG,hlen,ML,fun y hy=>wM y hy⟩
  (uo pH eM lc lm cm nx (Nat.le_refl _) _ fs (id:=nx+2) (ep:=0) o1 ⟨eM _ ae,ae,ae⟩ o5 o2 (fun id i1 i2 i3=> .inl (yK o fs (.inl i1) i2 i3)) ?_) (fun i hi=> ?_)
 ·have iz:∀ (j:Nat),j<nx+2->∀g∈[(⟨.osl (nx+2) 0,162,18,(gs fs).map kG⟩:Gr)],∀ep,g.x≠ .osl j ep:=fun j hj g hg ep h=>by
   rw[List.mem_singleton.1 hg]at h;injection h with h;omega
  refine m4 (T6 e0) (fun r hr=>by simp[V.refs]at hr;omega) (dt (dt (dt (dt (dt (qu ?_ ?_ (qu ?_ ?_ ?_)))))))
  ·rw[show ∀ (f:Nat->V) v,au f 15 v 6=f 6 from fun f v=>ab _ _ _ _ (by omega),e6];simp[dS,o3]
  ·intro j hj
   rw[show ∀ (f:Nat->V) v,au f 15 v 6=f 6 from fun f v=>ab _ _ _ _ (by omega),e6]at hj
   simp[V.ids]at hj
   subst hj
   exact⟨.inr (Nat.le_refl _),iz _ ae⟩
  ·rw[show ∀ (f:Nat->V) v,au f 15 v 7=f 7 from fun f v=>ab _ _ _ _ (by omega),e7];simp[dS,o4]
  ·intro j hj
   rw[show ∀ (f:Nat->V) v,au f 15 v 7=f 7 from fun f v=>ab _ _ _ _ (by omega),e7]at hj
   simp[V.ids]at hj
   subst hj
   exact⟨.inr ae,iz _ ae⟩
  ·exact lI
 obtain⟨i,s⟩:=i
 obtain⟨II,Yk,hi3,hi4,hi5,hi6⟩:=hi
 dsimp only at II Yk hi3 hi4 hi5 hi6|-
 have q1:=H9 o s lc cm
 have q2:=Ia o (pc:=pc) s lm
 have q3:=f2H_0 o pc pm nx s
 refine dY (ak q1 (ak q2 q3)) ?_
 refine aj (fun h2=> ?_) (fun h2=> ?_)
 ·replace h2:i<s.length:=by simp[iR]at h2;omega
  obtain⟨⟨g,cg⟩,hx⟩:=az h2
  have hgx:(gs s)[i]? =some g:=by unfold gs;rw[List.getElem?_map,hx];rfl
  have jZ:=hi4 _ (List.mem_of_getElem? hx)
  dsimp only at jZ
  have kt:=mV g jZ
  have kl:=py g jZ
  have oj:=qX g jZ
  have tF:i<(gs s).length:=by rw[iR];exact h2
  have kc:(kG g).cells=kC g:=rfl
  have ad:qy ((kC g).map V.d)=some (kC g):=cE _
  simp+contextual (disch:=first|omega|simp only[go_sem,false_implies]) only[go_sem,wrap64,if_pos,q1,q2,q3,List.length_map,if_pos tF,hgx,kc,kt,kl,ad,b7,oj,Nat.add_assoc,Nat.left_eq_add,Nat.add_eq_left,Nat.add_left_cancel_iff]
  obtain⟨o2,Re⟩:∃o2,o2=au o (nx+15) (.row ((kC g).map V.d)):=⟨_,rfl⟩
  have MC:Good o2 (nx+16):=by rw[Re];exact(pH.mono ae).au ae Gq
  have Ib:∀id,nx+16<=id->o2 id= .no:=fun id aq=>by rw[Re,ab _ _ _ _ (by omega)];exact eM id ae
  have agN:o2 (nx+15)= .row ((kC g).map V.d):=by rw[Re,af]
  refine aw (fun k:Nat×GS=>⟨aT (.ptr pc 0:: .ag:: .ag:: .ag:: .ag:: .ag:: .d (.sl ((gs fs).map kG)):: .d (.sl (C7 fs)):: .ag:: .ag:: .ag:: .ag:: .ag:: .ag:: .ag:: .d (.i i):: .ptr (nx+15) 0::gr (gr (gr (gr (gr (gr (gr (gr [.ag, .ag, .ag, .ag, .ag, .ag, .ag, .d (.sl ((gs fs).map kG)), .d (.i fs.length), .d (.i k.1)])))))))),Gg o2 pc pm (nx+16) k.2,nx+17⟩)
   (fun k=>k.1<=fs.length/\Kd (fs.take k.1) g cg s=some k.2/\i<k.2.length/\k.2.length<=500/\(∀x∈k.2,x.1.m.length=16)/\(gs k.2).Nodup/\k.2[i]? =some (g,cg)/\∀y∈k.2,y.2.length<=i+2) (fun k=>fs.length - k.1) (0,s) ⟨Nat.zero_le _,rfl,h2,hi3,hi4,hi5,hx,fun y hy=>Nat.le_trans (hi6 y hy) (Nat.le_succ _)⟩
   (uo MC Ib ae ae cm nx ae _ s (id:=nx) (ep:=0) ?_ ⟨?_,ae,ae⟩ ?_ ?_ (fun id i1 i2 i3=> ?_) ?_) (fun k hk=> ?_)
  ·(repeat first|rfl|rw[af]|rw[ab _ _ _ _ (by omega)]);exact q1
  ·rw[Re,ab _ _ _ _ (by omega)];exact eM nx (Nat.le_refl _)
  ·(repeat first|rfl|rw[af]|rw[ab _ _ _ _ (by omega)]);exact q3
  ·(repeat first|rfl|rw[af]|rw[ab _ _ _ _ (by omega)]);exact q2
  ·by_cases e1:id=nx+15
   ·subst e1;left;rw[agN];(repeat first|rfl|rw[af]|rw[ab _ _ _ _ (by omega)])
   ·by_cases e2:id=nx
    ·subst e2;right;rw[Re,ab _ _ _ _ (by omega)];exact eM _ (Nat.le_refl _)
    ·left;rw[Re,ab _ _ _ _ e1];(repeat first|rfl|rw[af]|rw[ab _ _ _ _ (by omega)])
     exact m5 o s ae i2 i3
  ·refine m4 cH (fun r hr=>by simp[V.refs]at hr;omega) ?_
   (repeat(first|exact n6|refine dt ?_|refine iU rfl ?_|refine iU (wh (wk ae)) ?_|refine mZ 0 rfl rfl rfl ?_|refine m4 rfl zy4 ?_|refine qu rfl Ru ?_))
   refine iU (by(repeat first|rfl|rw[af]|rw[ab _ _ _ _ (by omega)]);rw[iR]) ?_
   exact lI
  obtain⟨k,s2⟩:=k
  obtain⟨k1,k2,k3,k4,k5,k6,k7,k8⟩:=hk
  dsimp only at k1 k2 k3 k4 k5 k6 k7 k8|-
  have hcg:cg.length<=i+1:=hi6 _ (List.mem_of_getElem? hx)
  have r1:=H9 o2 s2 (pc:=pc) (nx:=nx+16) ae cm
  have r2:=Ia o2 (pc:=pc) (nx:=nx+16) s2 (by omega:pm<nx+16)
  have r3:=f2H_0 o2 pc pm (nx+16) s2
  have r4:Gg o2 pc pm (nx+16) s2 (nx+15)= .row ((kC g).map V.d):=by rw[m5 o2 s2 (.inl (by omega)) (by omega) (by omega)];exact agN
  have nX:(gs fs).length=fs.length:=iR fs
  refine dY (ak r1 (ak r2 (ak r3 r4))) ?_
  refine aj (fun h3=> ?_) (fun h3=> ?_)
  ·replace h3:k<fs.length:=by simp at h3;omega
   obtain⟨⟨x,cx⟩,hfx⟩:=az h3
   have ai6:(gs fs)[k]? =some x:=by unfold gs;rw[List.getElem?_map,hfx];rfl
   have dR:=hlen _ (List.mem_of_getElem? hfx)
   dsimp only at dR
   have hcx:cx.length<=1:=wM _ (List.mem_of_getElem? hfx)
   have fj:=QA (g:=g) (cg:=cg) (s:=s) hfx
   rw[k2]at fj
   unfold zw at fj
   rw[Option.bind_some]at fj
   dsimp only at fj
   have xc:(kG x).cells=kC x:=rfl
   have xt:=mV x dR
   have xl:=py x dR
   have xkl:=qX x dR
   have xad:qy ((kC x).map V.d)=some (kC x):=cE _
   have v1:∀y,au (Gg o2 pc pm (nx+16) s2) (nx+25) y (nx+15)= .row ((kC g).map V.d):=fun y=>by rw[ab _ _ _ _ (by omega)];exact r4
   refine zy (ak r1 (ak r2 (ak r3 (ak r4 (ak ai6 (ak xc (ak xt (ak xl (ak xkl (ak xad (ak nX (ak @b7 (ak @kC_0 @kC_1))))))))))))) ?_
   have w1:∀ (f:Nat->aa) y,au f (nx+21) y pc=f pc:=fun f y=>ab _ _ _ _ ae
   have w2:∀ (f:Nat->aa) y,au f (nx+21) y pm=f pm:=fun f y=>ab _ _ _ _ ae
   refine aj (fun h4=> ?_) (fun h4=> ?_)
   ·replace h4:g.t=x.f:=by simpa using h4
    rw[if_pos h4]at fj
    have gt2:=kC_2 g jZ
    have xt2:=kC_2 x dR
    refine zy (ak r1 (ak r2 (ak r3 (ak r4 (ak w1 (ak w2 (ak xt (ak xl (ak xkl (ak xad (ak gt2 (ak xt2 (ak (dX _ jZ) (ak (dX _ dR) (ak @b7 (ak @kC_0 (ak @kC_1 @cE))))))))))))))))) ?_
    refine aY (Hv g.m x.m jZ dR) rfl ?_
    have hf:=px jZ s2 i k5 k6 k7 0
    rw[show kG g= .agg (kC g)from rfl]at hf
    have ck:=CW g jZ
    rw[show kG g= .agg (kC g)from rfl]at ck
    have Ic:(dn g.m x.m).length=16:=by simp[dn]
    have ai7:qy (V.d (D.i g.f)::V.d (D.i x.t)::List.map V.d (List.map D.i (dn g.m x.m)))=some (kC (jH g x)):=cE (kC (jH g x))
    have ajB:((dn g.m x.m).length=16/\2+(dn g.m x.m).length<=18):=by rw[Ic];decide
    have hby:(C7 fs)[k]? =some (.sl (cx.map D.i)):=by unfold C7;rw[List.getElem?_map,hfx];rfl
    refine zy (ak r1 (ak r2 (ak r3 (ak r4 (ak w1 (ak w2 (ak xt (ak xl (ak xkl (ak xad (ak kt (ak kl (ak oj (ak ad (ak gt2 (ak xt2 (ak (dX _ jZ) (ak (dX _ dR) (ak hf (ak ck (ak hby (ak Ic (ak ai7 (ak @b7 (ak @kC_0 (ak @kC_1 @cE)))))))))))))))))))))))))) ?_
    refine cf (abf cg cx ?_ ?_) ?_
    ·omega
    ·exact Nat.le_trans hcx bG
    refine gu (ak r1 (ak r2 (ak r3 (ak r4 (ak w1 w2))))) ?_
    rw[show(D.agg (D.i g.f::D.i x.t::List.map D.i (dn g.m x.m)))=kG (jH g x)from rfl]
    have TU:(jH g x).m.length=16:=Ic
    have hO:∀ (y1 y2 y3 y4:aa),(∀n,(y1.refs.all fun r=>decide (r<n))=true)->(∀n,(y2.refs.all fun r=>decide (r<n))=true)->(∀n,(y3.refs.all fun r=>decide (r<n))=true)->(∀n,(y4.refs.all fun r=>decide (r<n))=true)->
     MA (au (au (au (au (Gg o2 pc pm (nx+16) s2) (nx+21) y1) (nx+21) y2) (nx+50) y3) (nx+50) y4) (nx+52) pc (nx+16) pm 0 s2:=fun y1 y2 y3 y4 z1 z2 z3 z4=>by
     refine⟨((((yL MC ae ae s2).mono ae).au ae (z1 _)).au ae (z2 _)).au ae (z3 _) |>.au ae (z4 _),ae,ae,ae,ae,cm,ae, ?_, ?_, ?_,k5,k4,k6⟩
     ·rw[ab _ _ _ _ (by omega),ab _ _ _ _ (by omega),ab _ _ _ _ (by omega),ab _ _ _ _ (by omega)];exact r1
     ·rw[ab _ _ _ _ (by omega),ab _ _ _ _ (by omega),ab _ _ _ _ (by omega),ab _ _ _ _ (by omega)];exact r3
     ·rw[ab _ _ _ _ (by omega),ab _ _ _ _ (by omega),ab _ _ _ _ (by omega),ab _ _ _ _ (by omega)];exact r2
    by_cases fY:jH g x∈gs s2
    ·refine oU iA (TR (hO _ _ _ _ (fun n=>by rfl) (fun n=>by simp[aa.refs,j6]) (fun n=>rfl) (fun n=>rfl)) (jH g x) TU (cg++cx) fY) ?_
     refine ir ?_
     refine aB (cj (ids:=[pc,pm]) (nx:=nx) iA iA [([],[]),([17],[]),([17],[]),([23],[]),([23],[]),([17],[]),([17],[]),([23],[]),([23],[]),([],[]),([],[]),([],[]),([0],[]),([0],[]),([0],[]),([17],[]),([1],[]),([],[]),([],[]),([],[]),([],[]),([],[52]),([52],[52]),([0,18,1],[])] bG) ?_
     refine ir ?_
     have MD:q9 s2 (jH g x) (cg++cx)=some s2:=by unfold q9;rw[if_pos fY]
     refine ai (k+1,s2) ⟨h3,fj.trans MD,k3,k4,k5,k6,k7,k8⟩ Nf ?_
     refine uo MC Ib ae ae cm nx ae _ s2 (id:=nx+16) (ep:=0) (T6 r1) ⟨Ib _ ae,ae,ae⟩ (T6 r3) (T6 r2) (fun id i1 i2 i3=> .inl ?_) ?_
     ·(repeat first|rfl|rw[af]|rw[ab _ _ _ _ (by omega)])
      exact Nv
     ·exact Yb
    ·by_cases h5:s2.length=500
     ·have MD:q9 s2 (jH g x) (cg++cx)=none:=by unfold q9;rw[if_neg fY,if_pos h5]
      refine Ht iA (TT (hO _ _ _ _ (fun n=>by rfl) (fun n=>by simp[aa.refs,j6]) (fun n=>rfl) (fun n=>rfl)) (jH g x) TU (cg++cx) MD) ?_
      refine Pn ⟨cj (ids:=[pc,pm]) (nx:=nx) iA iA [([],[]),([17],[]),([17],[]),([23],[]),([23],[]),([17],[]),([17],[]),([23],[]),([23],[]),([],[]),([],[]),([],[]),([0],[]),([0],[]),([0],[]),([17],[]),([1],[]),([],[]),([],[]),([],[]),([],[]),([],[52]),([52],[52]),([0,18,1],[])] bG, ?_⟩
      simp only[vu,OB,Hf,Lv,Lt]
      have hI:Kd fs g cg s=none:=by
       have e1:Kd fs g cg s=(fs.drop (k+1)).foldl (zw g cg) (Kd (fs.take (k+1)) g cg s):=by
        unfold Kd;rw[<- List.foldl_append,List.take_append_drop]
       rw[e1,fj.trans MD];exact yu g cg _
      have hO1:yr fs (i+1)=none:=by
       rw[uj,II]
       show(match s[i]? with|some x=>Kd fs x.1 x.2 s|none=>some s)=none
       rw[hx];exact hI
      have HG:=(((yL MC (pc:=pc) (pm:=pm) ae ae s2).mono (show nx+16+1<=nx+29 from ae)).au (i:=nx+21) (x:= .row ((kC x).map V.d)) ae Gq)
      refine hX _ _ (TI hO1 ae) (Nat.le_trans (Nat.le_add_right nx 29) (Nat.le_add_right _ _)) ⟨fun id aq=> ?_,fun id r hr=> ?_⟩ (fun id i1 i2 i3=> ?_)
      ·have tf:nx+29<=id:=Nat.le_trans (Nat.le_add_right _ _) aq
       split
       ·rfl
       ·rw[dW];exact HG.fresh id tf
      ·split at hr
       ·cases hr
       ·rw[dW]at hr
        exact Nat.lt_of_lt_of_le (HG.refs id r hr) (Nat.le_add_right _ _)
      ·rw[if_neg (by simp;omega),dW,ab _ _ _ _ (by omega),m5 o2 s2 (.inl (by omega)) i2 i3,Re,ab _ _ _ _ (by omega)]
     ·refine oU iA (TS (hO _ _ _ _ (fun n=>by rfl) (fun n=>by simp[aa.refs,j6]) (fun n=>rfl) (fun n=>rfl)) (jH g x) TU (cg++cx) fY h5) ?_
      simp+contextual (disch:=first|omega|simp only[go_sem,false_implies]) only[go_sem,wrap64,if_pos,Nat.add_assoc,Nat.left_eq_add,Nat.add_eq_left,Nat.add_left_cancel_iff,F5]
      refine aB (cj (ids:=[pc,pm]) (nx:=nx) iA iA [([],[]),([17],[]),([17],[]),([23],[]),([23],[]),([17],[]),([17],[]),([23],[]),([23],[]),([],[]),([],[]),([],[]),([0],[]),([0],[]),([0],[]),([17],[]),([1],[]),([],[]),([],[]),([],[]),([],[]),([],[52]),([52],[52]),([0,18,1],[0,18,1])] bG) ?_
      refine ir ?_
      have MD:q9 s2 (jH g x) (cg++cx)=some (s2++[(jH g x,cg++cx)]):=by unfold q9;rw[if_neg fY,if_neg h5]
      have TP:gs (s2++[(jH g x,cg++cx)])=gs s2++[jH g x]:=by simp[gs]
      refine ai (k+1,s2++[(jH g x,cg++cx)]) ⟨h3,fj.trans MD, ?_, ?_, ?_, ?_, ?_, ?_⟩ Nf ?_
      ·rw[List.length_append];omega
      ·exact M9
      ·intro y hy
       rcases List.mem_append.1 hy with h|h
       ·exact k5 y h
       ·rw[List.mem_singleton.1 h];exact TU
      ·rw[TP,List.nodup_append]
       refine⟨k6,aJ,fun a ha b hb e=> ?_⟩
       rw[List.mem_singleton]at hb
       exact fY (hb ▸ e ▸ ha)
      ·dsimp only
       rw[List.getElem?_append_left k3];exact k7
      ·intro y hy
       rcases List.mem_append.1 hy with h|h
       ·exact k8 y h
       ·rw[List.mem_singleton.1 h]
        dsimp only
        rw[List.length_append];omega
      ·refine uo MC Ib ae ae cm nx ae _ _ (id:=nx+16) (ep:=1) cH ⟨Ib _ ae,ae,ae⟩ cH cH (fun id i1 i2 i3=> .inl ?_) ?_
       ·(repeat first|rfl|rw[af]|rw[ab _ _ _ _ (by omega)])
        exact Nv
       ·exact Yb
   ·have Bu: ¬g.t=x.f:=by simpa using h4
    rw[if_neg Bu]at fj
    refine ir ?_
    refine ai (k+1,s2) ⟨h3,fj,k3,k4,k5,k6,k7,k8⟩ Nf ?_
    refine uo MC Ib ae ae cm nx ae _ s2 (id:=nx+16) (ep:=0) (T6 r1) ⟨Ib _ ae,ae,ae⟩ (T6 r3) (T6 r2) (fun id i1 i2 i3=> .inl ?_) ?_
    ·(repeat first|rfl|rw[af]|rw[ab _ _ _ _ (by omega)])
     exact Nv
    ·exact Yb
  ·replace h3:k=fs.length:=by simp at h3;omega
   subst h3
   rw[List.take_length]at k2
   refine dY (ak r1 (ak r2 (ak r3 r4))) ?_
   refine ai (i+1,s2) ⟨by rw[uj,II];show(match s[i]? with|some x=>Kd fs x.1 x.2 s|none=>some s)=_;rw[hx];exact k2,k3,k4,k5,k6,k8⟩ (by show 501 - (i+1)<501 - i;omega) ?_
   refine uo pH eM lc lm cm nx (Nat.le_refl _) _ s2 (id:=nx+16) (ep:=0) r1 ⟨eM _ ae,ae,ae⟩ r3 r2 (fun id i1 i2 i3=> .inl ?_) ?_
   ·rw[m5 o2 s2 (.inl (by omega)) i2 i3,Re,ab _ _ _ _ (by omega)]
   ·exact lI
 ·replace h2:i=s.length:=by simp[iR]at h2;omega
  refine dY (ak q1 (ak q2 q3)) ?_
  refine hK s 0 _ _ (Mu II ae ae) ae ⟨(yL pH lc lm s).mono ae,ae,ae,ae,ae,cm,ae,q1,q3,q2,hi4,hi3,hi5⟩ (fun id i1 i2 i3=>m5 o s (.inl i1) i2 i3)
end Go.Proofs.YtnkamdiiakdkgaaGreat
end
section
open Go
namespace Go.Proofs.YtnkamdiiakdkgaaGreat
theorem QQ{o:Nat->aa}{nx pc pm:Nat}(pH:Good o nx)(eM:∀id,nx<=id->o id= .no)(lc:pc<nx)(lm:pm<nx)(cm:pc≠pm)(oc:o pc= .row [.aU, .mp pm])(om:o pm= .map 162 37 [])
 (l:List Cl) (hl:l.length<=60) (lB:∀c∈l,nF c) (ns:List Int) (hns:∀n∈ns,0<=n/\∃c,l[n.toNat]? =some c) (tJ:ns.length<=60)
 (abf:∀a b:List Int,a.length<=1000->b.length<=1000->aW Tryz.prog 157 [.sl [.sl (a.map D.i), .sl (b.map D.i)]] (.ret [.sl ((a++b).map D.i)]))
 {K X:V->(Nat->aa)->Nat->Prop}
 (hK:∀s e' o' nx',yr (fT l ns) 501=some s->nx<=nx'->MA o' nx' pc nx pm e' s->(∀id,id<nx->id≠pc->id≠pm->o' id=o id)->K (.cc []) o' nx')
 (hX:∀o' nx',yr (fT l ns) 501=none->nx<=nx'->Good o' nx'->(∀id,id<nx->id≠pc->id≠pm->o' id=o id)->X (.d (.iface 154 (.agg []))) o' nx'):
 cX Tryz.prog 120 [.ptr pc 0, .d (.sl (l.map Cl.d)), .d (.sl (ns.map D.i))] o nx K X:=by
 refine cX.aI mix Wq aJ ?_
 rw[Pl]
 show lz _ _ _ _ (.seq _ (.seq _ (.seq _ QP))) _ _
 refine mW ?_
 refine aw (fun k:Nat=>⟨aT (.ptr pc 0:: .d (.sl (l.map Cl.d)):: .d (.sl (ns.map D.i)):: .ag:: .ag:: .ag:: .osl nx 0:: .osl (nx+1) 0::gr [.ag, .ag, .ag, .d (.sl (ns.map D.i)), .d (.i ns.length), .d (.i k)]),F6 o pc pm nx (fT l (ns.take k)),nx+3⟩)
  (fun k=>k<=ns.length) (fun k=>ns.length - k) 0 (Nat.zero_le _) (H8 pH eM lc lm cm (gone:=fun _=>False) (fun _ h=>h.elim) _ [] oc om (fun _ _ _ _=>rfl) (.inl ⟨rfl,rfl,bG⟩) (.inl ⟨rfl,rfl,bG⟩) (.inl ⟨rfl,rfl,bG⟩) (fun _ _ _ h=>V.noConfusion h) (fun _ _ _ h=>V.noConfusion h) (fun _ _ _ h=>V.noConfusion h) ?_) (fun k hk=> ?_)
 ·(repeat(first|exact n6|refine dt ?_|refine iU rfl ?_|refine iU (wh (wk ae)) ?_|refine mZ 0 rfl rfl rfl ?_|refine m4 rfl zy4 ?_|refine qu rfl Ru ?_))
  refine mZ 1 rfl rfl rfl ?_
  exact lI
 ·replace hk:k<=ns.length:=hk
  refine ba ?_
  refine aj (fun h2=> ?_) (fun h2=> ?_)
  ·replace h2:k<ns.length:=by simp at h2;omega
   obtain⟨n,hn⟩:=az h2
   obtain⟨n0,c,hc⟩:=hns n (List.mem_of_getElem? hn)
   have hmc:=lB c (List.mem_of_getElem? hc)
   have fj:=Mv (l:=l) hn
   unfold zx at fj
   rw[hc]at fj
   dsimp only at fj
   have o1:=H6 o (fT l (ns.take k)) lc cm
   have o2:=H7 o (pc:=pc) (fT l (ns.take k)) lm
   have o3:=flH_0 o pc pm nx (fT l (ns.take k))
   have o4:=flH_1 o pc pm nx (fT l (ns.take k))
   have o5:=flH_2 o pc pm nx (fT l (ns.take k))
   have Rg:(fT l (ns.take k)).length<=60:=by
    have h1:(fT l (ns.take k)).length<=([]:GS).length+(ns.take k).length:=wg l (ns.take k) []
    simp only[List.length_nil,List.length_take]at h1
    omega
   have hlen:∀x∈fT l (ns.take k),x.1.m.length=16:=by
    exact UN
   have ML:(gs (fT l (ns.take k))).Nodup:=by
    have:gs (fT l (ns.take k))=lx (pkF l (ns.take k)):=CQ l _ []
    rw[this];exact yz _
   generalize fT l (ns.take k)=s at fj o1 o2 o3 o4 o5 Rg hlen ML|-
   obtain⟨c1,c2,c3,c4,c5,c6⟩:=c
   have hl6:c6.length<=1000000:=by
    have h1:=hmc.eq
    have h2:=eK (cM ⟨c1,c2,c3,c4,c5,c6⟩) 16
    simp only at h1
    rw[<- h1]at h2;omega
   simp+contextual (disch:=first|omega|simp only[go_sem,false_implies]) only[go_sem,wrap64,if_pos,hn,hc,Cl.B4,Option.map_some,List.length_map]
   refine br (SV c6 hl6) ?_
   have hm6:(vz c6).1.length=16:=hmc.Q2.1
   simp+contextual (disch:=first|omega|simp only[go_sem,false_implies]) only[go_sem,wrap64,if_pos,hn,hc,Cl.B4,Option.map_some,List.length_map,o7 _ hm6,cE,b7,dX _ hm6,o1,o2,o3,o4,o5,Nat.add_assoc,Nat.left_eq_add,Nat.add_eq_left,Nat.add_left_cancel_iff]
   obtain⟨g,hg⟩:∃g:bI,g=⟨c2,c3,(vz c6).1⟩:=⟨_,rfl⟩
   have jZ:g.m.length=16:=by rw[hg];exact hm6
   have bD:(V.d (D.i c2)::V.d (D.i c3)::List.map V.d (List.map D.i (vz c6).1))=(kC g).map V.d:=by rw[hg];rfl
   have hgc:C6 ⟨c1,c2,c3,c4,c5,c6⟩=g:=by rw[hg];rfl
   rw[bD]
   rw[hgc]at fj
   clear bD
   refine aB (cj (ids:=[]) (nx:=nx) aJ aJ [([],[]),([],[]),([],[]),([],[]),([],[]),([],[]),([],[]),([],[]),([],[]),([],[]),([16],[]),([],[]),([],[31]),([31],[31])] bG) ?_
   have u1:∀ (f:Nat->aa) x,au f (nx+16) x pc=f pc:=fun f x=>ab _ _ _ _ ae
   have u2:∀ (f:Nat->aa) x,au f (nx+31) x pc=f pc:=fun f x=>ab _ _ _ _ ae
   have u3:∀ (f:Nat->aa) x,au f (nx+16) x pm=f pm:=fun f x=>ab _ _ _ _ ae
   have u4:∀ (f:Nat->aa) x,au f (nx+31) x pm=f pm:=fun f x=>ab _ _ _ _ ae
   have kt:=mV g jZ
   have kl:=py g jZ
   have oj:=qX g jZ
   have ad:qy ((kC g).map V.d)=some (kC g):=cE _
   have ck:=CW g jZ
   rw[show kG g= .agg (kC g)from rfl]at ck
   have zL:(C7 s).length=s.length:=by simp[C7]
   have jb:(gs s).length<=140737488355327/\((gs s).length+1)*144<=140737488355328:=by rw[iR];omega
   have AD:(C7 s).length<=140737488355327/\((C7 s).length+1)*24<=140737488355328:=by rw[zL];omega
   have hs5: ¬s.length=500:=ae
   by_cases fY:g∈gs s
   ·obtain⟨⟨g',cg⟩,hp,C2⟩:=List.mem_map.1 fY
    dsimp only at C2
    rw[C2]at hp
    obtain⟨j,hj⟩:=List.mem_iff_getElem?.1 hp
    have hf:=px jZ s j hlen ML hj 0
    rw[show kG g= .agg (kC g)from rfl]at hf
    refine gu (ak o1 (ak o2 (ak o3 (ak o4 (ak o5 (ak u1 (ak u2 (ak u3 (ak u4 (ak kt (ak kl (ak ad (ak oj (ak hf (ak ck @b7))))))))))))))) ?_
    refine aB (aD rfl) ?_
    simp+contextual (disch:=first|omega|simp only[go_sem,false_implies]) only[go_sem,wrap64,if_pos,o1,o2,o3,o4,o5,u1,u2,u3,u4,kt,kl,ad,b7,oj,hf,ck,if_pos jb,if_pos AD,List.length_map,Nat.add_assoc,Nat.left_eq_add,Nat.add_eq_left,Nat.add_left_cancel_iff]
    refine bg (F8 (s:=s) (pa:=nx+2) (pm:=pm) (e:=0) ⟨?_,ae,ae,ae,ae,cm,ae, ?_, ?_, ?_,hlen,ae,ML⟩ g jZ n ae ae ae ae cH ?_ ?_)
    ·refine Good.au (Good.au (Good.au (Good.au (Good.au ((F7 pH lc lm s).mono ae) ?_ ?_) ?_ ?_) ?_ ?_) ?_ ?_) ?_ ?_
     all_goals first|omega|exact su _ _|simp[aa.refs,j6,V.aM,V.refs]
    ·exact Uk
    ·exact Ul
    ·exact Um
    ·intro s' e' o' nx' h3 h4 h5 h6
     have j7:s'=s:=by
      unfold q9 at h3
      simp only[if_pos fY]at h3
      exact(Option.some.inj h3).symm
     subst j7
     rw[if_pos fY]at fj
     have p0:o' nx= .arr 0 162 18 ((gs s').map kG):=by
      rw[h6 nx (by omega) (by omega) (by omega) (by omega) (by omega)];(repeat first|rfl|rw[af]|rw[ab _ _ _ _ (by omega)]);exact o3
     have p1:o' (nx+1)= .arr 0 37 1 (C7 s'):=by
      rw[h6 (nx+1) (by omega) (by omega) (by omega) (by omega) (by omega)];(repeat first|rfl|rw[af]|rw[ab _ _ _ _ (by omega)]);exact o4
     refine ir ?_
     refine ai (k+1) h2 ae ?_
     rw[fj]
     refine H8 pH eM lc lm cm (gone:=fun id=>nx<=id) (fun id h=>h) _ s' (x:= .osl nx 0) (y:= .osl (nx+1) 0) (z:= .osl (nx+2) e') h5.oc h5.om (fun id i1 i2 i3=> ?_) (.inr ⟨nx,0,Nat.le_refl _,rfl,p0⟩) (.inr ⟨nx+1,0,ae,rfl,p1⟩) (.inr ⟨nx+2,e',ae,rfl,h5.oa⟩)
      (fun id ep fq a b=>by cases a;injection b with b;omega) (fun id ep fq a b=>by cases a;injection b with b;omega) (fun id ep fq a b=>by cases a;injection b with b;omega) ?_
     ·rw[h6 id (by omega) i2 (by omega) i3 (by omega)]
      (repeat first|rfl|rw[af]|rw[ab _ _ _ _ (by omega)])
      exact yK o s' (.inl i1) i2 i3
     ·refine m4 rfl (fun r hr=>by simp[V.refs]at hr;omega) (iU rfl (iU rfl (dt (dt (dt (mZ 0 rfl rfl rfl (mZ 1 rfl rfl rfl ?_)))))))
      exact lI
    ·intro o' nx' h3
     unfold q9 at h3
     simp only[if_pos fY]at h3
     cases h3
   ·have hf:=CV jZ s hlen fY 0
    rw[show kG g= .agg (kC g)from rfl]at hf
    refine gu (ak o1 (ak o2 (ak o3 (ak o4 (ak o5 (ak u1 (ak u2 (ak u3 (ak u4 (ak kt (ak kl (ak ad (ak oj (ak hf (ak ck @b7))))))))))))))) ?_
    refine aB (aD rfl) ?_
    simp+contextual (disch:=first|omega|simp only[go_sem,false_implies]) only[go_sem,wrap64,if_pos,o1,o2,o3,o4,o5,u1,u2,u3,u4,kt,kl,ad,b7,oj,hf,ck,if_pos jb,if_pos AD,List.length_map,Nat.add_assoc,Nat.left_eq_add,Nat.add_eq_left,Nat.add_left_cancel_iff]
    refine bg (F8 (s:=s) (pa:=nx+2) (pm:=pm) (e:=0) ⟨?_,ae,ae,ae,ae,cm,ae, ?_, ?_, ?_,hlen,ae,ML⟩ g jZ n ae ae ae ae cH ?_ ?_)
    ·refine Good.au (Good.au (Good.au (Good.au (Good.au (Good.au (Good.au (Good.au (Good.au (Good.au (Good.au ((F7 pH lc lm s).mono ae) ?_ ?_) ?_ ?_) ?_ ?_) ?_ ?_) ?_ ?_) ?_ ?_) ?_ ?_) ?_ ?_) ?_ ?_) ?_ ?_) ?_ ?_
     all_goals first|omega|exact su _ _|simp[aa.refs,j6,V.aM,V.refs]
    ·exact Uk
    ·exact Ul
    ·exact Um
    ·intro s' e' o' nx' h3 h4 h5 h6
     have j7:s'=s++[(g,[n])]:=by
      unfold q9 at h3
      simp only[if_neg fY,if_neg hs5]at h3
      exact(Option.some.inj h3).symm
     subst j7
     rw[if_neg fY]at fj
     have TP:gs (s++[(g,[n])])=gs s++[g]:=by simp[gs]
     have hby:C7 (s++[(g,[n])])=C7 s++[.sl [.i n]]:=by simp[C7]
     have p0:o' nx= .arr 1 162 18 ((gs (s++[(g,[n])])).map kG):=by
      rw[h6 nx (by omega) (by omega) (by omega) (by omega) (by omega),TP,List.map_append];(repeat first|rfl|rw[af]|rw[ab _ _ _ _ (by omega)])
     have p1:o' (nx+1)= .arr 1 37 1 (C7 (s++[(g,[n])])):=by
      rw[h6 (nx+1) (by omega) (by omega) (by omega) (by omega) (by omega),hby];(repeat first|rfl|rw[af]|rw[ab _ _ _ _ (by omega)])
     refine ir ?_
     refine ai (k+1) h2 ae ?_
     rw[fj]
     refine H8 pH eM lc lm cm (gone:=fun id=>nx<=id) (fun id h=>h) _ (s++[(g,[n])]) (x:= .osl nx 1) (y:= .osl (nx+1) 1) (z:= .osl (nx+2) e') h5.oc h5.om (fun id i1 i2 i3=> ?_) (.inr ⟨nx,1,Nat.le_refl _,rfl,p0⟩) (.inr ⟨nx+1,1,ae,rfl,p1⟩) (.inr ⟨nx+2,e',ae,rfl,h5.oa⟩)
      (fun id ep fq a b=>by cases a;injection b with b;omega) (fun id ep fq a b=>by cases a;injection b with b;omega) (fun id ep fq a b=>by cases a;injection b with b;omega) ?_
     ·rw[h6 id (by omega) i2 (by omega) i3 (by omega)]
      (repeat first|rfl|rw[af]|rw[ab _ _ _ _ (by omega)])
      exact yK o s (.inl i1) i2 i3
     ·(repeat(first|exact n6|refine dt ?_|refine iU rfl ?_|refine iU (wh (wk ae)) ?_|refine mZ 0 rfl rfl rfl ?_|refine m4 rfl zy4 ?_|refine qu rfl Ru ?_))
      refine mZ 1 rfl rfl rfl ?_
      exact lI
    ·intro o' nx' h3
     unfold q9 at h3
     rw[if_neg fY,if_neg hs5]at h3
     cases h3
  ·have GL:k=ns.length:=by simp at h2;omega
   subst GL
   rw[List.take_length]
   have nX:(fT l ns).length<=60:=by
    have h1:(fT l ns).length<=([]:GS).length+ns.length:=wg l ns []
    simp only[List.length_nil]at h1
    omega
   have hlen:∀x∈fT l ns,x.1.m.length=16:=by
    exact UN
   have wM:∀x∈fT l ns,x.2.length<=1:=by
    intro x hx
    obtain⟨n',_,c',uw,rfl⟩:=rh l _ x hx
    exact Nat.le_refl _
   have ML:(gs (fT l ns)).Nodup:=by
    have:gs (fT l ns)=lx (pkF l ns):=CQ l _ []
    rw[this];exact yz _
   generalize fT l ns=fs at hK hX nX hlen wM ML|-
   refine ba ?_
   exact MB pH eM lc lm cm fs nX hlen ML wM abf hK hX cH cH cH ae
end Go.Proofs.YtnkamdiiakdkgaaGreat
end
section
open Go
namespace Go.Proofs.YtnkamdiiakdkgaaGreat
theorem abg(n:Nat)(hn:n<=10000){o:Nat->aa}{nx:Nat}(pH:Good o nx){K X:V->(Nat->aa)->Nat->Prop}(h0:n=0->∀nx',nx<=nx'->K .aU o nx')
 (h1:∀id ep o' nx',nx<=id->id<nx'->Good o' nx'->o' id= .arr ep 3 1 []->(∀j,j<nx->o' j=o j)->K (.osl id ep) o' nx'):cX Tryz.prog 170 [.aU, .d (.i n)] o nx K X:=by
 refine cX.aI mix WR aJ ?_
 rw[aag]
 have hn0:decide ((n:Int)<0)=false:=aJ
 refine cz hn0 ?_
 refine aj (fun h2=> ?_) (fun h2=> ?_)
 ·have h3:0<n:=by simp at h2;omega
  have hc:n<=140737488355327/\n*8<=140737488355328:=ae
  simp+contextual (disch:=first|omega|simp only[go_sem,false_implies]) only[go_sem,wrap64,if_pos,if_pos hc,Int.sub_zero,Nat.add_assoc,Nat.left_eq_add,Nat.add_eq_left,Nat.add_left_cancel_iff]
  change jx _ (YK V.aU [])
  simp+contextual (disch:=first|omega|simp only[go_sem,false_implies]) only[go_sem,wrap64,if_pos,if_pos hc,Int.sub_zero,Nat.add_assoc,Nat.left_eq_add,Nat.add_eq_left,Nat.add_left_cancel_iff]
  exact h1 (nx+18) 1 _ _ ae ae (((pH.mono ae).au ae rfl).au ae rfl) (af _ _ _) (fun j hj=>by rw[ab _ _ _ _ (by omega),ab _ _ _ _ (by omega)])
 ·have h3:n=0:=by simp at h2;omega
  refine ba ?_
  exact h0 h3 _ ae
def szF(a b:List Int):Nat->Int
 |0=>0
 |1=>a.length
 |_=>a.length+b.length
theorem szF_0(a b:List Int):szF a b 0=0:=rfl
theorem szF_1(a b:List Int):szF a b (0+1)=a.length:=rfl
theorem szF_2(a b:List Int):szF a b (1+1)=a.length+b.length:=rfl
def Bc(a b:List Int):Nat->List Int
 |0=>[]
 |1=>a
 |_=>a++b
def ME(a b:List Int)(k:Nat):Nat->aa:=au (fun _=> .no) 0 (.arr 0 3 1 ((Bc a b k).map D.i))
theorem catH_0(a b:List Int)(k:Nat):ME a b k 0= .arr 0 3 1 ((Bc a b k).map D.i):=by unfold ME;rw[af]
theorem vI(a b:List Int)(k:Nat){e:Nat->V}{so:Nat->aa}{m:Nat}(L:List V){x:V}(hx:qQ so (fun _=>True) 3 1 ((Bc a b k).map D.i) x)
 (he:lF 0 [⟨x,3,1,(Bc a b k).map D.i⟩] so (fun _=>True) e L 0):aZ 0 ⟨e,so,m⟩ ⟨aT L,ME a b k,1⟩:=
 aZ.iu (fun _=>True) x 0 L (Nat.le_refl _) lt0 (catH_0 a b k) hx (fun j hj=>by unfold ME;exact ab _ _ _ _ ae) (fun j _ h=>absurd h ae) he
theorem QR(a b:List Int)(ha:a.length<=1000)(hb:b.length<=1000):aW Tryz.prog 157 [.sl [.sl (a.map D.i), .sl (b.map D.i)]] (.ret [.sl ((a++b).map D.i)]):=by
 refine aW.aI mix WJ aJ ?_
 rw[Z9]
 refine mW ?_
 refine aw (fun k:Nat=>⟨aT [.d (.sl [.sl (a.map D.i), .sl (b.map D.i)]), .ag, .ag, .d (.i (szF a b k)), .ag, .ag, .ag, .ag, .ag, .d (.sl [.sl (a.map D.i), .sl (b.map D.i)]), .d (.i 2), .d (.i k)],fun _=> .no,0⟩)
  (fun k=>k<=2) (fun k=>2 - k) 0 (Nat.zero_le _) (aZ.d0 _ ?_) (fun k hk=> ?_)
 ·exact bZ
 replace hk:k<=2:=hk
 match k,hk with
 |0,_=>
  have h0:decide ((0:Int)+(a.length:Int)<0)=false:=aJ
  have RW:decide ((a.length:Int)<0)=false:=aJ
  simp+contextual (disch:=first|omega|simp only[go_sem,false_implies]) only[go_sem,wrap64,if_pos,List.length_map,h0,RW,szF_0,Int.zero_add]
  refine ai (0+1) ae ae (aZ.d0 _ ?_)
  rw[szF_1]
  exact bZ
 |1,_=>
  have h0:decide ((a.length:Int)+(b.length:Int)<0)=false:=by simp;omega
  simp+contextual (disch:=first|omega|simp only[go_sem,false_implies]) only[go_sem,wrap64,if_pos,List.length_map,h0,show szF a b 1=a.length from rfl]
  refine ai (1+1) ae ae (aZ.d0 _ ?_)
  rw[szF_2]
  exact bZ
 |2,_=>
  simp+contextual (disch:=first|omega|simp only[go_sem,false_implies]) only[go_sem,wrap64,if_pos,List.length_map,show szF a b 2=a.length+b.length from rfl]
  unfold uP
  refine Or.inr (Or.inl ?_)
  rw[show((a.length:Int)+b.length)=((a.length+b.length:Nat):Int) by omega]
  have Dl:(Bc a b 0).length+a.length<=140737488355328/\((Bc a b 0).length+a.length)*8<=140737488355328:=by
   show([]:List Int).length+a.length<=_/\(([]:List Int).length+a.length)*8<=_
   simp only[List.length_nil];omega
  have C1:(Bc a b 1).length+b.length<=140737488355328/\((Bc a b 1).length+b.length)*8<=140737488355328:=by
   show a.length+b.length<=_/\(a.length+b.length)*8<=_
   omega
  refine abg (a.length+b.length) ae Good.nil (fun e nx' w8=> ?_) (fun id ep o' nx' i1 i2 i3 i4 i5=> ?_)
  ·refine ba ?_
   refine aw (fun k:Nat=>⟨aT (.d (.sl [.sl (a.map D.i), .sl (b.map D.i)]):: .ag:: .ag:: .ag:: .ag:: .ag:: .osl 0 0::gr (gr [.ag, .ag, .d (.sl [.sl (a.map D.i), .sl (b.map D.i)]), .d (.i 2), .d (.i k)])),ME a b k,1⟩)
    (fun k=>k<=2) (fun k=>2 - k) 0 (Nat.zero_le _) (vI a b 0 _ (.inl ⟨rfl,rfl,bG⟩) ?_) (fun k hk=> ?_)
   ·exact lI
   replace hk:k<=2:=hk
   match k,hk with
   |0,_=>
    have q:=catH_0 a b 0
    exact ac6
   |1,_=>
    have q:=catH_0 a b 1
    exact ac3
   |2,_=>
    have q:=catH_0 a b 2
    refine dY q ?_
    rfl
  ·refine ba ?_
   refine aw (fun k:Nat=>⟨aT (.d (.sl [.sl (a.map D.i), .sl (b.map D.i)]):: .ag:: .ag:: .ag:: .ag:: .ag:: .osl 0 0::gr (gr [.ag, .ag, .d (.sl [.sl (a.map D.i), .sl (b.map D.i)]), .d (.i 2), .d (.i k)])),ME a b k,1⟩)
    (fun k=>k<=2) (fun k=>2 - k) 0 (Nat.zero_le _) (vI a b 0 _ (.inr ⟨id,ep,trivial,rfl,i4⟩) ?_) (fun k hk=> ?_)
   ·exact lI
   replace hk:k<=2:=hk
   match k,hk with
   |0,_=>
    have q:=catH_0 a b 0
    exact ac6
   |1,_=>
    have q:=catH_0 a b 1
    exact ac3
   |2,_=>
    have q:=catH_0 a b 2
    refine dY q ?_
    rfl
end Go.Proofs.YtnkamdiiakdkgaaGreat
end
namespace Go.Proofs.YtnkamdiiakdkgaaGreat
section
variable {P:Program}
def uq(P:Program)(n t t1:Nat)(ic:IC)(aX:List V)(u:V)(o:Nat->aa)(nx:Nat)(K:(Nat->aa)->Nat->Prop):Prop:=
 aX.length<=n/\lz P n nx true ic (LB K) ⟨au (au (cR aX) t u) t1 u,o,nx⟩
def s8(P:Program)(n t t1:Nat)(ic:IC)(aX:List V)(rs:List ResultVar)(K X:V->(Nat->aa)->Nat->Prop)(e:fW)(s:S):Prop:=
 match e with
 | .normal| .ret=>uq P n t t1 ic aX (.d .fN) s.o s.nx fun o nx=>rY P rs K X .ret ⟨s.env,o,nx⟩
 | .bU v=>uq P n t t1 ic aX v s.o s.nx fun o nx=>rY P rs K X .ret ⟨s.env,o,nx⟩
 | .exit _=>False
def CY(P:Program)(n t:Nat)(fm:IC)(fR:List Operand)(g:FuncId)(D:List V->fW->S->Prop)(e:fW)(s:S):Prop:=
 match e with
 | .normal=>lz P n s.nx false fm (D (fR.map s.ev)) ⟨au s.env t (.func (.func g) [] (fR.map s.ev)),s.o,s.nx⟩
 |_=>False
variable {n t t1:Nat}{ic fm:IC}{aX:List V}{rs:List ResultVar}{K X:V->(Nat->aa)->Nat->Prop}{s:S}{v:V}{fR:List Operand}{g:FuncId}{D:List V->fW->S->Prop}{KR:(Nat->aa)->Nat->Prop}
@[go_sem ↓] theorem QS:s8 P n t t1 ic aX rs K X .normal s=uq P n t t1 ic aX (.d .fN) s.o s.nx fun o nx=>rY P rs K X .ret ⟨s.env,o,nx⟩:=propext Iff.rfl
@[go_sem ↓] theorem Xl:s8 P n t t1 ic aX rs K X .ret s=uq P n t t1 ic aX (.d .fN) s.o s.nx fun o nx=>rY P rs K X .ret ⟨s.env,o,nx⟩:=propext Iff.rfl
@[go_sem ↓] theorem Xm:s8 P n t t1 ic aX rs K X (.bU v) s=uq P n t t1 ic aX v s.o s.nx fun o nx=>rY P rs K X .ret ⟨s.env,o,nx⟩:=propext Iff.rfl
@[go_sem ↓] theorem QT:CY P n t fm fR g D .normal s=lz P n s.nx false fm (D (fR.map s.ev)) ⟨au s.env t (.func (.func g) [] (fR.map s.ev)),s.o,s.nx⟩:=propext Iff.rfl
@[go_sem ↓] theorem Xn:LB KR .normal s=KR s.o s.nx:=propext Iff.rfl
@[go_sem ↓] theorem agO:LB KR .ret s=KR s.o s.nx:=propext Iff.rfl
theorem uq.w {o:Nat->aa}{nx:Nat}{K K':(Nat->aa)->Nat->Prop}(hK:∀o nx,K o nx->K' o nx)(h:uq P n t t1 ic aX v o nx K):Hj P n t t1 ic aX v o nx K':=by
 refine⟨h.1,eI ic _ _ _ (fun e s h=> ?_) h.2⟩
 unfold LB at h|-
 cases e with
 |normal=>exact hK _ _ h
 |ret=>exact hK _ _ h
 |_=>exact h
theorem cX.MF (bB:P.follows .mixedOrders=true){f g:FuncId}{jM fm Au:IC}{t m r r1:Nat}{fR:List Operand}{rs:List ResultVar}(hf:Jr P f n jM fm g t fR rs)(hg:Ex P g m r r1 Au)
 {args:List V} {o:Nat->aa} {nx:Nat} {K X:V->(Nat->aa)->Nat->Prop} (hl:args.length<=n)
 (h:lz P n nx true jM (CY P n t fm fR g fun aX=>s8 P m r r1 Au aX rs K X) ⟨cR args,o,nx⟩):cX P f args o nx K X:=by
 refine cX.EA bB hf hg hl (eI jM _ _ _ (fun e s h=> ?_) h)
 unfold CY at h
 unfold Ey
 cases e with
 |normal=>
  refine eI fm _ _ _ (fun e s h=> ?_) h
  unfold s8 at h
  unfold B8
  cases e with
  |normal=>exact uq.w (fun _ _ h=>by unfold rY at h;exact h) h
  |ret=>exact uq.w (fun _ _ h=>by unfold rY at h;exact h) h
  |bU v=>exact uq.w (fun _ _ h=>by unfold rY at h;exact h) h
  |exit _=>exact h
 |_=>exact h
end
attribute [irreducible] uq
theorem qY{P:Program}{n t t1:Nat}{ic:IC}{aX:List V}{v:V}{o:Nat->aa}{nx:Nat}{K:(Nat->aa)->Nat->Prop}(h1:aX.length<=n)(h2:lz P n nx true ic (LB K) ⟨au (au (cR aX) t v) t1 v,o,nx⟩):uq P n t t1 ic aX v o nx K:=by
 unfold uq
 exact⟨h1,h2⟩
end Go.Proofs.YtnkamdiiakdkgaaGreat
section
open Go
namespace Go.Proofs.YtnkamdiiakdkgaaGreat
def Xo:D:= .iface 154 (.agg [])
theorem QU{o:Nat->aa}:ux Tryz.prog o 20 true (.d .fN) (.d .fN)=some (.d (.bool true)):=aK
theorem TV{o:Nat->aa}:ux Tryz.prog o 20 true (.d Xo) (.d .fN)=some (.d (.bool false)):=aK
theorem F9:Bl Tryz.prog 154=true:=aK
theorem Ie(l:List Cl)(hl:l.length<=60)(lB:∀c∈l,nF c)(w:Cl->Bool)(o:Nat->aa)(nx:Nat)(hg:Good o nx)(K X:V->(Nat->aa)->Nat->Prop)
 (hK:∀x o' nx',(x= .d (.sl ((pt l w).2.1.map D.i))\/(x= .aU/\(pt l w).2.1=[]))->nx<=nx'->Good o' nx'->(∀j,j<nx->o' j=o j)->K (.cc [.d (.bool (pt l w).1),x, .d (.i (pt l w).2.2)]) o' nx'):
 cX Tryz.prog 84 [.d (.sl (l.map Cl.d)), .d (.sl ((gG l w l.length).map D.i))] o nx K X:=by
 have hns:∀n∈gG l w l.length,0<=n/\∃c,l[n.toNat]? =some c:=fun n hn=>⟨(sV hn).1,(sV hn).2.imp fun c h=>h.1⟩
 have tJ:(gG l w l.length).length<=60:=Nat.le_trans (yA l w l.length) hl
 rw[Km]at hK
 generalize ajC:gG l w l.length=ns at hK hns tJ|-
 refine cX.MF mix Wi Pk aJ ?_
 rw[ZL,c84]
 refine ir ?_
 refine bg (QQ (pc:=nx+5) (pm:=nx+3) ?_ (fun id aq=> ?_) ae ae ae cH cH l hl lB ns hns tJ QR (fun s e' o1 n1 g1 g2 g3 g4=> ?_) (fun o1 n1 g1 g2 g3 g4=> ?_))
 ·exact eW
 ·(repeat first|rfl|rw[af]|rw[ab _ _ _ _ (by omega)]);exact hg.fresh id ae
 ·have q0:o1 nx= .row [.d (.bool false)]:=by rw[g4 _ (by omega) (by omega) (by omega)];(repeat first|rfl|rw[af]|rw[ab _ _ _ _ (by omega)])
  have q1:o1 (nx+1)= .row [.aU]:=by rw[g4 _ (by omega) (by omega) (by omega)];(repeat first|rfl|rw[af]|rw[ab _ _ _ _ (by omega)])
  have q2:o1 (nx+2)= .row [.d (.i 0)]:=by rw[g4 _ (by omega) (by omega) (by omega)];(repeat first|rfl|rw[af]|rw[ab _ _ _ _ (by omega)])
  have c8:∀j,j<nx->o1 j=o j:=fun j hj=>by rw[g4 j (by omega) (by omega) (by omega)];(repeat first|rfl|rw[af]|rw[ab _ _ _ _ (by omega)])
  rw[g1]at hK
  have qc:=g3.oc;have qa:=g3.oa;have qm:=g3.om
  refine zy (ak q0 (ak q1 (ak q2 (ak qc (ak qa qm))))) ?_
  have b1:nx+10<n1:=g3.la
  have Rf:=g3.len
  have iw:=g3.fin
  refine aw (fun k:Nat=>⟨aT (.ag:: .ag:: .ag:: .ag:: .ptr nx 0:: .ptr (nx+1) 0:: .ptr (nx+2) 0:: .ptr (nx+5) 0::gr [.ag, .ag, .ag, .ag, .ag, .ag, .osl (nx+10) e', .d (.i (gs s).length), .d (.i k)]),au o1 nx (.row [.d (.bool (!(gs (s.take k)).any gH))]),n1⟩)
   (fun k=>k<=s.length/\jn s=((jn (s.drop k)).1&& !(gs (s.take k)).any gH,(jn (s.drop k)).2)) (fun k=>s.length - k) 0 ⟨Nat.zero_le _,by simp[gs]⟩ (aZ.aV _ (show nx+3<=n1 from ae) ae ?_ (fun j hj=>cH) ?_) (fun k hk=> ?_)
  ·exact g3.bE.au ae rfl
  ·exact bZ
  obtain⟨hk,Ga⟩:=hk
  refine zy (ak q0 (ak q1 (ak q2 (ak qc (ak qa qm))))) ?_
  refine aj (fun h2=> ?_) (fun h2=> ?_)
  ·replace h2:k<s.length:=by simp[iR]at h2;omega
   obtain⟨⟨g,cg⟩,hx⟩:=az h2
   have hgx:(gs s)[k]? =some g:=by unfold gs;rw[List.getElem?_map,hx];rfl
   have jZ:=Rf _ (List.mem_of_getElem? hx)
   dsimp only at jZ
   have kc:(kG g).cells=kC g:=rfl
   have kt:=mV g jZ
   have kl:=py g jZ
   have oj:=qX g jZ
   have ad:qy ((kC g).map V.d)=some (kC g):=cE _
   have tF:k<(gs s).length:=by rw[iR];exact h2
   have gt2:=kC_2 g jZ
   have Rn:s.drop k=(g,cg)::s.drop (k+1):=by
    obtain⟨i1,i2⟩:=List.getElem?_eq_some_iff.1 hx
    rw[List.drop_eq_getElem_cons i1,i2]
   have ta:gs (s.take (k+1))=gs (s.take k)++[g]:=by rw[List.take_add_one,hx,Option.toList_some];unfold gs;rw[List.map_append];rfl
   have va:∀x,au o1 nx x (nx+10)= .arr e' 162 18 ((gs s).map kG):=fun x=>by rw[ab _ _ _ _ (by omega)];exact qa
   cases c1:g.f==g.t with
   |false=>
    have c1':(g.f !=g.t)=true:=by simp[bne,c1]
    have hb:gH g=false:=by unfold gH;rw[c1];rfl
    rw[Rn,jn,hb]at Ga
    simp only[Bool.false_eq_true,if_false]at Ga
    simp+contextual (disch:=first|omega|simp only[go_sem,false_implies]) only[go_sem,wrap64,if_pos,va,if_pos tF,hgx,kc,kt,kl,ad,b7,oj,kC_0,kC_1,c1',List.length_map,Nat.add_assoc,Nat.left_eq_add,Nat.add_eq_left,Nat.add_left_cancel_iff]
    refine aB (aD rfl) ?_
    refine ir ?_
    refine ai (k+1) ⟨h2,by rw[ta,List.any_append,List.any_cons,hb,List.any_nil,Bool.or_false,Bool.or_false];exact Ga⟩ ae (aZ.aV _ (show nx+3<=n1 from ae) ae (g3.bE.au ae rfl) (fun j hj=> ?_) ?_)
    ·exact Xx
    ·exact bZ
   |true=>
    have c1':(g.f !=g.t)=false:=by simp[bne,c1]
    have Ic:(dn g.m g.m).length=16:=by simp[dn]
    have heq:=yJ (fun _=> .no) false (dn g.m g.m) g.m Ic jZ
    by_cases aq:dn g.m g.m=g.m
    ·simp+contextual (disch:=first|omega|simp only[go_sem,false_implies]) only[go_sem,wrap64,if_pos,va,if_pos tF,hgx,kc,kt,kl,ad,b7,oj,kC_0,kC_1,c1',List.length_map,gt2,cE,dX _ jZ,Nat.add_assoc,Nat.left_eq_add,Nat.add_eq_left,Nat.add_left_cancel_iff]
     refine aY (Hv g.m g.m jZ jZ) rfl ?_
     simp+contextual (disch:=first|omega|simp only[go_sem,false_implies]) only[go_sem,wrap64,if_pos,va,if_pos tF,hgx,kc,kt,kl,ad,b7,oj,kC_0,kC_1,c1',List.length_map,gt2,cE,dX _ jZ,yJ _ _ _ _ Ic jZ,decide_eq_true aq,Option.bind_some,Nat.add_assoc,Nat.left_eq_add,Nat.add_eq_left,Nat.add_left_cancel_iff]
     refine aB (aD rfl) ?_
     refine ir ?_
     refine aw (fun i:Nat=>⟨aT (.ag:: .ag:: .ag:: .ag:: .ptr nx 0:: .ptr (nx+1) 0:: .ptr (nx+2) 0:: .ptr (nx+5) 0:: .ag:: .ptr (n1+3) 0::gr (.ag:: .ag:: .ag:: .ag:: .osl (nx+10) e':: .d (.i (gs s).length):: .d (.i k)::gr (gr [.ag, .ag, .d (.i i)]))),au (au o1 nx (.row [.d (.bool (!(gs (s.take k)).any gH))])) (n1+3) (.row ((kC g).map V.d)),n1+4⟩)
      (fun i=>i<=4/\∀j,j<i->mg g.m j j≠2) (fun i=>4 - i) 0 ⟨Nat.zero_le _,fun j h=>absurd h (Nat.not_lt_zero _)⟩ (aZ.aV _ (show nx+3<=n1+4 from ae) ae ?_ (fun j hj=> ?_) ?_) (fun i hi=> ?_)
     ·exact((g3.bE.mono ae).au ae rfl).au ae Gq
     ·rw[dW]
     ·exact bZ
     obtain⟨hi,hdg⟩:=hi
     have vb:au (au o1 nx (.row [.d (.bool (!(gs (s.take k)).any gH))])) (n1+3) (.row ((kC g).map V.d)) (n1+3)= .row ((kC g).map V.d):=af _ _ _
     refine ir ?_
     refine aj (fun h3=> ?_) (fun h3=> ?_)
     ·replace h3:i<4:=by simp at h3;omega
      have hrg:((kC g).map V.d)[2+(i*4+i)]? =some (V.d (D.i (mg g.m i i))):=by
       unfold kC
       rw[List.map_cons,List.map_cons,show 2+(i*4+i)=(i*4+i)+1+1 by omega,List.getElem?_cons_succ,List.getElem?_cons_succ]
       exact SX jZ h3 h3
      have ai8:Option.map V.d (kC g)[2+(i*4+i*1)]? =some (V.d (D.i (mg g.m i i))):=by rw[Nat.mul_one, <- List.getElem?_map];exact hrg
      refine gu (ak vb ai8) ?_
      refine aj (fun h4=> ?_) (fun h4=> ?_)
      ·have Bu:mg g.m i i=2:=by simpa using h4
       have hb:gH g=false:=by
        cases e:gH g with
        |false=>rfl
        |true=>exact absurd Bu ((yB.1 e).2.2 i h3)
       rw[Rn,jn,hb]at Ga
       simp only[Bool.false_eq_true,if_false]at Ga
       refine ir ?_
       refine ai (k+1) ⟨h2,by rw[ta,List.any_append,List.any_cons,hb,List.any_nil,Bool.or_false,Bool.or_false];exact Ga⟩ ae (aZ.aV _ (show nx+3<=n1 from ae) ae (g3.bE.au ae rfl) (fun j hj=> ?_) ?_)
       ·exact Xx
       ·exact bZ
      ·have Bu:mg g.m i i≠2:=by simpa using h4
       refine ir ?_
       refine ai (i+1) ⟨h3,fun j hj=> ?_⟩ ae (aZ.aV _ (show nx+3<=n1+4 from ae) ae (((g3.bE.mono ae).au ae rfl).au ae Gq) (fun j hj=>rfl) ?_)
       ·rcases Nat.lt_or_ge j i with h|h
        ·exact hdg j h
        ·rw[show j=i by omega];exact Bu
       ·exact bZ
     ·replace h3:i=4:=by simp at h3;omega
      subst h3
      have hb:gH g=true:=yB.2 ⟨by simpa using c1,aq,hdg⟩
      rw[Rn,jn,hb]at Ga
      simp only[if_true,Bool.false_and]at Ga
      have hf:=px jZ s k g3.len g3.nd hx 0
      rw[show kG g= .agg (kC g)from rfl]at hf
      have ck:=CW g jZ
      rw[show kG g= .agg (kC g)from rfl]at ck
      have w0:∀ (f:Nat->aa) x,au f (n1+3) x nx=f nx:=fun f x=>ab _ _ _ _ ae
      have w1:∀ (f:Nat->aa) x,au f (n1+3) x (nx+1)=f (nx+1):=fun f x=>ab _ _ _ _ ae
      have w3:∀ (f:Nat->aa) x,au f (n1+3) x (nx+3)=f (nx+3):=fun f x=>ab _ _ _ _ ae
      have w5:∀ (f:Nat->aa) x,au f (n1+3) x (nx+5)=f (nx+5):=fun f x=>ab _ _ _ _ ae
      have w6:∀ (f:Nat->aa) x,au f nx x (n1+3)=f (n1+3):=fun f x=>ab _ _ _ _ ae
      refine zy (ak vb (ak w0 (ak w1 (ak w3 (ak w5 (ak w6 (ak q0 (ak q1 (ak qc (ak qm (ak kt (ak kl (ak ad (ak oj (ak hf (ak ck @b7)))))))))))))))) ?_
      refine aB (aD rfl) ?_
      refine ir ?_
      refine aj (fun h5=> ?_) (fun h5=> ?_)
      ·replace h5:cg.length<=40:=by simp at h5;omega
       rw[if_pos h5]at Ga
       refine zy (ak vb (ak w0 (ak w1 (ak w3 (ak w5 (ak w6 (ak q0 (ak q1 (ak qc (ak qm (ak kt (ak kl (ak ad (ak oj (ak hf (ak ck @b7)))))))))))))))) ?_
       refine aB (cj (ids:=[nx+1,nx+3,nx+5]) (nx:=n1) aJ iA [([],[]),([2],[]),([2],[]),([2],[]),([6],[]),([1],[]),([],[0])] bG) ?_
       refine zy (ak vb (ak w0 (ak w1 (ak w3 (ak w5 (ak w6 (ak q0 (ak q1 (ak q2 (ak qc qm)))))))))) ?_
       refine aB (cj (ids:=[]) (nx:=nx) aJ aJ [([0],[]),([1],[]),([0],[0]),([1],[1]),([2],[2])] bG) ?_
       refine ir ?_
       refine qY aJ ?_
       rw[Pj]
       refine gu @QU ?_
       rw[show TN (some s)=((jn s).1,(jn s).2,0)from rfl,Ga]at hK
       dsimp only at hK
       refine hK (.d (.sl (cg.map D.i))) _ _ (.inl rfl) ae ?_ (fun j hj=> ?_)
       ·repeat(first|exact g3.bE.mono ae|refine Good.au ?_ ae rfl|refine Good.au ?_ ae Gq)
       ·exact Ua
      ·replace h5: ¬cg.length<=40:=by simp at h5;omega
       rw[if_neg h5]at Ga
       refine ir ?_
       refine ai (k+1) ⟨h2,by rw[ta,List.any_append,List.any_cons,hb,List.any_nil,Bool.or_false,Bool.or_true,Bool.not_true,Bool.and_false];exact Ga⟩ ae (aZ.aV _ (show nx+3<=n1 from ae) ae (g3.bE.au ae rfl) (fun j hj=> ?_) ?_)
       ·rw[ta,List.any_append,List.any_cons,hb,List.any_nil,Bool.or_false,Bool.or_true,Bool.not_true]
        by_cases ej:j=nx
        ·subst ej;rw[af,af]
        ·rw[ab _ nx _ _ ej,ab _ (n1+3) _ _ (by omega),ab _ nx _ _ ej,ab _ nx _ _ ej]
       ·exact bZ
    ·have hb:gH g=false:=by unfold gH;rw[decide_eq_false aq,Bool.false_and,Bool.and_false]
     rw[Rn,jn,hb]at Ga
     simp only[Bool.false_eq_true,if_false]at Ga
     simp+contextual (disch:=first|omega|simp only[go_sem,false_implies]) only[go_sem,wrap64,if_pos,va,if_pos tF,hgx,kc,kt,kl,ad,b7,oj,kC_0,kC_1,c1',List.length_map,gt2,cE,dX _ jZ,Nat.add_assoc,Nat.left_eq_add,Nat.add_eq_left,Nat.add_left_cancel_iff]
     refine aY (Hv g.m g.m jZ jZ) rfl ?_
     simp+contextual (disch:=first|omega|simp only[go_sem,false_implies]) only[go_sem,wrap64,if_pos,va,if_pos tF,hgx,kc,kt,kl,ad,b7,oj,kC_0,kC_1,c1',List.length_map,gt2,cE,dX _ jZ,yJ _ _ _ _ Ic jZ,decide_eq_false aq,Option.bind_some,Nat.add_assoc,Nat.left_eq_add,Nat.add_eq_left,Nat.add_left_cancel_iff]
     refine aB (aD rfl) ?_
     refine ir ?_
     refine ai (k+1) ⟨h2,by rw[ta,List.any_append,List.any_cons,hb,List.any_nil,Bool.or_false,Bool.or_false];exact Ga⟩ ae (aZ.aV _ (show nx+3<=n1 from ae) ae (g3.bE.au ae rfl) (fun j hj=> ?_) ?_)
     ·exact Xx
     ·exact bZ
  ·replace h2:k=s.length:=by simp[iR]at h2;omega
   subst h2
   rw[List.drop_length,List.take_length]at Ga
   have y1:∀x,au o1 nx x (nx+1)= .row [.aU]:=fun x=>by rw[ab _ _ _ _ (by omega)];exact q1
   have y2:∀x,au o1 nx x (nx+2)= .row [.d (.i 0)]:=fun x=>by rw[ab _ _ _ _ (by omega)];exact q2
   refine gu (ak q0 (ak q1 (ak q2 (ak y1 y2)))) ?_
   refine aB (cj (ids:=[]) (nx:=nx) aJ aJ [([0],[]),([1],[]),([0],[0]),([1],[1]),([2],[2])] bG) ?_
   refine ir ?_
   refine qY aJ ?_
   rw[Pj]
   refine gu @QU ?_
   rw[show TN (some s)=((jn s).1,(jn s).2,0)from rfl,Ga]at hK
   dsimp only[jn]at hK
   rw[Bool.true_and]at hK
   rw[List.take_length]
   refine hK .aU _ _ (.inr ⟨rfl,rfl⟩) ae ?_ (fun j hj=> ?_)
   ·have hg:=g3.bE
    exact eW
   ·exact Ua
 ·have q0:o1 nx= .row [.d (.bool false)]:=by rw[g4 _ (by omega) (by omega) (by omega)];(repeat first|rfl|rw[af]|rw[ab _ _ _ _ (by omega)])
  have q1:o1 (nx+1)= .row [.aU]:=by rw[g4 _ (by omega) (by omega) (by omega)];(repeat first|rfl|rw[af]|rw[ab _ _ _ _ (by omega)])
  have q2:o1 (nx+2)= .row [.d (.i 0)]:=by rw[g4 _ (by omega) (by omega) (by omega)];(repeat first|rfl|rw[af]|rw[ab _ _ _ _ (by omega)])
  have c8:∀j,j<nx->o1 j=o j:=fun j hj=>by rw[g4 j (by omega) (by omega) (by omega)];(repeat first|rfl|rw[af]|rw[ab _ _ _ _ (by omega)])
  rw[g1]at hK
  clear hg
  have hg:=g3
  refine qY aJ ?_
  rw[Pj]
  have z0:∀k,nx≠n1+k:=fun k=>ae
  have z1:∀k,nx+1≠n1+k:=fun k=>ae
  have z2:∀k,nx+2≠n1+k:=fun k=>ae
  have z3:nx≠n1:=ae
  have z4:nx+1≠n1:=ae
  have z5:nx+2≠n1:=ae
  have hem:=TV (o:=o1)
  unfold Xo at hem
  refine gu (ak q0 (ak q1 (ak q2 (ak hem @F9)))) ?_
  exact hK .aU _ _ (.inr ⟨rfl,rfl⟩) ae eW (fun j hj=>by(repeat first|rfl|rw[af]|rw[ab _ _ _ _ (by omega)]);exact c8 j hj)
end Go.Proofs.YtnkamdiiakdkgaaGreat
end
section
open Go
namespace Go.Proofs.YtnkamdiiakdkgaaGreat
theorem Ig(l:List Cl)(hl:l.length<=60)(lB:∀c∈l,nF c)(w:Cl->Bool):
 aW Tryz.prog 84 [.sl (l.map Cl.d), .sl ((gG l w l.length).map D.i)] (.ret [.bool (pt l w).1, .sl ((pt l w).2.1.map D.i), .i (pt l w).2.2]):=by
 refine aW.jP (Ie l hl lB w _ 0 Good.nil _ _ fun x o' nx' hx _ _ _=>⟨[.d (.bool (pt l w).1),x, .d (.i (pt l w).2.2)],_,rfl, ?_,rfl⟩)
 rcases hx with rfl|⟨rfl,h⟩
 ·rfl
 ·rw[h];rfl
def pz(p:Pg)(w:Cl->Bool):Bool×List Int×Int:=if dJ p=true then(if(lq p).length<=60 then pt (lq p) w else(false,[],3))else(false,[],2)
def enH(o:Nat->aa)(nx:Nat)(p:Pg)(ns:List Int):Nat->aa:=au (au o nx (.row p.row)) (nx+1) (.arr 0 3 1 (ns.map D.i))
theorem enH_1(o:Nat->aa)(nx:Nat)(p:Pg)(ns:List Int):enH o nx p ns (nx+1)= .arr 0 3 1 (ns.map D.i):=by unfold enH;rw[af]
theorem Gm(o:Nat->aa)(nx:Nat)(p:Pg)(ns:List Int){j:Nat}(h:j≠nx+1):enH o nx p ns j=au o nx (.row p.row) j:=by unfold enH;rw[ab _ _ _ _ h]
theorem Ih{o:Nat->aa}{nx:Nat}(pH:Good o nx)(p:Pg){e:Nat->V}{so:Nat->aa}{m:Nat}(L:List V)(ns:List Int){x:V}(gone:Nat->Prop)(Rf:∀id,gone id->nx+1<=id)
 (gx:qQ so gone 3 1 (ns.map D.i) x) (sr:∀id,id<nx+1->so id=au o nx (.row p.row) id) (he:lF (nx+1) [⟨x,3,1,ns.map D.i⟩] so gone e L 0):aZ nx ⟨e,so,m⟩ ⟨aT L,enH o nx p ns,nx+1+1⟩:=by
 refine aZ.iu gone x (nx+1) L ae (fun j hj=> ?_) (enH_1 o nx p ns) gx (fun j hj=> ?_) (fun j h1 h2=>absurd (Rf j h1) ae) he
 ·rw[Gm _ _ _ _ (by omega)]
  have hs:=sr j hj
  by_cases e1:j=nx
  ·subst e1
   rw[af]at hs|-
   exact bn hs (fun r hr=>by simp[aa.refs,Pg.row,V.aM,V.refs]at hr)
  ·rw[ab _ _ _ _ e1]at hs|-
   exact bn hs (fun r hr=>Nat.lt_succ_of_lt (pH.refs j r hr))
 ·rw[Gm _ _ _ _ (by omega),ab _ _ _ _ (by omega)]
  exact pH.fresh j ae
theorem QV(p:Pg)(hf:p.Fin)(hp:p.Fw)(hq:nN p=dJ p)(g:Nat)(w:Cl->Bool)(hw:∀c:Cl,aW Tryz.prog g [c.d] (.ret [.bool (w c)]))(o:Nat->aa)(nx:Nat)(hg:Good o nx)(K X:V->(Nat->aa)->Nat->Prop)
 (hK:∀x o' nx',(x= .d (.sl ((pz p w).2.1.map D.i))\/(x= .aU/\(pz p w).2.1=[]))->K (.cc [.d (.bool (pz p w).1),x, .d (.i (pz p w).2.2)]) o' nx'):
 cX Tryz.prog 55 [.d p.d, .func (.func g) [] []] o nx K X:=by
 refine cX.aI mix aeX aJ ?_
 rw[c55]
 refine ir ?_
 refine br (Tx p hf hp hq) ?_
 unfold pz at hK
 cases h1:dJ p with
 |false=>
  have hc:nD p=([],2):=by unfold nD;rw[hq,h1];rfl
  rw[h1]at hK
  refine gu hc ?_
  exact hK .aU _ _ (.inr ⟨rfl,rfl⟩)
 |true=>
 rw[h1,if_pos rfl]at hK
 by_cases FV:(lq p).length<=60
 ·have hc:nD p=(lq p,0):=by unfold nD;rw[hq,h1,if_pos rfl,if_pos FV]
  have lB:=FJ h1
  rw[if_pos FV]at hK
  rw[hc]
  generalize lq p=l at FV lB hK|-
  refine Rr ?_
  refine aw (fun k:Nat=>⟨aT (.ag:: .func (.func g) [] []:: .ag:: .ag:: .ag:: .ag:: .ag:: .d (.sl (l.map Cl.d)):: .ag:: .osl (nx+1) 0::gr [.ag, .ag, .d (.sl (l.map Cl.d)), .d (.i l.length), .d (.i k)]),enH o nx p (gG l w k),nx+1+1⟩)
   (fun k=>k<=l.length) (fun k=>l.length - k) 0 (Nat.zero_le _) (Ih hg p _ (gG l w 0) (fun _=>False) (fun _ h=>h.elim) (x:= .aU) (.inl ⟨rfl,rfl,bG⟩) (fun j hj=> ?_) ?_) (fun k hk=> ?_)
  ·exact cH
  ·exact lI
  replace hk:k<=l.length:=hk
  have q1:=enH_1 o nx p (gG l w k)
  refine zy q1 ?_
  refine aj (fun h2=> ?_) (fun h2=> ?_)
  ·replace h2:k<l.length:=by simp at h2;omega
   obtain⟨c,uE⟩:=az h2
   have tJ:=yA l w k
   have jb:(gG l w k).length<=140737488355327/\((gG l w k).length+1)*8<=140737488355328:=ae
   have GV:=A5 l w uE
   refine gu (ak uE q1) ?_
   refine aF (hw c) rfl ?_
   cases hwc:w c with
   |false=>
    rw[hwc]at GV
    simp only[Bool.false_eq_true,if_false]at GV
    refine ir ?_
    refine ai (k+1) h2 ae ?_
    rw[GV]
    refine Ih hg p _ (gG l w k) (fun id=>nx+1<=id) (fun id h=>h) (x:= .osl (nx+1) 0) (.inr ⟨nx+1,0,Nat.le_refl _,rfl,T6 q1⟩) (fun j hj=> ?_) ?_
    ·exact acM
    ·exact lI
   |true=>
    rw[hwc]at GV
    simp only[if_true]at GV
    simp+contextual (disch:=first|omega|simp only[go_sem,false_implies]) only[go_sem,wrap64,if_pos,q1,List.length_map,if_pos jb,Nat.add_assoc,Nat.left_eq_add,Nat.add_eq_left,Nat.add_left_cancel_iff]
    refine ai (k+1) h2 ae ?_
    rw[GV]
    refine Ih hg p _ (gG l w k++[(k:Int)]) (fun id=>nx+1<=id) (fun id h=>h) (x:= .osl (nx+1) 1) (.inr ⟨nx+1,1,Nat.le_refl _,rfl,by(repeat first|rfl|rw[af]|rw[ab _ _ _ _ (by omega)]);rw[List.map_append];rfl⟩) (fun j hj=> ?_) ?_
    ·exact acM
    ·exact lI
  ·replace h2:k=l.length:=by simp at h2;omega
   subst h2
   refine gu q1 ?_
   refine br (Ig l FV lB w) ?_
   refine ir ?_
   exact hK _ _ _ (.inl rfl)
 ·have hc:nD p=([],3):=by unfold nD;rw[hq,h1,if_pos rfl,if_neg FV]
  rw[if_neg FV]at hK
  refine gu hc ?_
  exact hK .aU _ _ (.inr ⟨rfl,rfl⟩)
theorem abh(c:Cl):aW Tryz.prog 56 [c.d] (.ret [.bool true]):=by
 refine aW.aI mix aeY aJ ?_
 rw[c56]
 exact ur
theorem abi(c:Cl):aW Tryz.prog 57 [c.d] (.ret [.bool c.bare]):=by
 obtain⟨c1,c2,c3,c4,c5,c6⟩:=c
 rw[Cl.B4]
 refine aW.aI mix aeZ aJ ?_
 rw[c57]
 exact ur
theorem abj(p:Pg)(hf:p.Fin)(hp:p.Fw)(hq:nN p=dJ p):aW Tryz.prog 19 [p.d] (.ret [.bool (pz p fun _=>true).1, .sl ((pz p fun _=>true).2.1.map D.i), .i (pz p fun _=>true).2.2]):=by
 refine aW.aI mix aeO aJ ?_
 rw[c19]
 refine ba ?_
 refine bg (QV p hf hp hq 56 _ abh _ _ eW _ _ fun x o' nx' hx=> ?_)
 rcases hx with rfl|⟨rfl,h⟩
 ·exact ur
 ·exact acD
theorem CZ(p:Pg)(hf:p.Fin)(hp:p.Fw)(hq:nN p=dJ p):aW Tryz.prog 20 [p.d] (.ret [.bool (pz p Cl.bare).1, .sl ((pz p Cl.bare).2.1.map D.i), .i (pz p Cl.bare).2.2]):=by
 refine aW.aI mix aeP aJ ?_
 rw[c20]
 refine ba ?_
 refine bg (QV p hf hp hq 57 _ abi _ _ eW _ _ fun x o' nx' hx=> ?_)
 rcases hx with rfl|⟨rfl,h⟩
 ·exact ur
 ·exact acD
end Go.Proofs.YtnkamdiiakdkgaaGreat
end
namespace Go.Proofs.YtnkamdiiakdkgaaGreat
theorem abk{g:bI}:gH g=(g.f==g.t&&(decide (dn g.m g.m=g.m)&& !mI (cn g.m 16))):=by
 have h:((List.range 4).all fun i=>mg g.m i i !=2)= !mI (cn g.m 16):=by
  rw[Bool.eq_iff_iff,List.all_eq_true]
  simp only[List.mem_range,bne_iff_ne,Bool.not_eq_true', <- Bool.not_eq_true,Ev]
  exact⟨fun h ⟨i,hi,h2⟩=>h i hi h2,fun h i hi h2=>h ⟨i,hi,h2⟩⟩
 unfold gH;rw[h]
def Rq(l:List Cl):List bI:=ly (lx l) 501
theorem Ks(l:List Cl):sW l= !(Rq l).any gH:=rfl
theorem TW{l:List Cl}(hl:∀x∈l,nF x)(hn:l.length<=400):aW Tryz.prog 58 [.sl (l.map Cl.d)] (.ret [.bool (decide ((Rq l).length<=500)&&sW l), .bool (decide ((Rq l).length<=500))]):=by
 generalize MQ:(decide ((Rq l).length<=500)&&sW l)=r1
 generalize tH:decide ((Rq l).length<=500)=r2
 refine aW.aI mix ait aJ ?_
 rw[c58]
 refine ba ?_
 refine eU (My hl hn (fun h nx' p1=> ?_) (fun n L c hn5 hL hd hc o' nx' id p1 p2=> ?_))
 ·subst h
  refine ba ?_
  refine aw (fun _:Nat=>⟨aT [.ag, .ag, .d (.bool false), .d (.bool false), .aU, .ag, .d (.i 0)],fun _=> .no,0⟩) (fun _=>True) (fun _=>0) 0 trivial ?_ ?_
  ·exact Yf
  rintro z -
  refine ba ?_
  have h1:Rq []=[]:=A4 (n:=0) rfl (.inl (Nat.zero_le _)) ae
  have h2:sW []=true:=by rw[Ks,h1];rfl
  rw[<- MQ, <- tH,h1,h2]
  rfl
 ·have hG:Rq l=L:=A4 hL hd hn5
  have Rp:=CU hl
  have hLm:∀y∈L,il y.m:=by rw[<- hL];exact yy (P:=fun y=>il y.m) Rp (fun a y ha hy _=>fQ ha (Rp y hy)) n
  have hr:sW l= !L.any gH:=by rw[Ks,hG]
  rw[hG,hr]at MQ
  rw[hG]at tH
  by_cases hJ:L.length<=500
  ·rw[decide_eq_true hJ]at MQ tH
   rw[Bool.true_and]at MQ
   refine cz (decide_eq_true hJ) ?_
   refine aw (fun k:Nat=>⟨aT [.ag, .ag, .d (.bool false), .d (.bool false), .jo 0 0 L.length c, .ag, .d (.i k)],FY 0 L c,1⟩)
    (fun k=>k<=L.length/\L.any gH=(L.drop k).any gH) (fun k=>L.length - k) 0 ⟨Nat.zero_le _,rfl⟩ ?_ ?_
   ·refine pT ae p2 _ ?_
    refine pA (pA (wm rfl ?_))
    refine wm rfl ?_
    refine MV (p:=id) rfl ?_ ?_ ?_
    ·exact if_pos rfl
    ·omega
    refine pA ?_
    refine wm rfl C8
   rintro k ⟨hk,hs⟩
   have i1:=gH1_0 0 L c
   have i2:(FY 0 L c 0).bF=true:=by rw[i1];rfl
   have og:=sZ 0 L c
   refine cz (ak i1 i2) ?_
   refine aj (fun h5=> ?_) (fun h5=> ?_)
   ·replace h5:k<L.length:=by simp at h5;omega
    obtain⟨x,hx⟩:=az h5
    have dR:=hLm x (List.mem_of_getElem? hx)
    obtain⟨a0,a1,a2⟩:=CS (c:=c) hx
    have Rn:(L.drop k).any gH=(gH x||(L.drop (k+1)).any gH):=by
     obtain⟨g1,g2⟩:=List.getElem?_eq_some_iff.1 hx
     rw[List.drop_eq_getElem_cons g1,g2];rfl
    rw[Rn,abk]at hs
    cases hf:x.f==x.t with
    |false=>
     rw[hf,Bool.false_and,Bool.false_or]at hs
     exact zw5
    |true=>
     rw[hf,Bool.true_and]at hs
     refine cz (ak i1 (ak i2 (ak a0 (ak a1 (ak a2 (ak h5 hf)))))) ?_
     have Qz:=nE (cn x.m 16) (cn x.m 16) (Nat.le_trans (eK _ _) ae) (Nat.le_trans (eK _ _) ae)
     rw[pK dR dR]at Qz
     refine cf Qz ?_
     refine cz (ak i1 (ak i2 (ak a0 (ak a1 (ak a2 (ak h5 hf)))))) ?_
     refine cf (yF _ _ (Nat.le_trans (eK _ _) ae) (Nat.le_trans (eK _ _) ae)) ?_
     rw[Kn (fQ dR dR) dR]
     cases he:decide (dn x.m x.m=x.m)with
     |false=>
      rw[he,Bool.false_and,Bool.false_or]at hs
      exact zw5
     |true=>
      rw[he,Bool.true_and]at hs
      refine cz (ak i1 (ak i2 (ak a0 (ak a1 (ak a2 (ak h5 hf)))))) ?_
      refine cf (FO _ (Nat.le_trans (eK _ _) ae)) ?_
      cases ha:mI (cn x.m 16)with
      |false=>
       rw[ha]at hs
       refine cz (ak i1 (ak i2 (ak a0 (ak a1 (ak a2 (ak h5 hf)))))) ?_
       refine aB (aD rfl) ?_
       refine ba ?_
       rw[<- MQ, <- tH,hs]
       rfl
      |true=>
       rw[ha,Bool.not_true,Bool.false_or]at hs
       exact zw5
   ·replace h5:L.length<=k:=by simp at h5;omega
    refine ba ?_
    rw[<- MQ, <- tH,hs,List.drop_eq_nil_of_le h5]
    rfl
  ·rw[decide_eq_false hJ]at MQ tH
   rw[Bool.false_and]at MQ
   refine cz (decide_eq_false hJ) ?_
   rw[<- MQ, <- tH]
theorem MG{l:List Cl}{k:Nat}{x:Cl}(h:l[k]? =some x):(l.take (k+1)).filter Cl.bare=(l.take k).filter Cl.bare++(if x.bare=true then [x]else []):=by
 rw[List.take_add_one,h,List.filter_append]
 congr 1
 simp[List.filter]
 split<;>simp_all
theorem TX{l:List Cl}(hn:l.length<=400):aW Tryz.prog 22 [.sl (l.map Cl.d)] (.ret [.sl ((l.filter Cl.bare).map Cl.d)]):=by
 refine aW.aI mix ah9 aJ ?_
 rw[c22]
 refine ba ?_
 refine aw (fun k:Nat=>⟨aT [.d (.sl (l.map Cl.d)), .ag, .ag, .osl 0 0, .d (.i k)],au (fun _=> .no) 0 (.arr 0 40 6 (((l.take k).filter Cl.bare).map Cl.d)),1⟩)
  (fun k=>k<=l.length) (fun k=>l.length - k) 0 (Nat.zero_le _) (aZ.iu (fun _=>False) .aU 0 _ ae (fun _ h=>ae) (af _ _ _) (.inl ⟨rfl,rfl,bG⟩) (fun j hj=>cH) (fun _ h=>h.elim) ?_) (fun k hk=> ?_)
 ·exact lI
 refine mW ?_
 refine aj (fun h2=> ?_) (fun h2=> ?_)
 ·simp at h2
  obtain⟨x,hx⟩:=az h2
  have yQ:=MG hx
  have nX:((l.take k).filter Cl.bare).length<=l.length:=Nat.le_trans (List.length_filter_le _ _) (by rw[List.length_take];omega)
  cases hb:x.bare with
  |false=>
   rw[hb,if_neg Bool.false_ne_true,List.append_nil]at yQ
   refine cz (ak hx hb) ?_
   refine ai (k+1) h2 ae ?_
   rw[yQ]
   refine aZ.aV _ (show 0<=1 from ae) ae eW (fun _ _=>rfl) ?_
   exact bZ
  |true=>
   rw[hb,if_pos rfl]at yQ
   refine cz (ak hx hb) ?_
   refine ai (k+1) h2 ae (aZ.iu (fun j=>j=0) (.osl 0 1) 0 _ ae (fun _ h=>ae) (af _ _ _) (.inr ⟨0,1,rfl,rfl,by rw[af,yQ,List.map_append,List.map_singleton];rw[<- hb]⟩) (fun j hj=>cH) (fun _ h=>by subst h;omega) ?_)
   exact lI
 ·simp at h2
  have GL:k=l.length:=ae
  subst GL
  refine ba ?_
  rw[List.take_length]
end Go.Proofs.YtnkamdiiakdkgaaGreat
namespace Go.Proofs.YtnkamdiiakdkgaaGreat
theorem TY{l:List Cl}{cy:List Int}(h:HV l cy=true):TE l cy=true:=by
 unfold HV at h
 simp only[Bool.and_eq_true]at h
 exact h.2.1
theorem QW{l:List Cl}(hl:∀c∈l,nF c)(FV:l.length<=60)(w:Cl->Bool)(bare:Bool)(hw:bare=true->∀c,w c=true->c.bare=true):
 aW Tryz.prog 21 [.sl ((l.filter w).map Cl.d), .sl (l.map Cl.d), .bool bare, .bool (pt l w).1, .sl ((pt l w).2.1.map .i), .i (pt l w).2.2] (.ret [.bool true]):=by
 have hll:=List.length_filter_le w l
 have hr:=TW (l:=l.filter w) (fun x hx=>hl x (List.mem_filter.1 hx).1) ae
 rcases QD hl FV w with⟨h1,h2⟩|⟨h1,q,h2,h3,h4,h5⟩
 ·have nS:decide ((Rq (l.filter w)).length<=500)=false:=decide_eq_false (by unfold Rq;omega)
  rw[nS,Bool.false_and]at hr
  rw[h2]
  refine aW.aI mix aeQ aJ ?_
  rw[c21]
  refine ba ?_
  refine aF hr rfl ?_
  exact ur
 ·have nS:decide ((Rq (l.filter w)).length<=500)=true:=decide_eq_true h1
  rw[nS,Bool.true_and]at hr
  rw[h2]
  refine aW.aI mix aeQ aJ ?_
  rw[c21]
  refine ba ?_
  refine aF hr rfl ?_
  cases he:sW (l.filter w)with
  |true=>
   have hq:=h3 he
   subst hq
   exact acm he
  |false=>
   by_cases hq:q=[]
   ·subst hq
    exact acm he
   ·obtain⟨c1,c2,c3⟩:=h5 hq
    have hq0:((q.length:Int)==0)=false:=by
     have:=List.length_pos_iff.2 hq
     rw[beq_eq_false_iff_ne];omega
    have hq1:decide ((q.length:Int)>0)=true:=by
     have:=List.length_pos_iff.2 hq
     simp;omega
    simp+contextual (disch:=first|omega|simp only[go_sem,false_implies]) only[go_sem,wrap64,if_pos,he,bne_self_eq_false,List.length_map,hq0,hq1]
    refine aF (agJ l ae q ae) rfl ?_
    rw[c1]
    refine cz he ?_
    refine aF (FP l ae hl q ae hq (TY c1)) rfl ?_
    rw[c2]
    refine cz he ?_
    refine aw (fun k:Nat=>⟨aT [.ag, .d (.sl (l.map Cl.d)), .d (.bool bare), .ag, .d (.sl (q.map .i)), .ag, .ag, .ag, .ag, .ag, .ag, .ag, .d (.bool false), .ag, .ag, .d (.i k)],fun _=> .no,0⟩)
     (fun k=>k<=q.length) (fun k=>q.length - k) 0 (Nat.zero_le _) (aZ.d0 _ ?_) (fun k hk=> ?_)
    ·exact bZ
    refine mW ?_
    refine aj (fun h6=> ?_) (fun h6=> ?_)
    ·simp at h6
     obtain⟨n,hn⟩:=az h6
     obtain⟨n0,c,n1,n2⟩:=c3 n (List.mem_of_getElem? hn)
     obtain⟨m,rfl⟩:∃m:Nat,n=m:=⟨n.toNat,ae⟩
     replace n1:l[m]? =some c:=n1
     cases bare with
     |false=>
      refine ba ?_
      refine ai (k+1) h6 ae (aZ.d0 _ ?_)
      exact bZ
     |true=>
      have hb:=hw rfl c n2
      refine cz (ak hn (ak n1 hb)) ?_
      refine ai (k+1) h6 ae (aZ.d0 _ ?_)
      exact bZ
    ·exact ur
theorem Ii(hkn:aW Tryz.prog 10 [] (.ret [.bool true]))(p:Pg)(hf:p.Fits):
 aW Tryz.prog 5 [p.d] (.ret [.bool true]):=by
 refine aW.aI mix fn5 aJ ?_
 rw[c5]
 refine ba ?_
 refine aF (aa4 p hf) rfl ?_
 cases h0:jF p with
 |false=>
  refine cz h0 ?_
  exact IA
 |true=>
 obtain⟨iw,hsm⟩:=Mk hf h0
 have hfw:=Mm hf h0
 have hq:=Ti p hsm
 refine cz h0 ?_
 refine br (abj p iw hfw hq) ?_
 refine ba ?_
 refine br (CZ p iw hfw hq) ?_
 refine ba ?_
 refine aF (aa3 p hfw) rfl ?_
 cases h1:dJ p with
 |false=>
  have e1:∀w,pz p w=(false,[],2):=fun w=>by unfold pz;rw[h1];rfl
  rw[e1,e1]
  refine cz h1 ?_
  exact IA
 |true=>
 refine cz h1 ?_
 refine br (Qx p hfw h1) ?_
 have Yx:(lq p).length<=50500000:=by
  have:=pk hfw (sT h1) p.rules.length (Nat.le_refl _)
  have:=hfw.len
  unfold lq;omega
 have lB:=FJ h1
 by_cases FV:(lq p).length<=60
 ·have e1:∀w,pz p w=pt (lq p) w:=fun w=>by unfold pz;rw[h1,if_pos rfl,if_pos FV]
  have zS:=QW lB FV (fun _=>true) false (fun h=>by cases h)
  have ht2:=QW lB FV Cl.bare true (fun _ c h=>h)
  rw[FW]at zS
  rw[e1,e1]
  have hb:=TX (l:=lq p) ae
  generalize lq p=l at Yx lB zS ht2 hb FV
  have hl:decide ((l.length:Int)>60)=false:=by simp;omega
  refine dY hl ?_
  refine aF zS rfl ?_
  refine ba ?_
  refine br hb ?_
  refine ba ?_
  refine aF ht2 rfl ?_
  refine ba ?_
  exact IA
 ·have e1:∀w,pz p w=(false,[],3):=fun w=>by unfold pz;rw[h1,if_pos rfl,if_neg FV]
  rw[e1,e1]
  have hl:decide (((lq p).length:Int)>60)=true:=by simp;omega
  refine dY hl ?_
  exact IA
end Go.Proofs.YtnkamdiiakdkgaaGreat
section
namespace Go.Proofs.YtnkamdiiakdkgaaGreat
open Go
def abl:Nat->Bool:=fun g=> !([160,174,175,181,162,177,178,72,101,102,73,103,138,139,140,141,142,143,145,146,164,167,168,180,156,120,119,170,76]:List Nat).contains g
def yP:D:= .agg [.sl [.agg [.str [70,97,108,115,101], .i 0], .agg [.str [84,114,117,101], .i 0], .agg [.str [90], .i 0], .agg [.str [83], .i 1], .agg [.str [78,105,108], .i 0], .agg [.str [67,111,110,115], .i 2]], .sl [.agg [.str [97,100,100], .i 2], .agg [.str [111,114], .i 2], .agg [.str [99,111,105,110], .i 0], .agg [.str [108,101,110], .i 1]], .sl [.agg [.i 0, .sl [.agg [.i 3, .i 2, .sl []], .agg [.i 1, .i 0, .sl []]], .i 1, .i 0, .sl [], .i 1], .agg [.i 0, .sl [.agg [.i 3, .i 3, .sl [.agg [.i 1, .i 0, .sl []]]], .agg [.i 1, .i 1, .sl []]], .i 3, .i 3, .sl [.agg [.i 4, .i 0, .sl [.agg [.i 1, .i 0, .sl []], .agg [.i 1, .i 1, .sl []]]]], .i 2], .agg [.i 1, .sl [.agg [.i 3, .i 1, .sl []], .agg [.i 1, .i 0, .sl []]], .i 3, .i 1, .sl [], .i 1], .agg [.i 1, .sl [.agg [.i 1, .i 0, .sl []], .agg [.i 3, .i 1, .sl []]], .i 3, .i 1, .sl [], .i 1], .agg [.i 1, .sl [.agg [.i 3, .i 0, .sl []], .agg [.i 3, .i 0, .sl []]], .i 3, .i 0, .sl [], .i 0], .agg [.i 2, .sl [], .i 3, .i 2, .sl [], .i 0], .agg [.i 2, .sl [], .i 3, .i 3, .sl [.agg [.i 3, .i 2, .sl []]], .i 0], .agg [.i 3, .sl [.agg [.i 3, .i 5, .sl [.agg [.i 1, .i 0, .sl []], .agg [.i 1, .i 1, .sl []]]]], .i 3, .i 3, .sl [.agg [.i 4, .i 3, .sl [.agg [.i 1, .i 1, .sl []]]]], .i 2], .agg [.i 3, .sl [.agg [.i 1, .i 0, .sl []]], .i 4, .i 0, .sl [.agg [.i 1, .i 1, .sl []], .agg [.i 1, .i 1, .sl []]], .i 2]]]
def yR:D:= .agg [.sl [.agg [.str [70,97,108,115,101], .i 0], .agg [.str [84,114,117,101], .i 0], .agg [.str [90], .i 0], .agg [.str [83], .i 1], .agg [.str [78,105,108], .i 0], .agg [.str [67,111,110,115], .i 2]], .sl [.agg [.str [97,100,100], .i 2], .agg [.str [111,114], .i 2], .agg [.str [99,111,105,110], .i 0], .agg [.str [108,101,110], .i 1]], .sl [.agg [.i 0, .sl [.agg [.i 3, .i 2, .sl []], .agg [.i 1, .i 0, .sl []]], .i 1, .i 0, .sl [], .i 1], .agg [.i 0, .sl [.agg [.i 3, .i 3, .sl [.agg [.i 1, .i 0, .sl []]]], .agg [.i 1, .i 1, .sl []]], .i 3, .i 3, .sl [.agg [.i 4, .i 0, .sl [.agg [.i 1, .i 0, .sl []], .agg [.i 1, .i 1, .sl []]]]], .i 2], .agg [.i 1, .sl [.agg [.i 3, .i 1, .sl []], .agg [.i 1, .i 0, .sl []]], .i 3, .i 1, .sl [], .i 1], .agg [.i 1, .sl [.agg [.i 1, .i 0, .sl []], .agg [.i 3, .i 1, .sl []]], .i 3, .i 1, .sl [], .i 1], .agg [.i 1, .sl [.agg [.i 3, .i 0, .sl []], .agg [.i 3, .i 0, .sl []]], .i 3, .i 0, .sl [], .i 0], .agg [.i 2, .sl [], .i 3, .i 2, .sl [], .i 0], .agg [.i 2, .sl [], .i 3, .i 3, .sl [.agg [.i 3, .i 2, .sl []]], .i 0], .agg [.i 3, .sl [.agg [.i 3, .i 5, .sl [.agg [.i 1, .i 0, .sl []], .agg [.i 1, .i 1, .sl []]]]], .i 3, .i 3, .sl [.agg [.i 4, .i 3, .sl [.agg [.i 1, .i 1, .sl []]]]], .i 2]]]
def yS:D:= .agg [.sl [.agg [.str [70,97,108,115,101], .i 0], .agg [.str [84,114,117,101], .i 0], .agg [.str [90], .i 0], .agg [.str [83], .i 1], .agg [.str [78,105,108], .i 0], .agg [.str [67,111,110,115], .i 2]], .sl [.agg [.str [97,100,100], .i 2], .agg [.str [111,114], .i 2], .agg [.str [99,111,105,110], .i 0], .agg [.str [108,101,110], .i 1]], .sl [.agg [.i 0, .sl [.agg [.i 3, .i 2, .sl []], .agg [.i 1, .i 0, .sl []]], .i 1, .i 0, .sl [], .i 1], .agg [.i 0, .sl [.agg [.i 3, .i 3, .sl [.agg [.i 1, .i 0, .sl []]]], .agg [.i 1, .i 1, .sl []]], .i 3, .i 3, .sl [.agg [.i 4, .i 0, .sl [.agg [.i 1, .i 0, .sl []], .agg [.i 1, .i 1, .sl []]]]], .i 2], .agg [.i 1, .sl [.agg [.i 3, .i 1, .sl []], .agg [.i 1, .i 0, .sl []]], .i 3, .i 1, .sl [], .i 1], .agg [.i 1, .sl [.agg [.i 1, .i 0, .sl []], .agg [.i 3, .i 1, .sl []]], .i 3, .i 1, .sl [], .i 1], .agg [.i 1, .sl [.agg [.i 3, .i 0, .sl []], .agg [.i 3, .i 0, .sl []]], .i 3, .i 0, .sl [], .i 0], .agg [.i 2, .sl [], .i 3, .i 2, .sl [], .i 0], .agg [.i 2, .sl [], .i 3, .i 3, .sl [.agg [.i 3, .i 2, .sl []]], .i 0], .agg [.i 3, .sl [.agg [.i 1, .i 0, .sl []]], .i 4, .i 3, .sl [.agg [.i 1, .i 0, .sl []]], .i 1]]]
def yC:D:= .agg [.sl [.agg [.str [70,97,108,115,101], .i 0], .agg [.str [84,114,117,101], .i 0], .agg [.str [90], .i 0], .agg [.str [83], .i 1], .agg [.str [78,105,108], .i 0], .agg [.str [67,111,110,115], .i 2]], .sl [.agg [.str [97,100,100], .i 2], .agg [.str [111,114], .i 2], .agg [.str [99,111,105,110], .i 0], .agg [.str [108,101,110], .i 1]], .sl [.agg [.i 0, .sl [.agg [.i 3, .i 2, .sl []], .agg [.i 1, .i 0, .sl []]], .i 1, .i 0, .sl [], .i 1], .agg [.i 0, .sl [.agg [.i 3, .i 3, .sl [.agg [.i 1, .i 0, .sl []]]], .agg [.i 1, .i 1, .sl []]], .i 3, .i 3, .sl [.agg [.i 4, .i 0, .sl [.agg [.i 1, .i 0, .sl []], .agg [.i 1, .i 1, .sl []]]]], .i 2], .agg [.i 1, .sl [.agg [.i 3, .i 1, .sl []], .agg [.i 1, .i 0, .sl []]], .i 3, .i 1, .sl [], .i 1], .agg [.i 1, .sl [.agg [.i 1, .i 0, .sl []], .agg [.i 3, .i 1, .sl []]], .i 3, .i 1, .sl [], .i 1], .agg [.i 1, .sl [.agg [.i 3, .i 0, .sl []], .agg [.i 3, .i 0, .sl []]], .i 3, .i 0, .sl [], .i 0], .agg [.i 2, .sl [], .i 3, .i 2, .sl [], .i 0], .agg [.i 2, .sl [], .i 3, .i 3, .sl [.agg [.i 3, .i 2, .sl []]], .i 0], .agg [.i 3, .sl [.agg [.i 1, .i 0, .sl []]], .i 3, .i 5, .sl [.agg [.i 1, .i 0, .sl []], .agg [.i 4, .i 3, .sl [.agg [.i 1, .i 0, .sl []]]]], .i 1]]]
def yT:D:= .agg [.sl [.agg [.str [70,97,108,115,101], .i 0], .agg [.str [84,114,117,101], .i 0], .agg [.str [90], .i 0], .agg [.str [83], .i 1], .agg [.str [78,105,108], .i 0], .agg [.str [67,111,110,115], .i 2]], .sl [.agg [.str [97,100,100], .i 2], .agg [.str [111,114], .i 2], .agg [.str [99,111,105,110], .i 0], .agg [.str [108,101,110], .i 1]], .sl [.agg [.i 0, .sl [.agg [.i 3, .i 3, .sl [.agg [.i 1, .i 0, .sl []]]], .agg [.i 1, .i 1, .sl []]], .i 4, .i 0, .sl [.agg [.i 1, .i 1, .sl []], .agg [.i 1, .i 0, .sl []]], .i 2]]]
def QX:se Tryz.prog:=se.of abl [] (fun _ h=>by cases h)
end Go.Proofs.YtnkamdiiakdkgaaGreat
end
section
namespace Go.Proofs.YtnkamdiiakdkgaaGreat
open Go
theorem TZ:p9 Tryz.prog tab QX 5000 40 [yP]=some (.ret [.i 0]):=aK
theorem Xp:aW Tryz.prog 40 [yP] (.ret [.i 0]):=aW.iM mix iN TZ
end Go.Proofs.YtnkamdiiakdkgaaGreat
end
section
namespace Go.Proofs.YtnkamdiiakdkgaaGreat
open Go
theorem T0:p9 Tryz.prog tab QX 5000 40 [yR]=some (.ret [.i 0]):=aK
theorem Xq:aW Tryz.prog 40 [yR] (.ret [.i 0]):=aW.iM mix iN T0
end Go.Proofs.YtnkamdiiakdkgaaGreat
end
section
namespace Go.Proofs.YtnkamdiiakdkgaaGreat
open Go
theorem T1:p9 Tryz.prog tab QX 5000 40 [yS]=some (.ret [.i 0]):=aK
theorem Xr:aW Tryz.prog 40 [yS] (.ret [.i 0]):=aW.iM mix iN T1
end Go.Proofs.YtnkamdiiakdkgaaGreat
end
section
namespace Go.Proofs.YtnkamdiiakdkgaaGreat
open Go
theorem T3:p9 Tryz.prog tab QX 5000 40 [yC]=some (.ret [.i 0]):=aK
theorem Xs:aW Tryz.prog 40 [yC] (.ret [.i 0]):=aW.iM mix iN T3
end Go.Proofs.YtnkamdiiakdkgaaGreat
end
section
namespace Go.Proofs.YtnkamdiiakdkgaaGreat
open Go
theorem T4:p9 Tryz.prog tab QX 5000 40 [yT]=some (.ret [.i 0]):=aK
theorem Xt:aW Tryz.prog 40 [yT] (.ret [.i 0]):=aW.iM mix iN T4
end Go.Proofs.YtnkamdiiakdkgaaGreat
end
section
namespace Go.Proofs.YtnkamdiiakdkgaaGreat
open Go
def Gb:se Tryz.prog:=se.of abl [(40,[yP], .ret [.i 0]),(40,[yR], .ret [.i 0]),(40,[yS], .ret [.i 0]),(40,[yC], .ret [.i 0]),(40,[yT], .ret [.i 0])] (fun x h=>by
 simp only[List.mem_cons,List.not_mem_nil,or_false]at h
 rcases h with rfl|rfl|rfl|rfl|rfl
 ·exact Xp
 ·exact Xq
 ·exact Xr
 ·exact Xs
 ·exact Xt
 )
end Go.Proofs.YtnkamdiiakdkgaaGreat
end
section
namespace Go.Proofs.YtnkamdiiakdkgaaGreat
open Go
theorem abm:p9 Tryz.prog tab Gb 5000 11 [yR]=some (.ret [.sl [.agg [.i 1, .i 0, .i 0, .sl [.i 0], .bool false, .sl [.agg [.i 0, .i 0, .bool true], .agg [.i 1, .i 1, .bool false]]], .agg [.i 7, .i 3, .i 3, .sl [.i 0], .bool false, .sl [.agg [.i 0, .i 0, .bool true]]]], .i 0]):=aK
theorem ai9:aW Tryz.prog 11 [yR] (.ret [.sl [.agg [.i 1, .i 0, .i 0, .sl [.i 0], .bool false, .sl [.agg [.i 0, .i 0, .bool true], .agg [.i 1, .i 1, .bool false]]], .agg [.i 7, .i 3, .i 3, .sl [.i 0], .bool false, .sl [.agg [.i 0, .i 0, .bool true]]]], .i 0]):=aW.iM mix iN abm
theorem abn:p9 Tryz.prog tab Gb 5000 16 [yR, .sl [.i 0]]=some (.ret [.bool true, .i 0]):=aK
theorem aja:aW Tryz.prog 16 [yR, .sl [.i 0]] (.ret [.bool true, .i 0]):=aW.iM mix iN abn
end Go.Proofs.YtnkamdiiakdkgaaGreat
end
section
namespace Go.Proofs.YtnkamdiiakdkgaaGreat
open Go
theorem abo:p9 Tryz.prog tab Gb 5000 19 [yR]=some (.ret [.bool true, .sl [], .i 0]):=aK
theorem ajb:aW Tryz.prog 19 [yR] (.ret [.bool true, .sl [], .i 0]):=aW.iM mix iN abo
end Go.Proofs.YtnkamdiiakdkgaaGreat
end
section
namespace Go.Proofs.YtnkamdiiakdkgaaGreat
open Go
theorem abp:p9 Tryz.prog tab Gb 5000 19 [yS]=some (.ret [.bool false, .sl [.i 1], .i 0]):=aK
theorem ajc:aW Tryz.prog 19 [yS] (.ret [.bool false, .sl [.i 1], .i 0]):=aW.iM mix iN abp
theorem abq:p9 Tryz.prog tab Gb 5000 20 [yS]=some (.ret [.bool false, .sl [.i 1], .i 0]):=aK
theorem ajd:aW Tryz.prog 20 [yS] (.ret [.bool false, .sl [.i 1], .i 0]):=aW.iM mix iN abq
end Go.Proofs.YtnkamdiiakdkgaaGreat
end
section
namespace Go.Proofs.YtnkamdiiakdkgaaGreat
open Go
theorem abr:p9 Tryz.prog tab Gb 5000 19 [yC]=some (.ret [.bool false, .sl [.i 1], .i 0]):=aK
theorem aje:aW Tryz.prog 19 [yC] (.ret [.bool false, .sl [.i 1], .i 0]):=aW.iM mix iN abr
theorem abt:p9 Tryz.prog tab Gb 5000 20 [yC]=some (.ret [.bool true, .sl [], .i 0]):=aK
theorem ajf:aW Tryz.prog 20 [yC] (.ret [.bool true, .sl [], .i 0]):=aW.iM mix iN abt
end Go.Proofs.YtnkamdiiakdkgaaGreat
end
section
namespace Go.Proofs.YtnkamdiiakdkgaaGreat
open Go
theorem abu:p9 Tryz.prog tab Gb 5000 19 [yT]=some (.ret [.bool true, .sl [], .i 0]):=aK
theorem ajg:aW Tryz.prog 19 [yT] (.ret [.bool true, .sl [], .i 0]):=aW.iM mix iN abu
end Go.Proofs.YtnkamdiiakdkgaaGreat
end
section
namespace Go.Proofs.YtnkamdiiakdkgaaGreat
open Go
def ajh:se Tryz.prog:=se.of abl [(40,[yP], .ret [.i 0]),(40,[yR], .ret [.i 0]),(40,[yS], .ret [.i 0]),(40,[yC], .ret [.i 0]),(40,[yT], .ret [.i 0]),(11,[yR], .ret [.sl [.agg [.i 1, .i 0, .i 0, .sl [.i 0], .bool false, .sl [.agg [.i 0, .i 0, .bool true], .agg [.i 1, .i 1, .bool false]]], .agg [.i 7, .i 3, .i 3, .sl [.i 0], .bool false, .sl [.agg [.i 0, .i 0, .bool true]]]], .i 0]),(16,[yR, .sl [.i 0]], .ret [.bool true, .i 0]),(19,[yR], .ret [.bool true, .sl [], .i 0]),(19,[yS], .ret [.bool false, .sl [.i 1], .i 0]),(20,[yS], .ret [.bool false, .sl [.i 1], .i 0]),(19,[yC], .ret [.bool false, .sl [.i 1], .i 0]),(20,[yC], .ret [.bool true, .sl [], .i 0]),(19,[yT], .ret [.bool true, .sl [], .i 0])] (fun x h=>by
 simp only[List.mem_cons,List.not_mem_nil,or_false]at h
 rcases h with rfl|rfl|rfl|rfl|rfl|rfl|rfl|rfl|rfl|rfl|rfl|rfl|rfl
 ·exact Xp
 ·exact Xq
 ·exact Xr
 ·exact Xs
 ·exact Xt
 ·exact ai9
 ·exact aja
 ·exact ajb
 ·exact ajc
 ·exact ajd
 ·exact aje
 ·exact ajf
 ·exact ajg
 )
theorem Gc:p9 Tryz.prog tab ajh 5000 10 []=some (.ret [.bool true]):=aK
theorem T5:aW Tryz.prog 10 [] (.ret [.bool true]):=aW.iM mix iN Gc
end Go.Proofs.YtnkamdiiakdkgaaGreat
end
