/-
  LogicGrows: at every call the law answers true, and leaves all memory as it was. Conditions: none.
-/
import Derived.Shelf.Sort.Plain
import Derived.Shelf.Slices.In.SortNone
import Derived.Test.YtonbelhklnmjnaaGreatRows
import Derived.Test.YtonbelhklnmjnaaGreatLg19
set_option linter.unusedSimpArgs false
set_option linter.unusedVariables false
namespace Go.Proofs.YtonbelhklnmjnaaGreat
theorem Il{α β:Type}{l:List α}{m:List β}{x y:α}{a b:β}(hx:l[0]? =some x)(hy:l[1]? =some y)(hm:m=[a,b])(h:(α×β)->Bool):((l.take 2).zip m).all h=(h (x,a)&&h (y,b)):=by
 match l,hx,hy with
 |x'::y'::r,hx,hy=>
  simp at hx hy
  subst hx;subst hy;subst hm
  simp
theorem EM(l:List Tm)(hl:l.length<=1000000)(o:Nat->ab)(fr:Nat):xE Tryz.prog 94 [.d (.sl (l.map Tm.d))] [] o fr (.osl fr 0) [(fr, .arr 0 31 3 (l.map Tm.d))]:=by
 refine xE.D8 (ds:=[.sl (l.map Tm.d)]) ?_
 refine cK.aA mix Ko aj ?_
 rw[Xl]
 have hu:Tryz.prog.underlying 28=some (.slice 31):=af
 cases l with
 |nil=>
  have heq:∀O,pP Tryz.prog O 28 true (.d (.sl [])) .bW=some .eZ:=by
   intro O
   unfold pP
   rw[hu]
   rfl
  simp only[List.map_cons,List.map_nil]
  refine dz heq ?_
  simp only[List.isEmpty_nil,if_true]
  refine dz heq ?_
  exact .inl ⟨3,1,rfl,ae _ _ _⟩
 |cons a l=>
  have heq:∀O,pP Tryz.prog O 28 true (.d (.sl (Tm.d a::l.map Tm.d))) .bW=some (.d (.bool false)):=by
   intro O
   unfold pP
   rw[hu]
   rfl
  simp only[List.map_cons,List.map_nil]
  refine dz heq ?_
  simp only[List.isEmpty_nil,if_true]
  refine dz heq ?_
  rw[List.length_cons]at hl
  try rw[if_pos (by omega)]
  try simp+contextual (disch:=first|omega|simp only[go_sem,false_implies]) only[go_sem,wrap64,if_pos,and_self]
  exact .inl ⟨3,1,rfl,ae _ _ _⟩
set_option maxHeartbeats 1000000 in
theorem Im{p:Pg}(hp:kE p){f:Pf}(hf:oH p.sig f)(ih:∀k∈f.kids,AM p k){env:List Tm}(hv:dM p.sig env){e:Tm}(he:cY p.sig env.length e)(r15:f.b7=15):
 a7 Tryz.prog 182 [wq p env,e.d,f.d] (wV (bp p f env e)):=by
 have R6:=hf.len
 have fP:=((Tm.aP e).1 he.fits).1
 have ht:bp p f env e=(e.op==6&&((f.kids.length==2||f.kids.length==3)&&((pA (f.kids.map (bp p)) 0 env (lr e 0)&&pA (f.kids.map (bp p)) 1 env (lr e 1))&&((bK f.kids 0).op==5&&
  (if((bK f.kids 0).kids.length:Int)+1<dJ p.sig.bU (bK f.kids 0).n then f.kids.length==2&&aZ f.val (.mk 5 (bK f.kids 0).n ((bK f.kids 0).kids++[bK f.kids 1]))
   else f.kids.length==3&&aZ (bK f.kids 2) f.val&&pA (f.kids.map (bp p)) 2 ((bK f.kids 0).kids++[bK f.kids 1]) (qI p.sig (bK f.kids 0).n)))))):=by
  rw[fD,nL,if_neg (by omega),if_neg (by omega),if_neg (by omega),if_neg (by omega),if_neg (by omega),if_neg (by omega),if_neg (by omega),if_neg (by omega),if_neg (by omega),if_pos r15]
  simp only[Bool.and_assoc]
 rw[ht]
 refine a7.aA mix Q6 aj ?_
 rw[U2]
 by_cases fl:e.op=6
 rotate_left
 ·have cm:(e.op==6)=false:=by simpa using fl
  rw[cm,Bool.false_and,aQ]
  refine eR cm ?_
  refine br aU rfl ?_
  exact cF
 have cm:(e.op==6)=true:=by simpa using fl
 rw[cm,Bool.true_and]
 refine eR cm ?_
 refine ah (ja _ _ _) rfl ?_
 by_cases hl:f.kids.length=2\/f.kids.length=3
 rotate_left
 ·have zc:cZ (f.kids.length:Int) 2 3=false:=by simp[cZ];omega
  have yO:(f.kids.length==2||f.kids.length==3)=false:=by simpa using hl
  rw[zc,yO,Bool.false_and,aQ]
  refine aI ?_
  refine br aU rfl ?_
  exact cF
 have zc:cZ (f.kids.length:Int) 2 3=true:=by simp[cZ];omega
 have yO:(f.kids.length==2||f.kids.length==3)=true:=by simpa using hl
 have Wm:=Av he.node1 ad ad
 obtain⟨a,b,Wn⟩:=Aw Wm
 have ha:e.kids[0]? =some a:=by rw[Wn];rfl
 have hb:e.kids[1]? =some b:=by rw[Wn];rfl
 obtain⟨x,hx⟩:=aw (l:=f.kids) (k:=0) ad
 obtain⟨y,hy⟩:=aw (l:=f.kids) (k:=1) ad
 have dc:=List.mem_of_getElem? hx
 have wL:=List.mem_of_getElem? hy
 have wk:=(hf.ll dc).val
 have Ge:=(hf.ll wL).val
 rw[zc,yO,bY hx,bY hy,kV hx,kV hy,mu ha,mu hb,Bool.true_and]
 refine aI ?_
 refine ah bQ rfl ?_
 have h2t:(2:Nat)<=f.kids.length:=ad
 have acQ:(2:Int)<=(f.kids.length:Int):=ad
 refine mF h2t acQ ?_
 have Aa:=qO (f.kids.take 2) e.kids (by rw[List.length_take];omega) fP hv (fun k hk=>ih k (List.mem_of_mem_take hk)) (fun y hy=>he.ll ad ad hy)
 have h2l:(f.kids.take 2).length=2:=by rw[List.length_take];omega
 rw[List.map_take,h2l,Wm,Il hx hy Wn]at Aa
 have h22:((2:Nat)==2)=true:=rfl
 rw[h22,Bool.true_and]at Aa
 cases g1:(bp p x env a&&bp p y env b)with
 |false=>
  rw[g1,aQ]at Aa
  rw[Bool.false_and,aQ]
  refine aJ Aa aD ?_
  refine aI ?_
  refine aT ⟨aV, ?_⟩
  exact jw
 |true=>
 rw[g1,bC]at Aa
 rw[Bool.true_and]
 refine aq Aa rfl ?_
 refine aI ?_
 refine ao aV ?_
 refine eR hx ?_
 by_cases h5:x.val.op=5
 rotate_left
 ·have AE:(x.val.op==5)=false:=by simpa using h5
  rw[AE,Bool.false_and,aQ]
  refine br aU rfl ?_
  exact cF
 have AE:(x.val.op==5)=true:=by simpa using h5
 obtain⟨n0,w,hw,cU⟩:=OV wk.1.2 h5
 have hwa:=C2 hp.sg w (List.mem_of_getElem? hw)
 have GK:dM p.sig (x.val.kids++[y.val]):=⟨by simp;omega,fun t ht=>by
  rcases List.mem_append.1 ht with h|h
  ·exact wk.1.ll h
  ·simp at h;subst h;exact Ge.1⟩
 rw[AE,Bool.true_and,iH hw]
 refine ah bQ rfl ?_
 refine aI ?_
 refine xR rfl (EM x.val.kids ad _ _) ?_
 refine eR hy ?_
 refine ao aV ?_
 by_cases hc:(x.val.kids.length:Int)+1<w.args
 ·have zi:decide (((x.val.kids.length+1:Nat):Int)<w.args)=true:=by simpa using hc
  rw[if_pos hc]
  by_cases hk:f.kids.length=2
  rotate_left
  ·have AV:((f.kids.length:Int)==2)=false:=by rw[beq_eq_false_iff_ne];omega
   have IG:(f.kids.length==2)=false:=by simpa using hk
   rw[IG,Bool.false_and,aQ]
   refine Se hw n0 zi AV ?_
   refine br aU rfl ?_
   exact cF
  have AV:((f.kids.length:Int)==2)=true:=by rw[beq_iff_eq];omega
  have IG:(f.kids.length==2)=true:=by simpa using hk
  have hmk:(Tm.mk 5 x.val.n (x.val.kids++[y.val])).fits:=by
   rw[Tm.aP]
   exact⟨by show(x.val.kids++[y.val]).length<=_;rw[List.length_append,List.length_singleton];omega,fun k hk=>(GK.all k hk).1⟩
  have hs:=cP _ hf.val.1.1 _ hmk
  rw[Tm.rO 5,List.map_append]at hs
  rw[IG,Bool.true_and]
  refine Se hw n0 zi AV ?_
  refine ah hs rfl ?_
  cases g3:aZ f.val (.mk 5 x.val.n (x.val.kids++[y.val]))with
  |false=>
   rw[aQ]
   refine aI ?_
   refine br aU rfl ?_
   exact cF
  |true=>
   rw[bC]
   refine aI ?_
   refine ah bQ rfl ?_
   exact cF
 ·have zi:decide (((x.val.kids.length+1:Nat):Int)<w.args)=false:=by simpa using hc
  rw[if_neg hc]
  by_cases hk:f.kids.length=3
  rotate_left
  ·have AV:((f.kids.length:Int)==3)=false:=by rw[beq_eq_false_iff_ne];omega
   have IG:(f.kids.length==3)=false:=by simpa using hk
   rw[IG,Bool.false_and,Bool.false_and,aQ]
   refine Se hw n0 zi AV ?_
   refine aJ aU aD ?_
   refine aI ?_
   refine aT ⟨aV, ?_⟩
   exact jw
  have AV:((f.kids.length:Int)==3)=true:=by rw[beq_iff_eq];omega
  have IG:(f.kids.length==3)=true:=by simpa using hk
  obtain⟨z,hz⟩:=aw (l:=f.kids) (k:=2) ad
  have hzm:=List.mem_of_getElem? hz
  rw[bY hz,kV hz,IG,Bool.true_and]
  simp+contextual (disch:=first|omega|simp only[go_sem,false_implies]) only[go_sem,wrap64,if_pos,List.length_map,hz,hw,n0,zi,List.length_append,AV]
  refine aq (cP _ (hf.ll hzm).val.1.1 _ hf.val.1.1) rfl ?_
  cases g3:aZ z.val f.val with
  |false=>
   rw[Bool.false_and,aQ]
   refine aI ?_
   refine aJ aU aD ?_
   refine aI ?_
   refine aT ⟨aV, ?_⟩
   exact jw
  |true=>
  rw[Bool.true_and]
  refine aI ?_
  refine aq bQ rfl ?_
  refine aI ?_
  refine ao aV ?_
  refine aI ?_
  have Jg:=LM p env (x.val.kids++[y.val])
  rw[List.map_append]at Jg
  refine bB Jg ?_
  refine eR hz ?_
  refine bB (OM p x.val.n w n0 hw ad ad) ?_
  refine eR hz ?_
  have hr:=ih z hzm (x.val.kids++[y.val]) _ GK (L1 (s:=p.sig) n0 hw ad ad (by simp only[List.length_append,List.length_singleton];omega))
  cases g4:bp p z (x.val.kids++[y.val]) (qI p.sig x.val.n)with
  |false=>
   rw[g4,aQ]at hr
   rw[aQ]
   refine aJ hr aD ?_
   refine aI ?_
   refine aT ⟨aV, ?_⟩
   exact jw
  |true=>
   rw[g4,bC]at hr
   rw[bC]
   refine aq hr rfl ?_
   refine aI ?_
   refine ao aV ?_
   exact cF
def eB:List V:= .d .bT::[168,169,170,171,172,173,174,175,176,177,178,179,180,181,182].map fun g=> .func (.func g) [] []
theorem Wp:rE Tryz.prog 147 [(1, .func (.func 168) [] []),(2, .func (.func 169) [] []),(3, .func (.func 170) [] []),(4, .func (.func 171) [] []),(5, .func (.func 172) [] []),(6, .func (.func 173) [] []),(7, .func (.func 174) [] []),(8, .func (.func 175) [] []),(9, .func (.func 176) [] []),(10, .func (.func 177) [] []),(11, .func (.func 178) [] []),(12, .func (.func 179) [] []),(13, .func (.func 180) [] []),(14, .func (.func 181) [] []),(15, .func (.func 182) [] [])]=some (.agg eB):=af
theorem OX:PH Tryz.prog 129 [] (.agg eB):=by
 refine PH.mf (by rfl) ?_
 refine cK.aA mix Qz aj ?_
 rw[Uu]
 simp+contextual only[al,st,List.map_nil,ND,NC,Hl,TH,TI,bu,gD,zeroT_147,D4,Hk,JW,JX,zL,lJ]
 generalize hb:rE Tryz.prog 147 _=r
 have hr:r=some (.agg eB):=by rw[<- hb];exact Wp
 subst hr
 simp only[eB,List.map_cons,List.map_nil]
 exact cF
set_option maxHeartbeats 1000000 in
theorem Io{p:Pg}(hp:kE p)(hw:p.Fw):∀f:Pf,oH p.sig f->AM p f:=by
 refine Pf.cC fun f ih hf env e hv he=> ?_
 have II:∀k∈f.kids,AM p k:=fun k hk=>ih k hk (hf.ll hk)
 refine a7.aA mix Zq aj ?_
 rw[c93]
 refine aI ?_
 refine ah (ja _ _ _) rfl ?_
 cases h1:cZ f.b7 1 15 with
 |false=>
  have h2: ¬ (1<=f.b7/\f.b7<=15):=by
   simp only[cZ,Bool.and_eq_false_iff,decide_eq_false_iff_not]at h1;omega
  have ht:bp p f env e=false:=by
   rw[fD,nL,if_neg (by omega),if_neg (by omega),if_neg (by omega),if_neg (by omega),if_neg (by omega),if_neg (by omega),if_neg (by omega),if_neg (by omega),if_neg (by omega),if_neg (by omega)]
   have:Ao f.b7 e f.val (bK f.kids 0) (bK f.kids 1)=false:=by
    unfold Ao;rw[if_neg (by omega),if_neg (by omega),if_neg (by omega),if_neg (by omega),if_neg (by omega)]
   rw[this];simp
  rw[ht,aQ]
  refine aI ?_
  refine br aU rfl ?_
  exact cF
 |true=>
 have h2:1<=f.b7/\f.b7<=15:=by simpa[cZ]using h1
 refine aI ?_
 refine ah bQ rfl ?_
 refine aI ?_
 refine Hj OX ?_
 refine aI ?_
 rcases(by omega:f.b7=1\/f.b7=2\/f.b7=3\/f.b7=4\/f.b7=5\/f.b7=6\/f.b7=7\/f.b7=8\/f.b7=9\/f.b7=10\/f.b7=11\/f.b7=12\/f.b7=13\/f.b7=14\/f.b7=15)with r|r|r|r|r|r|r|r|r|r|r|r|r|r|r
 ·have fL:eB[f.b7.toNat*1]? =some (.func (.func 168) [] []):=by rw[r];rfl
  have hc:=OO (p:=p) hf (env:=env) (e:=e) r
  refine dz fL ?_
  cases g:bp p f env e with
  |false=>
   rw[g,aQ]at hc
   rw[aQ]
   refine aJ hc aD ?_
   refine aI ?_
   refine aT ⟨aV, ?_⟩
   exact jw
  |true=>
   rw[g,bC]at hc
   rw[bC]
   refine aq hc rfl ?_
   refine aI ?_
   refine ao aV ?_
   exact cF
 ·have fL:eB[f.b7.toNat*1]? =some (.func (.func 169) [] []):=by rw[r];rfl
  have hc:=OP hf hv he r
  refine dz fL ?_
  cases g:bp p f env e with
  |false=>
   rw[g,aQ]at hc
   rw[aQ]
   refine aJ hc aD ?_
   refine aI ?_
   refine aT ⟨aV, ?_⟩
   exact jw
  |true=>
   rw[g,bC]at hc
   rw[bC]
   refine aq hc rfl ?_
   refine aI ?_
   refine ao aV ?_
   exact cF
 ·have fL:eB[f.b7.toNat*1]? =some (.func (.func 170) [] []):=by rw[r];rfl
  have hc:=OQ (p:=p) hf (env:=env) he.fits r
  refine dz fL ?_
  cases g:bp p f env e with
  |false=>
   rw[g,aQ]at hc
   rw[aQ]
   refine aJ hc aD ?_
   refine aI ?_
   refine aT ⟨aV, ?_⟩
   exact jw
  |true=>
   rw[g,bC]at hc
   rw[bC]
   refine aq hc rfl ?_
   refine aI ?_
   refine ao aV ?_
   exact cF
 ·have fL:eB[f.b7.toNat*1]? =some (.func (.func 171) [] []):=by rw[r];rfl
  have hc:=ON hf II hv he r
  refine dz fL ?_
  cases g:bp p f env e with
  |false=>
   rw[g,aQ]at hc
   rw[aQ]
   refine aJ hc aD ?_
   refine aI ?_
   refine aT ⟨aV, ?_⟩
   exact jw
  |true=>
   rw[g,bC]at hc
   rw[bC]
   refine aq hc rfl ?_
   refine aI ?_
   refine ao aV ?_
   exact cF
 ·have fL:eB[f.b7.toNat*1]? =some (.func (.func 172) [] []):=by rw[r];rfl
  have hc:=LU hf II hv he r
  refine dz fL ?_
  cases g:bp p f env e with
  |false=>
   rw[g,aQ]at hc
   rw[aQ]
   refine aJ hc aD ?_
   refine aI ?_
   refine aT ⟨aV, ?_⟩
   exact jw
  |true=>
   rw[g,bC]at hc
   rw[bC]
   refine aq hc rfl ?_
   refine aI ?_
   refine ao aV ?_
   exact cF
 ·have fL:eB[f.b7.toNat*1]? =some (.func (.func 173) [] []):=by rw[r];rfl
  have hc:=OW hp hw hf II hv he r
  refine dz fL ?_
  cases g:bp p f env e with
  |false=>
   rw[g,aQ]at hc
   rw[aQ]
   refine aJ hc aD ?_
   refine aI ?_
   refine aT ⟨aV, ?_⟩
   exact jw
  |true=>
   rw[g,bC]at hc
   rw[bC]
   refine aq hc rfl ?_
   refine aI ?_
   refine ao aV ?_
   exact cF
 ·have fL:eB[f.b7.toNat*1]? =some (.func (.func 174) [] []):=by rw[r];rfl
  have hc:=LV hf II hv he r
  refine dz fL ?_
  cases g:bp p f env e with
  |false=>
   rw[g,aQ]at hc
   rw[aQ]
   refine aJ hc aD ?_
   refine aI ?_
   refine aT ⟨aV, ?_⟩
   exact jw
  |true=>
   rw[g,bC]at hc
   rw[bC]
   refine aq hc rfl ?_
   refine aI ?_
   refine ao aV ?_
   exact cF
 ·have fL:eB[f.b7.toNat*1]? =some (.func (.func 175) [] []):=by rw[r];rfl
  have hc:=Ii hf II hv he r
  refine dz fL ?_
  cases g:bp p f env e with
  |false=>
   rw[g,aQ]at hc
   rw[aQ]
   refine aJ hc aD ?_
   refine aI ?_
   refine aT ⟨aV, ?_⟩
   exact jw
  |true=>
   rw[g,bC]at hc
   rw[bC]
   refine aq hc rfl ?_
   refine aI ?_
   refine ao aV ?_
   exact cF
 ·have fL:eB[f.b7.toNat*1]? =some (.func (.func 176) [] []):=by rw[r];rfl
  have hc:=OR hf II hv he r
  refine dz fL ?_
  cases g:bp p f env e with
  |false=>
   rw[g,aQ]at hc
   rw[aQ]
   refine aJ hc aD ?_
   refine aI ?_
   refine aT ⟨aV, ?_⟩
   exact jw
  |true=>
   rw[g,bC]at hc
   rw[bC]
   refine aq hc rfl ?_
   refine aI ?_
   refine ao aV ?_
   exact cF
 ·have fL:eB[f.b7.toNat*1]? =some (.func (.func 177) [] []):=by rw[r];rfl
  have hc:=LY hf II hv he r
  refine dz fL ?_
  cases g:bp p f env e with
  |false=>
   rw[g,aQ]at hc
   rw[aQ]
   refine aJ hc aD ?_
   refine aI ?_
   refine aT ⟨aV, ?_⟩
   exact jw
  |true=>
   rw[g,bC]at hc
   rw[bC]
   refine aq hc rfl ?_
   refine aI ?_
   refine ao aV ?_
   exact cF
 ·have fL:eB[f.b7.toNat*1]? =some (.func (.func 178) [] []):=by rw[r];rfl
  have hc:=LZ hf II hv he r
  refine dz fL ?_
  cases g:bp p f env e with
  |false=>
   rw[g,aQ]at hc
   rw[aQ]
   refine aJ hc aD ?_
   refine aI ?_
   refine aT ⟨aV, ?_⟩
   exact jw
  |true=>
   rw[g,bC]at hc
   rw[bC]
   refine aq hc rfl ?_
   refine aI ?_
   refine ao aV ?_
   exact cF
 ·have fL:eB[f.b7.toNat*1]? =some (.func (.func 179) [] []):=by rw[r];rfl
  have hc:=Ij hf II hv he r
  refine dz fL ?_
  cases g:bp p f env e with
  |false=>
   rw[g,aQ]at hc
   rw[aQ]
   refine aJ hc aD ?_
   refine aI ?_
   refine aT ⟨aV, ?_⟩
   exact jw
  |true=>
   rw[g,bC]at hc
   rw[bC]
   refine aq hc rfl ?_
   refine aI ?_
   refine ao aV ?_
   exact cF
 ·have fL:eB[f.b7.toNat*1]? =some (.func (.func 180) [] []):=by rw[r];rfl
  have hc:=L0 hf II hv he r
  refine dz fL ?_
  cases g:bp p f env e with
  |false=>
   rw[g,aQ]at hc
   rw[aQ]
   refine aJ hc aD ?_
   refine aI ?_
   refine aT ⟨aV, ?_⟩
   exact jw
  |true=>
   rw[g,bC]at hc
   rw[bC]
   refine aq hc rfl ?_
   refine aI ?_
   refine ao aV ?_
   exact cF
 ·have fL:eB[f.b7.toNat*1]? =some (.func (.func 181) [] []):=by rw[r];rfl
  have hc:=OS hf II hv he r
  refine dz fL ?_
  cases g:bp p f env e with
  |false=>
   rw[g,aQ]at hc
   rw[aQ]
   refine aJ hc aD ?_
   refine aI ?_
   refine aT ⟨aV, ?_⟩
   exact jw
  |true=>
   rw[g,bC]at hc
   rw[bC]
   refine aq hc rfl ?_
   refine aI ?_
   refine ao aV ?_
   exact cF
 ·have fL:eB[f.b7.toNat*1]? =some (.func (.func 182) [] []):=by rw[r];rfl
  have hc:=Im hp hf II hv he r
  refine dz fL ?_
  cases g:bp p f env e with
  |false=>
   rw[g,aQ]at hc
   rw[aQ]
   refine aJ hc aD ?_
   refine aI ?_
   refine aT ⟨aV, ?_⟩
   exact jw
  |true=>
   rw[g,bC]at hc
   rw[bC]
   refine aq hc rfl ?_
   refine aI ?_
   refine ao aV ?_
   exact cF
end Go.Proofs.YtonbelhklnmjnaaGreat
namespace Go.Proofs.YtonbelhklnmjnaaGreat
section
variable {P:Program}
def sn(P:Program)(n t t1:Nat)(ic:IC)(aG:List V)(u:V)(o:Nat->ab)(nx:Nat)(K:(Nat->ab)->Nat->Prop):Prop:=
 aG.length<=n/\kS P n nx true ic (Hq K) ⟨aL (aL (cB aG) t u) t1 u,o,nx⟩
def qR(P:Program)(n t t1:Nat)(ic:IC)(aG:List V)(rs:List ResultVar)(K X:V->(Nat->ab)->Nat->Prop)(e:fN)(s:S):Prop:=
 match e with
 | .normal| .ret=>sn P n t t1 ic aG (.d .fq) s.o s.nx fun o nx=>rL P rs K X .ret ⟨s.env,o,nx⟩
 | .bR v=>sn P n t t1 ic aG v s.o s.nx fun o nx=>rL P rs K X .ret ⟨s.env,o,nx⟩
 | .exit _=>False
def Ax(P:Program)(n t:Nat)(eE:IC)(fA:List Operand)(g:FuncId)(D:List V->fN->S->Prop)(e:fN)(s:S):Prop:=
 match e with
 | .normal=>kS P n s.nx false eE (D (fA.map s.ev)) ⟨aL s.env t (.func (.func g) [] (fA.map s.ev)),s.o,s.nx⟩
 |_=>False
variable {n t t1:Nat}{ic eE:IC}{aG:List V}{rs:List ResultVar}{K X:V->(Nat->ab)->Nat->Prop}{s:S}{v:V}{fA:List Operand}{g:FuncId}{D:List V->fN->S->Prop}{KR:(Nat->ab)->Nat->Prop}
@[go_sem ↓] theorem L4:qR P n t t1 ic aG rs K X .normal s=sn P n t t1 ic aG (.d .fq) s.o s.nx fun o nx=>rL P rs K X .ret ⟨s.env,o,nx⟩:=propext Iff.rfl
@[go_sem ↓] theorem R7:qR P n t t1 ic aG rs K X .ret s=sn P n t t1 ic aG (.d .fq) s.o s.nx fun o nx=>rL P rs K X .ret ⟨s.env,o,nx⟩:=propext Iff.rfl
@[go_sem ↓] theorem R8:qR P n t t1 ic aG rs K X (.bR v) s=sn P n t t1 ic aG v s.o s.nx fun o nx=>rL P rs K X .ret ⟨s.env,o,nx⟩:=propext Iff.rfl
@[go_sem ↓] theorem L5:Ax P n t eE fA g D .normal s=kS P n s.nx false eE (D (fA.map s.ev)) ⟨aL s.env t (.func (.func g) [] (fA.map s.ev)),s.o,s.nx⟩:=propext Iff.rfl
@[go_sem ↓] theorem R9:Hq KR .normal s=KR s.o s.nx:=propext Iff.rfl
@[go_sem ↓] theorem aaS:Hq KR .ret s=KR s.o s.nx:=propext Iff.rfl
theorem sn.w {o:Nat->ab}{nx:Nat}{K K':(Nat->ab)->Nat->Prop}(hK:∀o nx,K o nx->K' o nx)(h:sn P n t t1 ic aG v o nx K):D7 P n t t1 ic aG v o nx K':=by
 refine⟨h.1,ey ic _ _ _ (fun e s h=> ?_) h.2⟩
 unfold Hq at h|-
 cases e with
 |normal=>exact hK _ _ h
 |ret=>exact hK _ _ h
 |_=>exact h
theorem cK.Ip (bD:P.follows .mixedOrders=true){f g:FuncId}{iK eE xS:IC}{t m r r1:Nat}{fA:List Operand}{rs:List ResultVar}(hf:Fl P f n iK eE g t fA rs)(hg:B8 P g m r r1 xS)
 {args:List V} {o:Nat->ab} {nx:Nat} {K X:V->(Nat->ab)->Nat->Prop} (hl:args.length<=n)
 (h:kS P n nx true iK (Ax P n t eE fA g fun aG=>qR P m r r1 xS aG rs K X) ⟨cB args,o,nx⟩):cK P f args o nx K X:=by
 refine cK.Cb bD hf hg hl (ey iK _ _ _ (fun e s h=> ?_) h)
 unfold Ax at h
 unfold B9
 cases e with
 |normal=>
  refine ey eE _ _ _ (fun e s h=> ?_) h
  unfold qR at h
  unfold zM
  cases e with
  |normal=>exact sn.w (fun _ _ h=>by unfold rL at h;exact h) h
  |ret=>exact sn.w (fun _ _ h=>by unfold rL at h;exact h) h
  |bR v=>exact sn.w (fun _ _ h=>by unfold rL at h;exact h) h
  |exit _=>exact h
 |_=>exact h
end
attribute [irreducible] sn
theorem wc{P:Program}{n t t1:Nat}{ic:IC}{aG:List V}{v:V}{o:Nat->ab}{nx:Nat}{K:(Nat->ab)->Nat->Prop}(h1:aG.length<=n)(h2:kS P n nx true ic (Hq K) ⟨aL (aL (cB aG) t v) t1 v,o,nx⟩):sn P n t t1 ic aG v o nx K:=by
 unfold sn
 exact⟨h1,h2⟩
end Go.Proofs.YtonbelhklnmjnaaGreat
namespace Go.Proofs.YtonbelhklnmjnaaGreat
theorem Wq{o:Nat->ab}:pP Tryz.prog o 20 true (.d .fq) (.d .fq)=some (.d (.bool true)):=af
theorem OY{o:Nat->ab}:pP Tryz.prog o 20 true (.d nO) (.d .fq)=some (.d (.bool false)):=af
theorem Ay:oO Tryz.prog 117=true:=af
theorem Iq{p:Pg}(hp:kE p)(hw:p.Fw)(f:Pf)(hf:oH p.sig f)(env:List Tm)(hv:dM p.sig env)(e:Tm)(he:cY p.sig env.length e)(o:Nat->ab)(nx:Nat)(hg:Good o nx)(K X:V->(Nat->ab)->Nat->Prop)
 (hK:∀o' nx',nx<=nx'->Good o' nx'->(∀j,j<nx->o' j=o j)->K (.d (.bool (bp p f env e))) o' nx'):
 cK Tryz.prog 52 [.d p.d, .d (.sl (env.map Tm.d)), .d e.d, .d f.d] o nx K X:=by
 have hc:=Io hp hw f hf env e hv he
 refine cK.Ip mix Qo Qn aj ?_
 rw[Uj,c52]
 refine iC ?_
 cases g:bp p f env e with
 |false=>
  rw[g,aQ]at hc
  rw[g]at hK
  refine br hc rfl ?_
  refine iC ?_
  refine wc aj ?_
  rw[c92]
  simp+contextual (disch:=first|omega|simp only[go_sem,false_implies]) only[go_sem,wrap64,if_pos,OY,Nat.add_assoc,Nat.left_eq_add,Nat.add_eq_left,Nat.add_left_cancel_iff]
  simp+contextual (disch:=first|omega|simp only[go_sem,false_implies]) only[go_sem,wrap64,if_pos,Ay,nO,Nat.add_assoc,Nat.left_eq_add,Nat.add_eq_left,Nat.add_left_cancel_iff]
  exact hK _ _ ad dg (fun j hj=>by(repeat(first|rfl|rw[ae]|rw[ai _ _ _ _ (by omega)])))
 |true=>
  rw[g,bC]at hc
  rw[g]at hK
  refine ah hc rfl ?_
  refine iC ?_
  refine wc aj ?_
  rw[c92]
  simp+contextual (disch:=first|omega|simp only[go_sem,false_implies]) only[go_sem,wrap64,if_pos,Wq,Nat.add_assoc,Nat.left_eq_add,Nat.add_eq_left,Nat.add_left_cancel_iff]
  exact hK _ _ ad dg (fun j hj=>by(repeat(first|rfl|rw[ae]|rw[ai _ _ _ _ (by omega)])))
theorem Wr{σ:Type}(l:List Int)(hl:l.length<=9223372036854775807)(g:Nat)(aG:List V)(base:Nat)(H:σ->Nat->ab)(step:σ->Int->σ×Bool)(hc:∀r∈V.aN aG,r<base)(ok:σ->Prop)(bn:∀x∈l,∀s,ok s->(step s x).2=true->ok (step s x).1)
 (h:∀x∈l,∀s,ok s->fC Tryz.prog g (.d (.i x)::aG) base (H s) (H (step s x).1) (.d (.bool (!(step s x).2)))) (s:σ) (gu:ok s):
 fC Tryz.prog 167 [.d (.sl (l.map D.i)), .func (.func g) [] aG] base (H s) (H (az step s l).1) (.d (.i (lR step s l 0))):=by
 intro o nx hI K X hK
 have fw:∀r∈V.aN aG,r<nx:=fun r hr=>Nat.lt_of_lt_of_le (hc r hr) hI.le
 refine cK.aA mix QR aj ?_
 rw[UM]
 refine bV ?_
 refine aK (fun i:Nat×σ×(Nat->ab)×Nat=>⟨bA [.d (.sl (l.map D.i)), .func (.func g) [] aG, .aa, .aa, .aa, .aa, .aa, .d (.i l.length), .d (.i i.1)],i.2.2.1,i.2.2.2⟩)
  (fun i=>i.1<=l.length/\cT base (H i.2.1) i.2.2.1 i.2.2.2/\nx<=i.2.2.2/\(∀id,base<=id->id<nx->i.2.2.1 id=o id)/\az step s l=az step i.2.1 (l.drop i.1)/\ok i.2.1/\lR step s l 0=lR step i.2.1 (l.drop i.1) i.1) (fun i=>l.length - i.1) (0,s,o,nx)
  ⟨Nat.zero_le _,hI,Nat.le_refl _,fun _ _ _=>rfl,rfl,gu,rfl⟩ ?_ ?_
 ·dsimp only
  refine bL.bP _ (Nat.le_refl _) ad hI.bN (fun _ _=>rfl) ?_
  exact cG
 rintro⟨k,s',o',nx'⟩ ⟨hk,om,hn,db,hf,jM,kA⟩
 simp only at hk om hn db hf jM kA
 refine bV ?_
 refine ak (fun h1=> ?_) (fun h1=> ?_)
 ·simp at h1
  obtain⟨x,hx⟩:=aw h1
  have dc:=List.mem_of_getElem? hx
  have hd:l.drop k=x::l.drop (k+1):=by
   rw[List.drop_eq_getElem_cons h1]
   rw[List.getElem?_eq_getElem h1]at hx;injection hx with hx;rw[hx]
  rw[hd]at hf kA
  simp only[az,lR]at hf kA
  refine Gj hx ?_
  refine cW (h x dc s' jM _ _ (om.mono ad) _ _ fun o2 n2 m1 m2 m3=> ?_)
  cases hb:(step s' x).2 with
  |true=>
   rw[hb]at hf kA
   simp only[if_true]at hf kA
   refine aI ?_
   have Co:∀r∈V.aN aG,r<n2+1+1:=fun r hr=>by have:=fw r hr;omega
   refine au (k+1,(step s' x).1,o2,n2+1+1) ⟨h1,m2.mono (show n2<=n2+1+1 from ad),(show nx<=n2+1+1 from ad),fun id i1 i2=>(m3 id i1 ad).trans (db id i1 i2),hf,bn x dc s' jM hb,by rw[kA];rfl⟩ mG (bL.bP _ (show nx<=n2+1+1 from ad) (Nat.le_refl _) (m2.mono (show n2<=n2+1+1 from ad)).bN (fun _ _=>rfl) ?_)
   exact cG
  |false=>
   rw[hb]at hf kA
   simp only[Bool.false_eq_true,if_false]at hf kA
   refine bV ?_
   rw[hf,kA]at hK
   exact hK _ _ ad (m2.mono ad) fun id i1 i2=>(m3 id i1 ad).trans (db id i1 i2)
 ·simp at h1
  refine bV ?_
  rw[List.drop_eq_nil_of_le h1]at hf kA
  rw[hf,kA]at hK
  exact hK _ _ ad (om.mono ad) db
theorem C3{σ:Type}(l:List Int)(hl:l.length<=9223372036854775807)(g:Nat)(aG:List V)(base:Nat)(H:σ->Nat->ab)(step:σ->Int->σ×Bool)(hc:∀r∈V.aN aG,r<base)(ok:σ->Prop)(bn:∀x∈l,∀s,ok s->(step s x).2=true->ok (step s x).1)
 (h:∀x∈l,∀s,ok s->fC Tryz.prog g (.d (.i x)::aG) base (H s) (H (step s x).1) (.d (.bool (!(step s x).2)))) (s:σ) (gu:ok s):
 fC Tryz.prog 126 [.d (.sl (l.map D.i)), .func (.func g) [] aG] base (H s) (H (az step s l).1) (.d (.bool (!(az step s l).2))):=by
 intro o nx hI K X hK
 have fw:∀r∈V.aN aG,r<nx:=fun r hr=>Nat.lt_of_lt_of_le (hc r hr) hI.le
 refine cK.aA mix Qx aj ?_
 rw[Us]
 refine iC ?_
 refine bc (Wr l hl g aG base H step hc ok bn h s gu _ _ ?_ _ _ fun o2 n2 m1 m2 m3=> ?_)
 ·exact hI.mono ad
 refine iC ?_
 have e:decide (0<=lR step s l 0)= !(az step s l).2:=by
  have:=tW step l s 0 ad
  rw[Bool.eq_iff_iff,decide_eq_true_eq,this]
  cases(az step s l).2<;>simp
 rw[e]
 exact hK _ _ ad (m2.mono ad) fun id i1 i2=>m3 id i1 ad
theorem aaT{x:Int}{g:Nat}{aG:List V}{base c bx:Nat}{h h2 O:Nat->ab}{r:Bool}(hS:fC Tryz.prog g (.d (.i x)::aG) base h h2 (.d (.bool r)))(hb:base<=bx)(Pc:bx<c)(hO:O bx= .row [.func (.func g) [] aG])(hc:∀r∈V.aN aG,r<base):
 fC Tryz.prog 127 [.d (.i x), .ptr bx 0] c (ext base h O) (ext base h2 O) (.d (.bool (!r))):=by
 intro o nx hI K X hK
 have hle:=hI.le
 have fw:∀r∈V.aN aG,r<nx:=fun r hr=>by have:=hc r hr;omega
 have ho:o bx= .row [.func (.func g) [] aG]:=by
  exact IW
 have y1:∀k,bx≠nx+k:=fun k=>ad
 have y2:bx≠nx:=ad
 refine cK.aA mix Qy aj ?_
 rw[Ut]
 refine Mi ho y1 y2 ?_
 refine cW ((hS.ext (by omega:base<=c) O) _ _ ?_ _ _ fun o2 n2 m1 m2 m3=> ?_)
 ·exact hI.mono ad
 refine iC ?_
 exact hK _ _ ad (m2.mono ad) fun id i1 i2=>m3 id i1 ad
theorem Ir{σ:Type}(l:List Int)(hl:l.length<=9223372036854775807)(g:Nat)(aG:List V)(base:Nat)(H:σ->Nat->ab)(step:σ->Int->σ×Bool)(hc:∀r∈V.aN aG,r<base)(ok:σ->Prop)(bn:∀x∈l,∀s,ok s->(step s x).2=true->ok (step s x).1)
 (h:∀x∈l,∀s,ok s->fC Tryz.prog g (.d (.i x)::aG) base (H s) (H (step s x).1) (.d (.bool (step s x).2))) (s:σ) (gu:ok s):
 fC Tryz.prog 90 [.d (.sl (l.map D.i)), .func (.func g) [] aG] base (H s) (H (az step s l).1) (.d (.bool (az step s l).2)):=by
 intro o nx hI K X hK
 have hle:=hI.le
 have fw:∀r∈V.aN aG,r<nx:=fun r hr=>Nat.lt_of_lt_of_le (hc r hr) hI.le
 refine cK.aA mix Zo aj ?_
 rw[c90]
 refine iC ?_
 refine bc (C3 l hl 127 [.ptr nx 0] (nx+1) (fun s=>ext base (H s) (aL o nx (.row [.func (.func g) [] aG]))) step lU ok bn (fun x hx s hs=>aaT (h x hx s hs) hle ad (ae _ _ _) hc) s gu _ _ ?_ _ _ fun o2 n2 m1 m2 m3=> ?_)
 ·have hr:(ab.row [V.func (.func g) [] aG]).refs.all (fun r=>decide (r<nx+4))=true:=by
   rw[List.all_eq_true]
   intro r hr
   have h1:r∈V.aN aG:=by simpa[ab.refs,V.aN,V.refs]using hr
   have:=fw r h1
   simp;omega
  exact(hI.aL ad ad ad hr).ext ad ad
 refine iC ?_
 refine hK _ _ ad ⟨(m2.mono ad).bN,by have:=m2.le;omega,fun id aB=> ?_⟩ fun id i1 i2=> ?_
 ·exact yL
 ·exact IQ
theorem Az(l:List Int)(hl:l.length<=9223372036854775807)(g:Nat)(aG:List V)(base:Nat)(h:Nat->ab)(p:Int->Bool)(hc:∀r∈V.aN aG,r<base)
 (hp:∀x∈l,fC Tryz.prog g (.d (.i x)::aG) base h h (.d (.bool (p x)))):fC Tryz.prog 90 [.d (.sl (l.map D.i)), .func (.func g) [] aG] base h h (.d (.bool (l.all p))):=by
 have:=Ir l hl g aG base (fun _:Unit=>h) (fun _ x=>((),p x)) hc (fun _=>True) (fun _ _ _ _ _=>trivial) (fun x hx _ _=>hp x hx) () trivial
 exact MJ
end Go.Proofs.YtonbelhklnmjnaaGreat
section
namespace Go.Proofs.YtonbelhklnmjnaaGreat
open Go.Sort Go.RowKit
def C4(P:Program)(g:FuncId):Prop:=∀ (eK off cap:Nat) (zs:List Int) (w:World),Holds (Value.int .i64) w eK off zs.toArray->eK<w.heap.size->zs.length<4611686018427387904->
    Calls P g #[.slice (some ⟨eK,off,none⟩) zs.length cap] w fun e w'=>
     e= .returned (.tuple #[])/\∃n os,w'=grow (putRow (Value.int .i64) (Sort.ahead w n) eK off (zs.mergeSort fun x y=>decide (x<=y)).toArray) os
def eg(l:List Int):List Int:=l.mergeSort fun x y=>decide (x<=y)
theorem Gg{B:Nat->Prop}{w:World}:∀ (zs:List Int) (xs:List Value),gz B w 1 (zs.map (D.int .i64)) xs↔xs=zs.map (Value.int .i64):=by
 have hd:∀ (zs:List Int) (evs:List Value),D.aM B w (zs.map (D.int .i64)) evs↔evs=zs.map (Value.int .i64):=by
  intro zs
  induction zs with
  |nil=>intro evs;simp[D.aM]
  |cons z zs ih=>
   intro evs
   simp only[List.map_cons,D.aM]
   constructor
   ·rintro⟨v,vs,rfl,h1,h2⟩
    rw[(ih vs).1 h2]
    simp only[D.den]at h1
    rw[h1]
   ·intro h
    exact⟨_,_,h,rfl,(ih _).2 rfl⟩
 have hf:∀zs:List Int,(zs.map (Value.int .i64)).flatMap (·.cells.toList)=zs.map (Value.int .i64):=by
  intro zs
  induction zs with
  |nil=>rfl
  |cons z zs ih=>simp only[List.map_cons,List.flatMap_cons,ih];rfl
 intro zs xs
 constructor
 ·rintro⟨evs,h1,h2,h3⟩
  rw[h1,(hd zs evs).1 h3,hf]
 ·intro h
  subst h
  exact⟨_,(hf zs).symm,fun ev dI=>by
   obtain⟨z,_,rfl⟩:=List.mem_map.1 dI
   rfl,(hd zs _).2 rfl⟩
theorem L6{P:Program}{g:FuncId}(hE:Enters P g)(hS:C4 P g){o:Nat->ab}{nx id ep:Nat}{ty:TypeId}{zs:List Int}(ho:o id= .arr ep ty 1 (zs.map (D.int .i64)))
 (hn:∀p cap w,Calls P g #[.slice p 0 cap] w fun e w'=>e= .returned (.tuple #[])/\w'=w)
 (hlen:zs.length<4611686018427387904) {K X:V->(Nat->ab)->Nat->Prop} (hK:K (.ck []) (aL o id (.arr ep ty 1 ((eg zs).map (D.int .i64)))) nx):cK P g [.osl id ep] o nx K X:=by
 refine⟨hE,fun M φ w vals hH hd=> ?_⟩
 obtain⟨val,us,oD,⟨v0,v1,v2⟩,fG⟩:=hd
 have fG:us=[]:=fG
 subst fG
 have fK:val=φ id:=(v2 ep (by show(o id).ct=some ep;rw[ho];rfl)).2 rfl
 have hvs:vals=#[φ id]:=by rw[<- fK];exact Array.ext' (by simpa using oD)
 subst hvs
 have J1:=hH.ok id
 unfold ba at J1
 rw[show(hp o nx).o id= .arr ep ty 1 (zs.map (D.int .i64))from ho]at J1
 obtain⟨_,xs,eu,bX⟩:=J1
 have Iy:=(Gg zs xs).1 bX
 subst Iy
 simp only[List.length_map]at eu
 obtain⟨hl,SZ|⟨b,cap,cur,eW,_,hg,fw,Du,hcs,aaU⟩⟩:=eu
 ·obtain⟨h1,h2⟩:=SZ
  have hz:zs=[]:=List.length_eq_zero_iff.1 h2
  subst hz
  rw[h1]
  refine(hn none 0 w).mono ?_
  rintro e w' ⟨rfl,rfl⟩
  have Jo:aL o id (.arr ep ty 1 ((eg []).map (D.int .i64)))=o:=by
   funext j
   by_cases e:j=id
   ·subst e;rw[ae,ho,show eg []=[] by simp[eg]]
   ·rw[ai _ _ _ _ e]
  rw[Jo]at hK
  exact⟨φ,o,nx, .ck [],hH,Trans.refl _ _ _,⟨#[],rfl,rfl⟩,hK⟩
 ·rw[eW]
  have hb:b<w.heap.size:=(Array.getElem?_eq_some_iff.1 hg).1
  have aaV:∀j,j<zs.length->cur[j]? =some (.int .i64 zs[j]!):=by
   intro j hj
   have h1:(cur.toList.take (zs.length*1))[j]? =(zs.map (Value.int .i64))[j]? :=by rw[aaU]
   rw[List.getElem?_take_of_lt (by omega),List.getElem?_map,List.getElem?_eq_getElem hj]at h1
   simp only[Option.map_some]at h1
   rw[getElem!_pos zs j hj]
   simpa using h1
  refine(hS b 0 cap zs w (fun j hj=> ?_) hb hlen).mono ?_
  ·simp only[List.size_toArray]at hj
   refine⟨?_, ?_⟩
   ·unfold World.cell?
    simp only[hg,Option.isSome_none,Bool.false_eq_true,if_false,Nat.zero_add]
    rw[aaV j hj];simp
   ·unfold World.frozen?
    simp[hg]
  rintro e w' ⟨rfl,n,os,rfl⟩
  have TV:(eg zs).length=zs.length:=List.length_mergeSort zs
  have FG:∀k,k<w.heap.size->(grow (putRow (Value.int .i64) (Sort.ahead w n) b 0 (eg zs).toArray) os).heap[k]? =(w.heap.modify b (onCells (putCells (Value.int .i64) 0 (eg zs).toArray)))[k]? :=by
   intro k hk
   unfold grow putRow mapBlock Sort.ahead
   simp only
   rw[Array.getElem?_append_left (by simpa using hk)]
  have xC:eF (· =b) w (grow (putRow (Value.int .i64) (Sort.ahead w n) b 0 (eg zs).toArray) os):=by
   refine⟨rfl,rfl,rfl, ?_,fun k hk iD=> ?_⟩
   ·unfold grow putRow mapBlock Sort.ahead;simp
   ·rw[FG k hk,Array.getElem?_modify,if_neg (fun e=>iD e.symm)]
  have c0:((hp o nx).o id).live=true:=by show(o id).live=true;rw[ho];rfl
  have Ha:eK (φ id)=some b:=by rw[eW];rfl
  have SY:(grow (putRow (Value.int .i64) (Sort.ahead w n) b 0 (eg zs).toArray) os).heap[b]? =some (.cells (putCells (Value.int .i64) 0 (eg zs).toArray cur) ty (0,0)):=by
   rw[FG b hb,Array.getElem?_modify,if_pos rfl,hg];rfl
  have kY:(hp o nx).put [(id, .arr ep ty 1 ((eg zs).map (D.int .i64)))]=hp (aL o id (.arr ep ty 1 ((eg zs).map (D.int .i64)))) nx:=by
   have fG:id<nx:=v1
   simp only[Hp.put,hp]
   congr 1
   funext j
   simp only[List.map_cons,List.map_nil,List.mem_singleton,eq_iff_iff]
   exact⟨fun h=>h.elim (fun h=>h) (fun e=>e ▸ fG), .inl⟩
  have uq:ba M φ ((hp o nx).put [(id, .arr ep ty 1 ((eg zs).map (D.int .i64)))]) (grow (putRow (Value.int .i64) (Sort.ahead w n) b 0 (eg zs).toArray) os) id:=by
   unfold ba
   rw[show((hp o nx).put [(id, .arr ep ty 1 ((eg zs).map (D.int .i64)))]).o id= .arr ep ty 1 ((eg zs).map (D.int .i64)) by simp]
   refine⟨aV,(eg zs).map (Value.int .i64), ?_,(Gg _ _).2 rfl⟩
   simp only[List.length_map,TV]
   refine⟨by simp[TV], .inr ⟨b,cap,_,eW,Nat.zero_le _,SY,fw,Du, ?_, ?_⟩⟩
   ·unfold putCells;simpa using hcs
   ·apply List.ext_getElem?
    intro j
    by_cases hj:j<zs.length
    ·rw[List.getElem?_take_of_lt (by omega),List.getElem?_map,List.getElem?_eq_getElem (l:=eg zs) (by omega)]
     have XQ:j<cur.size:=ad
     unfold putCells
     simp only[Array.getElem?_toList,Array.getElem?_mapIdx,Option.map_some]
     rw[Array.getElem?_eq_getElem XQ]
     simp only[Option.map_some,Nat.zero_le,true_and,Nat.zero_add,List.size_toArray,Nat.sub_zero]
     rw[if_pos (by omega)]
     rw[getElem!_pos _ j (by simp;omega)]
     simp
    ·rw[List.getElem?_eq_none (by rw[List.length_take,Nat.mul_one];exact Nat.le_trans (Nat.min_le_left _ _) (Nat.not_lt.1 hj)),List.getElem?_eq_none (by rw[List.length_map,TV];exact Nat.not_lt.1 hj)]
  have Sa:=iL hH (id:=id) v1 c0 Ha xC (.arr ep ty 1 ((eg zs).map (D.int .i64))) MI MI uq
  have Qf:=fe (φ:=φ) (H:=hp o nx) (id:=id) v1 c0 Ha xC (.arr ep ty 1 ((eg zs).map (D.int .i64))) MI MI
  rw[kY]at Sa Qf
  exact⟨φ,_,nx, .ck [],Sa,Qf,⟨#[],rfl,rfl⟩,hK⟩
end Go.Proofs.YtonbelhklnmjnaaGreat
end
section
namespace Go.Proofs.YtonbelhklnmjnaaGreat
open Go.Shelf
def C5:Go.Shelf.Ren:=⟨fun|189=>125|125=>166|257=>165|128=>216|129=>217|294=>207|295=>208|296=>209|297=>210|298=>211|299=>212|216=>213|300=>214|301=>215|328=>248|329=>249|330=>250|331=>251|332=>252|215=>253|343=>260|n=>n,fun|28=>41|3=>3|46=>172|0=>0|51=>206|53=>208|4=>4|183=>198|182=>197|131=>203|5=>5|9=>9|218=>220|222=>137|228=>227|229=>228|n=>n,fun|n=>n⟩
theorem Gh:Go.Proofs.Lays.n189 Tryz.prog C5:={
 mixed:=af
 f125:=Tryz.func166.trans (congrArg some af)
 f128:=Tryz.func216.trans (congrArg some af)
 f129:=Tryz.func217.trans (congrArg some af)
 f189:=Tryz.func125.trans (congrArg some af)
 f215:=Tryz.func253.trans (congrArg some af)
 f216:=Tryz.func213.trans (congrArg some af)
 f257:=Tryz.func165.trans (congrArg some af)
 f294:=Tryz.func207.trans (congrArg some af)
 f295:=Tryz.func208.trans (congrArg some af)
 f296:=Tryz.func209.trans (congrArg some af)
 f297:=Tryz.func210.trans (congrArg some af)
 f298:=Tryz.func211.trans (congrArg some af)
 f299:=Tryz.func212.trans (congrArg some af)
 f300:=Tryz.func214.trans (congrArg some af)
 f301:=Tryz.func215.trans (congrArg some af)
 f328:=Tryz.func248.trans (congrArg some af)
 f329:=Tryz.func249.trans (congrArg some af)
 f330:=Tryz.func250.trans (congrArg some af)
 f331:=Tryz.func251.trans (congrArg some af)
 f332:=Tryz.func252.trans (congrArg some af)
 f343:=Tryz.func260.trans (congrArg some af)
 t0:=Tryz.underlying0
 a0:=Tryz.isAgg0
 z0:=Tryz.sizeOf0
 v0:=Tryz.zeroValue0
 t3:=Tryz.underlying3
 a3:=Tryz.isAgg3
 z3:=Tryz.sizeOf3
 v3:=Tryz.zeroValue3
 t4:=Tryz.underlying4
 a4:=Tryz.isAgg4
 z4:=Tryz.sizeOf4
 v4:=Tryz.zeroValue4
 t5:=Tryz.underlying5
 a5:=Tryz.isAgg5
 z5:=Tryz.sizeOf5
 v5:=Tryz.zeroValue5
 t9:=Tryz.underlying9
 a9:=Tryz.isAgg9
 z9:=Tryz.sizeOf9
 v9:=Tryz.zeroValue9
 t28:=Tryz.underlying41
 a28:=Tryz.isAgg41
 z28:=Tryz.sizeOf41
 v28:=Tryz.zeroValue41
 t46:=Tryz.underlying172
 a46:=Tryz.isAgg172
 z46:=Tryz.sizeOf172
 v46:=Tryz.zeroValue172
 t51:=Tryz.underlying206
 a51:=Tryz.isAgg206
 z51:=Tryz.sizeOf206
 v51:=Tryz.zeroValue206
 t53:=Tryz.underlying208
 a53:=Tryz.isAgg208
 z53:=Tryz.sizeOf208
 v53:=Tryz.zeroValue208
 t131:=Tryz.underlying203
 a131:=Tryz.isAgg203
 z131:=Tryz.sizeOf203
 v131:=Tryz.zeroValue203
 t182:=Tryz.underlying197
 a182:=Tryz.isAgg197
 z182:=Tryz.sizeOf197
 v182:=Tryz.zeroValue197
 t183:=Tryz.underlying198
 a183:=Tryz.isAgg198
 z183:=Tryz.sizeOf198
 v183:=Tryz.zeroValue198
 t218:=Tryz.underlying220
 a218:=Tryz.isAgg220
 z218:=Tryz.sizeOf220
 v218:=Tryz.zeroValue220
 t222:=Tryz.underlying137
 a222:=Tryz.isAgg137
 z222:=Tryz.sizeOf137
 v222:=Tryz.zeroValue137
 t228:=Tryz.underlying227
 a228:=Tryz.isAgg227
 z228:=Tryz.sizeOf227
 v228:=Tryz.zeroValue227
 t229:=Tryz.underlying228
 a229:=Tryz.isAgg228
 z229:=Tryz.sizeOf228
 v229:=Tryz.zeroValue228}
theorem Is:C4 Tryz.prog 125:=fun eK off cap zs w h1 h2 h3=>Any.slices_Sort_int Gh eK off cap zs w h1 h2 h3
theorem It:∀ (p:Option Addr) (cap:Nat) (w:World),Calls Tryz.prog 125 #[.slice p 0 cap] w fun e w'=>e= .returned (.tuple #[])/\w'=w:=fun p cap w=>Any.slices_Sort_int_none Gh p cap w
theorem C6:Enters Tryz.prog 125:=⟨_,Tryz.func125,af,af⟩
end Go.Proofs.YtonbelhklnmjnaaGreat
end
namespace Go.Proofs.YtonbelhklnmjnaaGreat
theorem L7(t:Tm)(ht:t.fits)(o:Nat->ab)(nx:Nat)(hg:Good o nx)(K X:V->(Nat->ab)->Nat->Prop)
 (hK:∀o' nx' id l,nx<=id->id<nx'->Good o' nx'->(∀j,j<nx->o' j=o j)->o' id=tD l->l.Nodup->(∀v,v∈l↔rX v t=true)->K (.mp id) o' nx'):
 cK Tryz.prog 124 [.d t.d] o nx K X:=by
 refine cK.aA mix Qw aj ?_
 rw[Ur]
 refine iC ?_
 refine c6 (V4 t ht _ _ (nx+2) [] ?_ ?_ List.nodup_nil _ _ fun o2 n2 l m1 m2 m3 m4 m5=> ?_)
 ·exact dg
 ·exact eh
 refine aI ?_
 refine hK _ _ (nx+2) l ?_ ?_ ?_ (fun j hj=> ?_) m4 m5.1 (fun v=> ?_)
 ·omega
 ·omega
 ·exact m2.mono ad
 ·rw[m3 j (by omega) (by omega)];(repeat(first|rfl|rw[ae]|rw[ai _ _ _ _ (by omega)]))
 ·have:=m5.2 v
  simpa using this
theorem C7{l:List Int}{t:Tm}(hn:l.Nodup)(h:∀v,v∈l↔rX v t=true):eg l=bG t:=by
 have hp:(eg l).Perm l:=List.mergeSort_perm _ _
 have hs:(eg l).Pairwise (fun a b=>decide (a<=b)=true):=List.pairwise_mergeSort (fun a b c h1 h2=>by simp at*;omega) (fun a b=>by simp;omega) l
 have hnd:(eg l).Nodup:=hp.nodup_iff.2 hn
 refine Li ?_ (dK t).1 fun v=>by rw[hp.mem_iff,h v,(dK t).2 v]
 exact(hs.and hnd).imp fun {a b} h=>by have:=h.1;have:=h.2;simp at*;omega
theorem Ws(s:aX)(hs:s.Fits)(t:Tm)(ht:t.Fin):a7 Tryz.prog 89 [s.d,t.d] (.ret [.sl (if cX s [t]=true then(bG t).map .i else []), .i (jV (cX s [t]))]):=by
 refine a7.aA mix Zn aj ?_
 rw[c89]
 refine aI ?_
 refine ah (z8 s hs [t] aj (fun x hx=>by simp at hx;subst hx;exact ht)) rfl ?_
 cases h1:cX s [t]with
 |false=>exact Gl
 |true=>
  refine aI ?_
  refine c6 (L7 t ht.fits _ _ dg _ _ fun o2 n2 id l m1 m2 m3 m4 m5 m6 m7=> ?_)
  have w1:id≠n2:=ad
  have w2:∀k,id≠n2+k:=fun k=>ad
  refine Mi m5 w1 w2 ?_
  have acR:=C7 m6 m7
  have hlen:l.length<=40:=by
   have e1:(eg l).length=l.length:=List.length_mergeSort l
   have e2:=gV t
   have e3:=(HX h1 t aj).1
   rw[<- acR]at e2;omega
  refine aK (fun i:List Int×List Int×Option (D×D)=>⟨bA [.aa, .aa, .aa, .aa, .aa, .aa, .osl (n2+1) 0, .aa, .aa, .aa, .aa, .aa, .aa, .aa, .aa, .ptr n2 0],aL (aL (fun _=> .no) n2 (.mP (enc (D.int .i64) (iz i.1)) i.2.2)) (n2+1) (.arr 0 3 1 (i.2.1.map .i)),n2+2⟩)
   (fun i=>i.1.length+i.2.1.length<=40/\(i.2.1++i.1).Perm l) (fun i=>i.1.length) (l,[],none) ⟨by simpa using hlen,aj⟩ (bL.zY (fun _=>False) .bW (n2+1) _ ad (fun j hj=> ?_) (by dsimp only;(repeat(first|rfl|rw[ae]|rw[ai _ _ _ _ (by omega)]))) (.inl ⟨rfl,rfl,aV⟩) (fun j hj=>by dsimp only;(repeat(first|rfl|rw[ae]|rw[ai _ _ _ _ (by omega)]))) (fun _ h=>h.elim) ?_) ?_
  ·dsimp only
   have ne:j≠n2+1:=ad
   simp only[aR,ne,if_false]
   split
   ·exact c7 rfl (by simp[ab.refs])
   ·exact FF
  ·try dsimp only
   exact ra
  rintro⟨rest,Sb,last⟩ ⟨hl,hp⟩
  simp only at hl hp
  refine aI ?_
  refine yj (fun hr=> ?_) fun i m hm=> ?_
  ·subst hr
   refine iC ?_
   have hp':Sb.Perm l:=by simpa using hp
   have hsd:eg Sb=bG t:=C7 (hp'.nodup_iff.2 m6) fun v=>by rw[hp'.mem_iff,m7 v]
   refine c6 (L6 C6 Is (zs:=Sb) eh It ad ?_)
   refine iC ?_
   rw[hsd]
   simp[jV]
  ·have e1:Sb.length<=140737488355328:=ad
   have e2:Sb.length*8<=140737488355328:=ad
   have e3:Sb.length<=140737488355327:=ad
   have e4:(Sb.length+1)*8<=140737488355328:=ad
   simp+contextual (disch:=first|omega|simp only[go_sem,false_implies]) only[go_sem,wrap64,if_pos,Nat.add_assoc,Nat.left_eq_add,Nat.add_eq_left,Nat.add_left_cancel_iff,e1,e2,e3,e4]
   obtain⟨r1,r2⟩:=vG hm
   have Ix:(rest.eraseIdx i).length+1=rest.length:=r2
   refine au (rest.eraseIdx i,Sb++[m],some (.int .i64 m, .bool true)) ⟨by dsimp only;simp;omega, ?_⟩ mG (bL.zY (fun j=>j=n2+1) (.osl (n2+1) 1) (n2+1) _ ad (fun j hj=> ?_) (by dsimp only;(repeat(first|rfl|rw[ae]|rw[ai _ _ _ _ (by omega)]))) (.inr ⟨n2+1,1,rfl,rfl,by rw[ae,List.map_append];rfl⟩) (fun j hj=>by dsimp only;(repeat(first|rfl|rw[ae]|rw[ai _ _ _ _ (by omega)]))) (fun j h h2=>ad) ?_)
   ·dsimp only
    refine List.Perm.trans ?_ hp
    rw[List.append_assoc]
    refine List.Perm.append_left _ ?_
    exact Ey hm
   ·dsimp only
    have ne:j≠n2+1:=ad
    have ne9:j≠n2+9:=ad
    simp only[aR,ne,ne9,if_false]
    split
    ·exact c7 rfl (by simp[ab.refs])
    ·exact FF
   ·try dsimp only
    exact ra
theorem L8(env:List Tm)(hl:env.length<=9223372036854775807)(n:Int)(base sp:Nat)(h:Nat->ab)(te:h sp= .row [.d (.sl (env.map Tm.d))])(hb:sp<base):fC Tryz.prog 91 [.d (.i n), .ptr sp 0] base h h (.d (.bool (decide (n<env.length)))):=by
 intro o nx hI K X hK
 have hle:=hI.le
 have hg:=hI.bN
 have q0:o sp= .row [.d (.sl (env.map Tm.d))]:=by rw[hI.eq sp hb,te]
 refine cK.aA mix Zp aj ?_
 rw[c91]
 refine eR q0 ?_
 exact hK _ _ ad ⟨dg,ad,fun j hj=>hI.eq j hj⟩ (fun j g1 g2=>rfl)
def AA(p:Pg)(env:List Tm)(e:Tm)(f:Pf):Bool:=((qD p&&kH p.sig env)&&sX p.sig f)&&(cX p.sig [e]&&(bG e).all fun n=>decide (n<(env.length:Int)))
theorem L9(p:Pg)(hp:p.Fin)(env:List Tm)(hl:env.length<=9223372036854775807)(hv:∀t∈env,t.fits)(e:Tm)(he:e.wO)(f:Pf)(hf:f.fits)(hd:f.iU<=900000):
 a7 Tryz.prog 51 [p.d, .sl (env.map Tm.d),e.d,f.d] (.ret [.bool (AA p env e f)]):=by
 have Pl:=gV e
 have hz:=he.size
 rw[Tm.kx]at hz
 refine a7.aA mix Zb aj ?_
 rw[c51,AA]
 refine aI ?_
 refine ah (Le p hp) rfl ?_
 cases h1:qD p with
 |false=>exact Mz
 |true=>
 refine wu ?_
 refine ah (Lg p.sig hp.sig env hl hv) rfl ?_
 cases h2:kH p.sig env with
 |false=>exact cF
 |true=>
 refine aI ?_
 refine ah (Ev p hp f hf hd) rfl ?_
 cases h3:sX p.sig f with
 |false=>exact cF
 |true=>
 refine aI ?_
 refine bf (Ws p.sig hp.sig e he.toFin) ?_
 cases h4:cX p.sig [e]with
 |false=>exact Mz
 |true=>
 refine wu ?_
 refine bc (Az (bG e) ad 91 [.ptr 1 0] 4 (aL (aL (aL (aL (fun _=> .no) 0 (.row p.row)) 1 (.row [.d (.sl (env.map Tm.d))])) 2 (.row e.row)) 3 (.row f.row)) (fun n=>decide (n<(env.length:Int))) lU (fun x hx=>L8 env hl x 4 1 _ eh ad) _ _ ⟨dg,ad,fun id aB=>rfl⟩ _ _ fun o2 n2 m1 m2 m3=> ?_)
 exact cF
end Go.Proofs.YtonbelhklnmjnaaGreat
namespace Go.Proofs.YtonbelhklnmjnaaGreat
structure fI (p:Pg) (env:List Tm) (e:Tm) (f:Pf):Prop where
 pf:p.Fits
 ps:gf p=true
 vf:∀t∈env,t.fits
 vs:fF env=true
 ef:e.fits
 es:ir e=true
 ff:f.fits
 fs:lT f=true
section
variable {p:Pg}{env:List Tm}{e:Tm}{f:Pf}
theorem fI.few (h:fI p env e f):p.Fw:=H8 h.pf h.ps
theorem fI.fin (h:fI p env e f):p.Fin:=(yx h.pf h.ps).1
theorem fI.prog (h:fI p env e f):qD p=dY p:=OB p (yx h.pf h.ps).2
theorem fI.OZ (h:fI p env e f):env.length<=25:=by have:=h.vs;simp only[fF,Bool.and_eq_true,decide_eq_true_eq]at this;exact this.1
theorem fI.aaW (h:fI p env e f):e.wO:=Tm.wO.KJ h.ef h.es
theorem fI.fsz (h:fI p env e f):f.sh.sz<=520/\f.iU<=160:=by
 have:=h.fs
 simp only[lT,Bool.and_eq_true,decide_eq_true_eq,kz,V9]at this
 omega
end
theorem Gi{l:List Int}(hi:Mv l)(n:Int):(l.all fun v=>decide (v<n))=(l.length==0||decide (l.getLast?.getD 0<n)):=by
 cases hl:l.getLast? with
 |none=>rw[List.getLast?_eq_none_iff]at hl;subst hl;rfl
 |some y=>
  have iD:l≠[]:=by intro h;subst h;cases hl
  have hlen:(l.length==0)=false:=by simpa using iD
  rw[hlen,Bool.false_or,Option.getD_some,Bool.eq_iff_iff,List.all_eq_true,decide_eq_true_eq]
  constructor
  ·intro h;simpa using h y (List.mem_of_getLast? hl)
  ·intro h v hv
   rw[decide_eq_true_eq]
   rw[List.getLast?_eq_getElem?]at hl
   obtain⟨i,SU,e⟩:=List.getElem_of_mem hv
   obtain⟨h1,h2⟩:=List.getElem?_eq_some_iff.1 hl
   by_cases hc:i=l.length - 1
   ·subst hc;rw[h2]at e;omega
   ·have:=(List.pairwise_iff_getElem.1 hi) i (l.length - 1) SU h1 ad
    rw[e,h2]at this;omega
theorem Ma{p:Pg}{env:List Tm}{e:Tm}{f:Pf}(h:fI p env e f):AA p env e f=(dY p&&fE p.sig f&&eA p.sig env e):=by
 unfold AA eA
 rw[h.prog,OC]
 cases h1:dY p with
 |false=>rfl
 |true=>
  have hsg:iV p.sig=true:=by simp only[dY,Bool.and_eq_true]at h1;exact h1.1.1
  have hr:cX p.sig [e]=dL p.sig e:=by unfold cX;simp[hsg,pw]
  rw[hr,Gi (dK e).1]
  cases kH p.sig env<;>cases fE p.sig f<;>cases dL p.sig e<;>simp
structure aaX (p:Pg) (env:List Tm) (e:Tm) (f:Pf):Prop where
 prog:kE p
 few:p.Fw
 ev:dM p.sig env
 exp:cY p.sig env.length e
 pf:oH p.sig f
theorem Iu{s:aX}{t:Tm}(h:ez s t=true):∀v,rX v t=true->0<=v:=by
 have key:∀t:Tm,ez s t=true->∀v,rX v t=true->0<=v:=by
  refine Tm.cC fun t ih h v hv=> ?_
  rw[dC,Bool.and_eq_true,List.all_eq_true]at h
  rw[gH]at hv
  by_cases h1:t.op=1
  ·rw[if_pos h1]at hv
   have e:t.n=v:=by simpa using hv
   have hn:=h.1
   simp[bw,h1,cZ]at hn
   omega
  ·rw[if_neg h1]at hv
   have:∀ (l:List Tm) (i:Nat),(∀k∈l,k∈t.kids)->gZ v t.op t.n l i=true->0<=v:=by
    intro l
    induction l with
    |nil=>intro i _ h;simp[gZ]at h
    |cons k l oj=>
     intro i hk hv
     simp only[gZ,Bool.or_eq_true,Bool.and_eq_true]at hv
     rcases hv with hv|hv
     ·exact ih k (hk k aj) (h.2 k (hk k aj)) v hv.1
     ·exact oj _ (fun x hx=>hk x lu) hv
   exact this t.kids 0 (fun _ h=>h) hv
 exact key t h
theorem EN{p:Pg}{env:List Tm}{e:Tm}{f:Pf}(h:fI p env e f)(h1:dY p=true)(h2:fE p.sig f=true)(h3:eA p.sig env e=true):aaX p env e f:=by
 simp only[eA,Bool.and_eq_true]at h3
 obtain⟨⟨a,b⟩,c⟩:=h3
 simp only[fE,Bool.and_eq_true]at h2
 refine⟨⟨h.fin,h1⟩,h.few,Lq h.vf a,⟨h.ef,jd b,fun v hv=>⟨Iu (jd b) v hv, ?_⟩⟩,⟨h.ff,h2.2,by have:=h.fsz;omega⟩⟩
 rw[<- Gi (dK e).1,List.all_eq_true]at c
 simpa using c v (((dK e).2 v).2 hv)
def Mb(p:Pg)(env:List Tm)(e:Tm)(f:Pf):Tm×Int:=if(dY p&&fE p.sig f&&eA p.sig env e)=true then(if bp p f env e=true then(f.val,0)else(OL,7))else(OL,2)
theorem C8{p:Pg}{env:List Tm}{e:Tm}{f:Pf}(h:fI p env e f):a7 Tryz.prog 10 [p.d, .sl (env.map Tm.d),e.d,f.d] (.ret [(Mb p env e f).1.d, .i (Mb p env e f).2]):=by
 have Pl:=h.OZ
 have hg:=L9 p h.fin env ad h.vf e h.aaW f h.ff (by have:=h.fsz;omega)
 rw[Ma h]at hg
 refine a7.aA mix Y7 aj ?_
 rw[c10,Mb]
 refine aI ?_
 refine ah hg rfl ?_
 cases h1:(dY p&&fE p.sig f&&eA p.sig env e)with
 |false=>
  rw[if_neg Bool.false_ne_true,As]
  exact cF
 |true=>
 rw[if_pos rfl]
 have cm:=h1
 simp only[Bool.and_eq_true]at cm
 have ok:=EN h cm.1.1 cm.1.2 cm.2
 refine aI ?_
 refine c6 (Iq ok.prog ok.few f ok.pf env ok.ev e ok.exp _ _ dg _ _ fun o1 n1 g1 g2 g3=> ?_)
 have q2:o1 2= .row f.row:=by
  rw[g3 2 (by omega)]
  exact eh
 have q3:o1 3= .row [.d (.i 0), .d (.i 0), .bW]:=by
  rw[g3 3 (by omega)]
  exact eh
 cases h2:bp p f env e with
 |false=>
  rw[if_neg Bool.false_ne_true,As]
  exact yH q3
 |true=>
 rw[if_pos rfl]
 have hz:=ok.pf.val.2.1
 have h20:3<n1:=ad
 have y1:∀k,3≠n1+k:=fun k=>ad
 refine Mi q2 q3 y1 ?_
 refine bf (LG [f.val] aj AS) ?_
 simp+contextual (disch:=first|omega|simp only[go_sem,false_implies]) only[go_sem,wrap64,if_pos,q2,q3,Nat.add_assoc,Nat.left_eq_add,Nat.add_eq_left,Nat.add_left_cancel_iff,y1]
end Go.Proofs.YtonbelhklnmjnaaGreat
namespace Go.Proofs.YtonbelhklnmjnaaGreat
theorem Mc(p:Pg)(hp:p.Fw):a7 Tryz.prog 12 [p.d] (.ret [.bool (dY p)]):=by
 refine a7.aA mix abT aj ?_
 rw[c12]
 refine aI ?_
 refine ah (OI p hp) rfl ?_
 exact cF
theorem EO(p:Pg)(hp:p.Fits):a7 Tryz.prog 39 [p.d] (.ret [.bool (gf p)]):=by
 refine a7.aA mix ab3 aj ?_
 rw[c39]
 refine aI ?_
 refine ah (H7 p hp) rfl ?_
 exact cF
def we(p:Pg)(env:List Tm)(e:Tm)(f:Pf):Bool:=gf p&&fF env&&ir e&&lT f
theorem O0(p:Pg)(env:List Tm)(e:Tm)(f:Pf)(hp:p.Fits)(hl:env.length<=9223372036854775807)(hv:∀t∈env,t.fits)(he:e.fits)(hf:f.fits):a7 Tryz.prog 8 [p.d, .sl (env.map Tm.d),e.d,f.d] (.ret [.bool (we p env e f)]):=by
 refine a7.aA mix fn8 aj ?_
 rw[c8,we]
 refine aI ?_
 refine ah (EO p hp) rfl ?_
 cases h1:gf p with
 |false=>exact cF
 |true=>
 refine aI ?_
 refine ah (vW env hl hv) rfl ?_
 cases h2:fF env with
 |false=>exact cF
 |true=>
 refine aI ?_
 refine ah (zZ e he) rfl ?_
 cases h3:ir e with
 |false=>exact cF
 |true=>
 refine aI ?_
 refine ah (H9 f hf) rfl ?_
 exact cF
theorem aaY{p:Pg}{env:List Tm}{e:Tm}{f:Pf}(hp:p.Fits)(hv:∀t∈env,t.fits)(he:e.fits)(hf:f.fits)(h:we p env e f=true):fI p env e f:=by
 simp only[we,Bool.and_eq_true]at h
 exact⟨hp,h.1.1.1,hv,h.1.1.2,he,h.1.2,hf,h.2⟩
theorem fI.val {p:Pg}{env:List Tm}{e:Tm}{f:Pf}(h:fI p env e f):kT f.val=true:=by
 have:=h.fs
 simp only[lT,Bool.and_eq_true]at this
 have:=this.2
 rw[CX]at this
 simp only[Bool.and_eq_true]at this
 exact this.1.1
def mE(a b:List Tm):Prop:=∀i:Nat,vz ((a[i]?).getD hU) ((b[i]?).getD hU)=true
theorem bot_le(t:Tm):vz hU t=true:=by rw[vA];exact if_pos rfl
theorem yF(env:List Tm)(n:Int)(v:Tm)(i:Nat):((jH env n v)[i]?).getD hU=if i=n.toNat then v else(env[i]?).getD hU:=by
 have hl:n.toNat<(env++List.replicate (n.toNat+1 - env.length) hU).length:=by simp;omega
 unfold jH
 by_cases h:i=n.toNat
 ·subst h
  rw[if_pos rfl,List.getElem?_set_self hl];rfl
 ·rw[if_neg h,List.getElem?_set_ne (fun e=>h e.symm)]
  by_cases h2:i<env.length
  ·rw[List.getElem?_append_left h2]
  ·rw[List.getElem?_append_right (by omega),List.getElem?_eq_none (l:=env) (by omega),List.getElem?_replicate]
   split<;>rfl
theorem mE.with {a b:List Tm}(h:mE a b)(n:Int)(v:Tm):mE (jH a n v) (jH b n v):=fun i=>by
 rw[yF,yF]
 split
 ·exact FP v
 ·exact h i
theorem mE.rfl' (a:List Tm):mE a a:=fun i=>FP _
def O1(g:List (List Tm->Tm->Bool)):Prop:=∀h∈g,∀a b e,mE a b->h a e=true->h b e=true
theorem ju{g:List (List Tm->Tm->Bool)}(hg:O1 g){a b:List Tm}(h:mE a b)(i:Nat)(e:Tm)(H:pA g i a e=true):pA g i b e=true:=by
 unfold pA at H|-
 cases hi:g[i]? with
 |none=>rw[hi]at H;cases H
 |some f=>
  rw[hi]at H
  exact hg f (List.mem_of_getElem? hi) a b e h H
theorem sq{g:List (List Tm->Tm->Bool)}(hg:O1 g){a b:List Tm}(h:mE a b)(es:List Tm)(H:nK g a es=true):nK g b es=true:=by
 unfold nK at H|-
 rw[Bool.and_eq_true,List.all_eq_true]at H|-
 exact⟨H.1,fun x hx=>hg x.1 (List.of_mem_zip hx).1 a b x.2 h (H.2 x hx)⟩
theorem Iv(p:Pg)(r:Int)(v:Tm)(n:Int)(bd:List Tm)(ks:List Pf){g:List (List Tm->Tm->Bool)}(hg:O1 g){a b:List Tm}(h:mE a b)(e:Tm)(H:nL p r v n bd ks g a e=true):nL p r v n bd ks g b e=true:=by
 have hg2:∀m,O1 (g.take m):=fun m f hf=>hg f (List.mem_of_mem_take hf)
 unfold nL at H|-
 by_cases h1:r=1
 ·rw[if_pos h1]at H|-;exact H
 rw[if_neg h1]at H|-
 by_cases h1:r=2
 ·rw[if_pos h1]at H|-
  simp only[Bool.and_eq_true]at H|-
  exact⟨H.1,H.2.1,KO _ _ _ H.2.2 (h _)⟩
 rw[if_neg h1]at H|-
 by_cases h1:r=3
 ·rw[if_pos h1]at H|-;exact H
 rw[if_neg h1]at H|-
 by_cases h1:r=4
 ·rw[if_pos h1]at H|-
  simp only[Bool.and_eq_true]at H|-
  exact⟨H.1,H.2.1,sq hg h _ H.2.2⟩
 rw[if_neg h1]at H|-
 by_cases h1:r=5
 ·rw[if_pos h1]at H|-
  simp only[Bool.and_eq_true]at H|-
  exact⟨H.1,H.2.1,sq hg h _ H.2.2⟩
 rw[if_neg h1]at H|-
 by_cases h1:r=6
 ·rw[if_pos h1]at H|-
  cases hr:p.rules[n.toNat]? with
  |none=>rw[hr]at H;simp at H
  |some ru=>
   rw[hr]at H
   simp only[Bool.and_eq_true]at H|-
   exact⟨H.1,H.2.1,⟨H.2.2.1.1,sq (hg2 _) h _ H.2.2.1.2⟩,H.2.2.2⟩
 rw[if_neg h1]at H|-
 by_cases h1:r=7
 ·rw[if_pos h1]at H|-
  simp only[Bool.and_eq_true]at H|-
  exact⟨H.1,H.2.1,ju hg h _ _ H.2.2⟩
 rw[if_neg h1]at H|-
 by_cases h1:r=8
 ·rw[if_pos h1]at H|-
  simp only[Bool.and_eq_true]at H|-
  exact⟨H.1,H.2.1,ju hg h _ _ H.2.2⟩
 rw[if_neg h1]at H|-
 by_cases h1:r=9
 ·rw[if_pos h1]at H|-
  simp only[Bool.and_eq_true]at H|-
  exact⟨H.1,⟨H.2.1.1,ju hg h _ _ H.2.1.2⟩,ju hg (h.with _ _) _ _ H.2.2⟩
 rw[if_neg h1]at H|-
 by_cases h1:r=15
 ·rw[if_pos h1]at H|-
  simp only[Bool.and_eq_true]at H|-
  exact⟨⟨H.1.1,⟨ju hg h _ _ H.1.2.1.1,ju hg h _ _ H.1.2.1.2⟩,H.1.2.2⟩,H.2⟩
 rw[if_neg h1]at H|-
 simp only[Bool.and_eq_true]at H|-
 exact⟨H.1,ju hg h _ _ H.2.1,ju hg h _ _ H.2.2⟩
theorem Md(p:Pg):∀ (f:Pf) (a b:List Tm) (e:Tm),mE a b->bp p f a e=true->bp p f b e=true:=by
 refine Pf.cC fun f ih a b e h H=> ?_
 rw[fD]at H|-
 refine Iv p _ _ _ _ _ (fun g hg=> ?_) h e H
 obtain⟨k,hk,rfl⟩:=List.mem_map.1 hg
 exact ih k hk
theorem Me{a b:List Tm}(hl:a.length<=b.length)(h:∀ (i:Nat) (x y:Tm),a[i]? =some x->b[i]? =some y->vz x y=true):mE a b:=fun i=>by
 cases hx:a[i]? with
 |none=>exact bot_le _
 |some x=>
  have cU:=(List.getElem?_eq_some_iff.1 hx).1
  obtain⟨y,hy⟩:∃y,b[i]? =some y:=⟨b[i]'ad,aj⟩
  rw[hy]
  exact h i x y hx hy
def O2(p:Pg)(env:List Tm)(e:Tm)(f:Pf):Bool:=dY p&&eA p.sig env e&&fE p.sig f
theorem Mf{p:Pg}{env:List Tm}{e:Tm}{f:Pf}(sm:fI p env e f):a7 Tryz.prog 23 [p.d, .sl (env.map Tm.d),e.d,f.d] (.ret [.bool (O2 p env e f)]):=by
 have hl:=sm.OZ
 refine a7.aA mix abY aj ?_
 rw[c23,O2]
 refine aI ?_
 refine ah (Mc p sm.few) rfl ?_
 cases h1:dY p with
 |false=>exact cF
 |true=>
 refine aI ?_
 refine ah (LD p sm.fin.sig env ad sm.vf e sm.aaW) rfl ?_
 cases h2:eA p.sig env e with
 |false=>exact cF
 |true=>
 refine aI ?_
 refine ah (LC p sm.fin.sig f sm.ff) rfl ?_
 exact cF
theorem fI.with {p:Pg}{env v:List Tm}{e:Tm}{f:Pf}(h:fI p env e f)(hf:∀t∈v,t.fits)(hs:fF v=true):fI p v e f:=⟨h.pf,h.ps,hf,hs,h.ef,h.es,h.ff,h.fs⟩
theorem Mg{s:aX}(hs:s.Fits)(hg:iV s=true){a b:Tm}(fa:a.fits)(fb:b.fits)(pa:sT s a=true)(pb:sT s b=true):a7 Tryz.prog 25 [s.d,a.d,b.d] (.ret [.bool (vz a b), .i 0]):=by
 have:=Oj s hs a b fa fb
 have l2:iy s [a,b]=true:=by simp[iy,hg,pa,pb]
 rw[l2]at this
 simpa[jV]using this
set_option maxHeartbeats 2000000 in
theorem AB(O3:a7 Tryz.prog 9 [] (.ret [.bool true]))(p:Pg)(env Dg:List Tm)(e:Tm)(f:Pf)(hp:p.Fits)(hl:env.length<=9223372036854775807/\∀t∈env,t.fits)(yO:Dg.length<=9223372036854775807/\∀t∈Dg,t.fits)(he:e.fits)(hf:f.fits):a7 Tryz.prog 4 [p.d, .sl (env.map Tm.d), .sl (Dg.map Tm.d),e.d,f.d] (.ret [.bool true]):=by
 refine a7.aA mix fn4 aj ?_
 rw[c4]
 refine aI ?_
 refine ah (O0 p env e f hp hl.1 hl.2 he hf) rfl ?_
 cases h0:we p env e f with
 |false=>
  refine aI ?_
  refine ah O3 rfl ?_
  exact cF
 |true=>
 have sm:=aaY hp hl.2 he hf h0
 refine aI ?_
 refine ah (vW Dg yO.1 yO.2) rfl ?_
 cases h1:fF Dg with
 |false=>
  refine aI ?_
  refine ah O3 rfl ?_
  exact cF
 |true=>
 have sa:=sm.with yO.2 h1
 refine aI ?_
 refine ah (Mf sm) rfl ?_
 cases h2:O2 p env e f with
 |false=>
  refine aI ?_
  refine ah O3 rfl ?_
  exact cF
 |true=>
 refine aI ?_
 refine ah (EI p.sig sm.fin.sig Dg yO.1 yO.2) rfl ?_
 cases h3:kH p.sig Dg with
 |false=>
  refine aI ?_
  refine ah O3 rfl ?_
  exact cF
 |true=>
 have z1:=sm.OZ
 have z2:=sa.OZ
 refine iG ?_
 refine ak (fun h4=> ?_) (fun h4=> ?_)
 ·refine aI ?_
  refine ah O3 rfl ?_
  exact cF
 simp at h4
 refine aI ?_
 simp only[O2,Bool.and_eq_true]at h2
 obtain⟨⟨g1,g2⟩,g3⟩:=h2
 have ok:=EN sm g1 g3 g2
 have DE:eA p.sig Dg e=true:=by
  simp only[eA,Bool.and_eq_true,Bool.or_eq_true,decide_eq_true_eq]at g2|-
  refine⟨⟨h3,g2.1.2⟩,g2.2.imp id fun h=>ad⟩
 have ok2:=EN sa g1 g3 DE
 have hsg:iV p.sig=true:=by simp only[dY,Bool.and_eq_true]at g1;exact g1.1.1
 have he1:kH p.sig env=true:=by simp only[eA,Bool.and_eq_true]at g2;exact g2.1.1
 have hv1:∀t∈env,sT p.sig t=true:=by simp only[kH,Bool.and_eq_true,List.all_eq_true]at he1;exact he1.2
 have Ga:∀t∈Dg,sT p.sig t=true:=by simp only[kH,Bool.and_eq_true,List.all_eq_true]at h3;exact h3.2
 refine aK (fun k:Nat=>⟨bA [.aa, .d (.sl (env.map Tm.d)), .d (.sl (Dg.map Tm.d)), .aa, .aa, .ptr 0 0, .aa, .aa, .ptr 1 0, .ptr 2 0, .aa, .d (.i k)],aL (aL (aL (fun _=> .no) 0 (.row p.row)) 1 (.row e.row)) 2 (.row f.row),3⟩)
  (fun k=>k<=env.length/\∀ (i:Nat) (x y:Tm),i<k->env[i]? =some x->Dg[i]? =some y->vz x y=true) (fun k=>env.length - k) 0 ⟨Nat.zero_le _,fun i _ _ hi=>ad⟩ ?_ (fun k hk=> ?_)
 ·refine bL.bP _ (Nat.zero_le _) ad dg (fun id aB=>sr) ?_
  exact cG
 refine iG ?_
 refine ak (fun h5=> ?_) (fun h5=> ?_)
 ·simp at h5
  obtain⟨x,hx⟩:=aw (l:=env) (k:=k) ad
  obtain⟨y,hy⟩:=aw (l:=Dg) (k:=k) ad
  have dc:=List.mem_of_getElem? hx
  have wL:=List.mem_of_getElem? hy
  refine mF hx hy ?_
  refine aq (Mg sm.fin.sig hsg (hl.2 x dc) (yO.2 y wL) (hv1 x dc) (Ga y wL)) rfl ?_
  refine mF hx hy ?_
  refine ao (aE rfl) ?_
  refine mF hx hy ?_
  refine aq (KU x (hl.2 x dc) y (yO.2 y wL)) rfl ?_
  refine mF hx hy ?_
  refine ao (aE rfl) ?_
  simp+contextual (disch:=first|omega|simp only[go_sem,false_implies]) only[go_sem,wrap64,if_pos,bne_self_eq_false]
  cases h6:vz x y with
  |false=>
   refine aI ?_
   refine ah O3 rfl ?_
   exact cF
  |true=>
   refine aI ?_
   refine au (k+1) ⟨ad,fun i x' y' hi AH S7=> ?_⟩ ad ?_
   ·by_cases e:i=k
    ·subst e
     rw[hx]at AH;rw[hy]at S7
     injection AH with AH;injection S7 with S7
     subst AH;subst S7;exact h6
    ·exact hk.2 i x' y' ad AH S7
   ·refine bL.bP _ (Nat.zero_le _) ad dg (fun id aB=>sr) ?_
    exact cG
 ·simp at h5
  have hle:mE env Dg:=Me h4 fun i x y hx hy=>hk.2 i x y Sr hx hy
  have ac:=C8 sm
  have Wt:=C8 sa
  have hc1:(dY p&&fE p.sig f&&eA p.sig env e)=true:=by rw[g1,g2,g3];rfl
  have tj:(dY p&&fE p.sig f&&eA p.sig Dg e)=true:=by rw[g1,DE,g3];rfl
  rw[Mb,hc1,if_pos rfl]at ac
  rw[Mb,tj,if_pos rfl]at Wt
  refine iG ?_
  have hvf:=((Pf.aP f).1 hf).1
  cases h7:bp p f env e with
  |false=>
   rw[h7,if_neg Bool.false_ne_true,As]at ac
   refine bf ac ?_
   refine aI ?_
   cases h8:bp p f Dg e with
   |false=>
    rw[h8,if_neg Bool.false_ne_true,As]at Wt
    refine bf Wt ?_
    refine aI ?_
    refine ah O3 rfl ?_
    exact cF
   |true=>
    rw[h8,if_pos rfl]at Wt
    refine bf Wt ?_
    refine aI ?_
    refine ah O3 rfl ?_
    exact cF
  |true=>
   rw[h7,if_pos rfl]at ac
   rw[Md p f env Dg e hle h7,if_pos rfl]at Wt
   refine bf ac ?_
   refine aI ?_
   refine bf Wt ?_
   refine aI ?_
   refine ah (qz f.val hvf) rfl ?_
   refine dz sm.val ?_
   refine ah (qz f.val hvf) rfl ?_
   refine dz sm.val ?_
   refine ah (VR f.val hvf f.val hvf) rfl ?_
   simp+contextual (disch:=first|omega|simp only[go_sem,false_implies]) only[go_sem,wrap64,if_pos,vu f.val]
   refine ah O3 rfl ?_
   exact cF
end Go.Proofs.YtonbelhklnmjnaaGreat
section
namespace Go.Proofs.YtonbelhklnmjnaaGreat
open Go.ChangeShapes Go.WideShapes Go.RowKit
theorem Mh:∀ (n:Nat) (x:D),SizeOf.sizeOf x<=n->D.jE Tryz.prog x 35->∃t:Pf,x=t.d/\t.fits:=by
 intro n
 induction n with
 |zero=>intro x hx _;cases x<;>simp at hx
 |succ n ih=>
  intro x hx h
  obtain⟨cs,rfl,hh⟩:=nM af (ls:=[32,29,3,28,3,28,33]) af h
  clear h;have h:=hh;clear hh
  obtain⟨a,cs,rfl,ha,h⟩:=bt h
  obtain⟨b,cs,rfl,hb,h⟩:=bt h
  obtain⟨c,cs,rfl,hc,h⟩:=bt h
  obtain⟨d,cs,rfl,hd,h⟩:=bt h
  obtain⟨e,cs,rfl,he,h⟩:=bt h
  obtain⟨f,cs,rfl,hf,h⟩:=bt h
  obtain⟨g,cs,rfl,hg,h⟩:=bt h
  have:=jU h;subst this
  obtain⟨r,hr,_⟩:=vR undT_32 ha
  subst hr
  obtain⟨o,rfl⟩:=Wd hb
  obtain⟨m,rfl⟩:=vS hc
  obtain⟨vk,rfl,v1,v2⟩:=yw hd
  obtain⟨u,rfl⟩:=vS he
  obtain⟨bs,rfl,b1,b2⟩:=yw hf
  obtain⟨es,rfl,h1,h2⟩:=od (e:=35) af hg
  have Da:SizeOf.sizeOf es<=n:=by simp at hx;omega
  have:∀es:List D,SizeOf.sizeOf es<=n->D.EE Tryz.prog es 35->∃l:List Pf,es=l.map Pf.d/\∀k∈l,k.fits:=by
   intro es
   induction es with
   |nil=>intro _ _;exact⟨[],rfl,fun _ h=>by cases h⟩
   |cons y es ihe=>
    intro hs h
    simp at hs
    obtain⟨t,rfl,ht⟩:=ih y ad h.1
    obtain⟨l,rfl,hl⟩:=ihe ad h.2
    exact⟨t::l,rfl,fun b hb=>(List.mem_cons.1 hb).elim (fun e=>e ▸ ht) (hl b)⟩
  obtain⟨l,rfl,hl⟩:=this es Da h2
  refine⟨.mk r (.mk o m vk) u bs l,by rw[Pf.Hn];rfl, ?_⟩
  rw[Pf.aP]
  exact⟨(Tm.aP _).2 ⟨v1,v2⟩,b1,b2,by have:=lS;simp at h1;simp only[Pf.kids];omega,hl⟩
theorem acS{x:D}(h:D.jE Tryz.prog x 35):∃t:Pf,x=t.d/\t.fits:=Mh _ x (Nat.le_refl _) h
end Go.Proofs.YtonbelhklnmjnaaGreat
end
section
namespace Go.Proofs.YtonbelhklnmjnaaGreat
open Go
def Wu:Nat->Bool:=fun g=> !([206,205,245,246,231,257,258,56,96,97,129,113,164,125,165,207,208,209,210,211,212,214,215,248,251,252,260,92,116,94]:List Nat).contains g
def xP:D:= .agg [.sl [.agg [.str [70,97,108,115,101], .i 0], .agg [.str [84,114,117,101], .i 0], .agg [.str [90], .i 0], .agg [.str [83], .i 1], .agg [.str [78,105,108], .i 0], .agg [.str [67,111,110,115], .i 2]], .sl [.agg [.str [97,100,100], .i 2], .agg [.str [111,114], .i 2], .agg [.str [99,111,105,110], .i 0], .agg [.str [108,101,110], .i 1]], .sl [.agg [.i 0, .sl [.agg [.i 3, .i 2, .sl []], .agg [.i 1, .i 0, .sl []]], .i 1, .i 0, .sl [], .i 1], .agg [.i 0, .sl [.agg [.i 3, .i 3, .sl [.agg [.i 1, .i 0, .sl []]]], .agg [.i 1, .i 1, .sl []]], .i 3, .i 3, .sl [.agg [.i 4, .i 0, .sl [.agg [.i 1, .i 0, .sl []], .agg [.i 1, .i 1, .sl []]]]], .i 2], .agg [.i 1, .sl [.agg [.i 3, .i 1, .sl []], .agg [.i 1, .i 0, .sl []]], .i 3, .i 1, .sl [], .i 1], .agg [.i 1, .sl [.agg [.i 1, .i 0, .sl []], .agg [.i 3, .i 1, .sl []]], .i 3, .i 1, .sl [], .i 1], .agg [.i 1, .sl [.agg [.i 3, .i 0, .sl []], .agg [.i 3, .i 0, .sl []]], .i 3, .i 0, .sl [], .i 0], .agg [.i 2, .sl [], .i 3, .i 2, .sl [], .i 0], .agg [.i 2, .sl [], .i 3, .i 3, .sl [.agg [.i 3, .i 2, .sl []]], .i 0], .agg [.i 3, .sl [.agg [.i 3, .i 5, .sl [.agg [.i 1, .i 0, .sl []], .agg [.i 1, .i 1, .sl []]]]], .i 3, .i 3, .sl [.agg [.i 4, .i 3, .sl [.agg [.i 1, .i 1, .sl []]]]], .i 2], .agg [.i 3, .sl [.agg [.i 1, .i 0, .sl []]], .i 4, .i 0, .sl [.agg [.i 1, .i 1, .sl []], .agg [.i 1, .i 1, .sl []]], .i 2]]]
def Xu:D:= .agg [.i 6, .i 3, .i 3, .sl [.agg [.i 1, .i 7, .sl []]], .i 1, .sl [.agg [.i 3, .i 2, .sl []], .agg [.i 1, .i 7, .sl []]], .sl [.agg [.i 4, .i 3, .i 3, .sl [.agg [.i 3, .i 2, .sl []]], .i 0, .sl [], .sl [.agg [.i 4, .i 3, .i 2, .sl [], .i 0, .sl [], .sl []]]], .agg [.i 2, .i 1, .i 7, .sl [], .i 0, .sl [], .sl []], .agg [.i 4, .i 3, .i 3, .sl [.agg [.i 1, .i 7, .sl []]], .i 0, .sl [], .sl [.agg [.i 6, .i 1, .i 7, .sl [], .i 0, .sl [.agg [.i 1, .i 7, .sl []]], .sl [.agg [.i 2, .i 3, .i 2, .sl [], .i 0, .sl [], .sl []], .agg [.i 2, .i 1, .i 7, .sl [], .i 0, .sl [], .sl []], .agg [.i 2, .i 1, .i 7, .sl [], .i 0, .sl [], .sl []]]]]]]]
def x5e:D:= .agg [.i 4, .i 0, .sl [.agg [.i 3, .i 3, .sl [.agg [.i 3, .i 2, .sl []]]], .agg [.i 1, .i 0, .sl []]]]
def Xv:D:= .agg [.i 4, .i 0, .sl [.agg [.i 4, .i 2, .sl []], .agg [.i 4, .i 2, .sl []]]]
def x6p:D:= .agg [.i 6, .i 3, .i 3, .sl [.agg [.i 3, .i 2, .sl []]], .i 0, .sl [.agg [.i 3, .i 3, .sl [.agg [.i 3, .i 2, .sl []]]]], .sl [.agg [.i 6, .i 3, .i 2, .sl [], .i 5, .sl [], .sl [.agg [.i 4, .i 3, .i 2, .sl [], .i 0, .sl [], .sl []]]], .agg [.i 6, .i 3, .i 3, .sl [.agg [.i 3, .i 2, .sl []]], .i 6, .sl [], .sl [.agg [.i 4, .i 3, .i 3, .sl [.agg [.i 3, .i 2, .sl []]], .i 0, .sl [], .sl [.agg [.i 4, .i 3, .i 2, .sl [], .i 0, .sl [], .sl []]]]]], .agg [.i 2, .i 3, .i 3, .sl [.agg [.i 3, .i 2, .sl []]], .i 0, .sl [], .sl []]]]
def x6q:D:= .agg [.i 6, .i 3, .i 3, .sl [.agg [.i 3, .i 2, .sl []]], .i 0, .sl [.agg [.i 3, .i 3, .sl [.agg [.i 3, .i 2, .sl []]]]], .sl [.agg [.i 6, .i 3, .i 2, .sl [], .i 5, .sl [], .sl [.agg [.i 4, .i 3, .i 2, .sl [], .i 0, .sl [], .sl []]]], .agg [.i 6, .i 3, .i 2, .sl [], .i 5, .sl [], .sl [.agg [.i 4, .i 3, .i 2, .sl [], .i 0, .sl [], .sl []]]], .agg [.i 2, .i 3, .i 3, .sl [.agg [.i 3, .i 2, .sl []]], .i 0, .sl [], .sl []]]]
def xv7:D:= .sl [.agg [.i 1, .i 7, .sl []]]
def aaZ:qs Tryz.prog:=qs.of Wu [] (fun _ h=>by cases h)
theorem Wv:zV Tryz.prog cg aaZ 5000 42 []=some (.ret [xP]):=af
theorem acT:a7 Tryz.prog 42 [] (.ret [xP]):=a7.o9 mix pc Wv
theorem Ww:zV Tryz.prog cg aaZ 5000 54 [xP]=some (.ret [.i 0]):=af
theorem aa0:a7 Tryz.prog 54 [xP] (.ret [.i 0]):=a7.o9 mix pc Ww
def O4:qs Tryz.prog:=qs.of Wu [(54,[xP], .ret [.i 0])] (fun x h=>by
 cases h with
 |head=>exact aa0
 |tail _ h=>cases h)
end Go.Proofs.YtonbelhklnmjnaaGreat
end
section
namespace Go.Proofs.YtonbelhklnmjnaaGreat
open Go
theorem O5:zV Tryz.prog cg O4 5000 10 [xP,xv7,x5e,Xu]=some (.ret [.agg [.i 3, .i 3, .sl [.agg [.i 1, .i 7, .sl []]]], .i 0]):=af
theorem aa1:a7 Tryz.prog 10 [xP,xv7,x5e,Xu] (.ret [.agg [.i 3, .i 3, .sl [.agg [.i 1, .i 7, .sl []]]], .i 0]):=a7.o9 mix pc O5
end Go.Proofs.YtonbelhklnmjnaaGreat
end
section
namespace Go.Proofs.YtonbelhklnmjnaaGreat
open Go
theorem O6:zV Tryz.prog cg O4 5000 10 [xP, .sl [],Xv,x6p]=some (.ret [.agg [.i 3, .i 3, .sl [.agg [.i 3, .i 2, .sl []]]], .i 0]):=af
theorem aa2:a7 Tryz.prog 10 [xP, .sl [],Xv,x6p] (.ret [.agg [.i 3, .i 3, .sl [.agg [.i 3, .i 2, .sl []]]], .i 0]):=a7.o9 mix pc O6
end Go.Proofs.YtonbelhklnmjnaaGreat
end
section
namespace Go.Proofs.YtonbelhklnmjnaaGreat
open Go
theorem O7:zV Tryz.prog cg O4 5000 10 [xP, .sl [],Xv,x6q]=some (.ret [.agg [.i 0, .i 0, .sl []], .i 7]):=af
theorem aa3:a7 Tryz.prog 10 [xP, .sl [],Xv,x6q] (.ret [.agg [.i 0, .i 0, .sl []], .i 7]):=a7.o9 mix pc O7
end Go.Proofs.YtonbelhklnmjnaaGreat
end
section
namespace Go.Proofs.YtonbelhklnmjnaaGreat
open Go
theorem O8:zV Tryz.prog cg O4 5000 11 [xP,Xu]=some (.ret [.sl [.i 1, .i 0], .i 9, .i 0]):=af
theorem aa4:a7 Tryz.prog 11 [xP,Xu] (.ret [.sl [.i 1, .i 0], .i 9, .i 0]):=a7.o9 mix pc O8
end Go.Proofs.YtonbelhklnmjnaaGreat
end
section
namespace Go.Proofs.YtonbelhklnmjnaaGreat
open Go
def acU:qs Tryz.prog:=qs.of Wu [(54,[xP], .ret [.i 0]),(42,[], .ret [xP]),(10,[xP,xv7,x5e,Xu], .ret [.agg [.i 3, .i 3, .sl [.agg [.i 1, .i 7, .sl []]]], .i 0]),(10,[xP, .sl [],Xv,x6p], .ret [.agg [.i 3, .i 3, .sl [.agg [.i 3, .i 2, .sl []]]], .i 0]),(10,[xP, .sl [],Xv,x6q], .ret [.agg [.i 0, .i 0, .sl []], .i 7]),(11,[xP,Xu], .ret [.sl [.i 1, .i 0], .i 9, .i 0])] (fun x h=>by
 simp only[List.mem_cons,List.not_mem_nil,or_false]at h
 rcases h with rfl|rfl|rfl|rfl|rfl|rfl
 ·exact aa0
 ·exact acT
 ·exact aa1
 ·exact aa2
 ·exact aa3
 ·exact aa4
 )
theorem EP:zV Tryz.prog cg acU 5000 9 []=some (.ret [.bool true]):=af
theorem Wx:a7 Tryz.prog 9 [] (.ret [.bool true]):=a7.o9 mix pc EP
end Go.Proofs.YtonbelhklnmjnaaGreat
end
section
namespace Go.Proofs.YtonbelhklnmjnaaGreat
open Go.ChangeShapes Go.WideShapes Go.RowKit
set_option maxRecDepth 100000 in
theorem qS(os:Os)(started:os.Started)(H:Type)(enc:TypeId×Value->H):
 ReturnsInHanded {} Tryz.checked os 4 .any (Rows.logicGrowsSpec.pre6 enc Tryz.prog Tryz.f4 Rows.logicGrowsRow.domain false) (Rows.logicGrowsSpec.post enc Tryz.prog Tryz.f4 Rows.logicGrowsRow.apart Rows.logicGrowsRow.fresh Rows.logicGrowsRow.handsOn Rows.logicGrowsRow.again):=by
 refine returnsInHanded_of_change (C:=Tryz.checked) af started af Tryz.func4
  (ChangeSpec.witness6 (enc:=enc) (C:=Tryz.checked) false ⟨#[],#[.agg #[.slice none 0 0, .slice none 0 0, .slice none 0 0], .slice none 0 0, .slice none 0 0, .agg #[.int .i64 0, .int .i64 0, .slice none 0 0], .agg #[.int .i64 0, .int .i64 0, .int .i64 0, .slice none 0 0, .int .i64 0, .slice none 0 0, .slice none 0 0]],[]⟩ 8 af af af af) ?_
 intro W base args ds gs before fK hW _ _
 refine Aq (T:=[27,24,22,104,9,3,25,106,28,31,29,35,33,32]) (tb:=4) af af rfl (fun ds h=>by match ds,h with|[_,_,_,_,_],_=>rfl) af (by intro t ht;rw[Tryz.params4]at ht;simp at ht;rcases ht with rfl|rfl|rfl|rfl<;>simp) af (by intro t ht;rw[Tryz.params4]at ht;simp at ht;rcases ht with rfl|rfl|rfl|rfl<;>exact⟨af,of_decide_eq_true af⟩)
  (fun xs hx=> ?_) base args ds gs before fK hW
 rw[Tryz.params4]at hx
 obtain⟨x0,xs,rfl,rr,hx⟩:=bt hx
 obtain⟨x1,xs,rfl,hx1,hx⟩:=bt hx
 obtain⟨x2,xs,rfl,hx2,hx⟩:=bt hx
 obtain⟨x3,xs,rfl,hx3,hx⟩:=bt hx
 obtain⟨x4,xs,rfl,hx4,hx⟩:=bt hx
 have:=jU hx;subst this
 obtain⟨p0,rfl,Wz⟩:=acP rr
 obtain⟨e1,rfl,he1⟩:=yw hx1
 obtain⟨e2,rfl,Wm⟩:=yw hx2
 obtain⟨t3,rfl,ht3⟩:=aaN hx3
 obtain⟨f4,rfl,hf4⟩:=acS hx4
 exact AB Wx p0 e1 e2 t3 f4 Wz he1 Wm ht3 hf4
theorem logicGrows_holds:Rows.LogicGrowsSaid:=
 OpenClaim.holds_of_wide 4 Tryz.f4 rfl rfl rfl rfl rfl rfl rfl ⟨rfl,rfl,rfl,rfl,rfl⟩ rfl rfl rfl rfl rfl af Tryz.func4 af
  (of_decide_eq_true af) (by unfold Func.isWrapper;first|(rw[if_pos (by decide+kernel)];kernel_rfl)|(rw[if_neg (by decide+kernel)];exact⟨rfl,rfl⟩))
  (fun os started H enc _=>qS os started H enc)
end Go.Proofs.YtonbelhklnmjnaaGreat
end
