/-
  A PART OF THE PROOF. Conditions: none.
-/
import Derived.Shelf.Sort.Plain
import Derived.Shelf.Slices.In.SortNone
import Derived.Test.YtonbelhklnmjnaaGreatLt19
set_option linter.unusedSimpArgs false
set_option linter.unusedVariables false
namespace Go.Proofs.YtonbelhklnmjnaaGreat
theorem IF{α β:Type}{l:List α}{m:List β}{x y:α}{a b:β}(hx:l[0]? =some x)(hy:l[1]? =some y)(hm:m=[a,b])(h:(α×β)->Bool):((l.take 2).zip m).all h=(h (x,a)&&h (y,b)):=by
 match l,hx,hy with
 |x'::y'::r,hx,hy=>
  simp at hx hy
  subst hx;subst hy;subst hm
  simp
theorem E1(l:List Tm)(hl:l.length<=1000000)(o:Nat->ab)(fr:Nat):xN Tryz.prog 94 [.d (.sl (l.map Tm.d))] [] o fr (.osl fr 0) [(fr, .arr 0 31 3 (l.map Tm.d))]:=by
 refine xN.En (ds:=[.sl (l.map Tm.d)]) ?_
 refine cO.aB mix KU aj ?_
 rw[XK]
 have hu:Tryz.prog.underlying 28=some (.slice 31):=af
 cases l with
 |nil=>
  have heq:∀O,pU Tryz.prog O 28 true (.d (.sl [])) .bO=some .fh:=by
   intro O
   unfold pU
   rw[hu]
   rfl
  simp only[List.map_cons,List.map_nil]
  refine dD heq ?_
  simp only[List.isEmpty_nil,if_true]
  refine dD heq ?_
  exact .inl ⟨3,1,rfl,ae _ _ _⟩
 |cons a l=>
  have heq:∀O,pU Tryz.prog O 28 true (.d (.sl (Tm.d a::l.map Tm.d))) .bO=some (.d (.bool false)):=by
   intro O
   unfold pU
   rw[hu]
   rfl
  simp only[List.map_cons,List.map_nil]
  refine dD heq ?_
  simp only[List.isEmpty_nil,if_true]
  refine dD heq ?_
  rw[List.length_cons]at hl
  try rw[if_pos (by omega)]
  try simp+contextual (disch:=first|omega|simp only[go_sem,false_implies]) only[go_sem,wrap64,if_pos,and_self]
  exact .inl ⟨3,1,rfl,ae _ _ _⟩
set_option maxHeartbeats 1000000 in
theorem IG{p:Pg}(hp:kJ p){f:Pf}(hf:oQ p.sig f)(ih:∀k∈f.kids,AS p k){env:List Tm}(hv:dQ p.sig env){e:Tm}(he:c0 p.sig env.length e)(r15:f.bG=15):
 a8 Tryz.prog 182 [wC p env,e.d,f.d] (w9 (bf p f env e)):=by
 have Ss:=hf.len
 have fU:=((Tm.aP e).1 he.fits).1
 have ht:bf p f env e=(e.op==6&&((f.kids.length==2||f.kids.length==3)&&((qY (f.kids.map (bf p)) 0 env (gV e 0)&&qY (f.kids.map (bf p)) 1 env (gV e 1))&&((bK f.kids 0).op==5&&
  (if((bK f.kids 0).kids.length:Int)+1<dN p.sig.bX (bK f.kids 0).n then f.kids.length==2&&aX f.val (.mk 5 (bK f.kids 0).n ((bK f.kids 0).kids++[bK f.kids 1]))
   else f.kids.length==3&&aX (bK f.kids 2) f.val&&qY (f.kids.map (bf p)) 2 ((bK f.kids 0).kids++[bK f.kids 1]) (oP p.sig (bK f.kids 0).n)))))):=by
  rw[e7,mR,if_neg (by omega),if_neg (by omega),if_neg (by omega),if_neg (by omega),if_neg (by omega),if_neg (by omega),if_neg (by omega),if_neg (by omega),if_neg (by omega),if_pos r15]
  simp only[Bool.and_assoc]
 rw[ht]
 refine a8.aB mix Rt aj ?_
 rw[Vn]
 by_cases fA:e.op=6
 rotate_left
 ·have cB:(e.op==6)=false:=by simpa using fA
  rw[cB,Bool.false_and,aR]
  refine eG cB ?_
  refine bt aV rfl ?_
  exact cI
 have cB:(e.op==6)=true:=by simpa using fA
 rw[cB,Bool.true_and]
 refine eG cB ?_
 refine ai (je _ _ _) rfl ?_
 by_cases hl:f.kids.length=2\/f.kids.length=3
 rotate_left
 ·have zm:c6 (f.kids.length:Int) 2 3=false:=by simp[c6];omega
  have Jm:(f.kids.length==2||f.kids.length==3)=false:=by simpa using hl
  rw[zm,Jm,Bool.false_and,aR]
  refine aJ ?_
  refine bt aV rfl ?_
  exact cI
 have zm:c6 (f.kids.length:Int) 2 3=true:=by simp[c6];omega
 have Jm:(f.kids.length==2||f.kids.length==3)=true:=by simpa using hl
 have he2:=AB he.node1 ad ad
 obtain⟨a,b,WJ⟩:=AD he2
 have ha:e.kids[0]? =some a:=by rw[WJ];rfl
 have hb:e.kids[1]? =some b:=by rw[WJ];rfl
 obtain⟨x,hx⟩:=aw (l:=f.kids) (k:=0) ad
 obtain⟨y,hy⟩:=aw (l:=f.kids) (k:=1) ad
 have de:=List.mem_of_getElem? hx
 have Ex:=List.mem_of_getElem? hy
 have wz:=(hf.lx de).val
 have Gu:=(hf.lx Ex).val
 rw[zm,Jm,b7 hx,b7 hy,kZ hx,kZ hy,mA ha,mA hb,Bool.true_and]
 refine aJ ?_
 refine ai bR rfl ?_
 have h2t:(2:Nat)<=f.kids.length:=ad
 have adm:(2:Int)<=(f.kids.length:Int):=ad
 refine oo h2t adm ?_
 have Ai:=qT (f.kids.take 2) e.kids (by rw[List.length_take];omega) fU hv (fun k hk=>ih k (List.mem_of_mem_take hk)) (fun y hy=>he.lx ad ad hy)
 have h2l:(f.kids.take 2).length=2:=by rw[List.length_take];omega
 rw[List.map_take,h2l,he2,IF hx hy WJ]at Ai
 have h22:((2:Nat)==2)=true:=rfl
 rw[h22,Bool.true_and]at Ai
 cases g1:(bf p x env a&&bf p y env b)with
 |false=>
  rw[g1,aR]at Ai
  rw[Bool.false_and,aR]
  refine aK Ai aE ?_
  refine aJ ?_
  refine aU ⟨aZ, ?_⟩
  exact jD
 |true=>
 rw[g1,bC]at Ai
 rw[Bool.true_and]
 refine aq Ai rfl ?_
 refine aJ ?_
 refine ao aZ ?_
 refine eG hx ?_
 by_cases h5:x.val.op=5
 rotate_left
 ·have AM:(x.val.op==5)=false:=by simpa using h5
  rw[AM,Bool.false_and,aR]
  refine bt aV rfl ?_
  exact cI
 have AM:(x.val.op==5)=true:=by simpa using h5
 obtain⟨n0,w,hw,cJ⟩:=Pm wz.1.2 h5
 have hwa:=Db hp.sg w (List.mem_of_getElem? hw)
 have G5:dQ p.sig (x.val.kids++[y.val]):=⟨by simp;omega,fun t ht=>by
  rcases List.mem_append.1 ht with h|h
  ·exact wz.1.lx h
  ·simp at h;subst h;exact Gu.1⟩
 rw[AM,Bool.true_and,iN hw]
 refine ai bR rfl ?_
 refine aJ ?_
 refine x6 rfl (E1 x.val.kids ad _ _) ?_
 refine eG hy ?_
 refine ao aZ ?_
 by_cases hc:(x.val.kids.length:Int)+1<w.args
 ·have zx:decide (((x.val.kids.length+1:Nat):Int)<w.args)=true:=by simpa using hc
  rw[if_pos hc]
  by_cases hk:f.kids.length=2
  rotate_left
  ·have A0:((f.kids.length:Int)==2)=false:=by rw[beq_eq_false_iff_ne];omega
   have Ja:(f.kids.length==2)=false:=by simpa using hk
   rw[Ja,Bool.false_and,aR]
   refine SC hw n0 zx A0 ?_
   refine bt aV rfl ?_
   exact cI
  have A0:((f.kids.length:Int)==2)=true:=by rw[beq_iff_eq];omega
  have Ja:(f.kids.length==2)=true:=by simpa using hk
  have hmk:(Tm.mk 5 x.val.n (x.val.kids++[y.val])).fits:=by
   rw[Tm.aP]
   exact⟨by show(x.val.kids++[y.val]).length<=_;rw[List.length_append,List.length_singleton];omega,fun k hk=>(G5.all k hk).1⟩
  have hs:=cS _ hf.val.1.1 _ hmk
  rw[Tm.lz 5,List.map_append]at hs
  rw[Ja,Bool.true_and]
  refine SC hw n0 zx A0 ?_
  refine ai hs rfl ?_
  cases g3:aX f.val (.mk 5 x.val.n (x.val.kids++[y.val]))with
  |false=>
   rw[aR]
   refine aJ ?_
   refine bt aV rfl ?_
   exact cI
  |true=>
   rw[bC]
   refine aJ ?_
   refine ai bR rfl ?_
   exact cI
 ·have zx:decide (((x.val.kids.length+1:Nat):Int)<w.args)=false:=by simpa using hc
  rw[if_neg hc]
  by_cases hk:f.kids.length=3
  rotate_left
  ·have A0:((f.kids.length:Int)==3)=false:=by rw[beq_eq_false_iff_ne];omega
   have Ja:(f.kids.length==3)=false:=by simpa using hk
   rw[Ja,Bool.false_and,Bool.false_and,aR]
   refine SC hw n0 zx A0 ?_
   refine aK aV aE ?_
   refine aJ ?_
   refine aU ⟨aZ, ?_⟩
   exact jD
  have A0:((f.kids.length:Int)==3)=true:=by rw[beq_iff_eq];omega
  have Ja:(f.kids.length==3)=true:=by simpa using hk
  obtain⟨z,hz⟩:=aw (l:=f.kids) (k:=2) ad
  have hzm:=List.mem_of_getElem? hz
  rw[b7 hz,kZ hz,Ja,Bool.true_and]
  simp+contextual (disch:=first|omega|simp only[go_sem,false_implies]) only[go_sem,wrap64,if_pos,List.length_map,hz,hw,n0,zx,List.length_append,A0]
  refine aq (cS _ (hf.lx hzm).val.1.1 _ hf.val.1.1) rfl ?_
  cases g3:aX z.val f.val with
  |false=>
   rw[Bool.false_and,aR]
   refine aJ ?_
   refine aK aV aE ?_
   refine aJ ?_
   refine aU ⟨aZ, ?_⟩
   exact jD
  |true=>
  rw[Bool.true_and]
  refine aJ ?_
  refine aq bR rfl ?_
  refine aJ ?_
  refine ao aZ ?_
  refine aJ ?_
  have JE:=L9 p env (x.val.kids++[y.val])
  rw[List.map_append]at JE
  refine bw JE ?_
  refine eG hz ?_
  refine bw (O8 p x.val.n w n0 hw ad ad) ?_
  refine eG hz ?_
  have hr:=ih z hzm (x.val.kids++[y.val]) _ G5 (Mn (s:=p.sig) n0 hw ad ad (by simp only[List.length_append,List.length_singleton];omega))
  cases g4:bf p z (x.val.kids++[y.val]) (oP p.sig x.val.n)with
  |false=>
   rw[g4,aR]at hr
   rw[aR]
   refine aK hr aE ?_
   refine aJ ?_
   refine aU ⟨aZ, ?_⟩
   exact jD
  |true=>
   rw[g4,bC]at hr
   rw[bC]
   refine aq hr rfl ?_
   refine aJ ?_
   refine ao aZ ?_
   exact cI
def eF:List V:= .d .bW::[168,169,170,171,172,173,174,175,176,177,178,179,180,181,182].map fun g=> .func (.func g) [] []
theorem WL:rJ Tryz.prog 147 [(1, .func (.func 168) [] []),(2, .func (.func 169) [] []),(3, .func (.func 170) [] []),(4, .func (.func 171) [] []),(5, .func (.func 172) [] []),(6, .func (.func 173) [] []),(7, .func (.func 174) [] []),(8, .func (.func 175) [] []),(9, .func (.func 176) [] []),(10, .func (.func 177) [] []),(11, .func (.func 178) [] []),(12, .func (.func 179) [] []),(13, .func (.func 180) [] []),(14, .func (.func 181) [] []),(15, .func (.func 182) [] [])]=some (.agg eF):=af
theorem Pp:Qa Tryz.prog 129 [] (.agg eF):=by
 refine Qa.mj (by rfl) ?_
 refine cO.aB mix QU aj ?_
 rw[UP]
 simp+contextual only[al,st,List.map_nil,N1,N0,HI,T3,T4,bu,gN,zeroT_147,Ei,HH,Kn,Ko,zU,lN]
 generalize hb:rJ Tryz.prog 147 _=r
 have hr:r=some (.agg eF):=by rw[<- hb];exact WL
 subst hr
 simp only[eF,List.map_cons,List.map_nil]
 exact cI
set_option maxHeartbeats 1000000 in
theorem II{p:Pg}(hp:kJ p)(hw:p.Fw):∀f:Pf,oQ p.sig f->AS p f:=by
 refine Pf.ck fun f ih hf env e hv he=> ?_
 have Jb:∀k∈f.kids,AS p k:=fun k hk=>ih k hk (hf.lx hk)
 refine a8.aB mix ZP aj ?_
 rw[c93]
 refine aJ ?_
 refine ai (je _ _ _) rfl ?_
 cases h1:c6 f.bG 1 15 with
 |false=>
  have h2: ¬ (1<=f.bG/\f.bG<=15):=by
   simp only[c6,Bool.and_eq_false_iff,decide_eq_false_iff_not]at h1;omega
  have ht:bf p f env e=false:=by
   rw[e7,mR,if_neg (by omega),if_neg (by omega),if_neg (by omega),if_neg (by omega),if_neg (by omega),if_neg (by omega),if_neg (by omega),if_neg (by omega),if_neg (by omega),if_neg (by omega)]
   have:w7 f.bG e f.val (bK f.kids 0) (bK f.kids 1)=false:=by
    unfold w7;rw[if_neg (by omega),if_neg (by omega),if_neg (by omega),if_neg (by omega),if_neg (by omega)]
   rw[this];simp
  rw[ht,aR]
  refine aJ ?_
  refine bt aV rfl ?_
  exact cI
 |true=>
 have h2:1<=f.bG/\f.bG<=15:=by simpa[c6]using h1
 refine aJ ?_
 refine ai bR rfl ?_
 refine aJ ?_
 refine HG Pp ?_
 refine aJ ?_
 rcases(by omega:f.bG=1\/f.bG=2\/f.bG=3\/f.bG=4\/f.bG=5\/f.bG=6\/f.bG=7\/f.bG=8\/f.bG=9\/f.bG=10\/f.bG=11\/f.bG=12\/f.bG=13\/f.bG=14\/f.bG=15)with r|r|r|r|r|r|r|r|r|r|r|r|r|r|r
 ·have fQ:eF[f.bG.toNat*1]? =some (.func (.func 168) [] []):=by rw[r];rfl
  have hc:=Pa (p:=p) hf (env:=env) (e:=e) r
  refine dD fQ ?_
  cases g:bf p f env e with
  |false=>
   rw[g,aR]at hc
   rw[aR]
   refine aK hc aE ?_
   refine aJ ?_
   refine aU ⟨aZ, ?_⟩
   exact jD
  |true=>
   rw[g,bC]at hc
   rw[bC]
   refine aq hc rfl ?_
   refine aJ ?_
   refine ao aZ ?_
   exact cI
 ·have fQ:eF[f.bG.toNat*1]? =some (.func (.func 169) [] []):=by rw[r];rfl
  have hc:=Pb hf hv he r
  refine dD fQ ?_
  cases g:bf p f env e with
  |false=>
   rw[g,aR]at hc
   rw[aR]
   refine aK hc aE ?_
   refine aJ ?_
   refine aU ⟨aZ, ?_⟩
   exact jD
  |true=>
   rw[g,bC]at hc
   rw[bC]
   refine aq hc rfl ?_
   refine aJ ?_
   refine ao aZ ?_
   exact cI
 ·have fQ:eF[f.bG.toNat*1]? =some (.func (.func 170) [] []):=by rw[r];rfl
  have hc:=Pc (p:=p) hf (env:=env) he.fits r
  refine dD fQ ?_
  cases g:bf p f env e with
  |false=>
   rw[g,aR]at hc
   rw[aR]
   refine aK hc aE ?_
   refine aJ ?_
   refine aU ⟨aZ, ?_⟩
   exact jD
  |true=>
   rw[g,bC]at hc
   rw[bC]
   refine aq hc rfl ?_
   refine aJ ?_
   refine ao aZ ?_
   exact cI
 ·have fQ:eF[f.bG.toNat*1]? =some (.func (.func 171) [] []):=by rw[r];rfl
  have hc:=O9 hf Jb hv he r
  refine dD fQ ?_
  cases g:bf p f env e with
  |false=>
   rw[g,aR]at hc
   rw[aR]
   refine aK hc aE ?_
   refine aJ ?_
   refine aU ⟨aZ, ?_⟩
   exact jD
  |true=>
   rw[g,bC]at hc
   rw[bC]
   refine aq hc rfl ?_
   refine aJ ?_
   refine ao aZ ?_
   exact cI
 ·have fQ:eF[f.bG.toNat*1]? =some (.func (.func 172) [] []):=by rw[r];rfl
  have hc:=Mg hf Jb hv he r
  refine dD fQ ?_
  cases g:bf p f env e with
  |false=>
   rw[g,aR]at hc
   rw[aR]
   refine aK hc aE ?_
   refine aJ ?_
   refine aU ⟨aZ, ?_⟩
   exact jD
  |true=>
   rw[g,bC]at hc
   rw[bC]
   refine aq hc rfl ?_
   refine aJ ?_
   refine ao aZ ?_
   exact cI
 ·have fQ:eF[f.bG.toNat*1]? =some (.func (.func 173) [] []):=by rw[r];rfl
  have hc:=Po hp hw hf Jb hv he r
  refine dD fQ ?_
  cases g:bf p f env e with
  |false=>
   rw[g,aR]at hc
   rw[aR]
   refine aK hc aE ?_
   refine aJ ?_
   refine aU ⟨aZ, ?_⟩
   exact jD
  |true=>
   rw[g,bC]at hc
   rw[bC]
   refine aq hc rfl ?_
   refine aJ ?_
   refine ao aZ ?_
   exact cI
 ·have fQ:eF[f.bG.toNat*1]? =some (.func (.func 174) [] []):=by rw[r];rfl
  have hc:=Mh hf Jb hv he r
  refine dD fQ ?_
  cases g:bf p f env e with
  |false=>
   rw[g,aR]at hc
   rw[aR]
   refine aK hc aE ?_
   refine aJ ?_
   refine aU ⟨aZ, ?_⟩
   exact jD
  |true=>
   rw[g,bC]at hc
   rw[bC]
   refine aq hc rfl ?_
   refine aJ ?_
   refine ao aZ ?_
   exact cI
 ·have fQ:eF[f.bG.toNat*1]? =some (.func (.func 175) [] []):=by rw[r];rfl
  have hc:=IB hf Jb hv he r
  refine dD fQ ?_
  cases g:bf p f env e with
  |false=>
   rw[g,aR]at hc
   rw[aR]
   refine aK hc aE ?_
   refine aJ ?_
   refine aU ⟨aZ, ?_⟩
   exact jD
  |true=>
   rw[g,bC]at hc
   rw[bC]
   refine aq hc rfl ?_
   refine aJ ?_
   refine ao aZ ?_
   exact cI
 ·have fQ:eF[f.bG.toNat*1]? =some (.func (.func 176) [] []):=by rw[r];rfl
  have hc:=Ph hf Jb hv he r
  refine dD fQ ?_
  cases g:bf p f env e with
  |false=>
   rw[g,aR]at hc
   rw[aR]
   refine aK hc aE ?_
   refine aJ ?_
   refine aU ⟨aZ, ?_⟩
   exact jD
  |true=>
   rw[g,bC]at hc
   rw[bC]
   refine aq hc rfl ?_
   refine aJ ?_
   refine ao aZ ?_
   exact cI
 ·have fQ:eF[f.bG.toNat*1]? =some (.func (.func 177) [] []):=by rw[r];rfl
  have hc:=Mk hf Jb hv he r
  refine dD fQ ?_
  cases g:bf p f env e with
  |false=>
   rw[g,aR]at hc
   rw[aR]
   refine aK hc aE ?_
   refine aJ ?_
   refine aU ⟨aZ, ?_⟩
   exact jD
  |true=>
   rw[g,bC]at hc
   rw[bC]
   refine aq hc rfl ?_
   refine aJ ?_
   refine ao aZ ?_
   exact cI
 ·have fQ:eF[f.bG.toNat*1]? =some (.func (.func 178) [] []):=by rw[r];rfl
  have hc:=Ml hf Jb hv he r
  refine dD fQ ?_
  cases g:bf p f env e with
  |false=>
   rw[g,aR]at hc
   rw[aR]
   refine aK hc aE ?_
   refine aJ ?_
   refine aU ⟨aZ, ?_⟩
   exact jD
  |true=>
   rw[g,bC]at hc
   rw[bC]
   refine aq hc rfl ?_
   refine aJ ?_
   refine ao aZ ?_
   exact cI
 ·have fQ:eF[f.bG.toNat*1]? =some (.func (.func 179) [] []):=by rw[r];rfl
  have hc:=ID hf Jb hv he r
  refine dD fQ ?_
  cases g:bf p f env e with
  |false=>
   rw[g,aR]at hc
   rw[aR]
   refine aK hc aE ?_
   refine aJ ?_
   refine aU ⟨aZ, ?_⟩
   exact jD
  |true=>
   rw[g,bC]at hc
   rw[bC]
   refine aq hc rfl ?_
   refine aJ ?_
   refine ao aZ ?_
   exact cI
 ·have fQ:eF[f.bG.toNat*1]? =some (.func (.func 180) [] []):=by rw[r];rfl
  have hc:=Mm hf Jb hv he r
  refine dD fQ ?_
  cases g:bf p f env e with
  |false=>
   rw[g,aR]at hc
   rw[aR]
   refine aK hc aE ?_
   refine aJ ?_
   refine aU ⟨aZ, ?_⟩
   exact jD
  |true=>
   rw[g,bC]at hc
   rw[bC]
   refine aq hc rfl ?_
   refine aJ ?_
   refine ao aZ ?_
   exact cI
 ·have fQ:eF[f.bG.toNat*1]? =some (.func (.func 181) [] []):=by rw[r];rfl
  have hc:=Pj hf Jb hv he r
  refine dD fQ ?_
  cases g:bf p f env e with
  |false=>
   rw[g,aR]at hc
   rw[aR]
   refine aK hc aE ?_
   refine aJ ?_
   refine aU ⟨aZ, ?_⟩
   exact jD
  |true=>
   rw[g,bC]at hc
   rw[bC]
   refine aq hc rfl ?_
   refine aJ ?_
   refine ao aZ ?_
   exact cI
 ·have fQ:eF[f.bG.toNat*1]? =some (.func (.func 182) [] []):=by rw[r];rfl
  have hc:=IG hp hf Jb hv he r
  refine dD fQ ?_
  cases g:bf p f env e with
  |false=>
   rw[g,aR]at hc
   rw[aR]
   refine aK hc aE ?_
   refine aJ ?_
   refine aU ⟨aZ, ?_⟩
   exact jD
  |true=>
   rw[g,bC]at hc
   rw[bC]
   refine aq hc rfl ?_
   refine aJ ?_
   refine ao aZ ?_
   exact cI
end Go.Proofs.YtonbelhklnmjnaaGreat
namespace Go.Proofs.YtonbelhklnmjnaaGreat
section
variable {P:Program}
def ss(P:Program)(n t t1:Nat)(ic:IC)(aG:List V)(u:V)(o:Nat->ab)(nx:Nat)(K:(Nat->ab)->Nat->Prop):Prop:=
 aG.length<=n/\kX P n nx true ic (HK K) ⟨aM (aM (cF aG) t u) t1 u,o,nx⟩
def qW(P:Program)(n t t1:Nat)(ic:IC)(aG:List V)(rs:List ResultVar)(K X:V->(Nat->ab)->Nat->Prop)(e:fS)(s:S):Prop:=
 match e with
 | .normal| .ret=>ss P n t t1 ic aG (.d .fD) s.o s.nx fun o nx=>rQ P rs K X .ret ⟨s.env,o,nx⟩
 | .bU v=>ss P n t t1 ic aG v s.o s.nx fun o nx=>rQ P rs K X .ret ⟨s.env,o,nx⟩
 | .exit _=>False
def AE(P:Program)(n t:Nat)(eJ:IC)(fI:List Operand)(g:FuncId)(D:List V->fS->S->Prop)(e:fS)(s:S):Prop:=
 match e with
 | .normal=>kX P n s.nx false eJ (D (fI.map s.ev)) ⟨aM s.env t (.func (.func g) [] (fI.map s.ev)),s.o,s.nx⟩
 |_=>False
variable {n t t1:Nat}{ic eJ:IC}{aG:List V}{rs:List ResultVar}{K X:V->(Nat->ab)->Nat->Prop}{s:S}{v:V}{fI:List Operand}{g:FuncId}{D:List V->fS->S->Prop}{KR:(Nat->ab)->Nat->Prop}
@[go_sem ↓] theorem Mq:qW P n t t1 ic aG rs K X .normal s=ss P n t t1 ic aG (.d .fD) s.o s.nx fun o nx=>rQ P rs K X .ret ⟨s.env,o,nx⟩:=propext Iff.rfl
@[go_sem ↓] theorem Su:qW P n t t1 ic aG rs K X .ret s=ss P n t t1 ic aG (.d .fD) s.o s.nx fun o nx=>rQ P rs K X .ret ⟨s.env,o,nx⟩:=propext Iff.rfl
@[go_sem ↓] theorem Sv:qW P n t t1 ic aG rs K X (.bU v) s=ss P n t t1 ic aG v s.o s.nx fun o nx=>rQ P rs K X .ret ⟨s.env,o,nx⟩:=propext Iff.rfl
@[go_sem ↓] theorem Mr:AE P n t eJ fI g D .normal s=kX P n s.nx false eJ (D (fI.map s.ev)) ⟨aM s.env t (.func (.func g) [] (fI.map s.ev)),s.o,s.nx⟩:=propext Iff.rfl
@[go_sem ↓] theorem Sw:HK KR .normal s=KR s.o s.nx:=propext Iff.rfl
@[go_sem ↓] theorem abh:HK KR .ret s=KR s.o s.nx:=propext Iff.rfl
theorem ss.w {o:Nat->ab}{nx:Nat}{K K':(Nat->ab)->Nat->Prop}(hK:∀o nx,K o nx->K' o nx)(h:ss P n t t1 ic aG v o nx K):Em P n t t1 ic aG v o nx K':=by
 refine⟨h.1,eC ic _ _ _ (fun e s h=> ?_) h.2⟩
 unfold HK at h|-
 cases e with
 |normal=>exact hK _ _ h
 |ret=>exact hK _ _ h
 |_=>exact h
theorem cO.IJ (bD:P.follows .mixedOrders=true){f g:FuncId}{iQ eJ x7:IC}{t m r r1:Nat}{fI:List Operand}{rs:List ResultVar}(hf:FE P f n iQ eJ g t fI rs)(hg:Cd P g m r r1 x7)
 {args:List V} {o:Nat->ab} {nx:Nat} {K X:V->(Nat->ab)->Nat->Prop} (hl:args.length<=n)
 (h:kX P n nx true iQ (AE P n t eJ fI g fun aG=>qW P m r r1 x7 aG rs K X) ⟨cF args,o,nx⟩):cO P f args o nx K X:=by
 refine cO.Cg bD hf hg hl (eC iQ _ _ _ (fun e s h=> ?_) h)
 unfold AE at h
 unfold Ce
 cases e with
 |normal=>
  refine eC eJ _ _ _ (fun e s h=> ?_) h
  unfold qW at h
  unfold zV
  cases e with
  |normal=>exact ss.w (fun _ _ h=>by unfold rQ at h;exact h) h
  |ret=>exact ss.w (fun _ _ h=>by unfold rQ at h;exact h) h
  |bU v=>exact ss.w (fun _ _ h=>by unfold rQ at h;exact h) h
  |exit _=>exact h
 |_=>exact h
end
attribute [irreducible] ss
theorem wh{P:Program}{n t t1:Nat}{ic:IC}{aG:List V}{v:V}{o:Nat->ab}{nx:Nat}{K:(Nat->ab)->Nat->Prop}(h1:aG.length<=n)(h2:kX P n nx true ic (HK K) ⟨aM (aM (cF aG) t v) t1 v,o,nx⟩):ss P n t t1 ic aG v o nx K:=by
 unfold ss
 exact⟨h1,h2⟩
end Go.Proofs.YtonbelhklnmjnaaGreat
namespace Go.Proofs.YtonbelhklnmjnaaGreat
theorem WM{o:Nat->ab}:pU Tryz.prog o 20 true (.d .fD) (.d .fD)=some (.d (.bool true)):=af
theorem Pq{o:Nat->ab}:pU Tryz.prog o 20 true (.d nT) (.d .fD)=some (.d (.bool false)):=af
theorem AF:oX Tryz.prog 117=true:=af
theorem IK{p:Pg}(hp:kJ p)(hw:p.Fw)(f:Pf)(hf:oQ p.sig f)(env:List Tm)(hv:dQ p.sig env)(e:Tm)(he:c0 p.sig env.length e)(o:Nat->ab)(nx:Nat)(hg:Good o nx)(K X:V->(Nat->ab)->Nat->Prop)
 (hK:∀o' nx',nx<=nx'->Good o' nx'->(∀j,j<nx->o' j=o j)->K (.d (.bool (bf p f env e))) o' nx'):
 cO Tryz.prog 52 [.d p.d, .d (.sl (env.map Tm.d)), .d e.d, .d f.d] o nx K X:=by
 have hc:=II hp hw f hf env e hv he
 refine cO.IJ mix QK QJ aj ?_
 rw[UF,c52]
 refine iL ?_
 cases g:bf p f env e with
 |false=>
  rw[g,aR]at hc
  rw[g]at hK
  refine bt hc rfl ?_
  refine iL ?_
  refine wh aj ?_
  rw[c92]
  simp+contextual (disch:=first|omega|simp only[go_sem,false_implies]) only[go_sem,wrap64,if_pos,Pq,Nat.add_assoc,Nat.left_eq_add,Nat.add_eq_left,Nat.add_left_cancel_iff]
  simp+contextual (disch:=first|omega|simp only[go_sem,false_implies]) only[go_sem,wrap64,if_pos,AF,nT,Nat.add_assoc,Nat.left_eq_add,Nat.add_eq_left,Nat.add_left_cancel_iff]
  exact hK _ _ ad dv (fun j hj=>by(repeat(first|rfl|rw[ae]|rw[ah _ _ _ _ (by omega)])))
 |true=>
  rw[g,bC]at hc
  rw[g]at hK
  refine ai hc rfl ?_
  refine iL ?_
  refine wh aj ?_
  rw[c92]
  simp+contextual (disch:=first|omega|simp only[go_sem,false_implies]) only[go_sem,wrap64,if_pos,WM,Nat.add_assoc,Nat.left_eq_add,Nat.add_eq_left,Nat.add_left_cancel_iff]
  exact hK _ _ ad dv (fun j hj=>by(repeat(first|rfl|rw[ae]|rw[ah _ _ _ _ (by omega)])))
theorem WN{σ:Type}(l:List Int)(hl:l.length<=9223372036854775807)(g:Nat)(aG:List V)(base:Nat)(H:σ->Nat->ab)(step:σ->Int->σ×Bool)(hc:∀r∈V.aO aG,r<base)(ok:σ->Prop)(bp:∀x∈l,∀s,ok s->(step s x).2=true->ok (step s x).1)
 (h:∀x∈l,∀s,ok s->fM Tryz.prog g (.d (.i x)::aG) base (H s) (H (step s x).1) (.d (.bool (!(step s x).2)))) (s:σ) (gB:ok s):
 fM Tryz.prog 167 [.d (.sl (l.map D.i)), .func (.func g) [] aG] base (H s) (H (aA step s l).1) (.d (.i (lV step s l 0))):=by
 intro o nx hI K X hK
 have fG:∀r∈V.aO aG,r<nx:=fun r hr=>Nat.lt_of_lt_of_le (hc r hr) hI.le
 refine cO.aB mix Rc aj ?_
 rw[U8]
 refine b9 ?_
 refine aL (fun i:Nat×σ×(Nat->ab)×Nat=>⟨bB [.d (.sl (l.map D.i)), .func (.func g) [] aG, .aa, .aa, .aa, .aa, .aa, .d (.i l.length), .d (.i i.1)],i.2.2.1,i.2.2.2⟩)
  (fun i=>i.1<=l.length/\cW base (H i.2.1) i.2.2.1 i.2.2.2/\nx<=i.2.2.2/\(∀id,base<=id->id<nx->i.2.2.1 id=o id)/\aA step s l=aA step i.2.1 (l.drop i.1)/\ok i.2.1/\lV step s l 0=lV step i.2.1 (l.drop i.1) i.1) (fun i=>l.length - i.1) (0,s,o,nx)
  ⟨Nat.zero_le _,hI,Nat.le_refl _,fun _ _ _=>rfl,rfl,gB,rfl⟩ ?_ ?_
 ·dsimp only
  refine bM.bT _ (Nat.le_refl _) ad hI.bP (fun _ _=>rfl) ?_
  exact cM
 rintro⟨k,s',o',nx'⟩ ⟨hk,ow,hn,dc,hf,jR,kG⟩
 simp only at hk ow hn dc hf jR kG
 refine b9 ?_
 refine ak (fun h1=> ?_) (fun h1=> ?_)
 ·simp at h1
  obtain⟨x,hx⟩:=aw h1
  have de:=List.mem_of_getElem? hx
  have hd:l.drop k=x::l.drop (k+1):=by
   rw[List.drop_eq_getElem_cons h1]
   rw[List.getElem?_eq_getElem h1]at hx;injection hx with hx;rw[hx]
  rw[hd]at hf kG
  simp only[aA,lV]at hf kG
  refine GG hx ?_
  refine cY (h x de s' jR _ _ (ow.mono ad) _ _ fun o2 n2 m1 m2 m3=> ?_)
  cases hb:(step s' x).2 with
  |true=>
   rw[hb]at hf kG
   simp only[if_true]at hf kG
   refine aJ ?_
   have Ct:∀r∈V.aO aG,r<n2+1+1:=fun r hr=>by have:=fG r hr;omega
   refine au (k+1,(step s' x).1,o2,n2+1+1) ⟨h1,m2.mono (show n2<=n2+1+1 from ad),(show nx<=n2+1+1 from ad),fun id i1 i2=>(m3 id i1 ad).trans (dc id i1 i2),hf,bp x de s' jR hb,by rw[kG];rfl⟩ mL (bM.bT _ (show nx<=n2+1+1 from ad) (Nat.le_refl _) (m2.mono (show n2<=n2+1+1 from ad)).bP (fun _ _=>rfl) ?_)
   exact cM
  |false=>
   rw[hb]at hf kG
   simp only[Bool.false_eq_true,if_false]at hf kG
   refine b9 ?_
   rw[hf,kG]at hK
   exact hK _ _ ad (m2.mono ad) fun id i1 i2=>(m3 id i1 ad).trans (dc id i1 i2)
 ·simp at h1
  refine b9 ?_
  rw[List.drop_eq_nil_of_le h1]at hf kG
  rw[hf,kG]at hK
  exact hK _ _ ad (ow.mono ad) dc
theorem Dc{σ:Type}(l:List Int)(hl:l.length<=9223372036854775807)(g:Nat)(aG:List V)(base:Nat)(H:σ->Nat->ab)(step:σ->Int->σ×Bool)(hc:∀r∈V.aO aG,r<base)(ok:σ->Prop)(bp:∀x∈l,∀s,ok s->(step s x).2=true->ok (step s x).1)
 (h:∀x∈l,∀s,ok s->fM Tryz.prog g (.d (.i x)::aG) base (H s) (H (step s x).1) (.d (.bool (!(step s x).2)))) (s:σ) (gB:ok s):
 fM Tryz.prog 126 [.d (.sl (l.map D.i)), .func (.func g) [] aG] base (H s) (H (aA step s l).1) (.d (.bool (!(aA step s l).2))):=by
 intro o nx hI K X hK
 have fG:∀r∈V.aO aG,r<nx:=fun r hr=>Nat.lt_of_lt_of_le (hc r hr) hI.le
 refine cO.aB mix QS aj ?_
 rw[UN]
 refine iL ?_
 refine bd (WN l hl g aG base H step hc ok bp h s gB _ _ ?_ _ _ fun o2 n2 m1 m2 m3=> ?_)
 ·exact hI.mono ad
 refine iL ?_
 have e:decide (0<=lV step s l 0)= !(aA step s l).2:=by
  have:=tX step l s 0 ad
  rw[Bool.eq_iff_iff,decide_eq_true_eq,this]
  cases(aA step s l).2<;>simp
 rw[e]
 exact hK _ _ ad (m2.mono ad) fun id i1 i2=>m3 id i1 ad
theorem abi{x:Int}{g:Nat}{aG:List V}{base c bx:Nat}{h h2 O:Nat->ab}{r:Bool}(hS:fM Tryz.prog g (.d (.i x)::aG) base h h2 (.d (.bool r)))(hb:base<=bx)(PE:bx<c)(hO:O bx= .row [.func (.func g) [] aG])(hc:∀r∈V.aO aG,r<base):
 fM Tryz.prog 127 [.d (.i x), .ptr bx 0] c (ext base h O) (ext base h2 O) (.d (.bool (!r))):=by
 intro o nx hI K X hK
 have hle:=hI.le
 have fG:∀r∈V.aO aG,r<nx:=fun r hr=>by have:=hc r hr;omega
 have ho:o bx= .row [.func (.func g) [] aG]:=by
  exact Jk
 have y1:∀k,bx≠nx+k:=fun k=>ad
 have y2:bx≠nx:=ad
 refine cO.aB mix QT aj ?_
 rw[UO]
 refine MT ho y1 y2 ?_
 refine cY ((hS.ext (by omega:base<=c) O) _ _ ?_ _ _ fun o2 n2 m1 m2 m3=> ?_)
 ·exact hI.mono ad
 refine iL ?_
 exact hK _ _ ad (m2.mono ad) fun id i1 i2=>m3 id i1 ad
theorem IL{σ:Type}(l:List Int)(hl:l.length<=9223372036854775807)(g:Nat)(aG:List V)(base:Nat)(H:σ->Nat->ab)(step:σ->Int->σ×Bool)(hc:∀r∈V.aO aG,r<base)(ok:σ->Prop)(bp:∀x∈l,∀s,ok s->(step s x).2=true->ok (step s x).1)
 (h:∀x∈l,∀s,ok s->fM Tryz.prog g (.d (.i x)::aG) base (H s) (H (step s x).1) (.d (.bool (step s x).2))) (s:σ) (gB:ok s):
 fM Tryz.prog 90 [.d (.sl (l.map D.i)), .func (.func g) [] aG] base (H s) (H (aA step s l).1) (.d (.bool (aA step s l).2)):=by
 intro o nx hI K X hK
 have hle:=hI.le
 have fG:∀r∈V.aO aG,r<nx:=fun r hr=>Nat.lt_of_lt_of_le (hc r hr) hI.le
 refine cO.aB mix ZN aj ?_
 rw[c90]
 refine iL ?_
 refine bd (Dc l hl 127 [.ptr nx 0] (nx+1) (fun s=>ext base (H s) (aM o nx (.row [.func (.func g) [] aG]))) step mK ok bp (fun x hx s hs=>abi (h x hx s hs) hle ad (ae _ _ _) hc) s gB _ _ ?_ _ _ fun o2 n2 m1 m2 m3=> ?_)
 ·have hr:(ab.row [V.func (.func g) [] aG]).refs.all (fun r=>decide (r<nx+4))=true:=by
   rw[List.all_eq_true]
   intro r hr
   have h1:r∈V.aO aG:=by simpa[ab.refs,V.aO,V.refs]using hr
   have:=fG r h1
   simp;omega
  exact(hI.aM ad ad ad hr).ext ad ad
 refine iL ?_
 refine hK _ _ ad ⟨(m2.mono ad).bP,by have:=m2.le;omega,fun id aC=> ?_⟩ fun id i1 i2=> ?_
 ·exact yW
 ·exact Jh
theorem AG(l:List Int)(hl:l.length<=9223372036854775807)(g:Nat)(aG:List V)(base:Nat)(h:Nat->ab)(p:Int->Bool)(hc:∀r∈V.aO aG,r<base)
 (hp:∀x∈l,fM Tryz.prog g (.d (.i x)::aG) base h h (.d (.bool (p x)))):fM Tryz.prog 90 [.d (.sl (l.map D.i)), .func (.func g) [] aG] base h h (.d (.bool (l.all p))):=by
 have:=IL l hl g aG base (fun _:Unit=>h) (fun _ x=>((),p x)) hc (fun _=>True) (fun _ _ _ _ _=>trivial) (fun x hx _ _=>hp x hx) () trivial
 exact M8
end Go.Proofs.YtonbelhklnmjnaaGreat
section
namespace Go.Proofs.YtonbelhklnmjnaaGreat
open Go.Sort Go.RowKit
def Dd(P:Program)(g:FuncId):Prop:=∀ (eQ off cap:Nat) (zs:List Int) (w:World),Holds (Value.int .i64) w eQ off zs.toArray->eQ<w.heap.size->zs.length<4611686018427387904->
    Calls P g #[.slice (some ⟨eQ,off,none⟩) zs.length cap] w fun e w'=>
     e= .returned (.tuple #[])/\∃n os,w'=grow (putRow (Value.int .i64) (Sort.ahead w n) eQ off (zs.mergeSort fun x y=>decide (x<=y)).toArray) os
def et(l:List Int):List Int:=l.mergeSort fun x y=>decide (x<=y)
theorem Gw{B:Nat->Prop}{w:World}:∀ (zs:List Int) (xs:List Value),gJ B w 1 (zs.map (D.int .i64)) xs↔xs=zs.map (Value.int .i64):=by
 have hd:∀ (zs:List Int) (evs:List Value),D.aN B w (zs.map (D.int .i64)) evs↔evs=zs.map (Value.int .i64):=by
  intro zs
  induction zs with
  |nil=>intro evs;simp[D.aN]
  |cons z zs ih=>
   intro evs
   simp only[List.map_cons,D.aN]
   constructor
   ·rintro⟨v,vs,rfl,h1,h2⟩
    rw[(ih vs).1 h2]
    simp only[D.den]at h1
    rw[h1]
   ·intro h
    exact⟨_,_,h,rfl,(ih _).2 rfl⟩
 have hf:∀zs:List Int,(zs.map (Value.int .i64)).flatMap (·.cells.toList)=zs.map (Value.int .i64):=by
  intro zs
  induction zs with
  |nil=>rfl
  |cons z zs ih=>simp only[List.map_cons,List.flatMap_cons,ih];rfl
 intro zs xs
 constructor
 ·rintro⟨evs,h1,h2,h3⟩
  rw[h1,(hd zs evs).1 h3,hf]
 ·intro h
  subst h
  exact⟨_,(hf zs).symm,fun ev dM=>by
   obtain⟨z,_,rfl⟩:=List.mem_map.1 dM
   rfl,(hd zs _).2 rfl⟩
theorem Ms{P:Program}{g:FuncId}(hE:Enters P g)(hS:Dd P g){o:Nat->ab}{nx id ep:Nat}{ty:TypeId}{zs:List Int}(ho:o id= .arr ep ty 1 (zs.map (D.int .i64)))
 (hn:∀p cap w,Calls P g #[.slice p 0 cap] w fun e w'=>e= .returned (.tuple #[])/\w'=w)
 (hlen:zs.length<4611686018427387904) {K X:V->(Nat->ab)->Nat->Prop} (hK:K (.cp []) (aM o id (.arr ep ty 1 ((et zs).map (D.int .i64)))) nx):cO P g [.osl id ep] o nx K X:=by
 refine⟨hE,fun M φ w vals hH hd=> ?_⟩
 obtain⟨val,us,oK,⟨v0,v1,v2⟩,fL⟩:=hd
 have fL:us=[]:=fL
 subst fL
 have fO:val=φ id:=(v2 ep (by show(o id).cy=some ep;rw[ho];rfl)).2 rfl
 have hvs:vals=#[φ id]:=by rw[<- fO];exact Array.ext' (by simpa using oK)
 subst hvs
 have Ks:=hH.ok id
 unfold bc at Ks
 rw[show(hp o nx).o id= .arr ep ty 1 (zs.map (D.int .i64))from ho]at Ks
 obtain⟨_,xs,eA,bZ⟩:=Ks
 have DH:=(Gw zs xs).1 bZ
 subst DH
 simp only[List.length_map]at eA
 obtain⟨hl,To|⟨b,cap,cur,fb,_,hg,fG,DI,hcs,abj⟩⟩:=eA
 ·obtain⟨h1,h2⟩:=To
  have hz:zs=[]:=List.length_eq_zero_iff.1 h2
  subst hz
  rw[h1]
  refine(hn none 0 w).mono ?_
  rintro e w' ⟨rfl,rfl⟩
  have JN:aM o id (.arr ep ty 1 ((et []).map (D.int .i64)))=o:=by
   funext j
   by_cases e:j=id
   ·subst e;rw[ae,ho,show et []=[] by simp[et]]
   ·rw[ah _ _ _ _ e]
  rw[JN]at hK
  exact⟨φ,o,nx, .cp [],hH,Trans.refl _ _ _,⟨#[],rfl,rfl⟩,hK⟩
 ·rw[fb]
  have hb:b<w.heap.size:=(Array.getElem?_eq_some_iff.1 hg).1
  have abk:∀j,j<zs.length->cur[j]? =some (.int .i64 zs[j]!):=by
   intro j hj
   have h1:(cur.toList.take (zs.length*1))[j]? =(zs.map (Value.int .i64))[j]? :=by rw[abj]
   rw[List.getElem?_take_of_lt (by omega),List.getElem?_map,List.getElem?_eq_getElem hj]at h1
   simp only[Option.map_some]at h1
   rw[getElem!_pos zs j hj]
   simpa using h1
  refine(hS b 0 cap zs w (fun j hj=> ?_) hb hlen).mono ?_
  ·simp only[List.size_toArray]at hj
   refine⟨?_, ?_⟩
   ·unfold World.cell?
    simp only[hg,Option.isSome_none,Bool.false_eq_true,if_false,Nat.zero_add]
    rw[abk j hj];simp
   ·unfold World.frozen?
    simp[hg]
  rintro e w' ⟨rfl,n,os,rfl⟩
  have Uh:(et zs).length=zs.length:=List.length_mergeSort zs
  have FV:∀k,k<w.heap.size->(grow (putRow (Value.int .i64) (Sort.ahead w n) b 0 (et zs).toArray) os).heap[k]? =(w.heap.modify b (onCells (putCells (Value.int .i64) 0 (et zs).toArray)))[k]? :=by
   intro k hk
   unfold grow putRow mapBlock Sort.ahead
   simp only
   rw[Array.getElem?_append_left (by simpa using hk)]
  have xL:eK (· =b) w (grow (putRow (Value.int .i64) (Sort.ahead w n) b 0 (et zs).toArray) os):=by
   refine⟨rfl,rfl,rfl, ?_,fun k hk iJ=> ?_⟩
   ·unfold grow putRow mapBlock Sort.ahead;simp
   ·rw[FV k hk,Array.getElem?_modify,if_neg (fun e=>iJ e.symm)]
  have c7:((hp o nx).o id).live=true:=by show(o id).live=true;rw[ho];rfl
  have Hw:eQ (φ id)=some b:=by rw[fb];rfl
  have Tn:(grow (putRow (Value.int .i64) (Sort.ahead w n) b 0 (et zs).toArray) os).heap[b]? =some (.cells (putCells (Value.int .i64) 0 (et zs).toArray cur) ty (0,0)):=by
   rw[FV b hb,Array.getElem?_modify,if_pos rfl,hg];rfl
  have lg:(hp o nx).put [(id, .arr ep ty 1 ((et zs).map (D.int .i64)))]=hp (aM o id (.arr ep ty 1 ((et zs).map (D.int .i64)))) nx:=by
   have fL:id<nx:=v1
   simp only[Hp.put,hp]
   congr 1
   funext j
   simp only[List.map_cons,List.map_nil,List.mem_singleton,eq_iff_iff]
   exact⟨fun h=>h.elim (fun h=>h) (fun e=>e ▸ fL), .inl⟩
  have uu:bc M φ ((hp o nx).put [(id, .arr ep ty 1 ((et zs).map (D.int .i64)))]) (grow (putRow (Value.int .i64) (Sort.ahead w n) b 0 (et zs).toArray) os) id:=by
   unfold bc
   rw[show((hp o nx).put [(id, .arr ep ty 1 ((et zs).map (D.int .i64)))]).o id= .arr ep ty 1 ((et zs).map (D.int .i64)) by simp]
   refine⟨aZ,(et zs).map (Value.int .i64), ?_,(Gw _ _).2 rfl⟩
   simp only[List.length_map,Uh]
   refine⟨by simp[Uh], .inr ⟨b,cap,_,fb,Nat.zero_le _,Tn,fG,DI, ?_, ?_⟩⟩
   ·unfold putCells;simpa using hcs
   ·apply List.ext_getElem?
    intro j
    by_cases hj:j<zs.length
    ·rw[List.getElem?_take_of_lt (by omega),List.getElem?_map,List.getElem?_eq_getElem (l:=et zs) (by omega)]
     have Yk:j<cur.size:=ad
     unfold putCells
     simp only[Array.getElem?_toList,Array.getElem?_mapIdx,Option.map_some]
     rw[Array.getElem?_eq_getElem Yk]
     simp only[Option.map_some,Nat.zero_le,true_and,Nat.zero_add,List.size_toArray,Nat.sub_zero]
     rw[if_pos (by omega)]
     rw[getElem!_pos _ j (by simp;omega)]
     simp
    ·rw[List.getElem?_eq_none (by rw[List.length_take,Nat.mul_one];exact Nat.le_trans (Nat.min_le_left _ _) (Nat.not_lt.1 hj)),List.getElem?_eq_none (by rw[List.length_map,Uh];exact Nat.not_lt.1 hj)]
  have Sx:=iR hH (id:=id) v1 c7 Hw xL (.arr ep ty 1 ((et zs).map (D.int .i64))) M7 M7 uu
  have QB:=fk (φ:=φ) (H:=hp o nx) (id:=id) v1 c7 Hw xL (.arr ep ty 1 ((et zs).map (D.int .i64))) M7 M7
  rw[lg]at Sx QB
  exact⟨φ,_,nx, .cp [],Sx,QB,⟨#[],rfl,rfl⟩,hK⟩
end Go.Proofs.YtonbelhklnmjnaaGreat
end
section
namespace Go.Proofs.YtonbelhklnmjnaaGreat
open Go.Shelf
def De:Go.Shelf.Ren:=⟨fun|189=>125|125=>166|257=>165|128=>216|129=>217|294=>207|295=>208|296=>209|297=>210|298=>211|299=>212|216=>213|300=>214|301=>215|328=>248|329=>249|330=>250|331=>251|332=>252|215=>253|343=>260|n=>n,fun|28=>41|3=>3|46=>172|0=>0|51=>206|53=>208|4=>4|183=>198|182=>197|131=>203|5=>5|9=>9|218=>220|222=>137|228=>227|229=>228|n=>n,fun|n=>n⟩
theorem Gx:Go.Proofs.Lays.n189 Tryz.prog De:={
 mixed:=af
 f125:=Tryz.func166.trans (congrArg some af)
 f128:=Tryz.func216.trans (congrArg some af)
 f129:=Tryz.func217.trans (congrArg some af)
 f189:=Tryz.func125.trans (congrArg some af)
 f215:=Tryz.func253.trans (congrArg some af)
 f216:=Tryz.func213.trans (congrArg some af)
 f257:=Tryz.func165.trans (congrArg some af)
 f294:=Tryz.func207.trans (congrArg some af)
 f295:=Tryz.func208.trans (congrArg some af)
 f296:=Tryz.func209.trans (congrArg some af)
 f297:=Tryz.func210.trans (congrArg some af)
 f298:=Tryz.func211.trans (congrArg some af)
 f299:=Tryz.func212.trans (congrArg some af)
 f300:=Tryz.func214.trans (congrArg some af)
 f301:=Tryz.func215.trans (congrArg some af)
 f328:=Tryz.func248.trans (congrArg some af)
 f329:=Tryz.func249.trans (congrArg some af)
 f330:=Tryz.func250.trans (congrArg some af)
 f331:=Tryz.func251.trans (congrArg some af)
 f332:=Tryz.func252.trans (congrArg some af)
 f343:=Tryz.func260.trans (congrArg some af)
 t0:=Tryz.underlying0
 a0:=Tryz.isAgg0
 z0:=Tryz.sizeOf0
 v0:=Tryz.zeroValue0
 t3:=Tryz.underlying3
 a3:=Tryz.isAgg3
 z3:=Tryz.sizeOf3
 v3:=Tryz.zeroValue3
 t4:=Tryz.underlying4
 a4:=Tryz.isAgg4
 z4:=Tryz.sizeOf4
 v4:=Tryz.zeroValue4
 t5:=Tryz.underlying5
 a5:=Tryz.isAgg5
 z5:=Tryz.sizeOf5
 v5:=Tryz.zeroValue5
 t9:=Tryz.underlying9
 a9:=Tryz.isAgg9
 z9:=Tryz.sizeOf9
 v9:=Tryz.zeroValue9
 t28:=Tryz.underlying41
 a28:=Tryz.isAgg41
 z28:=Tryz.sizeOf41
 v28:=Tryz.zeroValue41
 t46:=Tryz.underlying172
 a46:=Tryz.isAgg172
 z46:=Tryz.sizeOf172
 v46:=Tryz.zeroValue172
 t51:=Tryz.underlying206
 a51:=Tryz.isAgg206
 z51:=Tryz.sizeOf206
 v51:=Tryz.zeroValue206
 t53:=Tryz.underlying208
 a53:=Tryz.isAgg208
 z53:=Tryz.sizeOf208
 v53:=Tryz.zeroValue208
 t131:=Tryz.underlying203
 a131:=Tryz.isAgg203
 z131:=Tryz.sizeOf203
 v131:=Tryz.zeroValue203
 t182:=Tryz.underlying197
 a182:=Tryz.isAgg197
 z182:=Tryz.sizeOf197
 v182:=Tryz.zeroValue197
 t183:=Tryz.underlying198
 a183:=Tryz.isAgg198
 z183:=Tryz.sizeOf198
 v183:=Tryz.zeroValue198
 t218:=Tryz.underlying220
 a218:=Tryz.isAgg220
 z218:=Tryz.sizeOf220
 v218:=Tryz.zeroValue220
 t222:=Tryz.underlying137
 a222:=Tryz.isAgg137
 z222:=Tryz.sizeOf137
 v222:=Tryz.zeroValue137
 t228:=Tryz.underlying227
 a228:=Tryz.isAgg227
 z228:=Tryz.sizeOf227
 v228:=Tryz.zeroValue227
 t229:=Tryz.underlying228
 a229:=Tryz.isAgg228
 z229:=Tryz.sizeOf228
 v229:=Tryz.zeroValue228}
theorem IM:Dd Tryz.prog 125:=fun eQ off cap zs w h1 h2 h3=>Any.slices_Sort_int Gx eQ off cap zs w h1 h2 h3
theorem IP:∀ (p:Option Addr) (cap:Nat) (w:World),Calls Tryz.prog 125 #[.slice p 0 cap] w fun e w'=>e= .returned (.tuple #[])/\w'=w:=fun p cap w=>Any.slices_Sort_int_none Gx p cap w
theorem Df:Enters Tryz.prog 125:=⟨_,Tryz.func125,af,af⟩
end Go.Proofs.YtonbelhklnmjnaaGreat
end
namespace Go.Proofs.YtonbelhklnmjnaaGreat
theorem Mt(t:Tm)(ht:t.fits)(o:Nat->ab)(nx:Nat)(hg:Good o nx)(K X:V->(Nat->ab)->Nat->Prop)
 (hK:∀o' nx' id l,nx<=id->id<nx'->Good o' nx'->(∀j,j<nx->o' j=o j)->o' id=tE l->l.Nodup->(∀v,v∈l↔sc v t=true)->K (.mp id) o' nx'):
 cO Tryz.prog 124 [.d t.d] o nx K X:=by
 refine cO.aB mix QR aj ?_
 rw[UM]
 refine iL ?_
 refine da (Wp t ht _ _ (nx+2) [] ?_ ?_ List.nodup_nil _ _ fun o2 n2 l m1 m2 m3 m4 m5=> ?_)
 ·exact dv
 ·exact dC
 refine aJ ?_
 refine hK _ _ (nx+2) l ?_ ?_ ?_ (fun j hj=> ?_) m4 m5.1 (fun v=> ?_)
 ·omega
 ·omega
 ·exact m2.mono ad
 ·rw[m3 j (by omega) (by omega)];(repeat(first|rfl|rw[ae]|rw[ah _ _ _ _ (by omega)]))
 ·have:=m5.2 v
  simpa using this
theorem Dg{l:List Int}{t:Tm}(hn:l.Nodup)(h:∀v,v∈l↔sc v t=true):et l=bH t:=by
 have hp:(et l).Perm l:=List.mergeSort_perm _ _
 have hs:(et l).Pairwise (fun a b=>decide (a<=b)=true):=List.pairwise_mergeSort (fun a b c h1 h2=>by simp at*;omega) (fun a b=>by simp;omega) l
 have hnd:(et l).Nodup:=hp.nodup_iff.2 hn
 refine LF ?_ (dO t).1 fun v=>by rw[hp.mem_iff,h v,(dO t).2 v]
 exact(hs.and hnd).imp fun {a b} h=>by have:=h.1;have:=h.2;simp at*;omega
theorem WO(s:a7)(hs:s.Fits)(t:Tm)(ht:t.Fin):a8 Tryz.prog 89 [s.d,t.d] (.ret [.sl (if cZ s [t]=true then(bH t).map .i else []), .i (mC (cZ s [t]))]):=by
 refine a8.aB mix ZM aj ?_
 rw[c89]
 refine aJ ?_
 refine ai (Ah s hs [t] aj (fun x hx=>by simp at hx;subst hx;exact ht)) rfl ?_
 cases h1:cZ s [t]with
 |false=>exact GI
 |true=>
  refine aJ ?_
  refine da (Mt t ht.fits _ _ dv _ _ fun o2 n2 id l m1 m2 m3 m4 m5 m6 m7=> ?_)
  have w1:id≠n2:=ad
  have w2:∀k,id≠n2+k:=fun k=>ad
  refine MT m5 w1 w2 ?_
  have adn:=Dg m6 m7
  have hlen:l.length<=40:=by
   have e1:(et l).length=l.length:=List.length_mergeSort l
   have e2:=ik t
   have e3:=(Ik h1 t aj).1
   rw[<- adn]at e2;omega
  refine aL (fun i:List Int×List Int×Option (D×D)=>⟨bB [.aa, .aa, .aa, .aa, .aa, .aa, .osl (n2+1) 0, .aa, .aa, .aa, .aa, .aa, .aa, .aa, .aa, .ptr n2 0],aM (aM (fun _=> .no) n2 (.mW (enc (D.int .i64) (iH i.1)) i.2.2)) (n2+1) (.arr 0 3 1 (i.2.1.map .i)),n2+2⟩)
   (fun i=>i.1.length+i.2.1.length<=40/\(i.2.1++i.1).Perm l) (fun i=>i.1.length) (l,[],none) ⟨by simpa using hlen,aj⟩ (bM.vi (fun _=>False) .bO (n2+1) _ ad (fun j hj=> ?_) (by dsimp only;(repeat(first|rfl|rw[ae]|rw[ah _ _ _ _ (by omega)]))) (.inl ⟨rfl,rfl,aZ⟩) (fun j hj=>by dsimp only;(repeat(first|rfl|rw[ae]|rw[ah _ _ _ _ (by omega)]))) (fun _ h=>h.elim) ?_) ?_
  ·dsimp only
   have ne:j≠n2+1:=ad
   simp only[aS,ne,if_false]
   split
   ·exact b8 rfl (by simp[ab.refs])
   ·exact FU
  ·try dsimp only
   exact Dw
  rintro⟨rest,Sy,last⟩ ⟨hl,hp⟩
  simp only at hl hp
  refine aJ ?_
  refine yx (fun hr=> ?_) fun i m hm=> ?_
  ·subst hr
   refine iL ?_
   have hp':Sy.Perm l:=by simpa using hp
   have hsd:et Sy=bH t:=Dg (hp'.nodup_iff.2 m6) fun v=>by rw[hp'.mem_iff,m7 v]
   refine da (Ms Df IM (zs:=Sy) dC IP ad ?_)
   refine iL ?_
   rw[hsd]
   simp[mC]
  ·have e1:Sy.length<=140737488355328:=ad
   have e2:Sy.length*8<=140737488355328:=ad
   have e3:Sy.length<=140737488355327:=ad
   have e4:(Sy.length+1)*8<=140737488355328:=ad
   simp+contextual (disch:=first|omega|simp only[go_sem,false_implies]) only[go_sem,wrap64,if_pos,Nat.add_assoc,Nat.left_eq_add,Nat.add_eq_left,Nat.add_left_cancel_iff,e1,e2,e3,e4]
   obtain⟨r1,r2⟩:=vL hm
   have IZ:(rest.eraseIdx i).length+1=rest.length:=r2
   refine au (rest.eraseIdx i,Sy++[m],some (.int .i64 m, .bool true)) ⟨by dsimp only;simp;omega, ?_⟩ mL (bM.vi (fun j=>j=n2+1) (.osl (n2+1) 1) (n2+1) _ ad (fun j hj=> ?_) (by dsimp only;(repeat(first|rfl|rw[ae]|rw[ah _ _ _ _ (by omega)]))) (.inr ⟨n2+1,1,rfl,rfl,by rw[ae,List.map_append];rfl⟩) (fun j hj=>by dsimp only;(repeat(first|rfl|rw[ae]|rw[ah _ _ _ _ (by omega)]))) (fun j h h2=>ad) ?_)
   ·dsimp only
    refine List.Perm.trans ?_ hp
    rw[List.append_assoc]
    refine List.Perm.append_left _ ?_
    exact EN hm
   ·dsimp only
    have ne:j≠n2+1:=ad
    have ne9:j≠n2+9:=ad
    simp only[aS,ne,ne9,if_false]
    split
    ·exact b8 rfl (by simp[ab.refs])
    ·exact FU
   ·try dsimp only
    exact Dw
theorem Mu(env:List Tm)(hl:env.length<=9223372036854775807)(n:Int)(base sp:Nat)(h:Nat->ab)(ux:h sp= .row [.d (.sl (env.map Tm.d))])(hb:sp<base):fM Tryz.prog 91 [.d (.i n), .ptr sp 0] base h h (.d (.bool (decide (n<env.length)))):=by
 intro o nx hI K X hK
 have hle:=hI.le
 have hg:=hI.bP
 have q0:o sp= .row [.d (.sl (env.map Tm.d))]:=by rw[hI.eq sp hb,ux]
 refine cO.aB mix ZO aj ?_
 rw[c91]
 refine eG q0 ?_
 exact hK _ _ ad ⟨dv,ad,fun j hj=>hI.eq j hj⟩ (fun j g1 g2=>rfl)
def AH(p:Pg)(env:List Tm)(e:Tm)(f:Pf):Bool:=((qH p&&mQ p.sig env)&&sY p.sig f)&&(cZ p.sig [e]&&(bH e).all fun n=>decide (n<(env.length:Int)))
theorem Mv(p:Pg)(hp:p.Fin)(env:List Tm)(hl:env.length<=9223372036854775807)(hv:∀t∈env,t.fits)(e:Tm)(he:e.wU)(f:Pf)(hf:f.fits)(hd:f.ja<=900000):
 a8 Tryz.prog 51 [p.d, .sl (env.map Tm.d),e.d,f.d] (.ret [.bool (AH p env e f)]):=by
 have PI:=ik e
 have hz:=he.size
 rw[Tm.kE]at hz
 refine a8.aB mix ZB aj ?_
 rw[c51,AH]
 refine aJ ?_
 refine ai (LA p hp) rfl ?_
 cases h1:qH p with
 |false=>exact X5
 |true=>
 refine AV ?_
 refine ai (LC p.sig hp.sig env hl hv) rfl ?_
 cases h2:mQ p.sig env with
 |false=>exact cI
 |true=>
 refine aJ ?_
 refine ai (EK p hp f hf hd) rfl ?_
 cases h3:sY p.sig f with
 |false=>exact cI
 |true=>
 refine aJ ?_
 refine bg (WO p.sig hp.sig e he.toFin) ?_
 cases h4:cZ p.sig [e]with
 |false=>exact X5
 |true=>
 refine AV ?_
 refine bd (AG (bH e) ad 91 [.ptr 1 0] 4 (aM (aM (aM (aM (fun _=> .no) 0 (.row p.row)) 1 (.row [.d (.sl (env.map Tm.d))])) 2 (.row e.row)) 3 (.row f.row)) (fun n=>decide (n<(env.length:Int))) mK (fun x hx=>Mu env hl x 4 1 _ dC ad) _ _ ⟨dv,ad,fun id aC=>rfl⟩ _ _ fun o2 n2 m1 m2 m3=> ?_)
 exact cI
end Go.Proofs.YtonbelhklnmjnaaGreat
namespace Go.Proofs.YtonbelhklnmjnaaGreat
structure eP (p:Pg) (env:List Tm) (e:Tm) (f:Pf):Prop where
 pf:p.Fits
 ps:gv p=true
 vf:∀t∈env,t.fits
 vs:gH env=true
 ef:e.fits
 es:iD e=true
 ff:f.fits
 fs:kK f=true
section
variable {p:Pg}{env:List Tm}{e:Tm}{f:Pf}
theorem eP.few (h:eP p env e f):p.Fw:=It h.pf h.ps
theorem eP.fin (h:eP p env e f):p.Fin:=(yH h.pf h.ps).1
theorem eP.prog (h:eP p env e f):qH p=eE p:=OY p (yH h.pf h.ps).2
theorem eP.abl (h:eP p env e f):env.length<=25:=by have:=h.vs;simp only[gH,Bool.and_eq_true,decide_eq_true_eq]at this;exact this.1
theorem eP.abm (h:eP p env e f):e.wU:=Tm.wU.Lf h.ef h.es
theorem eP.fsz (h:eP p env e f):f.sh.sz<=520/\f.ja<=160:=by
 have:=h.fs
 simp only[kK,Bool.and_eq_true,decide_eq_true_eq,kF,Wu]at this
 omega
end
theorem Gy{l:List Int}(hi:MS l)(n:Int):(l.all fun v=>decide (v<n))=(l.length==0||decide (l.getLast?.getD 0<n)):=by
 cases hl:l.getLast? with
 |none=>rw[List.getLast?_eq_none_iff]at hl;subst hl;rfl
 |some y=>
  have iJ:l≠[]:=by intro h;subst h;cases hl
  have hlen:(l.length==0)=false:=by simpa using iJ
  rw[hlen,Bool.false_or,Option.getD_some,Bool.eq_iff_iff,List.all_eq_true,decide_eq_true_eq]
  constructor
  ·intro h;simpa using h y (List.mem_of_getLast? hl)
  ·intro h v hv
   rw[decide_eq_true_eq]
   rw[List.getLast?_eq_getElem?]at hl
   obtain⟨i,Ti,e⟩:=List.getElem_of_mem hv
   obtain⟨h1,h2⟩:=List.getElem?_eq_some_iff.1 hl
   by_cases hc:i=l.length - 1
   ·subst hc;rw[h2]at e;omega
   ·have:=(List.pairwise_iff_getElem.1 hi) i (l.length - 1) Ti h1 ad
    rw[e,h2]at this;omega
theorem Mw{p:Pg}{env:List Tm}{e:Tm}{f:Pf}(h:eP p env e f):AH p env e f=(eE p&&dT p.sig f&&gI p.sig env e):=by
 unfold AH gI
 rw[h.prog,OZ]
 cases h1:eE p with
 |false=>rfl
 |true=>
  have hsg:kB p.sig=true:=by simp only[eE,Bool.and_eq_true]at h1;exact h1.1.1
  have hr:cZ p.sig [e]=dP p.sig e:=by unfold cZ;simp[hsg,pD]
  rw[hr,Gy (dO e).1]
  cases mQ p.sig env<;>cases dT p.sig f<;>cases dP p.sig e<;>simp
structure abn (p:Pg) (env:List Tm) (e:Tm) (f:Pf):Prop where
 prog:kJ p
 few:p.Fw
 ev:dQ p.sig env
 exp:c0 p.sig env.length e
 pf:oQ p.sig f
theorem IQ{s:a7}{t:Tm}(h:eD s t=true):∀v,sc v t=true->0<=v:=by
 have key:∀t:Tm,eD s t=true->∀v,sc v t=true->0<=v:=by
  refine Tm.ck fun t ih h v hv=> ?_
  rw[dF,Bool.and_eq_true,List.all_eq_true]at h
  rw[gQ]at hv
  by_cases h1:t.op=1
  ·rw[if_pos h1]at hv
   have e:t.n=v:=by simpa using hv
   have hn:=h.1
   simp[bz,h1,c6]at hn
   omega
  ·rw[if_neg h1]at hv
   have:∀ (l:List Tm) (i:Nat),(∀k∈l,k∈t.kids)->iq v t.op t.n l i=true->0<=v:=by
    intro l
    induction l with
    |nil=>intro i _ h;simp[iq]at h
    |cons k l oN=>
     intro i hk hv
     simp only[iq,Bool.or_eq_true,Bool.and_eq_true]at hv
     rcases hv with hv|hv
     ·exact ih k (hk k aj) (h.2 k (hk k aj)) v hv.1
     ·exact oN _ (fun x hx=>hk x lY) hv
   exact this t.kids 0 (fun _ h=>h) hv
 exact key t h
theorem WQ{p:Pg}{env:List Tm}{e:Tm}{f:Pf}(h:eP p env e f)(h1:eE p=true)(h2:dT p.sig f=true)(h3:gI p.sig env e=true):abn p env e f:=by
 simp only[gI,Bool.and_eq_true]at h3
 obtain⟨⟨a,b⟩,c⟩:=h3
 simp only[dT,Bool.and_eq_true]at h2
 refine⟨⟨h.fin,h1⟩,h.few,LM h.vf a,⟨h.ef,ji b,fun v hv=>⟨IQ (ji b) v hv, ?_⟩⟩,⟨h.ff,h2.2,by have:=h.fsz;omega⟩⟩
 rw[<- Gy (dO e).1,List.all_eq_true]at c
 simpa using c v (((dO e).2 v).2 hv)
def Mx(p:Pg)(env:List Tm)(e:Tm)(f:Pf):Tm×Int:=if(eE p&&dT p.sig f&&gI p.sig env e)=true then(if bf p f env e=true then(f.val,0)else(O7,7))else(O7,2)
theorem Dh{p:Pg}{env:List Tm}{e:Tm}{f:Pf}(h:eP p env e f):a8 Tryz.prog 10 [p.d, .sl (env.map Tm.d),e.d,f.d] (.ret [(Mx p env e f).1.d, .i (Mx p env e f).2]):=by
 have PI:=h.abl
 have hg:=Mv p h.fin env ad h.vf e h.abm f h.ff (by have:=h.fsz;omega)
 rw[Mw h]at hg
 refine a8.aB mix Zy aj ?_
 rw[c10,Mx]
 refine aJ ?_
 refine ai hg rfl ?_
 cases h1:(eE p&&dT p.sig f&&gI p.sig env e)with
 |false=>
  rw[if_neg Bool.false_ne_true,Az]
  exact cI
 |true=>
 rw[if_pos rfl]
 have cB:=h1
 simp only[Bool.and_eq_true]at cB
 have ok:=WQ h cB.1.1 cB.1.2 cB.2
 refine aJ ?_
 refine da (IK ok.prog ok.few f ok.pf env ok.ev e ok.exp _ _ dv _ _ fun o1 n1 g1 g2 g3=> ?_)
 have q2:o1 2= .row f.row:=by
  rw[g3 2 (by omega)]
  exact dC
 have q3:o1 3= .row [.d (.i 0), .d (.i 0), .bO]:=by
  rw[g3 3 (by omega)]
  exact dC
 cases h2:bf p f env e with
 |false=>
  rw[if_neg Bool.false_ne_true,Az]
  exact yT q3
 |true=>
 rw[if_pos rfl]
 have hz:=ok.pf.val.2.1
 have h20:3<n1:=ad
 have y1:∀k,3≠n1+k:=fun k=>ad
 refine MT q2 q3 y1 ?_
 refine bg (L3 [f.val] aj AZ) ?_
 simp+contextual (disch:=first|omega|simp only[go_sem,false_implies]) only[go_sem,wrap64,if_pos,q2,q3,Nat.add_assoc,Nat.left_eq_add,Nat.add_eq_left,Nat.add_left_cancel_iff,y1]
end Go.Proofs.YtonbelhklnmjnaaGreat
namespace Go.Proofs.YtonbelhklnmjnaaGreat
def abo(t:Pf)(d:Int):List Int:=((dB t d).filter (fun x=>x.1.bG==6)).map (·.1.num)
def E2(t:Pf):List Int:=abo t 1
theorem E3(t:Pf):(E2 t).length<=t.sh.sz:=by
 unfold E2 abo
 rw[List.length_map, <- CW t 1]
 exact List.length_filter_le _ _
def wk(t:Pf):Nat:=t.sh.sz
def gw(l:List Pf):Nat:=(l.map wk).sum
theorem AJ(t:Pf):t.sh.sz=1+gw t.kids:=by
 rw[Tm.jM,Pf.mz];unfold ir gw wk;rw[List.map_map];rfl
theorem IU{l:List Pf}{k:Nat}{x:Pf}(h:l[k]? =some x):gw (l.take (k+1))=gw (l.take k)+wk x:=by
 unfold gw
 rw[List.take_add_one,h];simp
theorem Gz(l:List Pf)(k:Nat):gw (l.take k)<=gw l:=by
 unfold gw
 conv=>rhs;rw[<- List.take_append_drop k l]
 rw[List.map_append,List.sum_append];omega
theorem GA{l:List Pf}{x:Pf}(h:x∈l):wk x<=gw l:=by
 unfold gw
 induction l with
 |nil=>cases h
 |cons y l ih=>
  rw[List.map_cons,List.sum_cons]
  rcases List.mem_cons.1 h with e|e
  ·subst e;omega
  ·have:=ih e;omega
theorem My(l:List Pf):(l.flatMap E2).length<=gw l:=by
 unfold gw
 induction l with
 |nil=>simp
 |cons y l ih=>
  rw[List.flatMap_cons,List.length_append,List.map_cons,List.sum_cons]
  have:=E3 y
  unfold wk at ih|-;omega
theorem Mz:∀t:Pf,t.fits->t.sh.sz<=1000000->a8 Tryz.prog 17 [t.d] (.ret [.i t.sh.sz]):=by
 refine Pf.ck fun t ih hf hz=> ?_
 have fm:=(Pf.aP _).1 hf
 have he:=AJ t
 refine a8.aB mix acp aj ?_
 rw[c17]
 refine aJ ?_
 refine aL (fun k:Nat=>⟨bB [.aa, .ptr 0 0, .aa, .d (.i (1+gw (t.kids.take k):Nat)), .d (.i k)],fu t.row,1⟩)
  (fun k=>k<=t.kids.length) (fun k=>t.kids.length - k) 0 (Nat.zero_le _) (bM.d1 _ (aW rfl) ad rfl ?_) (fun k hk=> ?_)
 ·exact cM
 replace hk:k<=t.kids.length:=hk
 have hb:=Gz t.kids k
 refine jk ?_
 refine ak (fun h2=> ?_) (fun h2=> ?_)
 ·simp at h2
  obtain⟨x,hx⟩:=aw h2
  have de:=List.mem_of_getElem? hx
  have hxz:=GA de
  have hb2:=Gz t.kids (k+1)
  have l9:=IU hx
  refine eG hx ?_
  unfold wk at hxz l9
  refine ai (ih x de (fm.2.2.2.2 x de) ad) rfl ?_
  refine eG hx ?_
  refine au (k+1) h2 ad (bM.d1 _ (aW rfl) ad rfl ?_)
  rw[show((1+gw (t.kids.take (k+1)):Nat):Int)=((1+gw (t.kids.take k):Nat):Int)+(x.sh.sz:Int) by rw[l9];omega]
  exact cM
 ·simp at h2
  have Gc:k=t.kids.length:=ad
  subst Gc
  rw[List.take_length]at*
  refine jk ?_
  rw[he]
theorem MA(p:Pg)(hp:p.Fw):a8 Tryz.prog 12 [p.d] (.ret [.bool (eE p)]):=by
 refine a8.aB mix acm aj ?_
 rw[c12]
 refine aJ ?_
 refine ai (O4 p hp) rfl ?_
 exact cI
theorem E4(p:Pg)(hp:p.Fits):a8 Tryz.prog 39 [p.d] (.ret [.bool (gv p)]):=by
 refine a8.aB mix acz aj ?_
 rw[c39]
 refine aJ ?_
 refine ai (Is p hp) rfl ?_
 exact cI
def wm(p:Pg)(env:List Tm)(e:Tm)(f:Pf):Bool:=gv p&&gH env&&iD e&&kK f
theorem Pr(p:Pg)(env:List Tm)(e:Tm)(f:Pf)(hp:p.Fits)(hl:env.length<=9223372036854775807)(hv:∀t∈env,t.fits)(he:e.fits)(hf:f.fits):a8 Tryz.prog 8 [p.d, .sl (env.map Tm.d),e.d,f.d] (.ret [.bool (wm p env e f)]):=by
 refine a8.aB mix fn8 aj ?_
 rw[c8,wm]
 refine aJ ?_
 refine ai (E4 p hp) rfl ?_
 cases h1:gv p with
 |false=>exact cI
 |true=>
 refine aJ ?_
 refine ai (C6 env hl hv) rfl ?_
 cases h2:gH env with
 |false=>exact cI
 |true=>
 refine aJ ?_
 refine ai (Ae e he) rfl ?_
 cases h3:iD e with
 |false=>exact cI
 |true=>
 refine aJ ?_
 refine ai (Iu f hf) rfl ?_
 exact cI
theorem abp{p:Pg}{env:List Tm}{e:Tm}{f:Pf}(hp:p.Fits)(hv:∀t∈env,t.fits)(he:e.fits)(hf:f.fits)(h:wm p env e f=true):eP p env e f:=by
 simp only[wm,Bool.and_eq_true]at h
 exact⟨hp,h.1.1.1,hv,h.1.1.2,he,h.1.2,hf,h.2⟩
theorem eP.val {p:Pg}{env:List Tm}{e:Tm}{f:Pf}(h:eP p env e f):iG f.val=true:=by
 have:=h.fs
 simp only[kK,Bool.and_eq_true]at this
 have:=this.2
 rw[qR]at this
 simp only[Bool.and_eq_true]at this
 exact this.1.1
def Di(a b:List Tm):Prop:=∀i:Nat,I7 ((a[i]?).getD fK) ((b[i]?).getD fK)=true
theorem yP(env:List Tm)(n:Int)(v:Tm)(i:Nat):((jz env n v)[i]?).getD fK=if i=n.toNat then v else(env[i]?).getD fK:=by
 have hl:n.toNat<(env++List.replicate (n.toNat+1 - env.length) fK).length:=by simp;omega
 unfold jz
 by_cases h:i=n.toNat
 ·subst h
  rw[if_pos rfl,List.getElem?_set_self hl];rfl
 ·rw[if_neg h,List.getElem?_set_ne (fun e=>h e.symm)]
  by_cases h2:i<env.length
  ·rw[List.getElem?_append_left h2]
  ·rw[List.getElem?_append_right (by omega),List.getElem?_eq_none (l:=env) (by omega),List.getElem?_replicate]
   split<;>rfl
theorem Di.with {a b:List Tm}(h:Di a b)(n:Int)(v:Tm):Di (jz a n v) (jz b n v):=fun i=>by
 rw[yP,yP]
 split
 ·exact F4 v
 ·exact h i
theorem Di.rfl' (a:List Tm):Di a a:=fun i=>F4 _
def Ps(p:Pg)(env:List Tm)(e:Tm)(f:Pf):Bool:=eE p&&gI p.sig env e&&dT p.sig f
theorem MB{p:Pg}{env:List Tm}{e:Tm}{f:Pf}(sm:eP p env e f):a8 Tryz.prog 23 [p.d, .sl (env.map Tm.d),e.d,f.d] (.ret [.bool (Ps p env e f)]):=by
 have hl:=sm.abl
 refine a8.aB mix acs aj ?_
 rw[c23,Ps]
 refine aJ ?_
 refine ai (MA p sm.few) rfl ?_
 cases h1:eE p with
 |false=>exact cI
 |true=>
 refine aJ ?_
 refine ai (L1 p sm.fin.sig env ad sm.vf e sm.abm) rfl ?_
 cases h2:gI p.sig env e with
 |false=>exact cI
 |true=>
 refine aJ ?_
 refine ai (L0 p sm.fin.sig f sm.ff) rfl ?_
 exact cI
theorem eP.with {p:Pg}{env v:List Tm}{e:Tm}{f:Pf}(h:eP p env e f)(hf:∀t∈v,t.fits)(hs:gH v=true):eP p v e f:=⟨h.pf,h.ps,hf,hs,h.ef,h.es,h.ff,h.fs⟩
def Dj(p:Pg)(r n:Int)(b:List Tm)(vs:List Tm)(env:List Tm)(e:Tm)(i:Nat):List Tm×Tm:=
 if r=6/\i=e.kids.length then match p.rules[n.toNat]? with
  |none=>(env,e)
  |some ru=>(qM ru b,ru.rhs)
 else if r=7 then(env,gV e 0)
 else if r=8 then(env,gV e 1)
 else if r=9/\i=1 then(jz env e.n ((vs[0]?).getD fK),gV e 1)
 else if r=15/\i=2 then(((vs[0]?).getD fK).kids++[(vs[1]?).getD fK],oP p.sig ((vs[0]?).getD fK).n)
 else(env,gV e i)
theorem wo(ks:List Pf)(i:Nat):bK ks i=((ks.map Pf.val)[i]?).getD fK:=by unfold bK;rw[List.getElem?_map]
theorem jo{p:Pg}{ks:List Pf}{i:Nat}{x:Pf}(h:ks[i]? =some x):qY (ks.map (bf p)) i=bf p x:=SU
theorem wq{p:Pg}{ks:List Pf}{env es:List Tm}{i:Nat}{x:Pf}(H:oA (ks.map (bf p)) env es=true)(h:ks[i]? =some x):∃y,es[i]? =some y/\bf p x env y=true:=by
 unfold oA at H
 rw[Bool.and_eq_true,List.all_eq_true,beq_iff_eq,List.length_map]at H
 have cJ:=(List.getElem?_eq_some_iff.1 h).1
 obtain⟨y,hy⟩:∃y,es[i]? =some y:=⟨es[i]'ad,aj⟩
 have hz:((ks.map (bf p)).zip es)[i]? =some (bf p x,y):=by rw[List.getElem?_zip_eq_some,List.getElem?_map,h];exact⟨rfl,hy⟩
 exact⟨y,hy,H.2 _ (List.mem_of_getElem? hz)⟩
theorem GC{p:Pg}{f:Pf}{env:List Tm}{e:Tm}(H:bf p f env e=true){i:Nat}{x:Pf}(h:f.kids[i]? =some x):bf p x (Dj p f.bG f.num f.binds (f.kids.map Pf.val) env e i).1 (Dj p f.bG f.num f.binds (f.kids.map Pf.val) env e i).2=true:=by
 have cJ:=(List.getElem?_eq_some_iff.1 h).1
 rw[e7,mR]at H
 unfold Dj
 by_cases h1:f.bG=1
 ·rw[if_pos h1]at H;simp at H;rw[H.1]at cJ;simp at cJ
 rw[if_neg h1]at H
 by_cases h1:f.bG=2
 ·rw[if_pos h1]at H;simp at H;rw[H.2.1]at cJ;simp at cJ
 rw[if_neg h1]at H
 by_cases h1:f.bG=3
 ·rw[if_pos h1]at H;simp at H;rw[H.2.1]at cJ;simp at cJ
 rw[if_neg h1]at H
 by_cases h1:f.bG=4
 ·rw[if_pos h1]at H
  simp only[Bool.and_eq_true]at H
  obtain⟨y,hy,hp⟩:=wq H.2.2 h
  rw[if_neg (by omega),if_neg (by omega),if_neg (by omega),if_neg (by omega),if_neg (by omega)]
  have:gV e i=y:=by unfold gV;rw[hy];rfl
  rw[this];exact hp
 rw[if_neg h1]at H
 by_cases h1:f.bG=5
 ·rw[if_pos h1]at H
  simp only[Bool.and_eq_true]at H
  obtain⟨y,hy,hp⟩:=wq H.2.2 h
  rw[if_neg (by omega),if_neg (by omega),if_neg (by omega),if_neg (by omega),if_neg (by omega)]
  have:gV e i=y:=by unfold gV;rw[hy];rfl
  rw[this];exact hp
 rw[if_neg h1]at H
 by_cases h1:f.bG=6
 ·rw[if_pos h1]at H
  cases hr:p.rules[f.num.toNat]? with
  |none=>rw[hr]at H;simp at H
  |some ru=>
   rw[hr]at H
   simp only[Bool.and_eq_true,beq_iff_eq]at H
   have hlen:=H.2.1.1.1.2
   by_cases h2:i=e.kids.length
   ·rw[if_pos ⟨h1,h2⟩]
    have:=H.2.2.2
    rw[<- h2,jo h]at this
    exact this
   ·rw[if_neg (fun c=>h2 c.2),if_neg (by omega),if_neg (by omega),if_neg (by omega),if_neg (by omega)]
    have ha:=H.2.2.1.2
    rw[<- List.map_take]at ha
    obtain⟨y,hy,hp⟩:=wq ha (show(f.kids.take e.kids.length)[i]? =some x by rw[List.getElem?_take_of_lt (by omega)];exact h)
    have:gV e i=y:=by unfold gV;rw[hy];rfl
    rw[this];exact hp
 rw[if_neg h1]at H
 rw[if_neg (fun c=>h1 c.1)]
 by_cases h1:f.bG=7
 ·rw[if_pos h1]at H|-
  simp only[Bool.and_eq_true,beq_iff_eq]at H
  obtain rfl:i=0:=ad
  have:=H.2.2;rw[jo h]at this;exact this
 rw[if_neg h1]at H|-
 by_cases h1:f.bG=8
 ·rw[if_pos h1]at H|-
  simp only[Bool.and_eq_true,beq_iff_eq]at H
  obtain rfl:i=0:=ad
  have:=H.2.2;rw[jo h]at this;exact this
 rw[if_neg h1]at H|-
 by_cases h1:f.bG=9
 ·rw[if_pos h1]at H
  simp only[Bool.and_eq_true,beq_iff_eq]at H
  rcases(by omega:i=0\/i=1)with rfl|rfl
  ·rw[if_neg (by omega),if_neg (by omega)]
   have:=H.2.1.2;rw[jo h]at this;exact this
  ·rw[if_pos ⟨h1,rfl⟩]
   have:=H.2.2;rw[jo h,wo]at this;exact this
 rw[if_neg h1]at H
 rw[if_neg (fun c=>h1 c.1)]
 by_cases h1:f.bG=15
 ·rw[if_pos h1]at H
  simp only[Bool.and_eq_true,Bool.or_eq_true,beq_iff_eq]at H
  rcases(by omega:i=0\/i=1\/i=2)with rfl|rfl|rfl
  ·rw[if_neg (by omega)]
   have:=H.1.2.1.1;rw[jo h]at this;exact this
  ·rw[if_neg (by omega)]
   have:=H.1.2.1.2;rw[jo h]at this;exact this
  ·rw[if_pos ⟨h1,rfl⟩]
   have h3:=H.2
   split at h3
   ·simp at h3;omega
   ·simp only[Bool.and_eq_true]at h3
    have:=h3.2;rw[jo h,wo,wo]at this;exact this
 rw[if_neg h1]at H
 rw[if_neg (fun c=>h1 c.1)]
 simp only[Bool.and_eq_true,beq_iff_eq]at H
 rcases(by omega:i=0\/i=1)with rfl|rfl
 ·have:=H.2.1;rw[jo h]at this;exact this
 ·have:=H.2.2;rw[jo h]at this;exact this
theorem Pt{p:Pg}{r:Int}{v w:Tm}{n:Int}{b:List Tm}{ks:List Pf}{env:List Tm}{e:Tm}{s:a7}(hv:Pn s v)(hw:Pn s w)(h2:r≠2)(H:bf p (.mk r v n b ks) env e=true)(H':bf p (.mk r w n b ks) env e=true):w=v:=by
 rw[e7]at H H'
 change mR p r v n b ks (ks.map (bf p)) env e=true at H
 change mR p r w n b ks (ks.map (bf p)) env e=true at H'
 rw[mR]at H H'
 by_cases h1:r=1
 ·rw[if_pos h1]at H H'
  simp only[Bool.and_eq_true,beq_iff_eq]at H H'
  rw[hv.bot H.2,hw.bot H'.2]
 rw[if_neg h1]at H H'
 rw[if_neg h2]at H H'
 by_cases h1:r=3
 ·rw[if_pos h1]at H H'
  simp only[Bool.and_eq_true,bY]at H H'
  rw[H.2.2,H'.2.2]
 rw[if_neg h1]at H H'
 by_cases h1:r=4
 ·rw[if_pos h1]at H H'
  simp only[Bool.and_eq_true,bY]at H H'
  rw[H.2.1,H'.2.1]
 rw[if_neg h1]at H H'
 by_cases h1:r=5
 ·rw[if_pos h1]at H H'
  simp only[Bool.and_eq_true,bY]at H H'
  rw[H.2.1,H'.2.1]
 rw[if_neg h1]at H H'
 by_cases h1:r=6
 ·rw[if_pos h1]at H H'
  cases hr:p.rules[n.toNat]? with
  |none=>rw[hr]at H;simp at H
  |some ru=>
   rw[hr]at H H'
   simp only[Bool.and_eq_true,bY]at H H'
   exact Ta
 rw[if_neg h1]at H H'
 by_cases h1:r=7
 ·rw[if_pos h1]at H H'
  simp only[Bool.and_eq_true,bY]at H H'
  exact Ta
 rw[if_neg h1]at H H'
 by_cases h1:r=8
 ·rw[if_pos h1]at H H'
  simp only[Bool.and_eq_true,bY]at H H'
  exact Ta
 rw[if_neg h1]at H H'
 by_cases h1:r=9
 ·rw[if_pos h1]at H H'
  simp only[Bool.and_eq_true,bY]at H H'
  rw[<- H.2.1.1.2, <- H'.2.1.1.2]
 rw[if_neg h1]at H H'
 by_cases h1:r=15
 ·rw[if_pos h1]at H H'
  simp only[Bool.and_eq_true]at H H'
  have a:=H.2
  have b:=H'.2
  split at a
  ·rename_i hc
   rw[if_pos hc]at b
   simp only[Bool.and_eq_true,bY]at a b
   rw[a.2,b.2]
  ·rename_i hc
   rw[if_neg hc]at b
   simp only[Bool.and_eq_true,bY]at a b
   rw[<- a.1.2, <- b.1.2]
 rw[if_neg h1]at H H'
 simp only[Bool.and_eq_true]at H H'
 have a:=H.1.2
 have b:=H'.1.2
 unfold w7 at a b
 by_cases h1:r=10
 ·rw[if_pos h1]at a b
  simp only[Bool.and_eq_true,bY]at a b
  rw[<- a.2.2, <- b.2.2]
 rw[if_neg h1]at a b
 by_cases h1:r=11
 ·rw[if_pos h1]at a b
  simp only[Bool.and_eq_true,bY]at a b
  rw[a.2.2,b.2.2]
 rw[if_neg h1]at a b
 by_cases h1:r=12
 ·rw[if_pos h1]at a b
  simp only[Bool.and_eq_true,bY]at a b
  rw[a.2.2,b.2.2]
 rw[if_neg h1]at a b
 by_cases h1:r=13
 ·rw[if_pos h1]at a b
  simp only[Bool.and_eq_true,bY]at a b
  rw[a.2.2,b.2.2]
 rw[if_neg h1]at a b
 by_cases h1:r=14
 ·rw[if_pos h1]at a b
  simp only[Bool.and_eq_true,bY]at a b
  rw[a.2.2,b.2.2]
 rw[if_neg h1]at a
 cases a
mutual
def dS(w:Tm):Pf->Int->Pf×Int×Bool
 | .mk r v n b ks,i=>if i=0 then(.mk r w n b ks, -1,r==2||aX v w)else(.mk r v n b (bS w ks (i - 1) true).1,(bS w ks (i - 1) true).2.1,(bS w ks (i - 1) true).2.2)
def bS(w:Tm):List Pf->Int->Bool->List Pf×Int×Bool
 |[],i,c=>([],i,c)
 |k::l,i,c=>if 0<=i then((dS w k i).1::(bS w l (dS w k i).2.1 (dS w k i).2.2).1,(bS w l (dS w k i).2.1 (dS w k i).2.2).2)else(k::l,i,c)
end
theorem jT(w:Tm)(f:Pf)(i:Int):dS w f i=if i=0 then(.mk f.bG w f.num f.binds f.kids, -1,f.bG==2||aX f.val w)else(.mk f.bG f.val f.num f.binds (bS w f.kids (i - 1) true).1,(bS w f.kids (i - 1) true).2.1,(bS w f.kids (i - 1) true).2.2):=by
 cases f;rfl
theorem nU(w:Tm)(l:List Pf){i:Int}(c:Bool)(h:i<0):bS w l i c=(l,i,c):=by
 cases l with
 |nil=>rfl
 |cons k l=>rw[bS,if_neg (by omega)]
theorem yQ(w:Tm)(k:Pf):∀ (l:List Pf) (i:Int) (c:Bool),0<=(bS w l i c).2.1->bS w (l++[k]) i c=((bS w l i c).1++[(dS w k (bS w l i c).2.1).1],(dS w k (bS w l i c).2.1).2)
 |[],i,c,h=>by
  simp only[bS]at h
  simp only[List.nil_append,bS,if_pos h]
 |x::l,i,c,h=>by
  by_cases hi:0<=i
  ·simp only[List.cons_append,bS,if_pos hi]at h|-
   rw[yQ w k l _ _ h]
  ·rw[bS,if_neg hi]at h
   exact absurd h GS
theorem yR(w:Tm)(r:List Pf):∀ (l:List Pf) (i:Int) (c:Bool),(bS w l i c).2.1<0->bS w (l++r) i c=((bS w l i c).1++r,(bS w l i c).2)
 |[],i,c,h=>by
  simp only[bS]at h
  simp only[List.nil_append,bS,nU w r c h]
 |x::l,i,c,h=>by
  by_cases hi:0<=i
  ·simp only[List.cons_append,bS,if_pos hi]at h|-
   rw[yR w r l _ _ h]
  ·rw[nU w _ c (by omega),nU w _ c (by omega)]
theorem wu(w:Tm):∀ (l:List Pf) (i:Int) (c:Bool),(bS w l i c).1.length=l.length
 |[],i,c=>rfl
 |x::l,i,c=>by
  rw[bS]
  split
  ·simp[wu w l]
  ·rfl
theorem qX(w:Tm)(Q:Pf->Prop):∀ (l:List Pf),(∀k∈l,Q k->∀i,Q (dS w k i).1)->(∀k∈l,Q k)->∀ (i:Int) (c:Bool),∀k∈(bS w l i c).1,Q k
 |[],_,_,i,c,k,hk=>by simp[bS]at hk
 |x::l,h,hq,i,c,k,hk=>by
  rw[bS]at hk
  split at hk
  ·rcases List.mem_cons.1 hk with e|e
   ·rw[e];exact h x aj (hq x aj) i
   ·exact qX w Q l (fun y hy=>h y tc) (fun y hy=>hq y tc) _ _ k e
  ·exact hq k hk
theorem GD(w:Tm):∀ (l:List Pf),(∀k∈l,∀i,(dS w k i).1.sh=k.sh)->∀ (i:Int) (c:Bool),(bS w l i c).1.map Pf.sh=l.map Pf.sh
 |[],_,i,c=>rfl
 |x::l,h,i,c=>by
  rw[bS]
  split
  ·simp only[List.map_cons]
   rw[h x (by simp),GD w l (fun y hy=>h y (by simp[hy]))]
  ·rfl
theorem MC(w:Tm):∀ (f:Pf) (i:Int),(dS w f i).1.sh=f.sh:=by
 refine Pf.ck fun f ih i=> ?_
 rw[jT]
 split
 ·rw[Pf.CV,Pf.CV f];rfl
 ·rw[Pf.CV,Pf.CV f]
  show Tm.mk 0 0 ((bS w f.kids (i - 1) true).1.map Pf.sh)=_
  rw[GD w f.kids ih]
theorem MD{w:Tm}(hw:w.fits):∀ (f:Pf),f.fits->∀i:Int,(dS w f i).1.fits:=by
 refine Pf.ck fun f ih hf i=> ?_
 have fm:=(Pf.aP f).1 hf
 rw[jT]
 split
 ·exact(Pf.aP _).2 ⟨hw,fm.2⟩
 ·refine(Pf.aP _).2 ⟨fm.1,fm.2.1,fm.2.2.1, ?_, ?_⟩
  ·show(bS w f.kids (i - 1) true).1.length<=_
   rw[wu];exact fm.2.2.2.1
  ·exact qX w Pf.fits f.kids ih fm.2.2.2.2 _ _
theorem IV{s:a7}{w:Tm}(hw:vF s w=true):∀ (f:Pf),gf s f=true->∀i:Int,gf s (dS w f i).1=true:=by
 refine Pf.ck fun f ih hf i=> ?_
 rw[jh,Bool.and_eq_true,List.all_eq_true]at hf
 rw[jT,jh,Bool.and_eq_true,List.all_eq_true]
 have h1:=hf.1
 unfold fZ at h1|-
 simp only[Bool.and_eq_true]at h1|-
 split
 ·exact⟨⟨⟨hw,h1.1.2⟩,h1.2⟩,hf.2⟩
 ·exact⟨h1,qX w (fun k=>gf s k=true) f.kids ih hf.2 _ _⟩
theorem ME{w:Tm}(hw:iG w=true):∀ (f:Pf),mI f=true->∀i:Int,mI (dS w f i).1=true:=by
 refine Pf.ck fun f ih hf i=> ?_
 rw[qR,Bool.and_eq_true,List.all_eq_true,Bool.and_eq_true]at hf
 rw[jT,qR,Bool.and_eq_true,List.all_eq_true,Bool.and_eq_true]
 split
 ·exact⟨⟨hw,hf.1.2⟩,hf.2⟩
 ·exact⟨hf.1,qX w (fun k=>mI k=true) f.kids ih hf.2 _ _⟩
theorem Dk(w:Tm):∀ (l:List Pf),(∀k∈l,∀i:Int,(wk k:Int)<=i->dS w k i=(k,i - wk k,true))->∀ (i:Int) (c:Bool),(gw l:Int)<=i->bS w l i c=(l,i - gw l,l.isEmpty&&c|| !l.isEmpty)
 |[],_,i,c,h=>by simp[bS,gw]
 |x::l,h,i,c,hi=>by
  have e:gw (x::l)=wk x+gw l:=by unfold gw;simp
  rw[e]at hi|-
  rw[bS,if_pos (by omega),h x (by simp) i (by omega)]
  simp only
  rw[Dk w l (fun y hy=>h y (by simp[hy])) (i - wk x) true (by omega)]
  simp only[List.isEmpty_cons,Bool.false_and,Bool.not_false,Bool.or_true,Bool.and_true]
  cases l<;>simp<;>omega
theorem Pu(w:Tm):∀ (f:Pf) (i:Int),(wk f:Int)<=i->dS w f i=(f,i - wk f,true):=by
 refine Pf.ck fun f ih i hi=> ?_
 have e:wk f=1+gw f.kids:=AJ f
 rw[jT,if_neg (by omega),Dk w f.kids ih (i - 1) true (by omega)]
 cases f
 simp only[Pf.bG,Pf.val,Pf.num,Pf.binds,Pf.kids]at e|-
 rw[e]
 simp only[Bool.and_true,Prod.mk.injEq,true_and]
 refine⟨by simp only[Int.natCast_add];omega, ?_⟩
 cases List.isEmpty _<;>rfl
theorem GF(w:Tm):∀ (l:List Pf),(∀k∈l,∀i:Int,0<=i->i<wk k->(dS w k i).2.1= -1)->∀ (i:Int) (c:Bool),0<=i->i<gw l->
 ∃a k b m,l=a++k::b/\0<=m/\m<(wk k:Int)/\bS w l i c=(a++(dS w k m).1::b, -1,(dS w k m).2.2)
 |[],_,i,c,h0,h=>by simp[gw]at h;omega
 |x::l,h,i,c,h0,hi=>by
  have e:gw (x::l)=wk x+gw l:=by unfold gw;simp
  rw[e]at hi
  by_cases hx:i<wk x
  ·refine⟨[],x,l,i,rfl,h0,hx, ?_⟩
   have h1:=h x aj i h0 hx
   rw[bS,if_pos h0,h1,nU w l _ (by omega)]
   rfl
  ·rw[bS,if_pos h0,Pu w x i (by omega)]
   obtain⟨a,k,b,m,e1,e2,e3,e4⟩:=GF w l (fun y hy=>h y tc) (i - wk x) true ad ad
   refine⟨x::a,k,b,m,by rw[e1];rfl,e2,e3, ?_⟩
   simp only
   rw[e4];rfl
theorem WR(p:Pg)(r n:Int)(b:List Tm){vs Th:List Tm}(env:List Tm)(e:Tm)(i:Nat)(h:∀j,j<i->vs[j]? =Th[j]?):Dj p r n b vs env e i=Dj p r n b Th env e i:=by
 unfold Dj
 split
 ·rfl
 split
 ·rfl
 split
 ·rfl
 split
 ·rename_i h1;rw[h 0 (by omega)]
 split
 ·rename_i h1;rw[h 0 (by omega),h 1 (by omega)]
 rfl
theorem Sz{s:a7}{t:Tm}(h:vF s t=true):Pn s t:=by
 simp only[vF,Bool.and_eq_true]at h
 exact h.2
theorem Pv{p:Pg}{s:a7}{w:Tm}(hw:vF s w=true):∀ (f:Pf),gf s f=true->∀i:Int,0<=i->i<wk f->
 (dS w f i).2.1= -1/\((dS w f i).2.2=false->∀env e,bf p f env e=true->bf p (dS w f i).1 env e=false):=by
 refine Pf.ck fun f ih hf i h0 hi=> ?_
 rw[jh,Bool.and_eq_true,List.all_eq_true]at hf
 have hn:=hf.1
 unfold fZ at hn
 simp only[Bool.and_eq_true]at hn
 by_cases hz:i=0
 ·rw[jT,if_pos hz]
  refine⟨rfl,fun h env e H=> ?_⟩
  simp only[Bool.or_eq_false_iff,beq_eq_false_iff_ne]at h
  rw[Bool.eq_false_iff]
  intro H'
  obtain⟨r,v,n,b,ks⟩:=f
  have:=Pt (Sz hn.1.1) (Sz hw) h.1 H H'
  have h2:aX v w=false:=h.2
  have h3:aX v w=true:=by rw[show w=v from this];exact vC v
  rw[h3]at h2
  cases h2
 ·have e:wk f=1+gw f.kids:=AJ f
  obtain⟨a,k,b,m,e1,e2,e3,e4⟩:=GF w f.kids (fun k hk j j0 j1=>(ih k hk (hf.2 k hk) j j0 j1).1) (i - 1) true ad ad
  rw[jT,if_neg hz,e4]
  refine⟨rfl,fun h env e H=> ?_⟩
  simp only at h
  have hk:k∈f.kids:=by rw[e1];simp
  have g1:f.kids[a.length]? =some k:=by rw[e1];simp
  have g2:(Pf.mk f.bG f.val f.num f.binds (a++(dS w k m).1::b)).kids[a.length]? =some (dS w k m).1:=by simp[Pf.kids]
  have H1:=GC H g1
  rw[Bool.eq_false_iff]
  intro H'
  have H2:=GC H' g2
  have hv:∀j,j<a.length->((a++(dS w k m).1::b).map Pf.val)[j]? =(f.kids.map Pf.val)[j]? :=fun j hj=>by
   rw[e1];simp only[List.map_append,List.map_cons]
   rw[List.getElem?_append_left (by simpa using hj),List.getElem?_append_left (by simpa using hj)]
  have he:=WR p f.bG f.num f.binds env e a.length hv
  change bf p (dS w k m).1 (Dj p f.bG f.num f.binds ((a++(dS w k m).1::b).map Pf.val) env e a.length).1 (Dj p f.bG f.num f.binds ((a++(dS w k m).1::b).map Pf.val) env e a.length).2=true at H2
  rw[he]at H2
  exact Bool.noConfusion (((ih k hk (hf.2 k hk) m e2 e3).2 h _ _ H1).symm.trans H2)
theorem Pf.lz (r:Int)(v:Tm)(n:Int)(b:List Tm)(ks:List Pf):(Pf.mk r v n b ks).d= .agg [.i r, .i v.op, .i v.n, .sl (v.kids.map Tm.d), .i n, .sl (b.map Tm.d), .sl (ks.map Pf.d)]:=by rw[Pf.Ek];rfl
theorem AK(w:Tm):∀ (l:List Pf),(∀k∈l,∀i:Int,0<=i-> -1<=(dS w k i).2.1/\(dS w k i).2.1<=i)->∀ (i:Int) (c:Bool), -1<=i-> -1<=(bS w l i c).2.1/\(bS w l i c).2.1<=i
 |[],_,i,c,h=>⟨h,Int.le_refl _⟩
 |x::l,hx,i,c,h=>by
  by_cases hi:0<=i
  ·rw[bS,if_pos hi]
   have h1:=hx x aj i hi
   have h2:=AK w l (fun y hy=>hx y tc) (dS w x i).2.1 (dS w x i).2.2 h1.1
   simp only
   omega
  ·rw[nU w _ c (by omega)]
   exact⟨h,Int.le_refl _⟩
theorem WS(w:Tm):∀ (f:Pf) (i:Int),0<=i-> -1<=(dS w f i).2.1/\(dS w f i).2.1<=i:=by
 refine Pf.ck fun f ih i hi=> ?_
 rw[jT]
 split
 ·simp only;omega
 ·have:=AK w f.kids ih (i - 1) true ad
  simp only
  omega
theorem IW{w:Tm}(hw:w.fits):∀f:Pf,f.fits->f.sh.sz<=1000->∀i:Int,0<=i->i<=1000000->a8 Tryz.prog 28 [f.d, .i i,w.d] (.ret [(dS w f i).1.d, .i (dS w f i).2.1, .bool (dS w f i).2.2]):=by
 refine Pf.ck fun f ih hf hz i h0 h1=> ?_
 have fm:=(Pf.aP f).1 hf
 refine a8.aB mix acx aj ?_
 rw[c28,jT]
 by_cases hi:i=0
 ·have JH:(i==0)=true:=by simpa using hi
  rw[if_pos hi]
  refine X1 JH ?_
  cases h2:(f.bG==2)with
  |true=>
   exact X4 h2
  |false=>
   refine X1 h2 ?_
   refine ai (Wc f.val fm.1 w hw) rfl ?_
   exact X4 h2
 ·have JH:(i==0)=false:=by simpa using hi
  rw[if_neg hi]
  have eh:=AJ f
  have Gc:f.kids.length<=1000:=by
   have:=My f.kids
   have h3:∀l:List Pf,l.length<=gw l:=fun l=>by
    induction l with
    |nil=>simp
    |cons y l oN=>
     have:1<=wk y:=Tm.vy y.sh
     have e:gw (y::l)=wk y+gw l:=by unfold gw;simp
     rw[e,List.length_cons];omega
   have:=h3 f.kids
   omega
  have a1:f.kids.length<=140737488355328:=ad
  have a2:f.kids.length*104<=140737488355328:=ad
  simp+contextual (disch:=first|omega|simp only[go_sem,false_implies]) only[go_sem,wrap64,if_pos,JH,Pf.lz,a1,a2]
  refine aL (fun k:Nat=>⟨bB [.aa, .d (.i (bS w (f.kids.take k) (i - 1) true).2.1), .aa, .ptr 0 0, .aa, .ptr 1 0, .ptr 2 0, .aa, .aa, .aa, .d (.bool (bS w (f.kids.take k) (i - 1) true).2.2), .osl 3 0, .d (.i k)],
   aM (aM (aM (aM (fun _=> .no) 0 (.row f.row)) 1 (.row w.row)) 2 (.row [.d (.i 0), .d (.i 0), .d (.i 0), .bO, .d (.i 0), .bO, .bO])) 3 (.arr 0 35 7 (((bS w (f.kids.take k) (i - 1) true).1++f.kids.drop k).map Pf.d)),4⟩)
   (fun k=>k<=f.kids.length) (fun k=>f.kids.length - k) 0 (Nat.zero_le _) ?_ (fun k hk=> ?_)
  ·refine bM.vi (fun j=>j=13) (.osl 13 0) 3 _ ad (fun j hj=> ?_) (ae _ _ _) (.inr ⟨13,0,rfl,rfl,by(repeat(first|rfl|rw[ae]|rw[ah _ _ _ _ (by omega)]))⟩) (fun j hj=>by(repeat(first|rfl|rw[ae]|rw[ah _ _ _ _ (by omega)]))) (fun j h h2=>ad) ?_
   ·rcases(by omega:j=0\/j=1\/j=2)with rfl|rfl|rfl
    ·exact dL (y:= .row f.row) dC dC (b8 rfl lA)
    ·exact dL (y:= .row w.row) dC dC (b8 rfl lA)
    ·exact dL (y:= .row [.d (.i 0), .d (.i 0), .d (.i 0), .bO, .d (.i 0), .bO, .bO]) dC dC (b8 rfl lA)
   ·exact Dw
  replace hk:k<=f.kids.length:=hk
  have hbd:=AK w (f.kids.take k) (fun y _ j hj=>WS w y j hj) (i - 1) true ad
  have hln:=wu w (f.kids.take k) (i - 1) true
  rw[List.length_take,Nat.min_eq_left hk]at hln
  have e0:((bS w (f.kids.take k) (i - 1) true).1++f.kids.drop k).length=f.kids.length:=by rw[List.length_append,hln,List.length_drop];omega
  refine eG e0 ?_
  refine ak (fun h2=> ?_) (fun h2=> ?_)
  ·simp only[Bool.and_eq_true,decide_eq_true_eq]at h2
   obtain⟨h2,h3⟩:=h2
   have h2:k<f.kids.length:=ad
   obtain⟨x,hx⟩:=aw h2
   have de:=List.mem_of_getElem? hx
   have DH:=GA de
   unfold wk at DH
   have hd:f.kids.drop k=x::f.kids.drop (k+1):=by
    rw[List.drop_eq_getElem_cons h2]
    rw[List.getElem?_eq_getElem h2]at hx;injection hx with hx;rw[hx]
   have hy:((bS w (f.kids.take k) (i - 1) true).1++f.kids.drop k)[k]? =some x:=by
    rw[List.getElem?_append_right (by omega),hln,Nat.sub_self,hd];rfl
   simp+contextual (disch:=first|omega|simp only[go_sem,false_implies]) only[go_sem,wrap64,if_pos,List.length_map,e0,h2,hy,Pf.lz]
   refine bw (ih x de (fm.2.2.2.2 x de) ad _ h3 ad) ?_
   generalize hq:dS w x (bS w (f.kids.take k) (i - 1) true).2.1=q
   have hsn:=yQ w x (f.kids.take k) (i - 1) true h3
   rw[hq]at hsn
   have C2:f.kids.take (k+1)=f.kids.take k++[x]:=by rw[List.take_add_one,hx];rfl
   rw[<- C2]at hsn
   have l9:((bS w (f.kids.take k) (i - 1) true).1++f.kids.drop k).set k q.1=(bS w (f.kids.take (k+1)) (i - 1) true).1++f.kids.drop (k+1):=by
    rw[hsn,hd,List.set_append_right _ _ (by omega),hln,Nat.sub_self];simp
   clear hx de DH hd C2 hq
   obtain⟨xr,xv,xn,xb,xk⟩:=x
   simp+contextual (disch:=first|omega|simp only[go_sem,false_implies]) only[go_sem,wrap64,if_pos,List.length_map,e0,h2,hy,Pf.lz]
   refine ao af ?_
   refine aJ ?_
   refine au (k+1) ad ad (bM.vi (fun j=>j=3) (.osl 3 0) 3 _ ad (fun j hj=> ?_) (ae _ _ _) (.inr ⟨3,0,rfl,rfl, ?_⟩) (fun j hj=>by(repeat(first|rfl|rw[ae]|rw[ah _ _ _ _ (by omega)]))) (fun j h h2=>ad) ?_)
   ·rcases(by omega:j=0\/j=1\/j=2)with rfl|rfl|rfl
    ·exact dL (y:= .row f.row) dC dC (b8 rfl lA)
    ·exact dL (y:= .row w.row) dC dC (b8 rfl lA)
    ·exact dL (y:= .row [.d (.i 0), .d (.i 0), .d (.i 0), .bO, .d (.i 0), .bO, .bO]) dC dC (b8 rfl lA)
   ·(repeat(first|rfl|rw[ae]|rw[ah _ _ _ _ (by omega)]))
    rw[<- List.map_set,l9]
   ·rw[hsn]
    exact Dw
  ·simp only[Bool.and_eq_false_iff,decide_eq_false_iff_not]at h2
   have he:bS w f.kids (i - 1) true=((bS w (f.kids.take k) (i - 1) true).1++f.kids.drop k,(bS w (f.kids.take k) (i - 1) true).2):=by
    by_cases h3:k<f.kids.length
    ·have:=yR w (f.kids.drop k) (f.kids.take k) (i - 1) true ad
     rwa [List.take_append_drop]at this
    ·rw[List.drop_eq_nil_of_le (by omega),List.take_of_length_le (by omega),List.append_nil]
   rw[he]
   simp+contextual (disch:=first|omega|simp only[go_sem,false_implies]) only[go_sem,wrap64,if_pos,List.length_map,e0,Pf.lz]
end Go.Proofs.YtonbelhklnmjnaaGreat
