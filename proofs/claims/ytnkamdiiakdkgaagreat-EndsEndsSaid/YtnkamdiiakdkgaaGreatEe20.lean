/-
  A PART. Conditions: none.
-/
import Derived.Test.YtnkamdiiakdkgaaGreatEe19
set_option linter.unusedSimpArgs false
set_option linter.unusedVariables false
set_option maxHeartbeats 8000000
namespace Go.Proofs.YtnkamdiiakdkgaaGreat
theorem CJ:∀ (t:Tm) (q:List Int) (b:Bool),(lK t q b).map Sp.t=gK t:=by
 refine Tm.eJ fun t ih q b=> ?_
 have key:∀l:List Tm,(∀k∈l,k∈t.kids)->∀ (i:Int) (b':Bool),(jm l i q b').map Sp.t=l.flatMap gK:=by
  intro l
  induction l with
  |nil=>intro _ _ _;rfl
  |cons k l xP=>
   intro hk i b'
   rw[jm,List.map_append,ih k (hk k (by simp)),xP (fun x hx=>hk x (by simp[hx])),List.flatMap_cons]
 rw[HN,jL,List.map_cons,key t.kids (fun _ h=>h)]
def oe(s:List Int)(x:Sp):List Int:=s++(if x.t.op=5 then [x.t.n]else [])
theorem J8:∀ (l:List Sp) (s:List Int),(aA (zu (fun _=>none) oe) s l).1=s++((l.map Sp.t).filter (fun x=>x.op==5)).map Tm.n
 |[],s=>by simp[aA]
 |x::l,s=>by
  simp only[aA,zu,Option.isNone_none,if_true]
  rw[J8 l,List.map_cons,List.filter_cons,oe,List.append_assoc]
  by_cases h:x.t.op=5
  ·simp[h]
  ·have h':(x.t.op==5)=false:=by simpa using h
   simp[h,h']
theorem aa0(t:Tm):(aA (zu (fun _=>none) oe) [] (lK t [] true)).1=ki t:=by
 rw[J8,CJ];rfl
theorem J9(t:Tm):(ki t).length<=t.sz:=by
 unfold ki
 rw[List.length_map, <- v8]
 exact List.length_filter_le _ _
def wc(p:Pg)(k:Nat):List Int:=(p.rules.take k).flatMap fun r=>ki r.rhs
theorem yn(p:Pg){k:Nat}{r:Rl}(h:p.rules[k]? =some r):wc p (k+1)=wc p k++ki r.rhs:=by
 unfold wc
 rw[List.take_add_one,h,List.flatMap_append];simp
theorem CK{p:Pg}(hp:p.Fw):∀k,k<=p.rules.length->(wc p k).length<=k*500
 |0,_=>by simp[wc]
 |k+1,hk=>by
  have hx:p.rules[k]? =some p.rules[k]:=List.getElem?_eq_getElem ae
  rw[yn p hx,List.length_append]
  have h1:=CK hp k ae
  have h2:=J9 p.rules[k].rhs
  have h3:=(hp.all _ (List.getElem_mem (by omega:k<p.rules.length))).2.2
  omega
@[reducible] def crD (p:Pg) (ps:List Int):D:= .agg [.sl (p.sig.cons.map jX.d), .sl (p.sig.bX.map jX.d), .sl (p.rules.map Rl.d), .sl (ps.map .i)]
def Ka(p:Pg):Nat->aa:=au (au (fun _=> .no) 0 (.row p.row)) 1 (.row [.aU, .aU, .aU, .aU])
def Qo(p:Pg)(k:Nat)(r:Rl)(s:List Int):Nat->aa:=au (au (au (au (lH (Ka p) 2 7 [] 3 1 ((wc p k).map .i)) 11 (.row r.row)) 15 (.row r.rhs.row)) 2 (.row [.osl 7 s.length])) 7 (.arr s.length 3 1 ((wc p k++s).map .i))
theorem Tt(p:Pg)(hp:p.Fw):aW Tryz.prog 41 [p.d] (.ret [crD p (Lib.compact (eO (wc p p.rules.length)))]):=by
 have vL:=hp.len
 refine aW.aI mix aeT aJ ?_
 rw[c41]
 refine mW ?_
 have hB:Good (Ka p) 7:=by unfold Ka;exact eW
 have kb1:Ka p 1= .row [.aU, .aU, .aU, .aU]:=by unfold Ka;(repeat first|rfl|rw[af]|rw[ab _ _ _ _ (by omega)])
 have eM:∀j,7<=j->Ka p j= .no:=fun j hj=>by unfold Ka;(repeat first|rfl|rw[af]|rw[ab _ _ _ _ (by omega)])
 refine aw (fun k:Nat=>⟨aT [.ag, .ptr 0 0, .ptr 1 0, .ptr 2 0, .ag, .ag, .ag, .ag, .d (.sl (p.rules.map Rl.d)), .d (.i p.rules.length), .d (.i k)],lH (Ka p) 2 7 [] 3 1 ((wc p k).map .i),8⟩)
  (fun k=>k<=p.rules.length) (fun k=>p.rules.length - k) 0 (Nat.zero_le _) (AX (ds:=[]) _ hB eM ae (fun j hj iz=>by unfold Ka;exact zy9) cH ae ?_) (fun k hk=> ?_)
 ·exact lI
 replace hk:k<=p.rules.length:=hk
 have oj:=CK hp k hk
 have k0:lH (Ka p) 2 7 [] 3 1 ((wc p k).map .i) 0= .row p.row:=by unfold lH Ka;(repeat first|rfl|rw[af]|rw[ab _ _ _ _ (by omega)])
 have k2:lH (Ka p) 2 7 [] 3 1 ((wc p k).map .i) 2= .row [.osl 7 0]:=CF _ ae [] _ _ _
 have k7:lH (Ka p) 2 7 [] 3 1 ((wc p k).map .i) 7= .arr 0 3 1 ((wc p k).map .i):=CE _ _ _ _ _ _ _
 refine ba ?_
 refine aj (fun h1=> ?_) (fun h1=> ?_)
 ·simp at h1
  obtain⟨r,hr⟩:=az h1
  have Xj:=List.mem_of_getElem? hr
  obtain⟨f1,f2,f3⟩:=hp.all r Xj
  refine dY (ak hr (ak k0 (ak k2 k7))) ?_
  refine eU (Fs r.rhs _ _ _ _ ?_)
  refine cz (ak k0 (ak k2 k7)) ?_
  refine vc (σ:=List Int) r.rhs f2 (by have:=yi r.rhs;omega) [.ag, .ptr 0 0, .ptr 1 0, .ptr 2 0, .ag, .ag, .ag, .ag, .d (.sl (p.rules.map Rl.d)), .d (.i p.rules.length), .d (.i k)] ?_ bG rfl (by unfold lH Ka;exact eW) ra cH (Qo p k r) (fun _=>none) oe (fun l s=>s.length+l.length<=1000) [] ?_ rfl (fun id aq=> ?_) (fun x l s hs _ h2=> ?_) ?_ ?_
  ·exact Kw
  ·rw[List.length_nil, <- List.length_map (f:=Sp.t),CJ,v8];omega
  ·unfold Qo
   by_cases e2:id=2
   ·exact XE
   by_cases e7:id=7
   ·subst e7;(repeat first|rfl|rw[af]|rw[ab _ _ _ _ (by omega)]);rw[k7,List.append_nil];rfl
   rw[ab _ 7 _ _ e7,ab _ 2 _ _ e2,dW]
  ·simp only[oe,List.length_append,List.length_cons]at hs|-
   split<;>simp<;>omega
  ·intro L hL zA x hx l s' h1 h2 o3 n3 hI hn ho K X de
   simp only[oP]
   have hg:=hI.bE
   have q2:o3 2= .row [.osl 7 s'.length]:=by rw[hI.eq 2 (by omega)];unfold Qo;(repeat first|rfl|rw[af]|rw[ab _ _ _ _ (by omega)])
   have q7:o3 7= .arr s'.length 3 1 ((wc p k++s').map .i):=by rw[hI.eq 7 (by omega)];unfold Qo;(repeat first|rfl|rw[af]|rw[ab _ _ _ _ (by omega)])
   simp only[List.length_cons]at h1
   refine ba ?_
   refine mL hL (pd:=none) ?_ ?_
   ·(repeat first|rfl|rw[af]|rw[ab _ _ _ _ (by omega)])
    exact ho
   have fin:∀ (o':Nat->aa) (n':Nat) (s2:List Int),Good o' n'->n3<=n'->o' 2= .row [.osl 7 s2.length]->o' 7= .arr s2.length 3 1 ((wc p k++s2).map .i)->(∀j,j<19->j≠2->j≠7->o' j=o3 j)->dv 19 (Qo p k r s2) o' n':=fun o' n' s2 k1 k2 k3 k4 k6=>⟨k1,ae,fun j hj=>by
    by_cases e:j=2
    ·subst e;rw[k3];unfold Qo;(repeat first|rfl|rw[af]|rw[ab _ _ _ _ (by omega)])
    by_cases e2:j=7
    ·subst e2;rw[k4];unfold Qo;(repeat first|rfl|rw[af]|rw[ab _ _ _ _ (by omega)])
    rw[k6 j hj e e2,hI.eq j hj];unfold Qo
    rw[ab _ _ _ _ e2,ab _ _ _ _ e,ab _ _ _ _ e2,ab _ _ _ _ e]⟩
   by_cases h5:x.t.op=5
   ·have vK:(x.t.op==5)=true:=by simpa using h5
    have hlen:(wc p k++s').length<=600000:=by rw[List.length_append];omega
    refine dY (ak q2 (ak q7 vK)) ?_
    refine de _ _ _ .busy none ae (fin _ _ _ eW ae ?_ ?_ fun j hj j1 j2=> ?_) cH (fun id h3 h4=>cH)
    ·exact acK
    ·exact acK
    ·exact cH
   ·have vK:(x.t.op==5)=false:=by simpa using h5
    refine cz (ak q2 (ak q7 vK)) ?_
    refine de _ _ _ .busy none ae (fin _ _ _ eW ae ?_ ?_ fun j hj j1 j2=> ?_) cH (fun id h3 h4=>cH)
    ·unfold oe;rw[if_neg h5];(repeat first|rfl|rw[af]|rw[ab _ _ _ _ (by omega)]);simp[q2]
    ·unfold oe;rw[if_neg h5];(repeat first|rfl|rw[af]|rw[ab _ _ _ _ (by omega)]);simp[q7]
    ·exact cH
  ·intro o' n' hI
   rw[aa0]at hI
   simp only[qI]
   refine ba ?_
   have hg:=hI.bE
   refine ai (k+1) h1 ae (Ft (r:=2) (c:=7) (ep:=(ki r.rhs).length) (ds:=[]) _ hB eM ae (fun j hj iz=> ?_) ?_ ?_ ?_)
   ·rw[hI.eq j (by omega)];unfold Qo lH;(repeat first|rfl|rw[af]|rw[ab _ _ _ _ (by omega)])
   ·rw[hI.eq 2 (by omega)];unfold Qo;(repeat first|rfl|rw[af]|rw[ab _ _ _ _ (by omega)])
   ·rw[hI.eq 7 (by omega),yn p hr];unfold Qo;(repeat first|rfl|rw[af]|rw[ab _ _ _ _ (by omega)])
   ·exact lI
 ·simp at h1
  have GL:k=p.rules.length:=ae
  subst GL
  refine cz (ak k2 k7) ?_
  refine eU (P3 Fv Mh (zs:=wc p p.rules.length) cH Mi ae ?_)
  refine cz (ak k0 (ak k2 k7)) ?_
  refine tR bG (Mb yl CG cH CH (by unfold eO;rw[List.length_mergeSort];omega)) ?_
  refine cz (ak k0 (ak k2 (ak k7 kb1))) ?_
  exact IB
theorem Qp(aC kids:List Tm){i j:Nat}(hi:i<4)(hj:j<4):(yf aC kids)[i*4+j]? =some (qd aC kids i j):=by
 unfold yf
 rw[List.getElem?_map,List.getElem?_range (by omega)]
 simp only[Option.map_some]
 exact acJ
def sR(aC kids:List Tm)(i j:Nat):List Int:=(List.range 16).map fun p=>if p/4<i\/p/4=i/\p%4<j then qd aC kids (p/4) (p%4)else 0
theorem jG(aC kids:List Tm)(i j:Nat):(sR aC kids i j).length=16:=by simp[sR]
theorem mU(aC kids:List Tm)(i j p:Nat)(hp:p<16):(sR aC kids i j)[p]? =some (if p/4<i\/p/4=i/\p%4<j then qd aC kids (p/4) (p%4)else 0):=by
 unfold sR;rw[List.getElem?_map,List.getElem?_range hp];rfl
theorem arcP_0(aC kids:List Tm):sR aC kids 0 0=Aq:=by
 refine jA (jG ..) rfl fun p hp=> ?_
 rw[mU _ _ _ _ _ hp,if_neg (by omega)]
 have:∀p,p<16->Aq[p]? =some 0:=bG
 exact(this p hp).symm
theorem Mn(aC kids:List Tm){i j:Nat}(hi:i<4)(hj:j<4):sR aC kids i (j+1)=(sR aC kids i j).set (i*4+j) (qd aC kids i j):=by
 refine jA (jG ..) (by rw[List.length_set];exact jG ..) fun p hp=> ?_
 rw[mU _ _ _ _ _ hp,List.getElem?_set,mU _ _ _ _ _ hp]
 by_cases e:i*4+j=p
 ·rw[if_pos e,if_pos (show i*4+j<(sR aC kids i j).length by rw[jG];omega),if_pos (show p/4<i\/p/4=i/\p%4<j+1 by omega)]
  rw[show p/4=i by omega,show p%4=j by omega]
 ·rw[if_neg e]
  congr 1
  by_cases h:p/4<i\/p/4=i/\p%4<j
  ·rw[if_pos h,if_pos (show p/4<i\/p/4=i/\p%4<j+1 by omega)]
  ·rw[if_neg h,if_neg (show ¬ (p/4<i\/p/4=i/\p%4<j+1) by omega)]
theorem Qq(aC kids:List Tm){i:Nat}(hk:kids.length<=4):sR aC kids i kids.length=sR aC kids (i+1) 0:=by
 refine jA (jG ..) (jG ..) fun p hp=> ?_
 rw[mU _ _ _ _ _ hp,mU _ _ _ _ _ hp]
 by_cases h:p/4<i\/p/4=i/\p%4<kids.length
 ·rw[if_pos h,if_pos (show p/4<i+1\/p/4=i+1/\p%4<0 by omega)]
 ·rw[if_neg h]
  by_cases h2:p/4<i+1\/p/4=i+1/\p%4<0
  ·rw[if_pos h2]
   have e:kids[p%4]? =none:=List.getElem?_eq_none ae
   unfold qd
   rw[e]
   cases aC[p/4]? <;>rfl
  ·rw[if_neg h2]
theorem Qr(aC kids:List Tm)(hp:aC.length<=4):sR aC kids aC.length 0=yf aC kids:=by
 refine jA (jG ..) (by simp[yf]) fun p IY=> ?_
 rw[mU _ _ _ _ _ IY]
 have:=Qp aC kids (i:=p/4) (j:=p%4) ae ae
 rw[show p/4*4+p%4=p by omega]at this
 rw[this]
 congr 1
 split
 ·rfl
 ·rename_i h
  unfold qd
  rw[List.getElem?_eq_none (by omega)]
theorem Qs(l:List Int)(hl:l.length<=1000000):aW Tryz.prog 76 [.sl (l.map .i)] (.ret [.sl (l.map .i)]):=by
 refine aW.aI mix ZK aJ ?_
 rw[c76]
 have hu:Tryz.prog.underlying 37=some (.slice 3):=aK
 cases l with
 |nil=>
  have heq:∀O,ux Tryz.prog O 37 true (.d (.sl [])) .aU=some .fl:=by
   intro O
   unfold ux
   rw[hu]
   rfl
  simp only[List.map_cons,List.map_nil]
  refine cz heq ?_
  simp only[List.isEmpty_nil,if_true]
  exact s9 heq
 |cons a l=>
  have heq:∀O,ux Tryz.prog O 37 true (.d (.sl (D.i a::l.map D.i))) .aU=some (.d (.bool false)):=by
   intro O
   unfold ux
   rw[hu]
   rfl
  simp only[List.map_cons,List.map_nil]
  refine cz heq ?_
  simp only[List.isEmpty_nil,if_true]
  refine cz heq ?_
  rw[List.length_cons]at hl
  rw[if_pos (by omega)]
  exact ur
def ui(p:Pg)(ps:List Int):Nat->aa:=au (fun _=> .no) 0 (.row [.d (.sl (p.sig.cons.map jX.d)), .d (.sl (p.sig.bX.map jX.d)), .d (.sl (p.rules.map Rl.d)), .d (.sl (ps.map .i))])
def rb(ps:List Int)(n:Int)(r:Rl)(s:List Cl)(x:Sp):List Cl:=s++wo ps n r x
theorem FE(ps:List Int)(n:Int)(r:Rl):∀ (l:List Sp) (s:List Cl),(aA (zu (fun _=>none) (rb ps n r)) s l).1=s++l.flatMap (wo ps n r)
 |[],s=>by simp[aA]
 |x::l,s=>by
  simp only[aA,zu,Option.isNone_none,if_true]
  rw[FE ps n r l,rb,List.flatMap_cons,List.append_assoc]
theorem CL(ps:List Int)(n:Int)(r:Rl)(x:Sp)(pL:ps.length<=100):(wo ps n r x).length<=100:=by
 unfold wo
 split
 ·simp
 ·split
  ·simpa using pL
  ·simp
theorem CM(t:Tm)(q:List Int)(b:Bool):(lK t q b).length=t.sz:=by rw[<- List.length_map (f:=Sp.t),CJ,v8]
theorem pk{p:Pg}(hp:p.Fw){ps:List Int}(pL:ps.length<=100):∀k,k<=p.rules.length->(lG p ps k).length<=k*50500
 |0,_=>by simp[lG]
 |k+1,hk=>by
  have hx:p.rules[k]? =some p.rules[k]:=List.getElem?_eq_getElem ae
  rw[uf p ps hx,List.length_append]
  have h1:=pk hp pL k ae
  have h3:=(hp.all _ (List.getElem_mem (by omega:k<p.rules.length))).2.2
  have key:∀l:List Sp,(l.flatMap (wo ps k p.rules[k])).length<=l.length*100:=by
   intro l
   induction l with
   |nil=>simp
   |cons x l ih=>
    rw[List.flatMap_cons,List.length_append,List.length_cons,Nat.add_mul]
    have:=CL ps k p.rules[k] x pL
    omega
  have h2:=key (lK p.rules[k].rhs [] true)
  rw[CM]at h2
  unfold ruC
  omega
def sS(p:Pg)(ps:List Int)(k:Nat)(r:Rl)(s:List Cl):Nat->aa:=au (au (au (au (au (lH (ui p ps) 2 8 [] 40 6 ((lG p ps k).map Cl.d)) 13 (.row [.d (.i k)])) 14 (.row r.row)) 19 (.row r.rhs.row)) 2 (.row [.osl 8 s.length])) 8 (.arr s.length 40 6 ((lG p ps k++s).map Cl.d))
set_option maxHeartbeats 4000000 in
theorem Tu(p:Pg)(hp:p.Fw)(hr4:∀r∈p.rules,r.aC.length<=4)(hk4:∀r∈p.rules,∀x∈lK r.rhs [] true,x.t.op=4->x.t.kids.length<=4)(ps:List Int)(pL:ps.length<=100):aW Tryz.prog 42 [crD p ps] (.ret [.sl ((lG p ps p.rules.length).map Cl.d)]):=by
 have vL:=hp.len
 refine aW.aI mix aeU aJ ?_
 rw[c42]
 refine mW ?_
 have hB:Good (ui p ps) 8:=by unfold ui;exact eW
 have eM:∀j,8<=j->ui p ps j= .no:=fun j hj=>by unfold ui;(repeat first|rfl|rw[af]|rw[ab _ _ _ _ (by omega)])
 refine aw (fun k:Nat=>⟨aT (.ag:: .ptr 0 0:: .ag:: .ptr 2 0::gr [.ag, .ag, .ag, .ag, .ag, .d (.sl (p.rules.map Rl.d)), .d (.i p.rules.length), .d (.i k)]),lH (ui p ps) 2 8 [] 40 6 ((lG p ps k).map Cl.d),9⟩)
  (fun k=>k<=p.rules.length) (fun k=>p.rules.length - k) 0 (Nat.zero_le _) (AX (ds:=[]) _ hB eM ae (fun j hj iz=>by unfold ui;exact zy9) cH ae ?_) (fun k hk=> ?_)
 ·exact lI
 replace hk:k<=p.rules.length:=hk
 have oj:(lG p ps k).length<=k*50500:=pk hp pL k hk
 have k0:lH (ui p ps) 2 8 [] 40 6 ((lG p ps k).map Cl.d) 0= .row [.d (.sl (p.sig.cons.map jX.d)), .d (.sl (p.sig.bX.map jX.d)), .d (.sl (p.rules.map Rl.d)), .d (.sl (ps.map .i))]:=by unfold lH ui;(repeat first|rfl|rw[af]|rw[ab _ _ _ _ (by omega)])
 have k2:lH (ui p ps) 2 8 [] 40 6 ((lG p ps k).map Cl.d) 2= .row [.osl 8 0]:=CF _ ae [] _ _ _
 have k8:lH (ui p ps) 2 8 [] 40 6 ((lG p ps k).map Cl.d) 8= .arr 0 40 6 ((lG p ps k).map Cl.d):=CE _ _ _ _ _ _ _
 refine ba ?_
 refine aj (fun h1=> ?_) (fun h1=> ?_)
 ·simp at h1
  obtain⟨r,hr⟩:=az h1
  have Xj:=List.mem_of_getElem? hr
  obtain⟨f1,f2,f3⟩:=hp.all r Xj
  refine dY (ak hr (ak k0 (ak k2 k8))) ?_
  refine eU (Fs r.rhs _ _ _ _ ?_)
  refine cz (ak k0 (ak k2 k8)) ?_
  refine vc (σ:=List Cl) r.rhs f2 (by have:=yi r.rhs;omega) (.ag:: .ptr 0 0:: .ag:: .ptr 2 0:: .ptr 13 0:: .ptr 14 0::gr [.ag, .ag, .ag, .d (.sl (p.rules.map Rl.d)), .d (.i p.rules.length), .d (.i k)]) ?_ bG rfl (by unfold lH ui;exact eW) ra cH (sS p ps k r) (fun _=>none) (rb ps k r) (fun l s=>s.length+l.length*101<=60000) [] ?_ rfl (fun id aq=> ?_) (fun x l s hs _ h2=> ?_) ?_ ?_
  ·exact Kw
  ·rw[List.length_nil,CM];omega
  ·unfold sS
   by_cases e2:id=2
   ·exact XE
   by_cases e8:id=8
   ·subst e8;(repeat first|rfl|rw[af]|rw[ab _ _ _ _ (by omega)]);rw[k8,List.append_nil];rfl
   rw[ab _ 8 _ _ e8,ab _ 2 _ _ e2]
   exact Rv
  ·have:=CL ps k r x pL
   simp only[rb,List.length_append,List.length_cons]at hs|-
   omega
  ·intro L hL zA x hx l s' h1 h2 o3 n3 hI hn ho K X de
   simp only[oP]
   have hg:=hI.bE
   have q2:o3 2= .row [.osl 8 s'.length]:=by rw[hI.eq 2 (by omega)];unfold sS;(repeat first|rfl|rw[af]|rw[ab _ _ _ _ (by omega)])
   have q8:o3 8= .arr s'.length 40 6 ((lG p ps k++s').map Cl.d):=by rw[hI.eq 8 (by omega)];unfold sS;(repeat first|rfl|rw[af]|rw[ab _ _ _ _ (by omega)])
   have q0:o3 0= .row [.d (.sl (p.sig.cons.map jX.d)), .d (.sl (p.sig.bX.map jX.d)), .d (.sl (p.rules.map Rl.d)), .d (.sl (ps.map .i))]:=by rw[hI.eq 0 (by omega)];unfold sS lH ui;(repeat first|rfl|rw[af]|rw[ab _ _ _ _ (by omega)])
   have q13:o3 13= .row [.d (.i k)]:=by rw[hI.eq 13 (by omega)];unfold sS;(repeat first|rfl|rw[af]|rw[ab _ _ _ _ (by omega)])
   have q14:o3 14= .row r.row:=by rw[hI.eq 14 (by omega)];unfold sS;(repeat first|rfl|rw[af]|rw[ab _ _ _ _ (by omega)])
   simp only[List.length_cons]at h1
   have hxp:x.path.length<=500:=by
    have t1:=(CA _ _ _ x hx).2
    have t2:=yi r.rhs
    rw[List.length_nil]at t1;omega
   refine ba ?_
   refine mL hL (pd:=none) ?_ ?_
   ·(repeat first|rfl|rw[af]|rw[ab _ _ _ _ (by omega)])
    exact ho
   have fin:∀ (o':Nat->aa) (n':Nat) (s2:List Cl),Good o' n'->n3<=n'->o' 2= .row [.osl 8 s2.length]->o' 8= .arr s2.length 40 6 ((lG p ps k++s2).map Cl.d)->(∀j,j<23->j≠2->j≠8->o' j=o3 j)->dv 23 (sS p ps k r s2) o' n':=fun o' n' s2 k1 k2 k3 k4 k6=>⟨k1,ae,fun j hj=>by
    by_cases e:j=2
    ·subst e;rw[k3];unfold sS;(repeat first|rfl|rw[af]|rw[ab _ _ _ _ (by omega)])
    by_cases e2:j=8
    ·subst e2;rw[k4];unfold sS;(repeat first|rfl|rw[af]|rw[ab _ _ _ _ (by omega)])
    rw[k6 j hj e e2,hI.eq j hj];unfold sS
    rw[ab _ _ _ _ e2,ab _ _ _ _ e,ab _ _ _ _ e2,ab _ _ _ _ e]⟩
   have hlen:(lG p ps k++s').length<=100000000:=by rw[List.length_append];omega
   by_cases h4:x.t.op=4
   ·have Bu:(x.t.op==4)=true:=by simpa using h4
    have K4:=hk4 r Xj x hx h4
    have hpp:=hr4 r Xj
    have hxk:∀y∈x.t.kids,y.fits:=fun y hy=>((Tm.bK _).1 (aaV _ f2 _ (CA _ _ _ x hx).1)).2 y hy
    have hpf:∀y∈r.aC,y.fits:=fun y hy=>(f1.all y hy).1
    refine dY (ak q0 (ak q2 (ak q8 (ak q13 (ak q14 Bu))))) ?_
    refine aw (fun i:Nat=>⟨aT (.ag:: .ptr 0 0:: .ag:: .ptr 2 0:: .ptr 13 0:: .ptr 14 0:: .ptr n3 0:: .ptr (n3+1+1+1+1+1+1+1+1) 0:: .ptr (n3+1+1+1+1+1+1+1+1+1+1+1+1+1+1+1) 0::gr (gr (gr [.ag, .ag, .ag, .ag, .ag, .ag, .ag, .d (.sl (r.aC.map Tm.d)), .d (.i r.aC.length), .d (.i i)]))),
     au (au (au (au o3 n3 (.row x.row)) 23 (L .busy none)) (n3+1+1+1+1+1+1+1+1) (.row [.d (.i k), .d (.i r.fn), .d (.i 0), .aU, .d (.bool x.bare), .aU])) (n3+1+1+1+1+1+1+1+1+1+1+1+1+1+1+1) (mR (sR r.aC x.t.kids i 0)),(n3+1+1+1+1+1+1+1+1+1+1+1+1+1+1+1+1)⟩)
     (fun i=>i<=r.aC.length) (fun i=>r.aC.length - i) 0 (Nat.zero_le _) (aZ.aV _ (show n3<=(n3+1+1+1+1+1+1+1+1+1+1+1+1+1+1+1+1)from ae) ae ?_ (fun j hj=> ?_) ?_) (fun i hi=> ?_)
    ·exact eW
    ·rw[arcP_0]
     by_cases ea:j=(n3+1+1+1+1+1+1+1+1+1+1+1+1+1+1+1)
     ·exact Uh
     by_cases ec:j=(n3+1+1+1+1+1+1+1+1)
     ·exact XF
     by_cases e23:j=23
     ·exact Uf
     by_cases en:j=n3
     ·exact Ui
     exact cH
    ·exact bZ
    replace hi:i<=r.aC.length:=hi
    refine ba ?_
    refine aj (fun h7=> ?_) (fun h7=> ?_)
    ·simp at h7
     obtain⟨pa,Q7⟩:=az h7
     have Tv:=List.mem_of_getElem? Q7
     refine dY Q7 ?_
     refine aw (fun j:Nat=>⟨aT (.ag:: .ptr 0 0:: .ag:: .ptr 2 0:: .ptr 13 0:: .ptr 14 0:: .ptr n3 0:: .ptr (n3+1+1+1+1+1+1+1+1) 0:: .ptr (n3+1+1+1+1+1+1+1+1+1+1+1+1+1+1+1) 0:: .d (.i i):: .ptr (n3+1+1+1+1+1+1+1+1+1+1+1+1+1+1+1+1+1+1+1+1) 0::gr (gr (gr [.ag, .ag, .ag, .ag, .ag, .d (.sl (r.aC.map Tm.d)), .d (.i r.aC.length), .d (.i i), .ag, .ag, .ag, .ag, .ag, .ag, .d (.sl (x.t.kids.map Tm.d)), .d (.i x.t.kids.length), .d (.i j)]))),
      au (au (au (au (au o3 n3 (.row x.row)) 23 (L .busy none)) (n3+1+1+1+1+1+1+1+1) (.row [.d (.i k), .d (.i r.fn), .d (.i 0), .aU, .d (.bool x.bare), .aU])) (n3+1+1+1+1+1+1+1+1+1+1+1+1+1+1+1) (mR (sR r.aC x.t.kids i j))) (n3+1+1+1+1+1+1+1+1+1+1+1+1+1+1+1+1+1+1+1+1) (.row pa.row),(n3+1+1+1+1+1+1+1+1+1+1+1+1+1+1+1+1+1+1+1+1+1)⟩)
      (fun j=>j<=x.t.kids.length) (fun j=>x.t.kids.length - j) 0 (Nat.zero_le _) (aZ.aV _ (show n3<=(n3+1+1+1+1+1+1+1+1+1+1+1+1+1+1+1+1+1+1+1+1+1)from ae) ae ?_ (fun j hj=> ?_) ?_) (fun j hj=> ?_)
     ·exact eW
     ·by_cases eo:j=(n3+1+1+1+1+1+1+1+1+1+1+1+1+1+1+1+1+1+1+1+1)
      ·exact Uj
      repeat rw[ab _ (n3+1+1+1+1+1+1+1+1+1+1+1+1+1+1+1+1+1+1+1+1) _ _ eo]
     ·exact bZ
     replace hj:j<=x.t.kids.length:=hj
     refine ba ?_
     refine aj (fun h8=> ?_) (fun h8=> ?_)
     ·simp at h8
      obtain⟨ka,Rm⟩:=az h8
      have Tw:=List.mem_of_getElem? Rm
      have hi4:i<4:=ae
      have hj4:j<4:=ae
      refine dY Rm ?_
      refine aY (HO ka (hxk ka Tw) pa (hpf pa Tv)) rfl ?_
      have Bp:=jG r.aC x.t.kids i j
      have hse:=Cm (sR r.aC x.t.kids i j) (i*4+j) (vE ka pa) (by rw[Bp];omega)
      have hav:qd r.aC x.t.kids i j=vE ka pa:=by unfold qd;rw[Q7,Rm]
      rw[<- hav, <- Mn r.aC x.t.kids hi4 hj4]at hse
      simp+contextual (disch:=first|omega|simp only[go_sem,false_implies]) only[go_sem,wrap64,if_pos,Int.toNat_natCast,Nat.mul_one,hse, <- hav]
      refine aB (cj (ids:=[]) (nx:=n3) aJ aJ [([],[]),([],[]),([25],[]),([20],[]),([],[]),([15],[]),([15],[]),([15],[15])] bG) ?_
      refine ba ?_
      refine ai (j+1) h8 ae (aZ.aV _ (show n3<=(n3+1+1+1+1+1+1+1+1+1+1+1+1+1+1+1+1+1+1+1+1+1)from ae) ae ?_ (fun q hq=> ?_) ?_)
      ·exact eW
      ·by_cases ea:q=(n3+1+1+1+1+1+1+1+1+1+1+1+1+1+1+1)
       ·exact Uh
       by_cases eo:q=(n3+1+1+1+1+1+1+1+1+1+1+1+1+1+1+1+1+1+1+1+1)
       ·exact Uj
       (repeat first|rfl|rw[af]|rw[ab _ _ _ _ (by omega)])
       rw[ab _ (n3+1+1+1+1+1+1+1+1+1+1+1+1+1+1+1+1+1+1+1+1) _ _ eo,ab _ (n3+1+1+1+1+1+1+1+1+1+1+1+1+1+1+1) _ _ ea]
      ·exact bZ
     ·simp at h8
      have Vo:j=x.t.kids.length:=ae
      subst Vo
      refine ba ?_
      refine ai (i+1) h7 ae (aZ.aV _ (show n3<=(n3+1+1+1+1+1+1+1+1+1+1+1+1+1+1+1+1)from ae) ae ?_ (fun q hq=> ?_) ?_)
      ·exact eW
      ·rw[<- Qq _ _ K4,ab _ (n3+1+1+1+1+1+1+1+1+1+1+1+1+1+1+1+1+1+1+1+1) _ _ (by omega)]
      ·exact bZ
    ·simp at h7
     have RV:i=r.aC.length:=ae
     subst RV
     rw[Qr _ _ hpp]
     have IU:=(Fe r.aC x.t.kids).1
     refine cz (ak (o7 _ IU) (ak (dX _ IU) (ak @cE @b7))) ?_
     refine cf (aaC _ IU) ?_
     refine ba ?_
     refine aB (cj (ids:=[]) (nx:=n3) aJ aJ [([0],[]),([0],[]),([0],[]),([0],[]),([0],[]),([15],[]),([],[]),([8],[]),([8],[8]),([8],[]),([8],[8]),([8],[]),([8],[8])] bG) ?_
     refine dY (ak q2 q8) ?_
     refine de _ _ _ .busy none ae (fin _ _ _ eW ae ?_ ?_ fun j hj j1 j2=> ?_) cH (fun id h3 h4=>cH)
     ·unfold rb wo;rw[if_pos h4];(repeat first|rfl|rw[af]|rw[ab _ _ _ _ (by omega)]);simp
     ·unfold rb wo;rw[if_pos h4, <- Fg _ _ hpp K4];(repeat first|rfl|rw[af]|rw[ab _ _ _ _ (by omega)]);simp
     ·exact cH
   have Bu:(x.t.op==4)=false:=by simpa using h4
   by_cases h6:x.t.op=6
   ·have Qt:(x.t.op==6)=true:=by simpa using h6
    refine dY (ak q0 (ak q2 (ak q8 (ak q13 (ak q14 (ak Bu Qt)))))) ?_
    have hpn:V.refs (.d (.bool x.bare))=[]:=rfl
    refine aw (fun i:Nat×V×V=>⟨aT (.ag:: .ptr 0 0:: .ag:: .ptr 2 0:: .ptr 13 0:: .ptr 14 0:: .ptr n3 0:: .ptr (n3+1+1+1+1+1+1+1+1) 0::gr (gr (gr (gr (gr (gr (gr (gr (gr [.ag, .ag, .d (.sl (ps.map .i)), .d (.i ps.length), .d (.i i.1)]))))))))),
     au (au (au (au (au o3 n3 (.row x.row)) 23 (L .busy none)) (n3+1+1+1+1+1+1+1+1) (.row [.d (.i k), .d (.i r.fn),i.2.1,i.2.2, .d (.bool x.bare), .aU])) 2 (.row [.osl 8 (s'.length+i.1)])) 8 (.arr (s'.length+i.1) 40 6 ((lG p ps k++s'++(ps.take i.1).map fun to=>Cl.mk k r.fn to x.path x.bare []).map Cl.d)),n3+1+1+1+1+1+1+1+1+1⟩)
     (fun i=>i.1<=ps.length/\i.2.1.refs=[]/\i.2.2.refs=[]) (fun i=>ps.length - i.1) (0, .d (.i 0), .aU) ⟨Nat.zero_le _,rfl,rfl⟩ (aZ.aV _ (show n3<=n3+1+1+1+1+1+1+1+1+1 from ae) ae ?_ (fun j hj=> ?_) ?_) ?_
    ·exact eW
    ·by_cases e8:j=8
     ·subst e8;(repeat first|rfl|rw[af]|rw[ab _ _ _ _ (by omega)]);rw[q8];simp
     by_cases e2:j=2
     ·subst e2;(repeat first|rfl|rw[af]|rw[ab _ _ _ _ (by omega)]);rw[q2];simp
     by_cases ec:j=(n3+1+1+1+1+1+1+1+1)
     ·exact XF
     by_cases e23:j=23
     ·exact Uf
     by_cases en:j=n3
     ·exact Ui
     exact cH
    ·exact bZ
    rintro⟨m,v2,v3⟩ ⟨g1,g2,g3⟩
    simp only at g1 g2 g3
    have LG:(aa.row [.d (.i k), .d (.i r.fn),v2,v3, .d (.bool x.bare), .aU]).refs=[]:=by simp[aa.refs,V.aM,V.refs,g2,g3]
    have ajp:(lG p ps k++s'++(ps.take m).map fun to=>Cl.mk k r.fn to x.path x.bare []).length<=100000100:=by
     rw[List.length_append,List.length_map,List.length_take];omega
    refine ba ?_
    refine aj (fun h7=> ?_) (fun h7=> ?_)
    ·simp at h7
     obtain⟨to,Sb⟩:=az h7
     have ta:ps.take (m+1)=ps.take m++[to]:=by rw[List.take_add_one,Sb];rfl
     refine cz Sb ?_
     refine br (Qs x.path ae) ?_
     refine mW ?_
     refine ai (m+1, .d (.i to), .d (.sl (x.path.map .i))) ⟨h7,rfl,rfl⟩ jr (aZ.aV _ (show n3<=n3+1+1+1+1+1+1+1+1+1 from ae) ae ?_ (fun j hj=> ?_) ?_)
     ·exact eW
     ·by_cases e8:j=8
      ·subst e8;(repeat first|rfl|rw[af]|rw[ab _ _ _ _ (by omega)]);rw[ta];simp[Nat.add_assoc]
      by_cases e2:j=2
      ·exact XE
      by_cases ec:j=(n3+1+1+1+1+1+1+1+1)
      ·exact XF
      (repeat first|rfl|rw[af]|rw[ab _ _ _ _ (by omega)])
      rw[ab _ 8 _ _ e8,ab _ 2 _ _ e2,ab _ (n3+1+1+1+1+1+1+1+1) _ _ ec]
     ·exact bZ
    ·simp at h7
     have hm:m=ps.length:=ae
     subst hm
     refine ba ?_
     refine de _ _ _ .busy none ae (fin _ _ _ ?_ ae ?_ ?_ fun j hj j1 j2=> ?_) cH (fun id h3 h4=>cH)
     ·exact(((((hg.mono ae).au ae rfl).au ae (zA _ _ _ ae)).au ae (by rw[LG];rfl)).au ae n8).au ae rfl
     ·exact acF
     ·exact acF
     ·exact cH
   ·have Qt:(x.t.op==6)=false:=by simpa using h6
    refine dY (ak q0 (ak q2 (ak q8 (ak q13 (ak q14 (ak Bu Qt)))))) ?_
    refine de _ _ _ .busy none ae (fin _ _ _ eW ae ?_ ?_ fun j hj j1 j2=> ?_) cH (fun id h3 h4=>cH)
    ·unfold rb wo;rw[if_neg h4,if_neg h6];(repeat first|rfl|rw[af]|rw[ab _ _ _ _ (by omega)]);simp[q2]
    ·unfold rb wo;rw[if_neg h4,if_neg h6];(repeat first|rfl|rw[af]|rw[ab _ _ _ _ (by omega)]);simp[q8]
    ·exact cH
  ·intro o' n' hI
   rw[FE,List.nil_append]at hI
   simp only[qI]
   refine ba ?_
   have hg:=hI.bE
   refine ai (k+1) h1 ae (Ft (r:=2) (c:=8) (ep:=(ruC ps k r).length) (ds:=[]) _ hB eM ae (fun j hj iz=> ?_) ?_ ?_ ?_)
   ·rw[hI.eq j (by omega)];unfold sS lH;(repeat first|rfl|rw[af]|rw[ab _ _ _ _ (by omega)])
   ·rw[hI.eq 2 (by omega)];unfold sS;(repeat first|rfl|rw[af]|rw[ab _ _ _ _ (by omega)])
   ·rw[hI.eq 8 (by omega),uf p ps hr];unfold sS;(repeat first|rfl|rw[af]|rw[ab _ _ _ _ (by omega)])
   ·exact lI
 ·simp at h1
  have GL:k=p.rules.length:=ae
  subst GL
  exact s9 (ak k2 k8)
theorem FF{s:cB}(h:ke s=true):s.bX.length<=8:=by
 unfold ke at h
 split at h
 ·cases h
 ·rename_i h2
  simp at h2;omega
def nD(p:Pg):List Cl×Int:=if nN p=true then(if(lq p).length<=60 then(lq p,0)else([],3))else([],2)
theorem Mo(p:Pg)(hp:p.Fw)(h:dJ p=true):aW Tryz.prog 41 [p.d] (.ret [crD p (dP p)]):=by
 have:=Tt p hp
 rwa [show wc p p.rules.length=p.rules.flatMap fun r=>ki r.rhs by unfold wc;rw[List.take_length],aaW (fun r hr=>sL h hr)]at this
theorem sT{p:Pg}(h:dJ p=true):(dP p).length<=100:=by
 unfold dP
 have h1:=List.length_filter_le (fun n=>(p.rules.flatMap fun r=>ki r.rhs).contains n) ((List.range p.sig.bX.length).map fun n:Nat=>(n:Int))
 rw[List.length_map,List.length_range]at h1
 have h2:=FF (yg h)
 omega
theorem aa1(p:Pg)(hp:p.Fw)(h:dJ p=true):aW Tryz.prog 42 [crD p (dP p)] (.ret [.sl ((lq p).map Cl.d)]):=
 Tu p hp (fun r hr=>(sL h hr).len) (fun r hr x hx h4=>(sL h hr).kids (yg h) hx h4) (dP p) (sT h)
theorem Tx(p:Pg)(hf:p.Fin)(hp:p.Fw)(hq:nN p=dJ p):aW Tryz.prog 11 [p.d] (.ret [.sl ((nD p).1.map Cl.d), .i (nD p).2]):=by
 refine aW.aI mix aeN aJ ?_
 rw[c11,nD]
 refine ba ?_
 refine aF (PT p hf) rfl ?_
 cases h1:nN p with
 |false=>simp+contextual (disch:=first|omega|simp only[go_sem,false_implies]) only[go_sem,wrap64,if_pos,qe]
 |true=>
 have h2:dJ p=true:=hq ▸ h1
 refine Gh ?_
 refine br (Mo p hp h2) ?_
 refine ba ?_
 refine br (aa1 p hp h2) ?_
 have mY:(lq p).length<=50500000:=by
  have:=pk hp (sT h2) p.rules.length (Nat.le_refl _)
  have:=hp.len
  unfold lq;omega
 by_cases h3:(lq p).length<=60
 ·have qF:decide (((lq p).length:Int)>60)=false:=by simp;omega
  simp+contextual (disch:=first|omega|simp only[go_sem,false_implies]) only[go_sem,wrap64,if_pos,List.length_map,qF,if_pos h3]
 ·have qF:decide (((lq p).length:Int)>60)=true:=by simp;omega
  simp+contextual (disch:=first|omega|simp only[go_sem,false_implies]) only[go_sem,wrap64,if_pos,List.length_map,qF,if_neg h3]
def sU(aC kids:List Tm)(i j:Nat):List cu:=((List.range i).flatMap fun i=>qW aC kids i kids.length)++qW aC kids i j
theorem A2(aC kids:List Tm)(i j:Nat):qW aC kids i (j+1)=qW aC kids i j++(ue aC kids i j).toList:=by
 unfold qW
 rw[List.range_succ,List.filterMap_append]
 cases h:ue aC kids i j<;>simp[h]
theorem pn(aC kids:List Tm)(i:Nat):∀j,(qW aC kids i j).length<=j
 |0=>by simp[qW]
 |j+1=>by
  have:=pn aC kids i j
  rw[A2,List.length_append]
  cases ue aC kids i j<;>simp<;>omega
theorem FG(aC kids:List Tm)(j:Nat):∀i,(sU aC kids i j).length<=i*kids.length+j
 |0=>by have:=pn aC kids 0 j;simpa[sU]using this
 |i+1=>by
  have h1:=FG aC kids kids.length i
  have h2:=pn aC kids (i+1) j
  have h3:=pn aC kids i kids.length
  unfold sU at h1|-
  rw[List.range_succ,List.flatMap_append,List.append_assoc,List.length_append,List.length_append]
  rw[List.length_append]at h1
  simp only[List.flatMap_cons,List.flatMap_nil,List.append_nil]at h1|-
  have key:∀n,((List.range n).flatMap fun i=>qW aC kids i kids.length).length<=n*kids.length:=by
   intro n
   induction n with
   |zero=>simp
   |succ n ih=>
    rw[List.range_succ,List.flatMap_append,List.length_append,Nat.add_mul]
    have:=pn aC kids n kids.length
    simp only[List.flatMap_cons,List.flatMap_nil,List.append_nil];omega
  have:=key i
  rw[Nat.add_mul];omega
theorem Qu(aC kids:List Tm)(i:Nat):sU aC kids i kids.length=sU aC kids (i+1) 0:=by
 unfold sU
 rw[List.range_succ,List.flatMap_append]
 simp[qW]
theorem Qv(aC kids:List Tm):sU aC kids aC.length 0=u6 aC kids:=by unfold sU u6;simp[qW]
def T7(r:Rl)(l:List cu):Nat->aa:=au (au (fun _=> .no) 0 (.row r.row)) 1 (.arr 0 64 3 (l.map cu.d))
theorem yo(r:Rl)(l:List cu):Good (T7 r l) 2:=(Good.nil.au ae rfl).au ae rfl
theorem raH_0(r:Rl)(l:List cu):T7 r l 0= .row r.row:=Xz
theorem raH_1(r:Rl)(l:List cu):T7 r l 1= .arr 0 64 3 (l.map cu.d):=Xz
theorem Ty(r:Rl)(kids:List Tm)(hp:r.aC.length<=1000)(hk:kids.length<=1000)(fp:∀t∈r.aC,t.fits)(fk:∀t∈kids,t.fits):aW Tryz.prog 79 [r.d, .sl (kids.map Tm.d)] (.ret [.sl ((u6 r.aC kids).map cu.d)]):=by
 refine aW.aI mix aiD aJ ?_
 rw[c79]
 refine ba ?_
 refine aw (fun i:Nat=>⟨aT [.ag, .d (.sl (kids.map Tm.d)), .ptr 0 0, .ag, .ag, .osl 1 0, .d (.i i)],T7 r (sU r.aC kids i 0),2⟩)
  (fun i=>i<=r.aC.length) (fun i=>r.aC.length - i) 0 (Nat.zero_le _) (aZ.iu (fun _=>False) .aU 1 _ ae (MI (df (y:= .row r.row) cH (raH_0 _ _) (bn rfl n8))) (raH_1 _ _) (.inl ⟨rfl,rfl,bG⟩) (fun j hj=>by unfold T7;(repeat first|rfl|rw[af]|rw[ab _ _ _ _ (by omega)])) (fun _ h=>h.elim) ?_) (fun i hi=> ?_)
 ·exact lI
 replace hi:i<=r.aC.length:=hi
 refine dY (ak @raH_0 @raH_1) ?_
 refine aj (fun h1=> ?_) (fun h1=> ?_)
 ·simp at h1
  obtain⟨pa,Q7⟩:=az h1
  have Tv:=List.mem_of_getElem? Q7
  refine dY (ak @raH_0 @raH_1) ?_
  refine aw (fun j:Nat=>⟨aT [.ag, .d (.sl (kids.map Tm.d)), .ptr 0 0, .ag, .ag, .osl 1 0, .d (.i i), .d (.i j)],T7 r (sU r.aC kids i j),2⟩)
   (fun j=>j<=kids.length) (fun j=>kids.length - j) 0 (Nat.zero_le _) (aZ.aV _ (show 0<=2 from ae) ae (yo _ _) (fun j hj=>rfl) ?_) (fun j hj=> ?_)
  ·exact bZ
  replace hj:j<=kids.length:=hj
  have hql:=FG r.aC kids j i
  have hqm:i*kids.length<=1000*1000:=Nat.mul_le_mul ae hk
  refine dY (ak @raH_0 @raH_1) ?_
  refine aj (fun h2=> ?_) (fun h2=> ?_)
  ·simp at h2
   obtain⟨ka,Rm⟩:=az h2
   have Tw:=List.mem_of_getElem? Rm
   have fj:sU r.aC kids i (j+1)=sU r.aC kids i j++(ue r.aC kids i j).toList:=by unfold sU;rw[A2,List.append_assoc]
   have hO:ue r.aC kids i j=if iK ka pa=true then some ⟨i,j,false⟩else if pa.kids.any (lp ka)=true then some ⟨i,j,true⟩else none:=by unfold ue;rw[Q7,Rm]
   have ajy:(sU r.aC kids i j).length<=1002000:=ae
   refine dY (ak Q7 (ak Rm (ak @raH_0 @raH_1))) ?_
   refine aY (Px ka (fk ka Tw) pa (fp pa Tv)) rfl ?_
   refine ba ?_
   refine aB (aD rfl) ?_
   cases hs:iK ka pa with
   |true=>
    rw[hs,if_pos rfl]at hO
    rw[hO]at fj
    refine dY (ak hs (ak @raH_0 @raH_1)) ?_
    exact zw7
   |false=>
    rw[hs,if_neg Bool.false_ne_true]at hO
    refine dY (ak hs (ak Q7 (ak Rm (ak @raH_0 @raH_1)))) ?_
    refine aY (Mf ka (fk ka Tw) pa (fp pa Tv)) rfl ?_
    refine ba ?_
    refine aB (aD rfl) ?_
    cases hw:pa.kids.any (lp ka)with
    |true=>
     rw[hw,if_pos rfl]at hO
     rw[hO]at fj
     refine dY (ak hw (ak @raH_0 @raH_1)) ?_
     exact zw7
    |false=>
     rw[hw,if_neg Bool.false_ne_true]at hO
     rw[hO,Option.toList_none,List.append_nil]at fj
     refine cz hw ?_
     refine ai (j+1) h2 ae (aZ.aV _ (show 0<=2 from ae) ae (yo _ _) (fun q hq=>by rw[fj]) ?_)
     exact bZ
  ·simp at h2
   have Vo:j=kids.length:=ae
   subst Vo
   refine ba ?_
   refine ai (i+1) h1 ae (aZ.aV _ (show 0<=2 from ae) ae (yo _ _) (fun q hq=>by rw[Qu]) ?_)
   exact bZ
 ·simp at h1
  have RV:i=r.aC.length:=ae
  subst RV
  rw[Qv]
  exact s9 (ak @raH_0 @raH_1)
def Ky(p:Pg)(l:List Int):Nat->aa:=au (au (fun _=> .no) 0 (.row p.row)) 1 (.arr 0 3 1 (l.map .i))
theorem yp(p:Pg)(l:List Int):Good (Ky p l) 2:=(Good.nil.au ae rfl).au ae rfl
theorem apH_0(p:Pg)(l:List Int):Ky p l 0= .row p.row:=XB
theorem apH_1(p:Pg)(l:List Int):Ky p l 1= .arr 0 3 1 (l.map .i):=XB
def QZ(p:Pg)(l m:List Int):Nat->aa:=au (Ky p l) 2 (.arr 0 3 1 (m.map .i))
theorem wy(p:Pg)(l m:List Int):Good (QZ p l m) 3:=((yp p l).mono ae).au ae rfl
theorem apI_0(p:Pg)(l m:List Int):QZ p l m 0= .row p.row:=T9
theorem apI_1(p:Pg)(l m:List Int):QZ p l m 1= .arr 0 3 1 (l.map .i):=T9
theorem apI_2(p:Pg)(l m:List Int):QZ p l m 2= .arr 0 3 1 (m.map .i):=Ry
def FH(l:List Int)(q:Nat):List Int:=((List.range q).map fun n:Nat=>(n:Int)).filter fun n=>l.contains n
theorem Mp(l:List Int)(q:Nat):FH l (q+1)=FH l q++if l.contains (q:Int)=true then [(q:Int)]else []:=by
 unfold FH
 rw[List.range_succ,List.map_append,List.filter_append]
 simp only[List.map_cons,List.map_nil]
 by_cases h:l.contains (q:Int)=true
 ·rw[if_pos h,List.filter_cons,if_pos h];rfl
 ·rw[if_neg h,List.filter_cons,if_neg h];rfl
theorem Qw(l:List Int)(q:Nat):(FH l q).length<=q:=by
 unfold FH
 have:=List.length_filter_le (fun n=>l.contains n) ((List.range q).map fun n:Nat=>(n:Int))
 simpa using this
theorem HU(p:Pg)(hp:p.Fw)(hs:p.sig.bX.length<=1000):aW Tryz.prog 80 [p.d] (.ret [.sl ((dP p).map .i)]):=by
 have vL:=hp.len
 refine aW.aI mix aiE aJ ?_
 rw[c80]
 refine ba ?_
 refine aw (fun k:Nat=>⟨aT [.ag, .ptr 0 0, .ag, .osl 1 0, .aU, .d (.i k)],Ky p (wc p k),2⟩)
  (fun k=>k<=p.rules.length) (fun k=>p.rules.length - k) 0 (Nat.zero_le _) (aZ.iu (fun _=>False) .aU 1 _ ae (MI (df (y:= .row p.row) cH (apH_0 _ _) (bn rfl n8))) (apH_1 _ _) (.inl ⟨rfl,rfl,bG⟩) (fun j hj=>by unfold Ky;(repeat first|rfl|rw[af]|rw[ab _ _ _ _ (by omega)])) (fun _ h=>h.elim) ?_) (fun k hk=> ?_)
 ·exact lI
 replace hk:k<=p.rules.length:=hk
 have oj:=CK hp k hk
 refine dY (ak @apH_0 @apH_1) ?_
 refine aj (fun h1=> ?_) (fun h1=> ?_)
 ·simp at h1
  obtain⟨r,hr⟩:=az h1
  obtain⟨f1,f2,f3⟩:=hp.all r (List.mem_of_getElem? hr)
  have XR:=J9 r.rhs
  have pL:=yn p hr
  refine dY (ak hr (ak @apH_0 @apH_1)) ?_
  refine br (agC r.rhs f2 ae) ?_
  refine dY (ak @apH_0 @apH_1) ?_
  refine ai (k+1) h1 ae (aZ.iu (fun j=>j=1) (.osl 1 1) 1 _ ae (MI (df (y:= .row p.row) XB (apH_0 _ _) (bn rfl n8))) (apH_1 _ _) (.inr ⟨1,1,rfl,rfl,by(repeat first|rfl|rw[af]|rw[ab _ _ _ _ (by omega)]);rw[pL];simp⟩) (fun j hj=>by unfold Ky;(repeat first|rfl|rw[af]|rw[ab _ _ _ _ (by omega)])) (fun j h h2=>ae) ?_)
  exact lI
 ·simp at h1
  have GL:k=p.rules.length:=ae
  subst GL
  have bu:wc p p.rules.length=p.rules.flatMap fun r=>ki r.rhs:=by unfold wc;rw[List.take_length]
  have agG:FH (wc p p.rules.length) p.sig.bX.length=dP p:=by rw[bu];rfl
  generalize wc p p.rules.length=all at oj agG|-
  refine dY (ak @apH_0 @apH_1) ?_
  refine aw (fun q:Nat=>⟨aT [.ag, .ptr 0 0, .ag, .osl 1 0, .osl 2 0, .ag, .d (.i q)],QZ p all (FH all q),3⟩)
   (fun q=>q<=p.sig.bX.length) (fun q=>p.sig.bX.length - q) 0 (Nat.zero_le _) (aZ.iu (fun _=>False) .aU 2 _ ae (fun j hj=> ?_) (apI_2 _ _ _) (.inl ⟨rfl,rfl,bG⟩) (fun j hj=>by unfold QZ Ky;(repeat first|rfl|rw[af]|rw[ab _ _ _ _ (by omega)])) (fun _ h=>h.elim) ?_) (fun q hq=> ?_)
  ·exact df (y:=Ky p all j) rfl Ry (bn rfl (fun r hr=>(yp p all).refs j r hr))
  ·exact lI
  replace hq:q<=p.sig.bX.length:=hq
  have hql:=Qw all q
  refine dY (ak @apI_0 (ak @apI_1 @apI_2)) ?_
  refine aj (fun h2=> ?_) (fun h2=> ?_)
  ·simp at h2
   refine dY (ak @apI_0 (ak @apI_1 @apI_2)) ?_
   refine aw (fun m:Nat=>⟨aT [.ag, .ptr 0 0, .ag, .osl 1 0, .osl 2 0, .ag, .d (.i q), .d (.bool ((all.take m).contains (q:Int))), .d (.i m)],QZ p all (FH all q),3⟩)
    (fun m=>m<=all.length) (fun m=>all.length - m) 0 (Nat.zero_le _) (aZ.aV _ (show 0<=3 from ae) ae (wy _ _ _) (fun j hj=>rfl) ?_) (fun m hm=> ?_)
   ·exact bZ
   replace hm:m<=all.length:=hm
   refine dY (ak @apI_0 (ak @apI_1 @apI_2)) ?_
   refine aj (fun h3=> ?_) (fun h3=> ?_)
   ·simp at h3
    obtain⟨y,hy⟩:=az h3
    have ta:(all.take (m+1)).contains (q:Int)=((all.take m).contains (q:Int)||y==(q:Int)):=by
     rw[List.take_add_one,hy]
     simp[List.contains_eq_mem,Bool.decide_or,eq_comm,Bool.beq_eq_decide_eq]
     try rw[Bool.eq_iff_iff];simp
    cases hc:(all.take m).contains (q:Int)with
    |true=>
     rw[hc,Bool.true_or]at ta
     exact ac9
    |false=>
     rw[hc,Bool.false_or]at ta
     exact ac9
   ·simp at h3
    rw[List.take_of_length_le h3]
    have hsu:=Mp all q
    refine ba ?_
    refine aj (fun h4=> ?_) (fun h4=> ?_)
    ·rw[if_pos h4]at hsu
     refine dY (ak @apI_0 (ak @apI_1 @apI_2)) ?_
     refine ai (q+1) h2 ae (aZ.iu (fun j=>j=2) (.osl 2 1) 2 _ ae (fun j hj=> ?_) (apI_2 _ _ _) (.inr ⟨2,1,rfl,rfl,by(repeat first|rfl|rw[af]|rw[ab _ _ _ _ (by omega)]);rw[hsu];simp⟩) (fun j hj=>by unfold QZ Ky;(repeat first|rfl|rw[af]|rw[ab _ _ _ _ (by omega)])) (fun j h h2=>ae) ?_)
     ·exact df (y:=Ky p all j) Ry Ry (bn rfl (fun r hr=>(yp p all).refs j r hr))
     ·exact lI
    ·rw[if_neg (by rw[h4];exact Bool.false_ne_true),List.append_nil]at hsu
     refine ba ?_
     refine ai (q+1) h2 ae (aZ.aV _ (show 0<=3 from ae) ae (wy _ _ _) (fun j hj=>by rw[hsu]) ?_)
     exact bZ
  ·simp at h2
   have hqe:q=p.sig.bX.length:=ae
   subst hqe
   rw[agG]
   exact s9 (ak @apI_0 (ak @apI_1 @apI_2))
theorem CN(p:Pg){ps:List Int}(pL:ps.length<=100)(n:Int)(r:Rl)(t:Tm)(q:List Int)(b:Bool):(Ma ps n r t q b).length<=t.sz*100:=by
 rw[sJ, <- CM t q b]
 induction lK t q b with
 |nil=>simp
 |cons x l ih=>
  rw[List.flatMap_cons,List.length_append,List.length_cons,Nat.add_mul]
  have:=CL ps n r x pL
  omega
theorem Mq(ps:List Int)(n:Int)(r:Rl){l:List Tm}{k:Nat}{x:Tm}(hx:l[k]? =some x)(q:List Int)(b:Bool):nV ps n r (l.take (k+1)) 0 q b=nV ps n r (l.take k) 0 q b++Ma ps n r x (q++[(k:Int)]) b:=by
 have hk:=(List.getElem?_eq_some_iff.1 hx).1
 rw[List.take_add_one,hx,Option.toList_some,u7,nV,nV,List.append_nil]
 congr 3
 rw[List.length_take]
 congr 1
 omega
theorem aa2:∀t:Tm,∀x∈gK t,x.sz<=t.sz:=by
 refine Tm.eJ fun t ih x hx=> ?_
 rw[jL]at hx
 rcases List.mem_cons.1 hx with e|e
 ·rw[e];exact Nat.le_refl _
 ·obtain⟨k,hk,h⟩:=List.mem_flatMap.1 e
  have:=ih k hk x h
  have:=iV hk
  have:=Tm.jU t
  omega
theorem Tz(t:Tm):t.kids.length<=t.sz:=by
 have h1:=Tm.jU t
 have key:∀l:List Tm,l.length<=iT l:=by
  intro l
  induction l with
  |nil=>simp
  |cons k l ih=>
   rw[iP,List.length_cons]
   have:=Tm.jU k
   omega
 have:=key t.kids
 omega
theorem TA(p:Pg){ps:List Int}(pL:ps.length<=100)(n:Int)(r:Rl)(t:Tm)(q:List Int)(b:Bool)(k:Nat):(nV ps n r (t.kids.take k) 0 q (jl t.op b)).length<=t.sz*100:=by
 have h1:=CN p pL n r t q b
 have h2:=u7 ps n r (t.kids.take k) (t.kids.drop k) 0 q (jl t.op b)
 rw[List.take_append_drop]at h2
 rw[P2,h2,List.length_append,List.length_append]at h1
 omega
def ofB:IC:=c44.snd.snd.snd.snd.snd.snd.fst.snd.fst.fst
def Kv(p:Pg)(t:Tm)(l:List Cl):Nat->aa:=au (au (au (fun _=> .no) 0 (.row p.row)) 1 (.row t.row)) 2 (.arr 0 40 6 (l.map Cl.d))
def Xw(p:Pg)(t:Tm):Nat->aa:=au (au (fun _=> .no) 0 (.row p.row)) 1 (.row t.row)
theorem C9(p:Pg)(t:Tm):Good (Xw p t) 2:=(Good.nil.au ae rfl).au ae rfl
theorem ofH_0(p:Pg)(t:Tm)(l:List Cl):Kv p t l 0= .row p.row:=XC
theorem ofH_1(p:Pg)(t:Tm)(l:List Cl):Kv p t l 1= .row t.row:=XC
theorem ofH_2(p:Pg)(t:Tm)(l:List Cl):Kv p t l 2= .arr 0 40 6 (l.map Cl.d):=XC
theorem CO{p:Pg}{n:Nat}{r:Rl}{t:Tm}(hf:t.fits)(hz:t.sz<=500){q:List Int}(b:Bool)(hq:q.length+t.nK<=100000)(pL:(dP p).length<=100)
 (ih:∀x∈t.kids,∀ (q:List Int) (b:Bool),q.length+x.nK<=100000->aW Tryz.prog 44 [p.d, .i n,x.d, .sl (q.map .i), .bool b] (.ret [.sl ((Ma (dP p) n r x q b).map Cl.d)]))
 (pr:List Cl) (vk:pr.length<=1000) {e:Nat->V} {o:Nat->aa} {nx:Nat} {Q:fW->S->Prop}
 (hs:aZ 0 ⟨e,o,nx⟩ ⟨aT [.ag, .d (.i n), .ag, .d (.sl (q.map .i)), .d (.bool b), .ptr 0 0, .ag, .ptr 1 0, .ag, .ag, .ag, .osl 2 0, .ag, .ag, .ag, .ag, .d (.i 0)],Kv p t pr,3⟩)
 (hQ:∀e' n',e' 11= .osl 2 0->Q (.exit 2) ⟨e',Kv p t (pr++nV (dP p) n r t.kids 0 q (jl t.op b)),n'⟩):
 xq 0 (fun Q s=>lz Tryz.prog 97 0 false ofB Q s) Q ⟨e,o,nx⟩:=by
 have l0:=(Tm.bK _).1 hf
 have pG:=Tm.jU t
 refine aw (fun k:Nat=>⟨aT [.ag, .d (.i n), .ag, .d (.sl (q.map .i)), .d (.bool b), .ptr 0 0, .ag, .ptr 1 0, .ag, .ag, .ag, .osl 2 0, .ag, .ag, .ag, .ag, .d (.i k)],Kv p t (pr++nV (dP p) n r (t.kids.take k) 0 q (jl t.op b)),3⟩)
  (fun k=>k<=t.kids.length) (fun k=>t.kids.length - k) 0 (Nat.zero_le _) ?_ fun k hk=> ?_
 ·simpa[nV]using hs
 replace hk:k<=t.kids.length:=hk
 have oj:=l0.1
 simp only[ofB,c44,IC.snd,IC.fst]
 refine dY (ak @ofH_0 (ak @ofH_1 @ofH_2)) ?_
 refine aj (fun h2=> ?_) (fun h2=> ?_)
 ·simp at h2
  obtain⟨x,hx⟩:=az h2
  have dR:=List.mem_of_getElem? hx
  have hh:=Tm.pI dR
  have hsn:=Mq (dP p) n r hx q (jl t.op b)
  have m6:(b=false/\(t.op !=3)=(t.op !=3)/\jl t.op b=false)\/(b=true/\(t.op !=3)=false/\jl t.op b=false)\/(b=true/\(t.op !=3)=true/\jl t.op b=(t.op !=5)):=by
   unfold jl
   cases b<;>cases h3:(t.op !=3)<;>simp
  have hle:=TA p pL n r t q b k
  have hlx:=CN p pL n r x (q++[(k:Int)]) (jl t.op b)
  have Gy:=iV dR
  have Yv:(pr++nV (dP p) n r (t.kids.take k) 0 q (jl t.op b)).length<=60000:=by rw[List.length_append];omega
  have ai3:(Ma (dP p) n r x (q++[(k:Int)]) (jl t.op b)).length<=60000:=ae
  have e:q.map D.i++[D.i k]=(q++[(k:Int)]).map D.i:=aJ
  rcases m6 with⟨MR,h3,m6⟩|⟨MR,h3,m6⟩|⟨MR,h3,m6⟩
  all_goals subst MR
  all_goals rw[m6]at hsn Yv ai3
  all_goals rw[m6]
  all_goals simp+contextual (disch:=first|omega|simp only[go_sem,false_implies]) only[go_sem,wrap64,if_pos,List.length_map,ofH_0,ofH_1,ofH_2,hx,h3]
  all_goals rw[e]
  all_goals refine cf (ih x dR (q++[(k:Int)]) _ iA) ?_
  all_goals simp+contextual (disch:=first|omega|simp only[go_sem,false_implies]) only[go_sem,wrap64,if_pos,List.length_map,ofH_0,ofH_1,ofH_2]
  all_goals refine aB bG ?_
  all_goals simp+contextual (disch:=first|omega|simp only[go_sem,false_implies]) only[go_sem,wrap64,if_pos,and_self]
  all_goals refine ai (k+1) h2 ae (aZ.iu (fun j=>j=2) (.osl 2 1) 2 _ ae (fun j hj=> ?_) (ofH_2 _ _ _) (.inr ⟨2,1,rfl,rfl,by(repeat first|rfl|rw[af]|rw[ab _ _ _ _ (by omega)]);rw[hsn];simp⟩) (fun j hj=>by unfold Kv;(repeat first|rfl|rw[af]|rw[ab _ _ _ _ (by omega)])) (fun j h h2=>ae) ?_)
  all_goals first
   |exact df (y:=Xw p t j) acq acq (bn rfl (fun r hr=>(C9 p t).refs j r hr))
   |(repeat(first|exact n6|refine dt ?_|refine iU rfl ?_|refine iU (wh (wk ae)) ?_|refine mZ 0 rfl rfl rfl ?_|refine m4 rfl zy4 ?_|refine qu rfl Ru ?_))
 ·simp at h2
  have oj:k=t.kids.length:=ae
  exact Yg
theorem agH(p:Pg)(hp:p.Fw)(hs:p.sig.bX.length<=100)(n:Nat)(r:Rl)(hr:p.rules[n]? =some r)(h4:r.aC.length<=4)(fp:∀t∈r.aC,t.fits):∀t:Tm,t.fits->t.sz<=500->(∀x∈gK t,x.kids.length<=1000)->∀ (q:List Int) (b:Bool),q.length+t.nK<=100000->
 aW Tryz.prog 44 [p.d, .i n,t.d, .sl (q.map .i), .bool b] (.ret [.sl ((Ma (dP p) n r t q b).map Cl.d)]):=by
 have pL:(dP p).length<=100:=by
  unfold dP
  have h1:=List.length_filter_le (fun n=>(p.rules.flatMap fun r=>ki r.rhs).contains n) ((List.range p.sig.bX.length).map fun n:Nat=>(n:Int))
  rw[List.length_map,List.length_range]at h1
  omega
 have vL:=hp.len
 have tJ:=(List.getElem?_eq_some_iff.1 hr).1
 refine Tm.eJ fun t ih hf hz K4 q b hq=> ?_
 have l0:=(Tm.bK _).1 hf
 have hk0:t.kids.length<=1000:=K4 t (by rw[jL];simp)
 refine aW.aI mix aik aJ ?_
 rw[c44,P2]
 by_cases h4:t.op=4
 ·have Bu:(t.op==4)=true:=by simpa using h4
  have Qt:(t.op==6)=false:=by rw[h4];rfl
  refine dY (ak hr (ak Bu Qt)) ?_
  refine br (Ty r t.kids ae hk0 fp l0.2) ?_
  refine dY (ak hr (ak Bu Qt)) ?_
  have yN:wo (dP p) n r ⟨t,q,b⟩=[⟨n,r.fn,t.n,q,b,u6 r.aC t.kids⟩]:=by unfold wo;rw[if_pos h4]
  rw[yN]
  refine CO hf hz b hq pL (fun x hx q b hq=>ih x hx (l0.2 x hx) Nc (fun y hy=>K4 y XG) q b hq) [⟨n,r.fn,t.n,q,b,u6 r.aC t.kids⟩] aJ ?_ fun e' n' he=> ?_
  ·refine aZ.iu (fun j=>2<=j) _ 2 _ ae (fun j hj=> ?_) (ofH_2 _ _ _) (.inr ⟨_,_, ?_,rfl,cH⟩) (fun j hj=>by unfold Kv;(repeat first|rfl|rw[af]|rw[ab _ _ _ _ (by omega)])) (fun j h h2=>ae) ?_
   ·exact Xv
   ·decide
   ·exact lI
  ·exact s9 (ak he @ofH_2)
 ·have Bu:(t.op==4)=false:=by simpa using h4
  by_cases h6:t.op=6
  ·have Qt:(t.op==6)=true:=by simpa using h6
   have yN:wo (dP p) n r ⟨t,q,b⟩=(dP p).map fun to=>⟨n,r.fn,to,q,b,[]⟩:=by unfold wo;rw[if_neg h4,if_pos h6]
   rw[yN]
   refine dY (ak hr (ak Bu Qt)) ?_
   refine br (HU p hp ae) ?_
   refine dY (ak hr (ak Bu Qt)) ?_
   have agI:∀to:Int,Good (au (au (au (au (fun _=>aa.no) 0 (.row p.row)) 1 (.row t.row)) 9 (.row r.row)) 17 (.row [.d (.i n), .d (.i r.fn), .d (.i to), .d (.sl (q.map .i)), .d (.bool b), .aU])) 18:=fun to=>eW
   refine aw (fun i:Nat×Int=>⟨aT [.ag, .d (.i n), .ag, .d (.sl (q.map .i)), .d (.bool b), .ptr 0 0, .ag, .ptr 1 0, .ag, .ag, .ag, .osl 18 0, .ptr 9 0, .ptr 17 0, .d (.sl ((dP p).map .i)), .d (.i i.1)],
    au (au (au (au (au (fun _=> .no) 0 (.row p.row)) 1 (.row t.row)) 9 (.row r.row)) 17 (.row [.d (.i n), .d (.i r.fn), .d (.i i.2), .d (.sl (q.map .i)), .d (.bool b), .aU])) 18 (.arr 0 40 6 ((((dP p).take i.1).map fun to=>Cl.mk n r.fn to q b []).map Cl.d)),19⟩)
    (fun i=>i.1<=(dP p).length) (fun i=>(dP p).length - i.1) (0,0) (Nat.zero_le _) (aZ.iu (fun _=>False) .aU 18 _ ae (fun j hj=> ?_) (af _ _ _) (.inl ⟨rfl,rfl,bG⟩) (fun j hj=>cH) (fun _ h=>h.elim) ?_) ?_
   ·refine df (y:=au (au (au (au (fun _=>aa.no) 0 (.row p.row)) 1 (.row t.row)) 9 (.row r.row)) 17 (.row [.d (.i n), .d (.i r.fn), .d (.i 0), .d (.sl (q.map .i)), .d (.bool b), .aU]) j) (by rw[dW,dW]) (ab _ _ _ _ ae) (bn rfl (fun r hr=>(agI 0).refs j r hr))
   ·exact lI
   rintro⟨m,to0⟩ hm
   replace hm:m<=(dP p).length:=hm
   have IU:(((dP p).take m).map fun to=>Cl.mk n r.fn to q b []).length<=100:=by rw[List.length_map,List.length_take];omega
   refine mW ?_
   refine aj (fun h7=> ?_) (fun h7=> ?_)
   ·simp at h7
    obtain⟨to,Sb⟩:=az h7
    have ta:(dP p).take (m+1)=(dP p).take m++[to]:=by rw[List.take_add_one,Sb];rfl
    have e3:((dP p).take m).length<=140737488355327:=by rw[List.length_take];omega
    have e4:(((dP p).take m).length+1)*80<=140737488355328:=by rw[List.length_take];omega
    refine dY (ak Sb (ak e3 e4)) ?_
    refine ai (m+1,to) h7 ae (aZ.iu (fun j=>j=18) (.osl 18 1) 18 _ ae (fun j hj=> ?_) (af _ _ _) (.inr ⟨18,1,rfl,rfl,by(repeat first|rfl|rw[af]|rw[ab _ _ _ _ (by omega)]);rw[ta];simp⟩) (fun j hj=>cH) (fun j h h2=>ae) ?_)
    ·refine df (y:=au (au (au (au (fun _=>aa.no) 0 (.row p.row)) 1 (.row t.row)) 9 (.row r.row)) 17 (.row [.d (.i n), .d (.i r.fn), .d (.i to), .d (.sl (q.map .i)), .d (.bool b), .aU]) j) ?_ (ab _ _ _ _ ae) (bn rfl (fun r hr=>(agI to).refs j r hr))
     by_cases e17:j=17
     ·subst e17;(repeat first|rfl|rw[af]|rw[ab _ _ _ _ (by omega)])
     ·(repeat first|rfl|rw[af]|rw[ab _ _ _ _ (by omega)])
      rw[ab _ 17 _ _ e17]
    ·exact lI
   ·simp at h7
    have hme:m=(dP p).length:=ae
    subst hme
    rw[List.take_length]
    refine ba ?_
    refine CO hf hz b hq pL (fun x hx q b hq=>ih x hx (l0.2 x hx) Nc (fun y hy=>K4 y XG) q b hq) ((dP p).map fun to=>Cl.mk n r.fn to q b []) (by rw[List.length_map];omega) ?_ fun e' n' he=> ?_
    ·refine aZ.iu (fun j=>2<=j) (.osl 18 0) 2 _ ae (fun j hj=> ?_) (ofH_2 _ _ _) (.inr ⟨18,0,bG,rfl,cH⟩) (fun j hj=>by unfold Kv;(repeat first|rfl|rw[af]|rw[ab _ _ _ _ (by omega)])) (fun j h h2=>ae) ?_
     ·exact Xv
     ·exact lI
    ·exact s9 (ak he @ofH_2)
  ·have Qt:(t.op==6)=false:=by simpa using h6
   have yN:wo (dP p) n r ⟨t,q,b⟩=[]:=by unfold wo;rw[if_neg h4,if_neg h6]
   rw[yN]
   refine dY (ak hr (ak Bu Qt)) ?_
   refine CO hf hz b hq pL (fun x hx q b hq=>ih x hx (l0.2 x hx) Nc (fun y hy=>K4 y XG) q b hq) [] aJ ?_ fun e' n' he=> ?_
   ·refine aZ.iu (fun j=>2<=j) .aU 2 _ ae (fun j hj=> ?_) (ofH_2 _ _ _) (.inl ⟨rfl,rfl,bG⟩) (fun j hj=>by unfold Kv;(repeat first|rfl|rw[af]|rw[ab _ _ _ _ (by omega)])) (fun j h h2=>ae) ?_
    ·exact Xv
    ·exact lI
   ·exact s9 (ak he @ofH_2)
theorem Qx(p:Pg)(hp:p.Fw)(h:dJ p=true):aW Tryz.prog 13 [p.d] (.ret [.sl ((lq p).map Cl.d)]):=by
 have vL:=hp.len
 have Rg:=FF (yg h)
 refine aW.aI mix ah4 aJ ?_
 rw[c13]
 refine ba ?_
 refine aw (fun k:Nat=>⟨aT [.ag, .ptr 0 0, .ag, .osl 1 0, .d (.i k)],au (au (fun _=> .no) 0 (.row p.row)) 1 (.arr 0 40 6 ((lG p (dP p) k).map Cl.d)),2⟩)
  (fun k=>k<=p.rules.length) (fun k=>p.rules.length - k) 0 (Nat.zero_le _) (aZ.iu (fun _=>False) .aU 1 _ ae (MI (df (y:= .row p.row) cH cH (bn rfl n8))) (af _ _ _) (.inl ⟨rfl,rfl,bG⟩) (fun j hj=>cH) (fun _ h=>h.elim) ?_) (fun k hk=> ?_)
 ·exact lI
 replace hk:k<=p.rules.length:=hk
 have oj:=pk hp (sT h) k hk
 refine mW ?_
 refine aj (fun h1=> ?_) (fun h1=> ?_)
 ·simp at h1
  obtain⟨r,hr⟩:=az h1
  have Xj:=List.mem_of_getElem? hr
  obtain⟨f1,f2,f3⟩:=hp.all r Xj
  have IE:=sL h Xj
  have hsu:=uf p (dP p) hr
  have hru:Ma (dP p) k r r.rhs [] true=ruC (dP p) k r:=aaT (dP p) k r
  have hll:=CN p (sT h) k r r.rhs [] true
  rw[hru]at hll
  have K4:∀x∈gK r.rhs,x.kids.length<=1000:=fun x hx=>by
   have h1:=aa2 r.rhs x hx
   have h2:=Tz x
   omega
  refine dY hr ?_
  have:=agH p hp ae k r hr IE.len (fun t ht=>(f1.all t ht).1) r.rhs f2 f3 K4 [] true (by have:=yi r.rhs;simp;omega)
  rw[hru]at this
  refine cf this ?_
  refine mW ?_
  refine aB bG ?_
  refine ba ?_
  refine ai (k+1) h1 ae (aZ.iu (fun j=>j=1) (.osl 1 1) 1 _ ae (MI (df (y:= .row p.row) cH cH (bn rfl n8))) (af _ _ _) (.inr ⟨1,1,rfl,rfl,by(repeat first|rfl|rw[af]|rw[ab _ _ _ _ (by omega)]);rw[hsu];simp⟩) (fun j hj=>cH) (fun j h h2=>ae) ?_)
  exact lI
 ·simp at h1
  have GL:k=p.rules.length:=ae
  subst GL
  refine ba ?_
  rfl
theorem aa3(p:Pg)(hp:p.Fw):aW Tryz.prog 12 [p.d] (.ret [.bool (dJ p)]):=by
 refine aW.aI mix ah3 aJ ?_
 rw[c12]
 refine ba ?_
 refine aF (Ts p hp) rfl ?_
 exact ur
theorem aa4(p:Pg)(hp:p.Fits):aW Tryz.prog 9 [p.d] (.ret [.bool (jF p)]):=by
 refine aW.aI mix fn9 aJ ?_
 rw[c9]
 refine ba ?_
 refine aF (Ml p hp) rfl ?_
 exact ur
def Xy(l:List cu):Nat->aa:=au (fun _=> .no) 1 (.arr 0 64 3 (l.map cu.d))
theorem yq(l:List cu):Good (Xy l) 2:=Good.nil.au ae rfl
theorem rcH_1(l:List cu):Xy l 1= .arr 0 64 3 (l.map cu.d):=by unfold Xy;rw[af]
theorem TC(a b:List cu)(q:Nat):(tS a b q).length<=q:=by
 unfold tS
 have:=List.length_filterMap_le (fun p=>if(p8 a b (p/4:Nat) (p%4:Nat)).1=true then some (⟨(p/4:Nat),(p%4:Nat),(p8 a b (p/4:Nat) (p%4:Nat)).2⟩:cu)else none) (List.range q)
 simpa using this
theorem nE(a b:List cu)(ha:a.length<=1000000)(hb:b.length<=1000000):aW Tryz.prog 54 [.sl (a.map cu.d), .sl (b.map cu.d)] (.ret [.sl ((tS a b 16).map cu.d)]):=by
 refine aW.aI mix ais aJ ?_
 rw[c54]
 refine ba ?_
 refine aw (fun i:Nat=>⟨aT [.d (.sl (a.map cu.d)), .d (.sl (b.map cu.d)), .ag, .ag, .ag, .osl 1 0, .d (.i i)],Xy (tS a b (i*4)),2⟩)
  (fun i=>i<=4) (fun i=>4 - i) 0 (Nat.zero_le _) (aZ.iu (ty:=64) (sz:=3) (es:=[]) (fun _=>False) .aU 1 _ ae (fun j hj=> ?_) (by unfold Xy;rw[af];rfl) (.inl ⟨rfl,rfl,bG⟩) (fun j hj=> ?_) (fun _ h=>h.elim) ?_) (fun i hi=> ?_)
 ·exact sv (y:= .no) rfl MY (bn rfl (by simp[aa.refs]))
 ·exact MY
 ·exact lI
 replace hi:i<=4:=hi
 refine ba ?_
 refine aj (fun h1=> ?_) (fun h1=> ?_)
 ·replace h1:i<4:=by simp at h1;omega
  refine ba ?_
  refine aw (fun j:Nat=>⟨aT [.d (.sl (a.map cu.d)), .d (.sl (b.map cu.d)), .ag, .ag, .ag, .osl 1 0, .d (.i i), .d (.i j)],Xy (tS a b (i*4+j)),2⟩)
   (fun j=>j<=4) (fun j=>4 - j) 0 (Nat.zero_le _) (aZ.aV _ (show 0<=2 from ae) ae (yq _) (fun j hj=>rfl) ?_) (fun j hj=> ?_)
  ·exact bZ
  replace hj:j<=4:=hj
  refine ba ?_
  refine aj (fun h2=> ?_) (fun h2=> ?_)
  ·replace h2:j<4:=by simp at h2;omega
   have Pv:=OM a b (i*4+j)
   have e1:(i*4+j)/4=i:=ae
   have e2:(i*4+j)%4=j:=ae
   rw[e1,e2]at Pv
   have hlen:=TC a b (i*4+j)
   refine ba ?_
   refine aF (Md a b ha hb i j) rfl ?_
   cases ht:(p8 a b i j).1 with
   |true=>
    rw[if_pos ht]at Pv
    refine dY @rcH_1 ?_
    refine ai (j+1) h2 ae (aZ.iu (fun j=>j=1) (.osl 1 1) 1 _ ae (fun q hq=> ?_) (rcH_1 _) (.inr ⟨1,1,rfl,rfl, ?_⟩) (fun q hq=> ?_) (fun q h h2=>ae) ?_)
    ·exact sv (y:= .no) MY MY (bn rfl (by simp[aa.refs]))
    ·(repeat first|rfl|rw[af]|rw[ab _ _ _ _ (by omega)])
     rw[<- Nat.add_assoc,Pv,List.map_append];rfl
    ·exact MY
    ·exact lI
   |false=>
    rw[if_neg (by rw[ht];simp),List.append_nil]at Pv
    refine ba ?_
    refine ai (j+1) h2 ae (aZ.aV _ (show 0<=2 from ae) ae (yq _) (fun q hq=> ?_) ?_)
    ·rw[<- Nat.add_assoc,Pv]
    ·exact bZ
  ·have tF:j=4:=by simp at h2;omega
   subst tF
   refine ba ?_
   refine ai (i+1) h1 ae (aZ.aV _ (show 0<=2 from ae) ae (yq _) (fun q hq=> ?_) ?_)
   ·rw[show(i+1)*4=i*4+4 by omega]
   ·exact bZ
 ·have nS:i=4:=by simp at h1;omega
  subst nS
  exact s9 @rcH_1
end Go.Proofs.YtnkamdiiakdkgaaGreat
set_option pp.deepTerms true
set_option pp.maxSteps 1000000
namespace Go.Proofs.YtnkamdiiakdkgaaGreat
def cM(c:Cl):List Int:=(vz c.P1).1
structure nF (c:Cl):Prop where
 Q2:il (cM c)
 eq:c.P1=cn (cM c) 16
theorem TD:il Aq:=⟨rfl,bG⟩
theorem Qy{m:List Int}(hm:il m):vz (cn m 16)=(m,true):=by unfold vz;rw[sb hm]
theorem FI{m:List Int}(hm:il m){c:Cl}(h:c.P1=cn m 16):nF c:=by
 have e:cM c=m:=by unfold cM;rw[h,Qy hm]
 exact⟨e ▸ hm,e.symm ▸ h⟩
theorem FJ{p:Pg}(h:dJ p=true):∀c∈lq p,nF c:=by
 intro c hc
 unfold lq lG at hc
 obtain⟨n,hn,hc⟩:=List.mem_flatMap.1 hc
 cases hr:p.rules[n]? with
 |none=>rw[hr]at hc;cases hc
 |some r=>
  rw[hr]at hc
  have hk:=sL h (List.mem_of_getElem? hr)
  obtain⟨x,hx,hc⟩:=List.mem_flatMap.1 hc
  unfold wo at hc
  split at hc
  ·rename_i h4
   simp only[List.mem_singleton]at hc
   subst hc
   exact FI (Fe r.aC x.t.kids) (Fg _ _ hk.len (hk.kids (yg h) hx h4)).symm
  ·split at hc
   ·obtain⟨to,_,rfl⟩:=List.mem_map.1 hc
    exact FI TD (by rfl)
   ·cases hc
def Mr(l:List Cl)(n:Int):List Int:=match l[n.toNat]? with
 |some c=>cM c
 |none=>uS
theorem CP{l:List Cl}(hl:∀c∈l,nF c)(n:Int):il (Mr l n):=by
 unfold Mr
 split
 ·rename_i c hc;exact(hl c (List.mem_of_getElem? hc)).Q2
 ·exact r8
def FK(l:List Cl)(cy:List Int):List Int:=(cy.map (Mr l)).foldl dn uS
theorem FL(l:List Cl)(cy:List Int)(n:Int):FK l (cy++[n])=dn (FK l cy) (Mr l n):=by unfold FK;rw[List.map_append,List.foldl_append];rfl
theorem FM(l:List Cl){cy:List Int}{k:Nat}{n:Int}(h:cy[k]? =some n):FK l (cy.take (k+1))=dn (FK l (cy.take k)) (Mr l n):=by
 rw[List.take_add_one,h,Option.toList_some,FL]
theorem FN:∀ (ms:List (List Int)) (m:List Int),il m->(∀x∈ms,il x)->il (ms.foldl dn m)
 |[],m,h,_=>h
 |x::ms,m,h,h2=>FN ms _ (fQ h (h2 x aJ)) fun y hy=>h2 y mj
theorem Kc{l:List Cl}(hl:∀c∈l,nF c)(cy:List Int):il (FK l cy):=by
 unfold FK
 refine FN _ _ r8 fun x hx=> ?_
 obtain⟨n,_,rfl⟩:=List.mem_map.1 hx
 exact CP hl n
def TE(l:List Cl)(cy:List Int):Bool:=cy.all fun n=>decide (0<=n)&&decide (n<(l.length:Int))
theorem we{l:List Cl}{cy:List Int}(h:TE l cy=true){k:Nat}{n:Int}(hk:cy[k]? =some n):0<=n/\∃c,l[n.toNat]? =some c:=by
 have:=List.all_eq_true.1 h n (List.mem_of_getElem? hk)
 simp at this
 exact⟨this.1,az ae⟩
def lnk(l:List Cl)(cy:List Int)(k:Nat):Bool:=match cy[k]?,cy[(k+1)%cy.length]? with
 |some a,some b=>(match l[a.toNat]?,l[b.toNat]? with
  |some x,some y=>x.to==y.fr
  |_,_=>false)
 |_,_=>false
def aa5(l:List Cl)(cy:List Int):Bool:=(List.range cy.length).all (lnk l cy)
def HV(l:List Cl)(cy:List Int):Bool:=ft cy.length 1 40&&(TE l cy&&aa5 l cy)
theorem TF{l:List Cl}{cy:List Int}{k:Nat}(hk:k<cy.length)(h:lnk l cy k=false):aa5 l cy=false:=by
 rw[Bool.eq_false_iff]
 intro h2
 have:=List.all_eq_true.1 h2 k (List.mem_range.2 hk)
 rw[h]at this;cases this
theorem Ms{l:List cu}{k:Nat}{a:cu}(h:l[k]? =some a):mI (l.take (k+1))=(mI (l.take k)||(a.f==a.t&&a.l)):=mS h _
theorem FO(l:List cu)(hl:l.length<=1000000):aW Tryz.prog 53 [.sl (l.map cu.d)] (.ret [.bool (mI l)]):=by
 refine aW.aI mix air aJ ?_
 rw[c53]
 refine ba ?_
 refine aw (fun k:Nat=>⟨aT [.d (.sl (l.map cu.d)), .ag, .ag, .d (.i k)],fun _=> .no,0⟩)
  (fun k=>k<=l.length/\mI (l.take k)=false) (fun k=>l.length - k) 0 ⟨Nat.zero_le _,rfl⟩ (aZ.d0 _ ?_) (fun k hk=> ?_)
 ·exact bZ
 obtain⟨hk,eM⟩:=hk
 refine mW ?_
 refine aj (fun h2=> ?_) (fun h2=> ?_)
 ·simp at h2
  obtain⟨a,ha⟩:=az h2
  have fj:=Ms ha
  rw[eM,Bool.false_or]at fj
  have oD:(a.f==a.t&&a.l)=true->mI l=true:=fun h=>List.any_eq_true.2 ⟨a,List.mem_of_getElem? ha,h⟩
  cases c1:(a.f==a.t)with
  |false=>
   rw[c1,Bool.false_and]at fj
   refine cz (ak ha c1) ?_
   exact adz
  |true=>
   rw[c1,Bool.true_and]at fj oD
   cases c2:a.l with
   |false=>
    rw[c2]at fj
    refine cz (ak ha (ak c1 c2)) ?_
    exact adz
   |true=>
    rw[oD c2]
    refine cz (ak ha (ak c1 c2)) ?_
    exact ada
 ·exact Vk
theorem agJ(l:List Cl)(hl:l.length<=100000000)(cy:List Int)(mY:cy.length<=9223372036854775807):aW Tryz.prog 17 [.sl (l.map Cl.d), .sl (cy.map .i)] (.ret [.bool (HV l cy)]):=by
 refine aW.aI mix ah7 aJ ?_
 rw[c17]
 refine mW ?_
 refine aF (Qc _ _ _) rfl ?_
 unfold HV ft
 cases hib:(decide (1<=(cy.length:Int))&&decide ((cy.length:Int)<=40))with
 |false=>
  exact s9 hib
 |true=>
 have ajz:1<=cy.length/\cy.length<=40:=by
  rw[Bool.and_eq_true]at hib
  have h1:=of_decide_eq_true hib.1
  have h2:=of_decide_eq_true hib.2
  omega
 rw[Bool.true_and]
 refine cz hib ?_
 refine aw (fun k:Nat=>⟨aT [.d (.sl (l.map Cl.d)), .d (.sl (cy.map .i)), .ag, .ag, .ag, .d (.i cy.length), .d (.i k)],fun _=> .no,0⟩)
  (fun k=>k<=cy.length/\TE l (cy.take k)=true) (fun k=>cy.length - k) 0 ⟨Nat.zero_le _,rfl⟩ (aZ.d0 _ ?_) (fun k hk=> ?_)
 ·exact bZ
 obtain⟨hk,eM⟩:=hk
 refine mW ?_
 refine aj (fun h2=> ?_) (fun h2=> ?_)
 ·simp at h2
  obtain⟨x,hx⟩:=az h2
  have fj:TE l (cy.take (k+1))=(decide (0<=x)&&decide (x<(l.length:Int))):=by
   unfold TE at eM|-
   rw[List.take_add_one,hx,Option.toList_some,List.all_append,eM,Bool.true_and]
   simp
  have hle:decide (x<=(l.length:Int) - 1)=decide (x<(l.length:Int)):=by
   rw[decide_eq_decide];omega
  refine dY hx ?_
  refine aF (Qc _ _ _) rfl ?_
  rw[hle]
  cases hb:(decide (0<=x)&&decide (x<(l.length:Int)))with
  |false=>
   have fY:TE l cy=false:=by
    rw[Bool.eq_false_iff];intro h
    have:=List.all_eq_true.1 h x (List.mem_of_getElem? hx)
    rw[hb]at this;cases this
   rw[fY]
   exact s9 hb
  |true=>
   refine cz hb ?_
   refine ai (k+1) ⟨h2,fj.trans hb⟩ ae (aZ.d0 _ ?_)
   exact bZ
 ·simp at h2
  have GL:k=cy.length:=ae
  subst GL
  rw[List.take_length]at eM
  rw[eM,Bool.true_and]
  have h4:=eM
  refine ba ?_
  refine aw (fun i:Nat=>⟨aT [.d (.sl (l.map Cl.d)), .d (.sl (cy.map .i)), .ag, .ag, .ag, .d (.i cy.length), .ag, .d (.i i)],fun _=> .no,0⟩)
   (fun i=>i<=cy.length/\∀k,k<i->lnk l cy k=true) (fun i=>cy.length - i) 0 ⟨Nat.zero_le _,fun k h=>absurd h (Nat.not_lt_zero _)⟩ (aZ.d0 _ ?_) (fun i hi=> ?_)
  ·exact bZ
  obtain⟨hi,MP⟩:=hi
  refine ba ?_
  refine aj (fun h6=> ?_) (fun h6=> ?_)
  ·simp at h6
   obtain⟨n,hn⟩:=az h6
   have ai4:(i+1)%cy.length<cy.length:=Nat.mod_lt _ ae
   obtain⟨b,hb⟩:=az ai4
   obtain⟨n0,c,hc⟩:=we h4 hn
   obtain⟨b0,d,hd⟩:=we h4 hb
   obtain⟨c1,c2,c3,c4,c5,c6⟩:=c
   obtain⟨d1,d2,d3,d4,d5,d6⟩:=d
   have iz: ¬ ((cy.length:Int)=0):=ae
   have htm:((i:Int)+1).tmod (cy.length:Int)=(((i+1)%cy.length:Nat):Int):=by
    show Int.tmod (Int.ofNat (i+1)) (Int.ofNat cy.length)=_
    rfl
   have hl:lnk l cy i=(c3==d2):=by unfold lnk;rw[hn,hb];simp only;rw[hc,hd]
   simp+contextual (disch:=first|omega|simp only[go_sem,false_implies]) only[go_sem,wrap64,if_pos,hn,hc,hd,Cl.B4,List.length_map,Option.map_some,hb,if_neg iz,htm,Int.toNat_natCast]
   refine aB (aD rfl) ?_
   cases he:(c3==d2)with
   |false=>
    have aa6:(c3 !=d2)=true:=by rw[bne,he];rfl
    rw[he]at hl
    rw[TF h6 hl]
    exact s9 aa6
   |true=>
    have aa6:(c3 !=d2)=false:=by rw[bne,he];rfl
    rw[he]at hl
    refine cz aa6 ?_
    refine ai (i+1) ⟨h6,fun k hk=> ?_⟩ ae (aZ.d0 _ ?_)
    ·by_cases e:k=i
     ·rw[e];exact hl
     ·exact MP k ae
    ·exact bZ
  ·simp at h6
   have RV:i=cy.length:=ae
   subst RV
   have hlf:aa5 l cy=true:=List.all_eq_true.2 fun k hk=>MP k (List.mem_range.1 hk)
   rw[hlf]
   exact ur
theorem HW(l:List Cl)(hl:l.length<=100000000)(lB:∀c∈l,nF c)(cy:List Int)(mY:cy.length<=1000)(h0:cy≠[])(fY:TE l cy=true):aW Tryz.prog 52 [.sl (l.map Cl.d), .sl (cy.map .i)] (.ret [.sl ((cn (FK l cy) 16).map cu.d)]):=by
 refine aW.aI mix aiq aJ ?_
 rw[c52]
 have cS:0<cy.length:=List.length_pos_iff.2 h0
 obtain⟨n,hn⟩:=az cS
 obtain⟨n0,c,hc⟩:=we fY hn
 have hmc:=lB _ (List.mem_of_getElem? hc)
 obtain⟨c1,c2,c3,c4,c5,c6⟩:=c
 have h1:c6=cn (FK l (cy.take 1)) 16:=by
  have:=FM l hn
  rw[List.take_zero]at this
  rw[this,show FK l []=uS from rfl,Jn (CP lB n)]
  have e:Mr l n=cM ⟨c1,c2,c3,c4,c5,c6⟩:=by unfold Mr;rw[hc]
  rw[e];exact hmc.eq
 simp+contextual (disch:=first|omega|simp only[go_sem,false_implies]) only[go_sem,wrap64,if_pos,hn,hc,Cl.B4,Option.map_some,Int.toNat_natCast]
 rw[h1]
 refine aw (fun k:Nat=>⟨aT [.d (.sl (l.map Cl.d)), .d (.sl (cy.map .i)), .ag, .ag, .ag, .d (.sl ((cn (FK l (cy.take k)) 16).map cu.d)), .d (.i k)],fun _=> .no,0⟩)
  (fun k=>1<=k/\k<=cy.length) (fun k=>cy.length - k) 1 ⟨Nat.le_refl _,cS⟩ (aZ.d0 _ ?_) (fun k hk=> ?_)
 ·exact bZ
 obtain⟨hk1,hk⟩:=hk
 refine mW ?_
 refine aj (fun h2=> ?_) (fun h2=> ?_)
 ·simp at h2
  obtain⟨m,hm⟩:=az h2
  obtain⟨m0,d,hd⟩:=we fY hm
  have hmd:=lB _ (List.mem_of_getElem? hd)
  obtain⟨d1,d2,d3,d4,d5,d6⟩:=d
  have hwt:=FM l hm
  have e:Mr l m=cM ⟨d1,d2,d3,d4,d5,d6⟩:=by unfold Mr;rw[hd]
  have hd6:d6=cn (Mr l m) 16:=by rw[e];exact hmd.eq
  have hrc:=pK (Kc lB (cy.take k)) (CP lB m)
  rw[<- hwt, <- hd6]at hrc
  have l1:=eK (FK l (cy.take k)) 16
  have l2:d6.length<=16:=by rw[hd6];exact eK _ _
  simp+contextual (disch:=first|omega|simp only[go_sem,false_implies]) only[go_sem,wrap64,if_pos,hm,hd,Cl.B4,Option.map_some]
  have Qz:=nE (cn (FK l (cy.take k)) 16) d6 ae ae
  rw[hrc]at Qz
  refine br Qz ?_
  refine ba ?_
  refine ai (k+1) ⟨ae,h2⟩ ae (aZ.d0 _ ?_)
  exact bZ
 ·simp at h2
  rw[List.take_of_length_le h2]
  exact ur
theorem FP(l:List Cl)(hl:l.length<=100000000)(lB:∀c∈l,nF c)(cy:List Int)(mY:cy.length<=1000)(h0:cy≠[])(fY:TE l cy=true):aW Tryz.prog 18 [.sl (l.map Cl.d), .sl (cy.map .i)] (.ret [.bool (qq (FK l cy))]):=by
 have hm:=Kc lB cy
 refine aW.aI mix ah8 aJ ?_
 rw[c18, <- LA hm]
 refine ba ?_
 refine br (HW l hl lB cy mY h0 fY) ?_
 refine ba ?_
 generalize FK l cy=m at hm|-
 refine aw (fun k:Nat=>⟨aT [.ag, .ag, .ag, .ag, .ag, .d (.sl ((cn m 16).map cu.d)), .d (.sl ((cn (qp m k) 16).map cu.d)), .d (.i k)],fun _=> .no,0⟩)
  (fun k=>k<=4/\sd (cn m 16) 4 (cn m 16)=sd (cn m 16) (4 - k) (cn (qp m k) 16)) (fun k=>4 - k) 0 ⟨Nat.zero_le _,rfl⟩ (aZ.d0 _ ?_) (fun k hk=> ?_)
 ·exact bZ
 obtain⟨hk,eM⟩:=hk
 refine ba ?_
 refine aj (fun h2=> ?_) (fun h2=> ?_)
 ·replace h2:k<4:=by simp at h2;omega
  have fj:sd (cn m 16) (4 - k) (cn (qp m k) 16)=(mI (cn (qp m k) 16)||sd (cn m 16) (4 - (k+1)) (tS (cn (qp m k) 16) (cn m 16) 16)):=by
   rw[show 4 - k=(4 - (k+1))+1 by omega];rfl
  rw[fj,pK (nu hm k) hm]at eM
  have l1:=eK (qp m k) 16
  have l2:=eK m 16
  refine ba ?_
  refine aF (FO _ ae) rfl ?_
  cases hf:mI (cn (qp m k) 16)with
  |true=>
   rw[hf,Bool.true_or]at eM
   rw[eM]
   exact ur
  |false=>
   rw[hf,Bool.false_or]at eM
   refine ba ?_
   have Qz:=nE (cn (qp m k) 16) (cn m 16) ae ae
   rw[pK (nu hm k) hm]at Qz
   refine br Qz ?_
   refine ba ?_
   refine ai (k+1) ⟨h2,eM⟩ ae (aZ.d0 _ ?_)
   exact bZ
 ·have tF:k=4:=by simp at h2;omega
  subst tF
  rw[eM]
  refine ba ?_
  rfl
end Go.Proofs.YtnkamdiiakdkgaaGreat
namespace Go.Proofs.YtnkamdiiakdkgaaGreat
structure bI where
 f:Int
 t:Int
 m:List Int
 deriving DecidableEq
def jH(g x:bI):bI:=⟨g.f,x.t,dn g.m x.m⟩
def C6(c:Cl):bI:=⟨c.fr,c.to,cM c⟩
abbrev GS:=List (bI×List Int)
def gs(s:GS):List bI:=s.map Prod.fst
def q9(s:GS)(g:bI)(c:List Int):Option GS:=if g∈gs s then some s else if s.length=500 then none else some (s++[(g,c)])
def zw(g:bI)(cg:List Int)(o:Option GS)(x:bI×List Int):Option GS:=o.bind fun s=>if g.t=x.1.f then q9 s (jH g x.1) (cg++x.2)else some s
def Kd(fs:GS)(g:bI)(cg:List Int)(s:GS):Option GS:=fs.foldl (zw g cg) (some s)
def Ro(fs:GS)(o:Option GS)(i:Nat):Option GS:=o.bind fun s=>match s[i]? with
 |some x=>Kd fs x.1 x.2 s
 |none=>some s
def yr(fs:GS)(n:Nat):Option GS:=(List.range n).foldl (Ro fs) (some fs)
def zx(l:List Cl)(s:GS)(n:Int):GS:=match l[n.toNat]? with
 |some c=>if C6 c∈gs s then s else s++[(C6 c,[n])]
 |none=>s
def fT(l:List Cl)(ns:List Int):GS:=ns.foldl (zx l) []
def lu(l:List bI)(g:bI):List bI:=if g∈l then l else l++[g]
def nZ(g:bI)(o:List bI)(x:bI):List bI:=if o.length<=500 then(if g.t=x.f then lu o (jH g x)else o)else o
def Ke(fs:List bI)(o:List bI)(i:Nat):List bI:=if o.length<=500 then(match o[i]? with
 |some g=>fs.foldl (nZ g) o
 |none=>o)else o
def lx(l:List Cl):List bI:=l.foldl (fun o c=>lu o (C6 c)) []
def ly(fs:List bI)(n:Nat):List bI:=(List.range n).foldl (Ke fs) fs
def vF(s:Option GS)(o:List bI):Prop:=match s with
 |some s=>gs s=o/\o.length<=500
 |none=>500<o.length
theorem iR(s:GS):(gs s).length=s.length:=List.length_map _
theorem TG{s:GS}{o:List bI}(h:vF (some s) o)(g:bI)(c:List Int):vF (q9 s g c) (lu o g):=by
 obtain⟨h1,h2⟩:=h
 unfold q9 lu
 rw[h1]
 by_cases hg:g∈o
 ·rw[if_pos hg,if_pos hg];exact⟨h1,h2⟩
 ·rw[if_neg hg,if_neg hg]
  have hl:s.length=o.length:=by rw[<- h1,iR]
  by_cases h5:s.length=500
  ·rw[if_pos h5];show 500<_;rw[List.length_append,List.length_singleton];omega
  ·rw[if_neg h5]
   refine⟨by unfold gs;rw[List.map_append];show gs s++[g]=_;rw[h1], ?_⟩
   exact M9
theorem aa7{s:Option GS}{o:List bI}(h:vF s o)(g:bI)(cg:List Int)(x:bI×List Int):vF (zw g cg s x) (nZ g o x.1):=by
 cases s with
 |none=>have h:500<o.length:=h;unfold nZ;rw[if_neg (by omega)];exact h
 |some s=>
  unfold nZ zw
  rw[if_pos h.2,Option.bind_some]
  by_cases e:g.t=x.1.f
  ·rw[if_pos e,if_pos e];exact TG h _ _
  ·rw[if_neg e,if_neg e];exact h
theorem Kg(g:bI)(cg:List Int):∀ (fs:GS) {s:Option GS} {o:List bI},vF s o->vF (fs.foldl (zw g cg) s) ((gs fs).foldl (nZ g) o)
 |[],_,_,h=>h
 |x::fs,_,_,h=>Kg g cg fs (aa7 h g cg x)
theorem TH{s:Option GS}{o:List bI}(h:vF s o)(fs:GS)(i:Nat):vF (Ro fs s i) (Ke (gs fs) o i):=by
 cases s with
 |none=>have h:500<o.length:=h;unfold Ke;rw[if_neg (by omega)];exact h
 |some s=>
  obtain⟨h1,h2⟩:=h
  unfold Ke Ro
  rw[if_pos h2,Option.bind_some, <- h1]
  unfold gs
  rw[List.getElem?_map]
  cases s[i]? with
  |none=>exact⟨rfl,by rw[<- gs,h1];exact h2⟩
  |some x=>exact Kg x.1 x.2 fs ⟨rfl,by rw[<- gs,h1];exact h2⟩
theorem FQ(fs:GS):∀ (is:List Nat) {s:Option GS} {o:List bI},vF s o->vF (is.foldl (Ro fs) s) (is.foldl (Ke (gs fs)) o)
 |[],_,_,h=>h
 |i::is,_,_,h=>FQ fs is (TH h fs i)
theorem Mt{fs:GS}(h:fs.length<=500)(n:Nat):vF (yr fs n) (ly (gs fs) n):=FQ fs _ ⟨rfl,by rw[iR];exact h⟩
def pkF(l:List Cl)(ns:List Int):List Cl:=ns.filterMap fun n=>l[n.toNat]?
theorem CQ(l:List Cl):∀ (ns:List Int) (s:GS),gs (ns.foldl (zx l) s)=(pkF l ns).foldl (fun o c=>lu o (C6 c)) (gs s)
 |[],s=>rfl
 |n::ns,s=>by
  rw[List.foldl_cons,CQ l ns]
  unfold pkF
  rw[List.filterMap_cons]
  unfold zx
  cases l[n.toNat]? with
  |none=>rfl
  |some c=>
   show _=List.foldl _ (lu (gs s) (C6 c)) _
   congr 1
   unfold lu
   by_cases h:C6 c∈gs s
   ·simp only[if_pos h]
   ·simp only[if_neg h];unfold gs;rw[List.map_append];rfl
theorem wg(l:List Cl):∀ (ns:List Int) (s:GS),(ns.foldl (zx l) s).length<=s.length+ns.length
 |[],s=>aJ
 |n::ns,s=>by
  rw[List.foldl_cons]
  refine Nat.le_trans (wg l ns _) ?_
  have:(zx l s n).length<=s.length+1:=by
   unfold zx
   split
   ·split
    ·omega
    ·rw[List.length_append];exact Nat.le_refl _
   ·omega
  rw[List.length_cons];omega
theorem FR(fs:GS){s:GS}:∀ (is:List Nat),(∀i∈is,s.length<=i)->is.foldl (Ro fs) (some s)=some s
 |[],_=>rfl
 |i::is,h=>by
  rw[List.foldl_cons]
  have:Ro fs (some s) i=some s:=by
   unfold Ro
   rw[Option.bind_some,List.getElem?_eq_none (h i (by simp))]
  rw[this];exact FR fs is fun j hj=>h j (by simp[hj])
theorem A3(fs:GS):∀ (is:List Nat),is.foldl (Ro fs) none=none
 |[]=>rfl
 |_::is=>A3 fs is
theorem yu(g:bI)(cg:List Int):∀ (fs:GS),fs.foldl (zw g cg) none=none
 |[]=>rfl
 |_::fs=>yu g cg fs
theorem FT(fs:List bI){o:List bI}:∀ (is:List Nat),(∀i∈is,o.length<=i\/500<o.length)->is.foldl (Ke fs) o=o
 |[],_=>rfl
 |i::is,h=>by
  rw[List.foldl_cons]
  have:Ke fs o i=o:=by
   unfold Ke
   split
   ·rename_i h5
    rcases h i aJ with g|g
    ·rw[List.getElem?_eq_none g]
    ·omega
   ·rfl
  rw[this];exact FT fs is fun j hj=>h j (by simp[hj])
theorem pq{n m:Nat}(h:n<=m):List.range m=List.range n++List.range' n (m - n):=by
 have:=List.range'_append (s:=0) (m:=n) (n:=m - n) (step:=1)
 simp only[Nat.one_mul,Nat.zero_add]at this
 rw[List.range_eq_range',List.range_eq_range',this];congr 1;omega
theorem Mu{fs s:GS}{n m:Nat}(h:yr fs n=some s)(hn:s.length<=n)(hm:n<=m):yr fs m=some s:=by
 unfold yr at h|-
 rw[pq hm,List.foldl_append,h]
 exact FR fs _ fun i hi=>by have:=List.mem_range'_1.1 hi;omega
theorem TI{fs:GS}{n m:Nat}(h:yr fs n=none)(hm:n<=m):yr fs m=none:=by
 unfold yr at h|-
 rw[pq hm,List.foldl_append,h,A3]
theorem A4{fs o:List bI}{n m:Nat}(h:ly fs n=o)(hn:o.length<=n\/500<o.length)(hm:n<=m):ly fs m=o:=by
 unfold ly at h|-
 rw[pq hm,List.foldl_append,h]
 exact FT fs _ fun i hi=>by have:=List.mem_range'_1.1 hi;omega
theorem uj(fs:GS)(n:Nat):yr fs (n+1)=Ro fs (yr fs n) n:=by unfold yr;rw[List.range_succ,List.foldl_append];rfl
theorem uk(fs:List bI)(n:Nat):ly fs (n+1)=Ke fs (ly fs n) n:=by unfold ly;rw[List.range_succ,List.foldl_append];rfl
theorem QA{fs:GS}{g:bI}{cg:List Int}{s:GS}{k:Nat}{x:bI×List Int}(h:fs[k]? =some x):Kd (fs.take (k+1)) g cg s=zw g cg (Kd (fs.take k) g cg s) x:=by
 unfold Kd;rw[List.take_add_one,h,List.foldl_append];rfl
theorem Mv{l:List Cl}{ns:List Int}{k:Nat}{n:Int}(h:ns[k]? =some n):fT l (ns.take (k+1))=zx l (fT l (ns.take k)) n:=by
 unfold fT;rw[List.take_add_one,h,List.foldl_append];rfl
end Go.Proofs.YtnkamdiiakdkgaaGreat
