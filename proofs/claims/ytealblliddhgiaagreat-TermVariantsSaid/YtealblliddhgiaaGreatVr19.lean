/-
  A PART OF THE PROOF. Conditions: none.
-/
import Derived.Test.YtealblliddhgiaaGreatVr18
set_option linter.unusedSimpArgs false
set_option linter.unusedVariables false
namespace Go.Proofs.YtealblliddhgiaaGreat
def B1:IC:=Jg.snd.snd.snd.snd.snd.snd.fst.snd.fst
def JE:IC:=B1.snd.snd.fst.snd.fst.fst
def JF:IC:=B1.snd.snd.snd.fst.snd.fst.fst
theorem Q7{b:List (Int×Tm)}(hb:HX b){o:Nat->ae}{e:Nat->V}{Q:e9->S->Prop}{c tid it:Nat}{s0:List Int}(hc:29<=c)(ht:tid<c)(hi:it<c)(hn:tid≠it)
 (hg:Good o c) (ot:o tid=lQ s0) (qh:s0.Nodup) (oi:o it= .kg (enc (D.int .i64) (tO b)) none)
 (he:eg c e [.d (wF b), .aa, .aa, .ptr 0 0, .ptr 1 0, .ptr 13 0, .mp 15, .ptr 20 0, .aa, .aa, .aa, .aa, .mp tid, .aa, .aa, .aa, .aa, .aa, .aa, .aa, .aa, .aa, .aa, .aa, .aa, .aa, .aa, .aa, .aa, .aa, .aa, .aa, .aa, .aa, .aa, .aa, .aa, .aa, .aa, .aa, .aa, .aa, .aa, .aa, .aa, .aa, .aa, .aa, .aa, .aa, .aa, .aa, .aa, .aa, .aa, .aa, .aa, .aa, .aa, .aa, .aa, .aa, .aa, .aa, .aa, .aa, .ptr it 0] 0)
 (hQ:∀e' o' nx' s',e' 0= .d (wF b)->e' 3= .ptr 0 0->e' 4= .ptr 1 0->e' 5= .ptr 13 0->e' 6= .mp 15->e' 7= .ptr 20 0->e' 12= .mp tid->c<=nx'->Good o' nx'->(∀j,j<c->j≠tid->j≠it->o' j=o j)->o' tid=lQ s'->(∀v,v∈s'↔v∈s0\/∃p∈b,v=p.1\/v∈rb p.2)->Q (.exit 2) ⟨e',o',nx'⟩):
 jI 0 (fun Q s=>jZ Tryz.prog 102 0 false JE Q s) Q ⟨e,o,c⟩:=by
 have zF:it≠tid:=fun h=>hn h.symm
 refine bn (fun i:List (Int×Tm)×List Int×Option (D×D)=>⟨bF [.d (wF b), .aa, .aa, .ptr 0 0, .ptr 1 0, .ptr 13 0, .mp 15, .ptr 20 0, .aa, .aa, .aa, .aa, .mp tid, .aa, .aa, .aa, .aa, .aa, .aa, .aa, .aa, .aa, .aa, .aa, .aa, .aa, .aa, .aa, .aa, .aa, .aa, .aa, .aa, .aa, .aa, .aa, .aa, .aa, .aa, .aa, .aa, .aa, .aa, .aa, .aa, .aa, .aa, .aa, .aa, .aa, .aa, .aa, .aa, .aa, .aa, .aa, .aa, .aa, .aa, .aa, .aa, .aa, .aa, .aa, .aa, .aa, .ptr it 0],ao (ao o tid (lQ i.2.1)) it (.kg (enc (D.int .i64) (tO i.1)) i.2.2),c⟩)
  (fun i=>i.2.1.Nodup/\(∀p∈i.1,p∈b)/\∀v,(v∈i.2.1\/∃p∈i.1,v=p.1\/v∈rb p.2)↔(v∈s0\/∃p∈b,v=p.1\/v∈rb p.2)) (fun i=>i.1.length) (b,s0,none) ⟨qh,fun _ h=>h,fun _=>Iff.rfl⟩ ?_ ?_
 ·dsimp only
  refine cq.cN _ (by omega) (Nat.le_refl _) ?_ (fun j hj=> ?_) he
  ·exact(by repeat(first|exact hg.mono (by omega)|exact Good.nil|refine Good.ao ?_ (by omega) rfl|refine Good.ao ?_ (by omega) (dK _ _ _ (by omega))|refine Good.ao ?_ (by omega) (by simp[ae.refs,V.ag,V.refs]<;>omega)))
  ·by_cases e1:j=it
   ·subst e1;rw[ab];exact oi
   ·rw[ad _ _ _ _ e1]
    by_cases e2:j=tid
    ·subst e2;rw[ab];exact ot
    ·rw[ad _ _ _ _ e2]
 rintro⟨rest,s,last⟩ ⟨hs,dT,hv⟩
 replace hs:s.Nodup:=hs
 replace dT:∀p∈rest,p∈b:=dT
 replace hv:∀v,(v∈s\/∃p∈rest,v=p.1\/v∈rb p.2)↔(v∈s0\/∃p∈b,v=p.1\/v∈rb p.2):=hv
 have w1:∀k,tid≠c+k:=fun k=>by omega
 have w2:∀k,it≠c+k:=fun k=>by omega
 have w3:tid≠c:=by omega
 have w4:it≠c:=by omega
 dsimp only
 simp only[JE,B1,Jg,IC.snd,IC.fst]
 simp+contextual (disch:=first|omega|simp only[go_sem,false_implies]) only[go_sem,wrap64,if_pos,hn,zF,w1,w2,w3,w4,Nat.add_assoc,Nat.left_eq_add,Nat.add_eq_left,Nat.add_left_cancel_iff]
 refine u5 (fun hr=> ?_) fun i k x hm=> ?_
 ·subst hr
  simp+contextual (disch:=first|omega|simp only[go_sem,false_implies]) only[go_sem,wrap64,if_pos,and_self]
  refine hQ _ _ _ s ?_ ?_ ?_ ?_ ?_ ?_ ?_ ?_ ?_ (fun j g1 g2 g3=> ?_) ?_ (fun v=> ?_)
  ·rfl
  ·rfl
  ·rfl
  ·rfl
  ·rfl
  ·rfl
  ·rfl
  ·omega
  ·exact(by repeat(first|exact hg.mono (by omega)|exact Good.nil|refine Good.ao ?_ (by omega) rfl|refine Good.ao ?_ (by omega) (dK _ _ _ (by omega))|refine Good.ao ?_ (by omega) (by simp[ae.refs,V.ag,V.refs]<;>omega)))
  ·(repeat(first|rfl|rw[ab]|rw[ad _ _ _ _ (by omega)]))
  ·(repeat(first|rfl|rw[ab]|rw[ad _ _ _ _ (by omega)]))
  ·rw[<- hv v]
   simp
 ·have MM:=List.mem_of_getElem? hm
  have Yy:x.sz<=1000:=hb.sz _ (dT _ MM)
  have Zb:=Tm.pZ x
  simp+contextual (disch:=first|omega|simp only[go_sem,false_implies]) only[go_sem,wrap64,if_pos,hn,zF,w1,w2,w3,w4,Nat.add_assoc,Nat.left_eq_add,Nat.add_eq_left,Nat.add_left_cancel_iff]
  refine gK (sX x (Tm.lG x (by omega)) (by omega) _ _ tid (sR s k) ?_ ?_ (ly _ hs) _ _ fun o2 n2 s2 m1 m2 m3 m4 m5=> ?_)
  ·exact(by repeat(first|exact hg.mono (by omega)|exact Good.nil|refine Good.ao ?_ (by omega) rfl|refine Good.ao ?_ (by omega) (dK _ _ _ (by omega))|refine Good.ao ?_ (by omega) (by simp[ae.refs,V.ag,V.refs]<;>omega)))
  ·(repeat(first|rfl|rw[ab]|rw[ad _ _ _ _ (by omega)]))
  simp+contextual (disch:=first|omega|simp only[go_sem,false_implies]) only[go_sem,wrap64,if_pos,and_self]
  have hlen:(rest.eraseIdx i).length<rest.length:=by
   obtain⟨hi,_⟩:=List.getElem?_eq_some_iff.1 hm
   rw[List.length_eraseIdx];simp[hi];omega
  have MY:((k,x)::rest.eraseIdx i).Perm rest:=sT hm
  refine aE (rest.eraseIdx i,s2,some (.int .i64 k,x.d)) ⟨m5.1,fun p hp=>dT p (MY.mem_iff.1 (List.mem_cons_of_mem _ hp)),fun v=> ?_⟩ hlen (cq.cN _ (by omega) (by omega) ?_ (fun j hj=> ?_) ?_)
  ·show(v∈s2\/∃p∈rest.eraseIdx i,v=p.1\/v∈rb p.2)↔_
   rw[<- hv v,m5.2 v,o9]
   constructor
   ·rintro(((h|rfl)|h)|⟨p,hp,h⟩)
    ·exact .inl h
    ·exact .inr ⟨(v,x),MM, .inl rfl⟩
    ·exact .inr ⟨(k,x),MM, .inr h⟩
    ·exact .inr ⟨p,MY.mem_iff.1 (List.mem_cons_of_mem _ hp),h⟩
   ·rintro(h|⟨p,hp,h⟩)
    ·exact .inl (.inl (.inl h))
    ·rcases List.mem_cons.1 (MY.mem_iff.2 hp)with rfl|hp
     ·rcases h with h|h
      ·exact .inl (.inl (.inr h))
      ·exact .inl (.inr h)
     ·exact .inr ⟨p,hp,h⟩
  ·dsimp only;exact(by repeat(first|exact hg.mono (by omega)|exact Good.nil|refine Good.ao ?_ (by omega) rfl|refine Good.ao ?_ (by omega) (dK _ _ _ (by omega))|refine Good.ao ?_ (by omega) (by simp[ae.refs,V.ag,V.refs]<;>omega)))
  ·dsimp only
   by_cases e1:j=it
   ·subst e1;rw[m3 _ (by omega) zF];(repeat(first|rfl|rw[ab]|rw[ad _ _ _ _ (by omega)]))
   ·by_cases e2:j=tid
    ·subst e2;rw[m4];(repeat(first|rfl|rw[ab]|rw[ad _ _ _ _ (by omega)]))
    ·rw[m3 _ (by omega) e2];(repeat(first|rfl|rw[ab]|rw[ad _ _ _ _ (by omega)]))
  ·(repeat(first|exact aw|refine aq ?_|refine ah rfl ?_|refine ah (aV (aU (by omega))) ?_|refine aF rfl (by simp[V.refs,V.ag]<;>first|omega|assumption) ?_))
theorem Q8{b:List (Int×Tm)}{o:Nat->ae}{e:Nat->V}{Q:e9->S->Prop}{c tid:Nat}{s taken:List Int}{vs:V}(hc:29<=c)(ht:tid<c)(W2:29<=tid)
 (hg:Good o c) (ot:o tid=lQ s) (hm:∀v,v∈s↔v∈taken) (hlen:taken.length<=1000000000) (oo:o 13= .row [.d (.i 8), .d (.i 0), .osl 11 0])
 (he:eg c e [.d (wF b), .aa, .aa, .ptr 0 0, .ptr 1 0, .ptr 13 0, .mp 15, .ptr 20 0, .aa, .aa, .aa, .aa, .mp tid] 0)
 (hQ:∀e' o' nx',e' 0= .d (wF b)->e' 3= .ptr 0 0->e' 4= .ptr 1 0->e' 5= .ptr 13 0->e' 6= .mp 15->e' 7= .ptr 20 0->c<=nx'->Good o' nx'->(∀j,j<c->j≠13->o' j=o j)->o' 13= .row [.d (.i 8), .d (.i (ey taken)), .osl 11 0]->Q (.exit 4) ⟨e',o',nx'⟩):
 jI 0 (fun Q s=>jZ Tryz.prog 102 0 false JF Q s) Q ⟨e,o,c⟩:=by
 obtain⟨m,Nl,Ig,uh,Zc⟩:=jN taken
 refine bn (fun i:Nat=>⟨bF [.d (wF b), .aa, .aa, .ptr 0 0, .ptr 1 0, .ptr 13 0, .mp 15, .ptr 20 0, .aa, .aa, .aa, .aa, .mp tid],ao o 13 (.row [.d (.i 8), .d (.i (i:Int)), .osl 11 0]),c⟩)
  (fun i=>i<=m) (fun i=>m - i) 0 (Nat.zero_le _) ?_ ?_
 ·refine cq.cN _ (by omega) (Nat.le_refl _) ?_ (fun j hj=> ?_) he
  ·exact(by repeat(first|exact hg.mono (by omega)|exact Good.nil|refine Good.ao ?_ (by omega) rfl|refine Good.ao ?_ (by omega) (dK _ _ _ (by omega))|refine Good.ao ?_ (by omega) (by simp[ae.refs,V.ag,V.refs]<;>omega)))
  ·by_cases e1:j=13
   ·subst e1;rw[ab];exact oo
   ·rw[ad _ _ _ _ e1]
 rintro i hi
 replace hi:i<=m:=hi
 have w3:tid≠13:=by omega
 have w4:(13:Nat)≠tid:=by omega
 simp only[JF,B1,Jg,IC.snd,IC.fst]
 simp+contextual (disch:=first|omega|simp only[go_sem,false_implies]) only[go_sem,wrap64,if_pos,ot,w3,w4,Nat.add_assoc,Nat.left_eq_add,Nat.add_eq_left,Nat.add_left_cancel_iff]
 refine ax (fun h2=> ?_) (fun h2=> ?_)
 ·have nB:(i:Int)∈taken:=(hm _).1 (by simpa using h2)
  have bL:i<m:=by
   rcases Nat.lt_or_eq_of_le hi with h|h
   ·exact h
   ·subst h;exact absurd nB Ig
  simp+contextual (disch:=first|omega|simp only[go_sem,false_implies]) only[go_sem,wrap64,if_pos,ot,w3,w4,Nat.add_assoc,Nat.left_eq_add,Nat.add_eq_left,Nat.add_left_cancel_iff]
  refine aE (i+1) bL (by omega) (cq.cN _ (by omega) (by omega) ?_ (fun j hj=> ?_) ?_)
  ·exact(by repeat(first|exact hg.mono (by omega)|exact Good.nil|refine Good.ao ?_ (by omega) rfl|refine Good.ao ?_ (by omega) (dK _ _ _ (by omega))|refine Good.ao ?_ (by omega) (by simp[ae.refs,V.ag,V.refs]<;>omega)))
  ·by_cases e1:j=13
   ·subst e1;(repeat(first|rfl|rw[ab]|rw[ad _ _ _ _ (by omega)]))
   ·(repeat(first|rfl|rw[ab]|rw[ad _ _ _ _ (by omega)]))
  ·(repeat(first|exact aw|refine aq ?_|refine ah rfl ?_|refine ah (aV (aU (by omega))) ?_|refine aF rfl (by simp[V.refs,V.ag]<;>first|omega|assumption) ?_))
 ·have nB:(i:Int)∉taken:=fun h=>by
   have:=(hm _).2 h
   have h3:s.contains (i:Int)=true:=List.contains_iff_mem.2 this
   rw[h3]at h2
   cases h2
  have YB:i=m:=by
   rcases Nat.lt_or_eq_of_le hi with h|h
   ·exact absurd (uh i h) nB
   ·exact h
  simp+contextual (disch:=first|omega|simp only[go_sem,false_implies]) only[go_sem,wrap64,if_pos,and_self]
  refine hQ _ _ _ ?_ ?_ ?_ ?_ ?_ ?_ ?_ ?_ (fun j g1 g2=> ?_) ?_
  ·rfl
  ·rfl
  ·rfl
  ·rfl
  ·rfl
  ·rfl
  ·omega
  ·exact(by repeat(first|exact hg.mono (by omega)|exact Good.nil|refine Good.ao ?_ (by omega) rfl|refine Good.ao ?_ (by omega) (dK _ _ _ (by omega))|refine Good.ao ?_ (by omega) (by simp[ae.refs,V.ag,V.refs]<;>omega)))
  ·(repeat(first|rfl|rw[ab]|rw[ad _ _ _ _ (by omega)]))
  ·rw[Nl, <- YB];(repeat(first|rfl|rw[ab]|rw[ad _ _ _ _ (by omega)]))
end Go.Proofs.YtealblliddhgiaaGreat
namespace Go.Proofs.YtealblliddhgiaaGreat
theorem Gb{t:Tm}(hw:t.wf)(hz:t.sz<=1000)(h8:t.op=8)(ih:∀t':Tm,t'.wf->t'.sz<=1000->t'.cc<t.cc->DH t')(b:List (Int×Tm))(hb:HX b):
 cj Tryz.prog 91 [wF b,t.d] (.ret [(bA t.cc b t).d]):=by
 have ig:=(Tm.gw t).1 hw
 obtain⟨a,body,hk⟩:=lC (ig.2.1 h8)
 have ha:a∈t.kids:=by rw[hk];simp
 have j6:body∈t.kids:=by rw[hk];simp
 have g1:=Tm.dc ha
 have g2:=Tm.dc j6
 have s1:=Tm.s8 ha
 have s2:=Tm.s8 j6
 have e1:(t.kids.map Tm.d)[0]? =some a.d:=by rw[hk];rfl
 have e2:(t.kids.map Tm.d)[1]? =some body.d:=by rw[hk];rfl
 refine cj.bt mix Pw (by simp) ?_
 rw[Jg]
 simp+contextual (disch:=first|omega|simp only[go_sem,false_implies]) only[go_sem,wrap64,if_pos,e1,e2]
 refine fC (ih a (ig.2.2 a ha) (by omega) (by omega) b hb) ?_
 simp+contextual (disch:=first|omega|simp only[go_sem,false_implies]) only[go_sem,wrap64,if_pos,and_self]
 refine aP (by decide) ?_
 simp+contextual (disch:=first|omega|simp only[go_sem,false_implies]) only[go_sem,wrap64,if_pos,e1,e2]
 refine aP (by decide) ?_
 simp+contextual (disch:=first|omega|simp only[go_sem,false_implies]) only[go_sem,wrap64,if_pos,and_self]
 refine bM (yN body (Tm.lG body (by omega))) ?_
 simp+contextual (disch:=first|omega|simp only[go_sem,false_implies]) only[go_sem,wrap64,if_pos,and_self]
 refine Q6 (t:=t) (body:=body) hb (by repeat(first|exact hg.mono (by omega)|exact Good.nil|refine Good.ao ?_ (by omega) rfl|refine Good.ao ?_ (by omega) (dK _ _ _ (by omega))|refine Good.ao ?_ (by omega) (by simp[ae.refs,V.ag,V.refs]<;>omega))) (by(repeat(first|rfl|rw[ab]|rw[ad _ _ _ _ (by omega)]))) (by(repeat(first|rfl|rw[ab]|rw[ad _ _ _ _ (by omega)]))) ?_ ?_ fun e' o' nx' jQ q0 q3 q4 q5 q6 q7 q9 m1 hg m3 m4 hp=> ?_
 ·rw[ab,jM]
 ·(repeat(first|exact aw|refine aq ?_|refine ah rfl ?_|refine ah (aV (aU (by omega))) ?_|refine aF rfl (by simp[V.refs,V.ag]<;>first|omega|assumption) ?_))
 have p0:o' 0= .row t.row:=by rw[m3 0 (by decide) (by decide) (by decide)];(repeat(first|rfl|rw[ab]|rw[ad _ _ _ _ (by omega)]))
 have p1:o' 1= .row [.d (.i 0), .d (.i 0), .aX]:=by rw[m3 1 (by decide) (by decide) (by decide)];(repeat(first|rfl|rw[ab]|rw[ad _ _ _ _ (by omega)]))
 have Q9:o' 11= .arr 0 28 3 [(bA a.cc b a).d, .agg [.i 0, .i 0, .sl []]]:=by rw[m3 11 (by decide) (by decide) (by decide)];(repeat(first|rfl|rw[ab]|rw[ad _ _ _ _ (by omega)]))
 have Ra:o' 13= .row [.d (.i 8), .d (.i t.n), .osl 11 0]:=by rw[m3 13 (by decide) (by decide) (by decide)];(repeat(first|rfl|rw[ab]|rw[ad _ _ _ _ (by omega)]))
 have Rb:o' 20= .row body.row:=by rw[m3 20 (by decide) (by decide) (by decide)];(repeat(first|rfl|rw[ab]|rw[ad _ _ _ _ (by omega)]))
 have Rc:HX (cg jQ t.n):=by
  have zY:(cg jQ t.n).Perm (cg b t.n):=hp.filter _
  have dT:∀p∈cg jQ t.n,p∈b:=fun p GS=>(List.mem_filter.1 (zY.mem_iff.1 GS)).1
  refine⟨(zY.map _).nodup_iff.2 (lD _ hb.keys), ?_,fun p h=>hb.sz p (dT p h),fun p h=>hb.cp p (dT p h)⟩
  rw[zY.length_eq]
  exact Nat.le_trans (List.length_filter_le _ _) hb.len
 have JG:∀f x,bA f (cg jQ t.n) x=bA f (cg b t.n) x:=fun f x=>kK f x ((((hp.filter _).map _).nodup_iff).2 (lD _ hb.keys)) (hp.filter _)
 have Zd:15≠nx':=by omega
 cases hc:lB (cg b t.n) body t.n with
 |false=>
  rw[hc]at q9
  simp+contextual (disch:=first|omega|simp only[go_sem,false_implies]) only[go_sem,wrap64,if_pos,q0,q3,q4,q5,q6,q7,q9,p0,p1,Q9,Ra,Rb,m4]
  have qH:bA t.cc b t= .mk 8 t.n [bA a.cc b a,bA body.cc (cg jQ t.n) body]:=by
   have hh:t.cc=Tm.dF t.kids+1:=by rw[Tm.dg];omega
   generalize Tm.dF t.kids=f at hh
   rw[JG,hh]
   simp only[bA]
   rw[if_neg (by omega),if_pos h8,hk]
   simp only[hc,Bool.false_eq_true,if_false]
   rw[dH _ a.cc a b (ig.2.2 a ha) (by omega) (Nat.le_refl _),dH _ body.cc body _ (ig.2.2 body j6) (by omega) (Nat.le_refl _)]
  refine fC (ih body (ig.2.2 body j6) (by omega) (by omega) _ Rc) ?_
  simp+contextual (disch:=first|omega|simp only[go_sem,false_implies]) only[go_sem,wrap64,if_pos,q0,q3,q4,q5,q6,q7,q9,p0,p1,Q9,Ra,Rb,m4]
  refine aP (by decide) ?_
  rw[qH]
  simp+contextual (disch:=first|omega|simp only[go_sem,false_implies]) only[go_sem,wrap64,if_pos,q0,q3,q4,q5,q6,q7,q9,p0,p1,Q9,Ra,Rb,m4,List.set_cons_succ,List.set_cons_zero]
  rw[Tm.pO]
  rfl
 |true=>
  rw[hc]at q9
  have Ze:=Tm.pZ t
  simp+contextual (disch:=first|omega|simp only[go_sem,false_implies]) only[go_sem,wrap64,if_pos,q0,q3,q4,q5,q6,q7,q9,p0,p1,Q9,Ra,Rb,m4,Nat.add_assoc,Nat.left_eq_add,Nat.add_eq_left,Nat.add_left_cancel_iff]
  refine gK (sX t (Tm.lG t (by omega)) (by omega) _ _ (nx'+1) [] ?_ ?_ List.nodup_nil _ _ fun o2 n2 s2 r1 r2 r3 r4 r5=> ?_)
  ·exact(by repeat(first|exact hg.mono (by omega)|exact Good.nil|refine Good.ao ?_ (by omega) rfl|refine Good.ao ?_ (by omega) (dK _ _ _ (by omega))|refine Good.ao ?_ (by omega) (by simp[ae.refs,V.ag,V.refs]<;>omega)))
  ·(repeat(first|rfl|rw[ab]|rw[ad _ _ _ _ (by omega)]))
  have YC:∀v,v∈s2↔v∈rb t:=fun v=>by simpa using r5.2 v
  have u0:o2 0= .row t.row:=by rw[r3 0 (by omega) (by omega)];(repeat(first|rfl|rw[ab]|rw[ad _ _ _ _ (by omega)]));exact p0
  have u1:o2 1= .row [.d (.i 0), .d (.i 0), .aX]:=by rw[r3 1 (by omega) (by omega)];(repeat(first|rfl|rw[ab]|rw[ad _ _ _ _ (by omega)]));exact p1
  have AS:o2 11= .arr 0 28 3 [(bA a.cc b a).d, .agg [.i 0, .i 0, .sl []]]:=by rw[r3 11 (by omega) (by omega)];(repeat(first|rfl|rw[ab]|rw[ad _ _ _ _ (by omega)]));exact Q9
  have W3:o2 13= .row [.d (.i 8), .d (.i t.n), .osl 11 0]:=by rw[r3 13 (by omega) (by omega)];(repeat(first|rfl|rw[ab]|rw[ad _ _ _ _ (by omega)]));exact Ra
  have HY:o2 15=pc (cg jQ t.n):=by rw[r3 15 (by omega) (by omega)];(repeat(first|rfl|rw[ab]|rw[ad _ _ _ _ (by omega)]));exact m4
  have HZ:o2 20= .row body.row:=by rw[r3 20 (by omega) (by omega)];(repeat(first|rfl|rw[ab]|rw[ad _ _ _ _ (by omega)]));exact Rb
  simp+contextual (disch:=first|omega|simp only[go_sem,false_implies]) only[go_sem,wrap64,if_pos,q0,q3,q4,q5,q6,q7,q9,Nat.add_assoc,Nat.left_eq_add,Nat.add_eq_left,Nat.add_left_cancel_iff]
  have YD:Good o2 n2:=r2
  clear hg
  have hg:=YD
  refine Q7 hb (c:=n2+2) (tid:=nx'+1) (it:=n2+1) (s0:=s2) (by omega) (by omega) (by omega) (by omega) (by repeat(first|exact hg.mono (by omega)|exact Good.nil|refine Good.ao ?_ (by omega) rfl|refine Good.ao ?_ (by omega) (dK _ _ _ (by omega))|refine Good.ao ?_ (by omega) (by simp[ae.refs,V.ag,V.refs]<;>omega))) (by(repeat(first|rfl|rw[ab]|rw[ad _ _ _ _ (by omega)]));exact r4) r5.1 ?_ ?_ fun e3 o3 n3 s3 q0 q3 q4 q5 q6 q7 AG r6 YE r7 r8 r9=> ?_
  ·rw[ab,jM]
  ·(repeat(first|exact aw|refine aq ?_|refine ah rfl ?_|refine ah (aV (aU (by omega))) ?_|refine aF rfl (by simp[V.refs,V.ag]<;>first|omega|assumption) ?_|refine ah (by first|exact q0|exact q1|exact q2|exact q3|exact q4|exact q5|exact q6|exact q7|exact q8|exact q9|exact Db|exact Dc|exact AG|exact Dd|exact De|exact wA|exact wB|exact wC|exact Df|exact Dg|exact Dh|exact Di|exact Dj|exact Dk|exact Dl|exact Dm|exact Dn|exact Dp|exact Dq|exact Dr|exact Ds|exact Dt|exact Du|exact Dv|exact Dw|exact Dx|exact Dy|exact Dz|exact DA|exact DB|exact DC) ?_|refine aF (by first|exact q0|exact q1|exact q2|exact q3|exact q4|exact q5|exact q6|exact q7|exact q8|exact q9|exact Db|exact Dc|exact AG|exact Dd|exact De|exact wA|exact wB|exact wC|exact Df|exact Dg|exact Dh|exact Di|exact Dj|exact Dk|exact Dl|exact Dm|exact Dn|exact Dp|exact Dq|exact Dr|exact Ds|exact Dt|exact Du|exact Dv|exact Dw|exact Dx|exact Dy|exact Dz|exact DA|exact DB|exact DC) (by simp[V.refs,V.ag]<;>first|omega|assumption) ?_))
  have YF:o3 0= .row t.row:=by rw[r7 0 (by omega) (by omega) (by omega)];(repeat(first|rfl|rw[ab]|rw[ad _ _ _ _ (by omega)]));exact u0
  have YG:o3 1= .row [.d (.i 0), .d (.i 0), .aX]:=by rw[r7 1 (by omega) (by omega) (by omega)];(repeat(first|rfl|rw[ab]|rw[ad _ _ _ _ (by omega)]));exact u1
  have Vb:o3 11= .arr 0 28 3 [(bA a.cc b a).d, .agg [.i 0, .i 0, .sl []]]:=by rw[r7 11 (by omega) (by omega) (by omega)];(repeat(first|rfl|rw[ab]|rw[ad _ _ _ _ (by omega)]));exact AS
  have Vc:o3 13= .row [.d (.i 8), .d (.i t.n), .osl 11 0]:=by rw[r7 13 (by omega) (by omega) (by omega)];(repeat(first|rfl|rw[ab]|rw[ad _ _ _ _ (by omega)]));exact W3
  have Vd:o3 15=pc (cg jQ t.n):=by rw[r7 15 (by omega) (by omega) (by omega)];(repeat(first|rfl|rw[ab]|rw[ad _ _ _ _ (by omega)]));exact HY
  have Ve:o3 20= .row body.row:=by rw[r7 20 (by omega) (by omega) (by omega)];(repeat(first|rfl|rw[ab]|rw[ad _ _ _ _ (by omega)]));exact HZ
  clear u0 u1 AS W3 HY HZ
  have zh:∀v,v∈s3↔v∈dW b t:=fun v=>by rw[r9 v,mQ,YC v]
  have w1:nx'+1≠n3:=by omega
  simp+contextual (disch:=first|omega|simp only[go_sem,false_implies]) only[go_sem,wrap64,if_pos,q0,q3,q4,q5,q6,q7,AG,Vc,Nat.add_assoc,Nat.left_eq_add,Nat.add_eq_left,Nat.add_left_cancel_iff]
  clear hg
  have hg:=YE
  refine Q8 (b:=b) (c:=n3+2) (tid:=nx'+1) (s:=s3) (taken:=dW b t) (vs:= .aa) (by omega) (by omega) (by omega) (by repeat(first|exact hg.mono (by omega)|exact Good.nil|refine Good.ao ?_ (by omega) rfl|refine Good.ao ?_ (by omega) (dK _ _ _ (by omega))|refine Good.ao ?_ (by omega) (by simp[ae.refs,V.ag,V.refs]<;>omega))) (by(repeat(first|rfl|rw[ab]|rw[ad _ _ _ _ (by omega)]));exact r8) zh ?_ (by(repeat(first|rfl|rw[ab]|rw[ad _ _ _ _ (by omega)]))) ?_ fun e4 o4 n4 q0 q3 q4 q5 q6 q7 Zf Zg Re M4=> ?_
  ·have h1:=BX t
   have h2:∀l:List (Int×Tm),(∀p∈l,p.2.sz<=1000)->(l.flatMap fun p=>p.1::rb p.2).length<=1001*l.length:=by
    intro l
    induction l with
    |nil=>intro _;simp
    |cons p l oY=>
     intro h
     have h3:=oY fun x hx=>h x (List.mem_cons_of_mem _ hx)
     have h4:=h p (List.mem_cons_self ..)
     have h5:=BX p.2
     rw[List.flatMap_cons,List.length_append,List.length_cons,List.length_cons]
     omega
   have h3:=h2 b hb.sz
   have h4:=hb.len
   unfold dW
   rw[List.length_append]
   omega
  ·(repeat(first|exact aw|refine aq ?_|refine ah rfl ?_|refine ah (aV (aU (by omega))) ?_|refine aF rfl (by simp[V.refs,V.ag]<;>first|omega|assumption) ?_|refine ah (by first|exact q0|exact q1|exact q2|exact q3|exact q4|exact q5|exact q6|exact q7|exact q8|exact q9|exact Db|exact Dc|exact AG|exact Dd|exact De|exact wA|exact wB|exact wC|exact Df|exact Dg|exact Dh|exact Di|exact Dj|exact Dk|exact Dl|exact Dm|exact Dn|exact Dp|exact Dq|exact Dr|exact Ds|exact Dt|exact Du|exact Dv|exact Dw|exact Dx|exact Dy|exact Dz|exact DA|exact DB|exact DC) ?_|refine aF (by first|exact q0|exact q1|exact q2|exact q3|exact q4|exact q5|exact q6|exact q7|exact q8|exact q9|exact Db|exact Dc|exact AG|exact Dd|exact De|exact wA|exact wB|exact wC|exact Df|exact Dg|exact Dh|exact Di|exact Dj|exact Dk|exact Dl|exact Dm|exact Dn|exact Dp|exact Dq|exact Dr|exact Ds|exact Dt|exact Du|exact Dv|exact Dw|exact Dx|exact Dy|exact Dz|exact DA|exact DB|exact DC) (by simp[V.refs,V.ag]<;>first|omega|assumption) ?_))
  have u0:o4 0= .row t.row:=by rw[Re 0 (by omega) (by omega)];(repeat(first|rfl|rw[ab]|rw[ad _ _ _ _ (by omega)]));exact YF
  have u1:o4 1= .row [.d (.i 0), .d (.i 0), .aX]:=by rw[Re 1 (by omega) (by omega)];(repeat(first|rfl|rw[ab]|rw[ad _ _ _ _ (by omega)]));exact YG
  have AS:o4 11= .arr 0 28 3 [(bA a.cc b a).d, .agg [.i 0, .i 0, .sl []]]:=by rw[Re 11 (by omega) (by omega)];(repeat(first|rfl|rw[ab]|rw[ad _ _ _ _ (by omega)]));exact Vb
  have HY:o4 15=pc (cg jQ t.n):=by rw[Re 15 (by omega) (by omega)];(repeat(first|rfl|rw[ab]|rw[ad _ _ _ _ (by omega)]));exact Vd
  have HZ:o4 20= .row body.row:=by rw[Re 20 (by omega) (by omega)];(repeat(first|rfl|rw[ab]|rw[ad _ _ _ _ (by omega)]));exact Ve
  simp+contextual (disch:=first|omega|simp only[go_sem,false_implies]) only[go_sem,wrap64,if_pos,q0,q3,q4,q5,q6,q7,u0,u1,AS,HY,HZ,M4,Nat.add_assoc,Nat.left_eq_add,Nat.add_eq_left,Nat.add_left_cancel_iff]
  refine fC (fQ (ey (dW b t))) ?_
  simp+contextual (disch:=first|omega|simp only[go_sem,false_implies]) only[go_sem,wrap64,if_pos,q0,q3,q4,q5,q6,q7,u0,u1,AS,HY,HZ,M4,Nat.add_assoc,Nat.left_eq_add,Nat.add_eq_left,Nat.add_left_cancel_iff]
  generalize YH:ey (dW b t)=mv at*
  have JW:HX []:=⟨List.nodup_nil,by simp,by simp,by simp⟩
  have W4:(Tm.mk 1 mv []).wf:=by simp[Tm.wf,Tm.Jz]
  have S8:(Tm.mk 1 mv []).sz=1:=by rw[Tm.fh];rfl
  have Zh:(Tm.mk 1 mv []).cc=1:=by rw[Tm.dg];rfl
  have Zi:1<=body.cc:=by rw[Tm.dg];omega
  have Af:=ih (.mk 1 mv []) W4 (by omega) (by omega) [] JW
  rw[mF _ _ W4]at Af
  have Cm:HX [(t.n, .mk 1 mv [])]:=⟨by simp,by simp,by intro p hp;simp at hp;subst hp;rw[S8];omega,by intro p hp;simp at hp;subst hp;exact Af⟩
  have Gc:=iK body.cc body [(t.n, .mk 1 mv [])] (ig.2.2 body j6) (Nat.le_refl _) (by intro p hp;simp at hp;subst hp;exact⟨rfl,rfl⟩)
  refine fC (ih body (ig.2.2 body j6) (by omega) (by omega) _ Cm) ?_
  simp+contextual (disch:=first|omega|simp only[go_sem,false_implies]) only[go_sem,wrap64,if_pos,q0,q3,q4,q5,q6,q7,u0,u1,AS,HY,HZ,M4,Nat.add_assoc,Nat.left_eq_add,Nat.add_eq_left,Nat.add_left_cancel_iff]
  refine aP (cD (ids:=[0,13,20]) (nx:=n4) (by simp) (by simp;omega) [([],[3]),([0],[]),([0],[]),([1],[]),([1],[]),([],[]),([3],[3]),([],[]),([2],[]),([3],[3]),([2],[2])] (by decide)) ?_
  simp+contextual (disch:=first|omega|simp only[go_sem,false_implies]) only[go_sem,wrap64,if_pos,q0,q3,q4,q5,q6,q7,u0,u1,AS,HY,HZ,M4,Nat.add_assoc,Nat.left_eq_add,Nat.add_eq_left,Nat.add_left_cancel_iff]
  have qH:bA t.cc b t= .mk 8 mv [bA a.cc b a,bA (bA body.cc [(t.n, .mk 1 mv [])] body).cc (cg jQ t.n) (bA body.cc [(t.n, .mk 1 mv [])] body)]:=by
   have hh:t.cc=Tm.dF t.kids+1:=by rw[Tm.dg];omega
   generalize Tm.dF t.kids=f at hh
   rw[JG,hh]
   simp only[bA]
   rw[if_neg (by omega),if_pos h8,hk]
   simp only[hc,if_true]
   rw[YH,dH f a.cc a b (ig.2.2 a ha) (by omega) (Nat.le_refl _),dH f body.cc body [(t.n, .mk 1 mv [])] (ig.2.2 body j6) (by omega) (Nat.le_refl _)]
   rw[dH f (bA body.cc [(t.n, .mk 1 mv [])] body).cc (bA body.cc [(t.n, .mk 1 mv [])] body) (cg b t.n) Gc.2.1 (by rw[Gc.1];omega) (Nat.le_refl _)]
  refine fC (ih (bA body.cc [(t.n, .mk 1 mv [])] body) Gc.2.1 (by rw[Gc.2.2];omega) (by rw[Gc.1];omega) _ Rc) ?_
  simp+contextual (disch:=first|omega|simp only[go_sem,false_implies]) only[go_sem,wrap64,if_pos,q0,q3,q4,q5,q6,q7,u0,u1,AS,HY,HZ,M4,Nat.add_assoc,Nat.left_eq_add,Nat.add_eq_left,Nat.add_left_cancel_iff]
  refine aP (by decide) ?_
  rw[qH]
  simp+contextual (disch:=first|omega|simp only[go_sem,false_implies]) only[go_sem,wrap64,if_pos,q0,q3,q4,q5,q6,q7,u0,u1,AS,HY,HZ,M4,Nat.add_assoc,Nat.left_eq_add,Nat.add_eq_left,Nat.add_left_cancel_iff,List.set_cons_succ,List.set_cons_zero]
  rw[Tm.pO]
  rfl
end Go.Proofs.YtealblliddhgiaaGreat
namespace Go.Proofs.YtealblliddhgiaaGreat
theorem wH:∀ (n:Nat) (t:Tm),t.wf->t.sz<=1000->t.cc<=n->DH t
 |0,t,_,_,h=>by rw[Tm.dg]at h;omega
 |n+1,t,hw,hz,h=>by
  have ih:∀t':Tm,t'.wf->t'.sz<=1000->t'.cc<t.cc->DH t':=fun t' h1 h2 h3=>wH n t' h1 h2 (by omega)
  have ig:=(Tm.gw t).1 hw
  exact F9 hw hz (fun k hk=>ih k (ig.2.2 k hk) (by have:=Tm.s8 hk;omega) (by have:=Tm.dc hk;omega)) (fun h8 b hb=>Gb hw hz h8 ih b hb)
theorem LZ{t:Tm}{b:List (Int×Tm)}(hw:t.wf)(hz:t.sz<=1000)(hk:(b.map (·.1)).Nodup)(hl:b.length<=1000)(hb:∀p∈b,p.2.wf/\p.2.sz<=1000):
 cj Tryz.prog 53 [wF b,t.d] (.ret [(bA t.cc b t).d]):=by
 refine wH _ t hw hz (Nat.le_refl _) b ⟨hk,hl,fun p hp=>(hb p hp).2,fun p hp=> ?_⟩
 have:=wH _ p.2 (hb p hp).1 (hb p hp).2 (Nat.le_refl _) [] ⟨List.nodup_nil,by simp,by simp,by simp⟩
 rwa [mF _ _ (hb p hp).1]at this
theorem Gd{σ:Type}(l:List TB)(hl:l.length<=9223372036854775807)(g:Nat)(dx:List V)(base:Nat)(H:σ->Nat->ae)(step:σ->TB->σ×Bool)(hc:∀r∈V.ag dx,r<base)(ok:σ->Prop)(bz:∀x∈l,∀s,ok s->(step s x).2=true->ok (step s x).1)
 (h:∀x∈l,∀s,ok s->wO Tryz.prog g (.d x.d::dx) base (H s) (H (step s x).1) (.d (.bool (step s x).2))) (s:σ) (qh:ok s):
 wO Tryz.prog 89 [.d (.sl (l.map TB.d)), .func (.func g) [] dx] base (H s) (H (aS step s l).1) (.d (.bool (aS step s l).2)):=by
 intro o nx hI K X hK
 have zw:∀r∈V.ag dx,r<nx:=fun r hr=>Nat.lt_of_lt_of_le (hc r hr) hI.le
 refine eI.bt mix Pu (by simp) ?_
 rw[UK]
 simp+contextual only[go_sem]
 refine bn (fun i:Nat×σ×(Nat->ae)×Nat=>⟨bF [.aa, .func (.func g) [] dx, .aa, .aa, .aa, .aa, .aa, .d (.sl (l.map TB.d)), .d (.i l.length), .d (.i i.1)],i.2.2.1,i.2.2.2⟩)
  (fun i=>i.1<=l.length/\gu base (H i.2.1) i.2.2.1 i.2.2.2/\nx<=i.2.2.2/\(∀id,base<=id->id<nx->i.2.2.1 id=o id)/\aS step s l=aS step i.2.1 (l.drop i.1)/\ok i.2.1) (fun i=>l.length - i.1) (0,s,o,nx)
  ⟨Nat.zero_le _,hI,Nat.le_refl _,fun _ _ _=>rfl,rfl,qh⟩ ?_ ?_
 ·dsimp only
  refine cq.cN _ (Nat.le_refl _) (by omega) hI.cQ (fun _ _=>rfl) ?_
  (repeat(first|exact aw|refine aq ?_|refine ah rfl ?_|refine ah (aV (aU (by omega))) ?_|refine aF rfl (by simp[V.refs,V.ag]<;>first|omega|assumption) ?_))
 rintro⟨k,s',o',nx'⟩ ⟨hk,BJ,hn,cU,hf,sL⟩
 simp only at hk BJ hn cU hf sL
 simp+contextual only[go_sem]
 refine ax (fun h1=> ?_) (fun h1=> ?_)
 ·simp at h1
  obtain⟨x,hx⟩:=bH h1
  have lM:=List.mem_of_getElem? hx
  have hd:l.drop k=x::l.drop (k+1):=by
   rw[List.drop_eq_getElem_cons h1]
   rw[List.getElem?_eq_getElem h1]at hx;injection hx with hx;rw[hx]
  simp+contextual only[go_sem,hx,Nat.add_assoc,Nat.left_eq_add,Nat.add_eq_left,Nat.add_left_cancel_iff]
  have Ru:=BJ.le
  refine mm (h x lM s' sL _ _ (?_:gu base (H s') _ (nx'+7)) _ _ fun o2 n2 m1 m2 m3=> ?_)
  ·exact(BJ.ao (i:=nx'+3) (m:=nx'+7) (by omega) (by omega) (by omega) rfl).ao (by omega) (by omega) (by omega) rfl
  have yz:∀id,base<=id->id<nx->o2 id=o id:=fun id h2 h3=>by
   rw[m3 id h2 (by omega),ad _ _ _ _ (by omega),ad _ _ _ _ (by omega),cU id h2 h3]
  simp+contextual only[go_sem]
  refine ax (fun h2=> ?_) (fun h2=> ?_)
  ·simp+contextual only[go_sem]
   simp at h2
   have:aS step s l=((step s' x).1,false):=by rw[hf,hd,aS,if_neg (by rw[h2];exact Bool.false_ne_true)]
   rw[this]at hK
   exact hK _ _ (by omega) (m2.mono (by omega)) yz
  ·simp+contextual only[go_sem]
   simp at h2
   have:aS step s l=aS step (step s' x).1 (l.drop (k+1)):=by rw[hf,hd,aS,if_pos h2]
   refine aE (k+1,(step s' x).1,o2,n2) ⟨h1,m2,by dsimp only;omega,yz,this,bz x lM s' sL h2⟩ (by dsimp only;omega) ?_
   dsimp only
   have Jx:∀r∈V.ag dx,r<n2:=fun r hr=>by have:=zw r hr;omega
   refine cq.cN _ (by omega) (by omega) m2.cQ (fun _ _=>rfl) ?_
   (repeat(first|exact aw|refine aq ?_|refine ah rfl ?_|refine ah (aV (aU (by omega))) ?_|refine aF rfl (by simp[V.refs,V.ag]<;>first|omega|assumption) ?_))
 ·simp+contextual only[go_sem]
  simp at h1
  rw[List.drop_eq_nil_of_le h1]at hf
  simp only[aS]at hf
  rw[hf]at hK
  exact hK _ _ (by omega) (BJ.mono (by omega)) cU
def pg(s:bP)(last:Int)(x:TB):Int×Bool:=(x.var,decide (last<x.var)&&decide (x.var<20)&&fq s x.term)
def iL(s:bP)(l:List TB):Bool:=decide ((l.length:Int)<=20)&&(aS (pg s) (-1) l).2
theorem DI(s:bP)(hs:s.Fits)(x:TB)(hx:x.term.Fin)(base sp lp:Nat)(h:Nat->ae)(xb:h sp= .row s.row)(hb:sp<base)(hl:lp<base)(hn:sp≠lp)(last:Int):
 wO Tryz.prog 90 [.d x.d, .ptr lp 0, .ptr sp 0] base (ao h lp (.row [.d (.i last)])) (ao h lp (.row [.d (.i (pg s last x).1)])) (.d (.bool (pg s last x).2)):=by
 intro o nx hI K X hK
 have hle:=hI.le
 have hg:=hI.cQ
 have q0:o sp= .row s.row:=by rw[hI.eq sp hb,ad _ _ _ _ hn,xb]
 have q1:o lp= .row [.d (.i last)]:=by rw[hI.eq lp hl,ab]
 have zF:lp≠sp:=fun e=>hn e.symm
 have w1:∀k,sp≠nx+k:=fun k=>by omega
 have w2:∀k,lp≠nx+k:=fun k=>by omega
 have w3:sp≠nx:=by omega
 have w4:lp≠nx:=by omega
 refine eI.bt mix Pv (by simp) ?_
 rw[UL]
 simp only[pg]at hK
 cases h1:(decide (last<x.var)&&decide (x.var<20))with
 |false=>
  rw[h1]at hK
  simp+contextual (disch:=first|omega|simp only[go_sem,false_implies]) only[go_sem,wrap64,if_pos,q0,q1,hn,zF,w1,w2,w3,w4,Nat.add_assoc,Nat.left_eq_add,Nat.add_eq_left,Nat.add_left_cancel_iff,h1]
  rw[Bool.false_and]at hK
  refine hK _ _ (by omega) ⟨(by repeat(first|exact hg.mono (by omega)|exact Good.nil|refine Good.ao ?_ (by omega) rfl|refine Good.ao ?_ (by omega) (dK _ _ _ (by omega))|refine Good.ao ?_ (by omega) (by simp[ae.refs,V.ag,V.refs]<;>omega))),by omega,fun j hj=> ?_⟩ (fun j g1 g2=>by(repeat(first|rfl|rw[ab]|rw[ad _ _ _ _ (by omega)])))
  by_cases e:j=lp
  ·subst e;(repeat(first|rfl|rw[ab]|rw[ad _ _ _ _ (by omega)]))
  ·rw[ad _ _ _ _ e,ad _ _ _ _ e,ad _ _ _ _ (by omega),hI.eq j hj,ad _ _ _ _ e]
 |true=>
  rw[h1]at hK
  simp+contextual (disch:=first|omega|simp only[go_sem,false_implies]) only[go_sem,wrap64,if_pos,q0,q1,hn,zF,w1,w2,w3,w4,Nat.add_assoc,Nat.left_eq_add,Nat.add_eq_left,Nat.add_left_cancel_iff,h1]
  refine aJ (sM s hs x.term hx.fits hx.cc) rfl ?_
  simp+contextual (disch:=first|omega|simp only[go_sem,false_implies]) only[go_sem,wrap64,if_pos,and_self]
  rw[Bool.true_and]at hK
  refine hK _ _ (by omega) ⟨(by repeat(first|exact hg.mono (by omega)|exact Good.nil|refine Good.ao ?_ (by omega) rfl|refine Good.ao ?_ (by omega) (dK _ _ _ (by omega))|refine Good.ao ?_ (by omega) (by simp[ae.refs,V.ag,V.refs]<;>omega))),by omega,fun j hj=> ?_⟩ (fun j g1 g2=>by(repeat(first|rfl|rw[ab]|rw[ad _ _ _ _ (by omega)])))
  by_cases e:j=lp
  ·subst e;(repeat(first|rfl|rw[ab]|rw[ad _ _ _ _ (by omega)]))
  ·rw[ad _ _ _ _ e,ad _ _ _ _ e,ad _ _ _ _ (by omega),hI.eq j hj,ad _ _ _ _ e]
theorem Ge(s:bP)(hs:s.Fits)(l:List TB)(hl:l.length<=9223372036854775807)(hx:∀x∈l,x.term.Fin):cj Tryz.prog 52 [s.d, .sl (l.map TB.d)] (.ret [.bool (iL s l)]):=by
 refine cj.bt mix O5 (by simp) ?_
 rw[Ub]
 unfold iL
 cases h1:decide ((l.length:Int)<=20)with
 |false=>
  simp+contextual (disch:=first|omega|simp only[go_sem,false_implies]) only[go_sem,wrap64,if_pos,Nat.add_assoc,Nat.left_eq_add,Nat.add_eq_left,Nat.add_left_cancel_iff,h1]
 |true=>
  simp+contextual (disch:=first|omega|simp only[go_sem,false_implies]) only[go_sem,wrap64,if_pos,Nat.add_assoc,Nat.left_eq_add,Nat.add_eq_left,Nat.add_left_cancel_iff,h1]
  refine cK (Gd l hl 90 [.ptr 2 0, .ptr 0 0] 3 (fun last:Int=>ao (ao (fun _=> .no) 0 (.row s.row)) 2 (.row [.d (.i last)])) (pg s) (by simp[V.ag,V.refs]) (fun _=>True) (fun _ _ _ _ _=>trivial)
   (fun x lM last _=>DI s hs x (hx x lM) 3 0 2 (ao (fun _=> .no) 0 (.row s.row)) (ab _ _ _) (by omega) (by omega) (by omega) last) (-1) trivial _ _ ⟨?_,by omega,fun id aj=> ?_⟩ _ _ fun o2 n2 m1 m2 m3=> ?_)
  ·exact(by repeat(first|exact hg.mono (by omega)|exact Good.nil|refine Good.ao ?_ (by omega) rfl|refine Good.ao ?_ (by omega) (dK _ _ _ (by omega))|refine Good.ao ?_ (by omega) (by simp[ae.refs,V.ag,V.refs]<;>omega)))
  ·rcases(by omega:id=0\/id=1\/id=2)with rfl|rfl|rfl<;>rfl
  simp+contextual (disch:=first|omega|simp only[go_sem,false_implies]) only[go_sem,wrap64,if_pos,and_self]
theorem tc{M:Nat}(hM:1<=M):∀ (f:Nat) (t:Tm) (b:List (Int×Tm)),t.wf->t.cc<=f->(∀p∈b,p.2.sz<=M)->(bA f b t).sz<=t.sz*M
 |0,t,_,_,h,_=>by rw[Tm.dg]at h;omega
 |f+1,t,b,hw,hf,hb=>by
  have ig:=(Tm.gw t).1 hw
  have Vf:∀n:Nat,n<=n*M:=fun n=>Nat.le_mul_of_pos_right n hM
  simp only[bA]
  split
  ·have:=Tm.AB t
   split
   ·rename_i x hx
    have h1:=hb _ (iJ hx)
    exact Nat.le_trans h1 (Nat.le_mul_of_pos_left M (by omega))
   ·exact Vf _
  ·split
   ·rename_i h8
    obtain⟨a,body,hk⟩:=lC (ig.2.1 h8)
    have ha:a∈t.kids:=by rw[hk];simp
    have j6:body∈t.kids:=by rw[hk];simp
    have g1:=Tm.dc ha
    have g2:=Tm.dc j6
    have e1:=tc hM f a b (ig.2.2 a ha) (by omega) hb
    have lH:∀p∈cg b t.n,p.2.sz<=M:=fun p hp=>hb p (List.mem_filter.1 hp).1
    have e2:=tc hM f body _ (ig.2.2 body j6) (by omega) lH
    have e0:=fun m=>iK f body [(t.n, .mk 1 m [])] (ig.2.2 body j6) (by omega) (by intro p hp;simp at hp;subst hp;exact⟨rfl,rfl⟩)
    have e3:=fun m=>tc hM f (bA f [(t.n, .mk 1 m [])] body) _ (e0 m).2.1 (by rw[(e0 m).1];omega) lH
    have hz:t.sz=1+(a.sz+body.sz):=by rw[Tm.fh,hk,cE,cE];simp[jK]
    have fin:∀ (n:Int) (y:Tm),y.sz<=body.sz*M->(Tm.mk 8 n [bA f b a,y]).sz<=t.sz*M:=by
     intro n y hy
     rw[Tm.BO,cE,cE,hz,Nat.add_mul,Nat.add_mul]
     simp only[jK,List.map_nil,List.sum_nil]
     omega
    rw[hk]
    simp only
    split
    ·exact fin _ _ (by have:=e3 (ey (dW b t));rw[(e0 _).2.2]at this;exact this)
    ·exact fin _ _ e2
   ·have hl:∀l:List Tm,(∀k∈l,k∈t.kids)->jK (l.map (bA f b))<=jK l*M:=by
     intro l
     induction l with
     |nil=>intro _;simp[jK]
     |cons k l oY=>
      intro h
      have hk:=h k (List.mem_cons_self ..)
      have h1:=tc hM f k b (ig.2.2 k hk) (by have:=Tm.dc hk;omega) hb
      have h2:=oY fun x hx=>h x (List.mem_cons_of_mem _ hx)
      rw[List.map_cons,cE,cE,Nat.add_mul]
      omega
    have:=hl t.kids fun _ h=>h
    rw[Tm.BO,Tm.fh t,Nat.add_mul]
    omega
end Go.Proofs.YtealblliddhgiaaGreat
namespace Go.Proofs.YtealblliddhgiaaGreat
theorem AU{K:V->List (Nat×ae)->Prop}{id:Nat}{l:List (Int×Int)}(h0:l=[]->K (.bT [.d (.bool false)]) [])
 (h1:∀ (i:Nat) n k,l[i]? =some (n,k)->K (.bT [.d (.bool true), .d (.int .i64 n), .d (D.i k)]) [(id, .kg (enc (D.int .i64) (ints (l.eraseIdx i))) (some (.int .i64 n,D.i k)))]):uG K id (enc (D.int .i64) (ints l)):=by
 refine pS _ (fun h=>h0 ?_) fun i k x h=> ?_
 ·cases l with
  |nil=>rfl
  |cons x l=>simp[ints]at h
 ·unfold ints at h|-
  rw[List.getElem?_map]at h
  cases hl:l[i]? with
  |none=>rw[hl]at h;cases h
  |some n=>
   rw[hl]at h
   simp at h
   obtain⟨rfl,rfl⟩:=h
   have:=h1 i n.1 n.2 hl
   rw[eV]
   exact this
theorem yT{α:Type}{l:List α}{i:Nat}{n:α}(h:l[i]? =some n):l.Perm (n::l.eraseIdx i):=by
 obtain⟨hi,e⟩:=List.getElem?_eq_some_iff.1 h
 have xb:l=l.take i++n::l.drop (i+1):=by rw[<- e,List.getElem_cons_drop,List.take_append_drop]
 rw[List.eraseIdx_eq_take_drop_succ]
 conv=>lhs;rw[xb]
 exact List.perm_middle
theorem yU{k:Int}{x:D}:wx k x []=[(k,x)]:=rfl
def yV(n:Int)(m:List (Int×Int)):List (Int×Int):=m.filter fun p=>p.1!=n
theorem yW{n:Int}{m:List (Int×Int)}(h:m6 m)(own:Int):m6 ((n,own)::yV n m):=by
 unfold m6 yV
 rw[List.map_cons,List.nodup_cons]
 refine⟨fun hm=> ?_, ?_⟩
 ·obtain⟨p,hp,e⟩:=List.mem_map.1 hm
  have:=(List.mem_filter.1 hp).2
  simp at this e
  exact this e
 ·exact h.sublist (List.filter_sublist.map _)
theorem L0{n own:Int}(m:List (Int×Int))(v:Int):lk ((n,own)::yV n m) v=if n=v then some own else lk m v:=by
 simp only[lk]
 split
 ·rfl
 ·rename_i fS
  induction m with
  |nil=>rfl
  |cons p m ih=>
   simp only[yV,List.filter_cons,lk]at ih|-
   by_cases h:p.1=n
   ·have: ¬p.1=v:=fun e=>fS (h ▸ e)
    simp[h,ih,fS]
   ·simp only[bne_iff_ne,ne_eq,h,not_false_eq_true,if_true,lk,ih]
def B2:IC:=tH.snd.snd.snd.snd.fst.snd.fst.snd.snd.snd.fst.fst
theorem u9{t:Tm}{o:Nat->ae}{nx c cid ib it:Nat}{own:Int}{mB:List (Int×Int)}{e:Nat->V}{Q:e9->S->Prop}
 (hg:Good o c) (hc:nx+15<=c) (c1:cid<nx) (ot:o (nx+1)= .row t.row) (os:o (nx+14)= .row [.ptr cid 0, .mp ib]) (oi:o ib=de [(t.n,own)]) (Vg:o it= .kg (enc (D.int .i64) (ints mB)) none) (kb:m6 mB) (i1:nx+15<=ib) (i2:nx+15<=it)
 (he:eg c e [.aa, .aa, .ptr nx 0, .ptr (nx+1) 0, .ptr (nx+2) 0, .aa, .aa, .ptr (nx+11) 0, .ptr (nx+14) 0, .aa, .aa, .aa, .aa, .aa, .aa, .aa, .aa, .aa, .aa, .aa, .aa, .aa, .aa, .aa, .aa, .aa, .aa, .aa, .aa, .aa, .aa, .aa, .aa, .aa, .aa, .aa, .aa, .aa, .aa, .aa, .aa, .aa, .aa, .aa, .aa, .aa, .aa, .aa, .aa, .aa, .aa, .aa, .aa, .aa, .aa, .aa, .aa, .aa, .aa, .aa, .aa, .aa, .aa, .aa, .aa, .aa, .aa, .aa, .aa, .aa, .aa, .aa, .aa, .aa, .ptr it 0] 0)
 (hQ:∀e' o' nx' mI,e' 2= .ptr nx 0->e' 3= .ptr (nx+1) 0->e' 4= .ptr (nx+2) 0->e' 7= .ptr (nx+11) 0->e' 8= .ptr (nx+14) 0->c<=nx'->Good o' nx'->(∀j,j<nx+15->o' j=o j)->o' ib=de mI->m6 mI->(∀v,lk mI v=if t.n=v then some own else lk mB v)->Q (.exit 0) ⟨e',o',nx'⟩):
 jI nx (fun Q s=>jZ Tryz.prog 116 nx false B2 Q s) Q ⟨e,o,c⟩:=by
 have h1:ib<c:=hg.lt (by rw[oi];exact ae.noConfusion)
 have h2:it<c:=hg.lt (by rw[Vg];exact ae.noConfusion)
 have h3:ib≠it:=fun h=>by rw[h,Vg]at oi;cases oi
 have h4:it≠ib:=fun h=>h3 h.symm
 have h5:∀k,k<15->ib≠nx+k:=fun k hk=>by omega
 have h6:∀k,k<15->it≠nx+k:=fun k hk=>by omega
 have h7:∀k,k<15->nx+k≠ib:=fun k hk=>by omega
 have h8:∀k,k<15->nx+k≠it:=fun k hk=>by omega
 refine bn (fun i:List (Int×Int)×List (Int×Int)×Option (D×D)=>⟨bF [.aa, .aa, .ptr nx 0, .ptr (nx+1) 0, .ptr (nx+2) 0, .aa, .aa, .ptr (nx+11) 0, .ptr (nx+14) 0, .aa, .aa, .aa, .aa, .aa, .aa, .aa, .aa, .aa, .aa, .aa, .aa, .aa, .aa, .aa, .aa, .aa, .aa, .aa, .aa, .aa, .aa, .aa, .aa, .aa, .aa, .aa, .aa, .aa, .aa, .aa, .aa, .aa, .aa, .aa, .aa, .aa, .aa, .aa, .aa, .aa, .aa, .aa, .aa, .aa, .aa, .aa, .aa, .aa, .aa, .aa, .aa, .aa, .aa, .aa, .aa, .aa, .aa, .aa, .aa, .aa, .aa, .aa, .aa, .aa, .ptr it 0],ao (ao o ib (de i.2.1)) it (.kg (enc (D.int .i64) (ints i.1)) i.2.2),c⟩)
  (fun i=>(i.2.1++yV t.n i.1).Perm ((t.n,own)::yV t.n mB)) (fun i=>i.1.length) (mB,[(t.n,own)],none) (List.Perm.refl _) ?_ ?_
 ·dsimp only
  refine cq.cN _ (by omega) (Nat.le_refl _) ?_ (fun j hj=> ?_) he
  ·exact(by repeat(first|exact hg.mono (by omega)|exact Good.nil|refine Good.ao ?_ (by omega) rfl|refine Good.ao ?_ (by omega) (dK _ _ _ (by omega))|refine Good.ao ?_ (by omega) (by simp[ae.refs,V.ag,V.refs]<;>omega)))
  ·by_cases e1:j=it
   ·subst e1;rw[ab];exact Vg
   ·rw[ad _ _ _ _ e1]
    by_cases e2:j=ib
    ·subst e2;rw[ab];exact oi
    ·rw[ad _ _ _ _ e2]
 rintro⟨rest,s',last⟩ hp
 simp only at hp
 simp only[B2,tH,IC.snd,IC.fst]
 simp+contextual (disch:=first|omega|simp only[go_sem,false_implies]) only[go_sem,wrap64,if_pos,h3,h4,h5,h6,h7,h8]
 refine AU (fun hr=> ?_) fun i m v hm=> ?_
 ·subst hr
  simp+contextual (disch:=first|omega|simp only[go_sem,false_implies]) only[go_sem,wrap64,if_pos,and_self]
  have GS:s'.Perm ((t.n,own)::yV t.n mB):=by simpa[yV]using hp
  have hk:m6 s':=(GS.map _).nodup_iff.2 (yW kb own)
  refine hQ _ _ _ s' ?_ ?_ ?_ ?_ ?_ ?_ ?_ (fun j g1=> ?_) ?_ hk (fun v=> ?_)
  ·rfl
  ·rfl
  ·rfl
  ·rfl
  ·rfl
  ·omega
  ·exact(by repeat(first|exact hg.mono (by omega)|exact Good.nil|refine Good.ao ?_ (by omega) rfl|refine Good.ao ?_ (by omega) (dK _ _ _ (by omega))|refine Good.ao ?_ (by omega) (by simp[ae.refs,V.ag,V.refs]<;>omega)))
  ·(repeat(first|rfl|rw[ab]|rw[ad _ _ _ _ (by omega)]))
  ·(repeat(first|rfl|rw[ab]|rw[ad _ _ _ _ (by omega)]))
  ·rw[HP hk GS v,L0]
 ·have pC:=yT hm
  have Gf:(yV t.n rest).Perm (yV t.n ((m,v)::rest.eraseIdx i)):=pC.filter _
  have hlen:(rest.eraseIdx i).length+1=rest.length:=by have:=pC.length_eq;simpa using this.symm
  simp+contextual (disch:=first|omega|simp only[go_sem,false_implies]) only[go_sem,wrap64,if_pos,ot,os,h3,h4,h5,h6,h7,h8]
  refine ax (fun h9=> ?_) (fun h9=> ?_)
  ·have fS: ¬m=t.n:=by simpa using h9
   have Gg:yV t.n ((m,v)::rest.eraseIdx i)=(m,v)::yV t.n (rest.eraseIdx i):=by simp[yV,fS]
   rw[Gg]at Gf
   have Rf:lk s' m=none:=by
    rw[BR]
    have hk:((s'++(m,v)::yV t.n (rest.eraseIdx i)).map (·.1)).Nodup:=((((List.Perm.append_left s' Gf).symm.trans hp).map _).nodup_iff).2 (yW kb own)
    rw[List.map_append,List.map_cons,List.nodup_append]at hk
    exact fun Ig=>hk.2.2 m Ig m (by simp) rfl
   simp+contextual (disch:=first|omega|simp only[go_sem,false_implies]) only[go_sem,wrap64,if_pos,ot,os,h3,h4,h5,h6,h7,h8]
   rw[sU Rf]
   refine aE (rest.eraseIdx i,s'++[(m,v)],some (.int .i64 m,D.i v)) ?_ (by dsimp only;omega) ?_
   ·dsimp only
    rw[List.append_assoc]
    exact(List.Perm.append_left s' Gf).symm.trans hp
   ·dsimp only
    refine cq.cN _ (by omega) (by omega) ?_ (fun j hj=> ?_) ?_
    ·exact(by repeat(first|exact hg.mono (by omega)|exact Good.nil|refine Good.ao ?_ (by omega) rfl|refine Good.ao ?_ (by omega) (dK _ _ _ (by omega))|refine Good.ao ?_ (by omega) (by simp[ae.refs,V.ag,V.refs]<;>omega)))
    ·by_cases e1:j=it
     ·subst e1;(repeat(first|rfl|rw[ab]|rw[ad _ _ _ _ (by omega)]))
     ·by_cases e2:j=ib
      ·subst e2;(repeat(first|rfl|rw[ab]|rw[ad _ _ _ _ (by omega)]))
      ·(repeat(first|rfl|rw[ab]|rw[ad _ _ _ _ (by omega)]))
    ·(repeat(first|exact aw|refine aq ?_|refine ah rfl ?_|refine ah (aV (aU (by omega))) ?_|refine aF rfl (by simp[V.refs,V.ag]<;>first|omega|assumption) ?_))
  ·have fS:m=t.n:=by simpa using h9
   have Gg:yV t.n ((m,v)::rest.eraseIdx i)=yV t.n (rest.eraseIdx i):=by simp[yV,fS]
   rw[Gg]at Gf
   simp+contextual (disch:=first|omega|simp only[go_sem,false_implies]) only[go_sem,wrap64,if_pos,and_self]
   refine aE (rest.eraseIdx i,s',some (.int .i64 m,D.i v)) ?_ (by dsimp only;omega) ?_
   ·dsimp only
    exact(List.Perm.append_left s' Gf).symm.trans hp
   ·dsimp only
    refine cq.cN _ (by omega) (by omega) ?_ (fun j hj=> ?_) ?_
    ·exact(by repeat(first|exact hg.mono (by omega)|exact Good.nil|refine Good.ao ?_ (by omega) rfl|refine Good.ao ?_ (by omega) (dK _ _ _ (by omega))|refine Good.ao ?_ (by omega) (by simp[ae.refs,V.ag,V.refs]<;>omega)))
    ·by_cases e1:j=it
     ·subst e1;(repeat(first|rfl|rw[ab]|rw[ad _ _ _ _ (by omega)]))
     ·by_cases e2:j=ib
      ·subst e2;(repeat(first|rfl|rw[ab]|rw[ad _ _ _ _ (by omega)]))
      ·(repeat(first|rfl|rw[ab]|rw[ad _ _ _ _ (by omega)]))
    ·(repeat(first|exact aw|refine aq ?_|refine ah rfl ?_|refine ah (aV (aU (by omega))) ?_|refine aF rfl (by simp[V.refs,V.ag]<;>first|omega|assumption) ?_))
theorem rh{o o':Nat->ae}{nx c cid fid nx' n2:Nat}{op' N n':Int}{l:List Tm}{nS:List (Int×Int)}{K:V->(Nat->ae)->Nat->Prop}(hK:HW o nx cid fid (.mk op' N l,nS,n') K)(c1:cid<nx)(c2:fid<nx)(hc:nx+15<=c)
 (g1:c<=nx') (g2:Good o' nx') (g4:o' c= .arr 0 28 3 (l.map Tm.d)) (g5:∀j,j<nx->j≠cid->j≠fid->o' j=o j) (g6:o' cid= .row [.d (.i n'), .mp fid]) (g7:o' fid=de nS) (g8:nx'<=n2):
 K (.agg [.d (.i op'), .d (.i N), .osl c 0]) (ao o' (nx+2) (.row [.d (.i op'), .d (.i N), .osl c 0])) n2:=by
 have gl:c<nx':=g2.lt (by rw[g4];exact ae.noConfusion)
 refine hK _ _ _ ?_ ?_ ?_ ?_ (fun j k1 k2 k3=> ?_) ?_ ?_
 ·omega
 ·have hg:=g2
  exact(by repeat(first|exact hg.mono (by omega)|exact Good.nil|refine Good.ao ?_ (by omega) rfl|refine Good.ao ?_ (by omega) (dK _ _ _ (by omega))|refine Good.ao ?_ (by omega) (by simp[ae.refs,V.ag,V.refs]<;>omega)))
 ·rw[Tm.pO]
  have w1:c≠nx+2:=by omega
  simp+contextual (disch:=first|omega|simp only[go_sem,false_implies]) only[go_sem,wrap64,if_pos,g4,w1,Nat.add_assoc,Nat.left_eq_add,Nat.add_eq_left,Nat.add_left_cancel_iff]
 ·simp[V.ids,V.a8];omega
 ·rw[ad _ _ _ _ (by omega)]
  exact g5 j k1 k2 k3
 ·(repeat(first|rfl|rw[ab]|rw[ad _ _ _ _ (by omega)]))
  exact g6
 ·(repeat(first|rfl|rw[ab]|rw[ad _ _ _ _ (by omega)]))
  exact g7
set_option maxHeartbeats 2000000 in
theorem H3:∀t:Tm,t.fits->tN t:=by
 refine Tm.gN fun t ih hf o nx cid fid bv mB bd fr n hp K X hK=> ?_
 have qF:=(Tm.cY _).1 hf
 have hg:=hp.cQ
 have hc:=hp.hc
 have qy:=hp.hf
 have jB:cid<nx:=hg.lt (by rw[hc];exact ae.noConfusion)
 have kS:fid<nx:=hg.lt (by rw[qy];exact ae.noConfusion)
 have oR:cid≠fid:=fun e=>by rw[e,qy]at hc;cases hc
 have JB:fid≠cid:=fun e=>oR e.symm
 have y1:cid≠nx:=by omega
 have y2:∀k,cid≠nx+k:=fun k=>by omega
 have y3:fid≠nx:=by omega
 have y4:∀k,fid≠nx+k:=fun k=>by omega
 refine eI.bt mix Ji (by simp) ?_
 rw[tH]
 by_cases h1:t.op=1
 ·have kT:(t.op==1)=true:=by simpa using h1
  rw[eB,if_pos h1]at hK
  have u6:=hp.lk t.n
  cases hl:lk mB t.n with
  |some k=>
   rcases hp.hb with⟨e1,e2⟩|⟨b,e1,hb⟩
   ·rw[e2]at hl;cases hl
   ·subst e1
    obtain⟨j,hj⟩:=pa hl
    have p9:b<nx:=hg.lt (by rw[hb];exact ae.noConfusion)
    have z1:b≠nx:=by omega
    have z2:∀k,b≠nx+k:=fun k=>by omega
    rw[hl]at u6
    rw[<- u6]at hK
    simp+contextual (disch:=first|omega|simp only[go_sem,false_implies]) only[go_sem,wrap64,if_pos,hc,qy,hb,hj,y1,y2,y3,y4,z1,z2,Nat.add_assoc,Nat.left_eq_add,Nat.add_eq_left,Nat.add_left_cancel_iff,kT]
    refine bM (fQ k) ?_
    simp+contextual (disch:=first|omega|simp only[go_sem,false_implies]) only[go_sem,wrap64,if_pos,y1,y2,Nat.add_assoc,Nat.left_eq_add,Nat.add_eq_left,Nat.add_left_cancel_iff]
    refine hK _ _ _ ?_ ?_ rfl (fun id aj=>by simp[V.ids]at aj) (fun j g1 g2 g3=> ?_) ?_ ?_
    ·omega
    ·exact(by repeat(first|exact hg.mono (by omega)|exact Good.nil|refine Good.ao ?_ (by omega) rfl|refine Good.ao ?_ (by omega) (dK _ _ _ (by omega))|refine Good.ao ?_ (by omega) (by simp[ae.refs,V.ag,V.refs]<;>omega)))
    ·(repeat(first|rfl|rw[ab]|rw[ad _ _ _ _ (by omega)]))
    ·(repeat(first|rfl|rw[ab]|rw[ad _ _ _ _ (by omega)]))
     exact hc
    ·(repeat(first|rfl|rw[ab]|rw[ad _ _ _ _ (by omega)]))
     exact qy
  |none=>
   rw[hl]at u6
   have nE:=lA hl
   rw[<- u6]at hK
   cases DT:lk fr t.n with
   |some k=>
    obtain⟨j2,A5⟩:=pa DT
    rw[DT]at hK
    rcases hp.hb with⟨e1,e2⟩|⟨b,e1,hb⟩
    ·subst e1
     simp+contextual (disch:=first|omega|simp only[go_sem,false_implies]) only[go_sem,wrap64,if_pos,hc,qy,nE,A5,y1,y2,y3,y4,Nat.add_assoc,Nat.left_eq_add,Nat.add_eq_left,Nat.add_left_cancel_iff,kT]
     refine aP (bE rfl) ?_
     simp+contextual (disch:=first|omega|simp only[go_sem,false_implies]) only[go_sem,wrap64,if_pos,hc,qy,nE,A5,y1,y2,y3,y4,Nat.add_assoc,Nat.left_eq_add,Nat.add_eq_left,Nat.add_left_cancel_iff,kT]
     refine bM (fQ k) ?_
     simp+contextual (disch:=first|omega|simp only[go_sem,false_implies]) only[go_sem,wrap64,if_pos,y1,y2,Nat.add_assoc,Nat.left_eq_add,Nat.add_eq_left,Nat.add_left_cancel_iff]
     refine hK _ _ _ ?_ ?_ rfl (fun id aj=>by simp[V.ids]at aj) (fun j g1 g2 g3=> ?_) ?_ ?_
     ·omega
     ·exact(by repeat(first|exact hg.mono (by omega)|exact Good.nil|refine Good.ao ?_ (by omega) rfl|refine Good.ao ?_ (by omega) (dK _ _ _ (by omega))|refine Good.ao ?_ (by omega) (by simp[ae.refs,V.ag,V.refs]<;>omega)))
     ·(repeat(first|rfl|rw[ab]|rw[ad _ _ _ _ (by omega)]))
     ·(repeat(first|rfl|rw[ab]|rw[ad _ _ _ _ (by omega)]))
      exact hc
     ·(repeat(first|rfl|rw[ab]|rw[ad _ _ _ _ (by omega)]))
      exact qy
    ·subst e1
     have p9:b<nx:=hg.lt (by rw[hb];exact ae.noConfusion)
     have z1:b≠nx:=by omega
     have z2:∀k,b≠nx+k:=fun k=>by omega
     simp+contextual (disch:=first|omega|simp only[go_sem,false_implies]) only[go_sem,wrap64,if_pos,hc,qy,hb,nE,A5,y1,y2,y3,y4,z1,z2,Nat.add_assoc,Nat.left_eq_add,Nat.add_eq_left,Nat.add_left_cancel_iff,kT]
     refine aP (bE rfl) ?_
     simp+contextual (disch:=first|omega|simp only[go_sem,false_implies]) only[go_sem,wrap64,if_pos,hc,qy,hb,nE,A5,y1,y2,y3,y4,z1,z2,Nat.add_assoc,Nat.left_eq_add,Nat.add_eq_left,Nat.add_left_cancel_iff,kT]
     refine bM (fQ k) ?_
     simp+contextual (disch:=first|omega|simp only[go_sem,false_implies]) only[go_sem,wrap64,if_pos,y1,y2,Nat.add_assoc,Nat.left_eq_add,Nat.add_eq_left,Nat.add_left_cancel_iff]
     refine hK _ _ _ ?_ ?_ rfl (fun id aj=>by simp[V.ids]at aj) (fun j g1 g2 g3=> ?_) ?_ ?_
     ·omega
     ·exact(by repeat(first|exact hg.mono (by omega)|exact Good.nil|refine Good.ao ?_ (by omega) rfl|refine Good.ao ?_ (by omega) (dK _ _ _ (by omega))|refine Good.ao ?_ (by omega) (by simp[ae.refs,V.ag,V.refs]<;>omega)))
     ·(repeat(first|rfl|rw[ab]|rw[ad _ _ _ _ (by omega)]))
     ·(repeat(first|rfl|rw[ab]|rw[ad _ _ _ _ (by omega)]))
      exact hc
     ·(repeat(first|rfl|rw[ab]|rw[ad _ _ _ _ (by omega)]))
      exact qy
   |none=>
    have H4:=lA DT
    rw[DT]at hK
    rcases hp.hb with⟨e1,e2⟩|⟨b,e1,hb⟩
    ·subst e1
     simp+contextual (disch:=first|omega|simp only[go_sem,false_implies]) only[go_sem,wrap64,if_pos,hc,qy,nE,H4,y1,y2,y3,y4,Nat.add_assoc,Nat.left_eq_add,Nat.add_eq_left,Nat.add_left_cancel_iff,kT]
     refine aP (bE rfl) ?_
     simp+contextual (disch:=first|omega|simp only[go_sem,false_implies]) only[go_sem,wrap64,if_pos,hc,qy,nE,H4,y1,y2,y3,y4,Nat.add_assoc,Nat.left_eq_add,Nat.add_eq_left,Nat.add_left_cancel_iff,kT]
     refine cK (FT cid n (.mp fid) _ _ (by(repeat(first|rfl|rw[ab]|rw[ad _ _ _ _ (by omega)]));exact hc) ⟨hp.n0,by have:=hp.n1;omega⟩ (by repeat(first|exact hg.mono (by omega)|exact Good.nil|refine Good.ao ?_ (by omega) rfl|refine Good.ao ?_ (by omega) (dK _ _ _ (by omega))|refine Good.ao ?_ (by omega) (by simp[ae.refs,V.ag,V.refs]<;>omega))) _ _ ?_)
     simp+contextual (disch:=first|omega|simp only[go_sem,false_implies]) only[go_sem,wrap64,if_pos,hc,qy,y1,y2,y3,y4,oR,JB,Nat.add_assoc,Nat.left_eq_add,Nat.add_eq_left,Nat.add_left_cancel_iff]
     refine aP (u3 (by kernel_rfl)) ?_
     simp+contextual (disch:=first|omega|simp only[go_sem,false_implies]) only[go_sem,wrap64,if_pos,Nat.add_assoc,Nat.left_eq_add,Nat.add_eq_left,Nat.add_left_cancel_iff]
     refine bM (fQ n) ?_
     simp+contextual (disch:=first|omega|simp only[go_sem,false_implies]) only[go_sem,wrap64,if_pos,y1,y2,Nat.add_assoc,Nat.left_eq_add,Nat.add_eq_left,Nat.add_left_cancel_iff]
     refine hK _ _ _ ?_ ?_ rfl (fun id aj=>by simp[V.ids]at aj) (fun j g1 g2 g3=> ?_) ?_ ?_
     ·omega
     ·exact(by repeat(first|exact hg.mono (by omega)|exact Good.nil|refine Good.ao ?_ (by omega) rfl|refine Good.ao ?_ (by omega) (dK _ _ _ (by omega))|refine Good.ao ?_ (by omega) (by simp[ae.refs,V.ag,V.refs]<;>omega)))
     ·(repeat(first|rfl|rw[ab]|rw[ad _ _ _ _ (by omega)]))
     ·(repeat(first|rfl|rw[ab]|rw[ad _ _ _ _ (by omega)]))
     ·(repeat(first|rfl|rw[ab]|rw[ad _ _ _ _ (by omega)]))
      rw[sU DT]
    ·subst e1
     have p9:b<nx:=hg.lt (by rw[hb];exact ae.noConfusion)
     have z1:b≠nx:=by omega
     have z2:∀k,b≠nx+k:=fun k=>by omega
     simp+contextual (disch:=first|omega|simp only[go_sem,false_implies]) only[go_sem,wrap64,if_pos,hc,qy,hb,nE,H4,y1,y2,y3,y4,z1,z2,Nat.add_assoc,Nat.left_eq_add,Nat.add_eq_left,Nat.add_left_cancel_iff,kT]
     refine aP (bE rfl) ?_
     simp+contextual (disch:=first|omega|simp only[go_sem,false_implies]) only[go_sem,wrap64,if_pos,hc,qy,hb,nE,H4,y1,y2,y3,y4,z1,z2,Nat.add_assoc,Nat.left_eq_add,Nat.add_eq_left,Nat.add_left_cancel_iff,kT]
     refine cK (FT cid n (.mp fid) _ _ (by(repeat(first|rfl|rw[ab]|rw[ad _ _ _ _ (by omega)]));exact hc) ⟨hp.n0,by have:=hp.n1;omega⟩ (by repeat(first|exact hg.mono (by omega)|exact Good.nil|refine Good.ao ?_ (by omega) rfl|refine Good.ao ?_ (by omega) (dK _ _ _ (by omega))|refine Good.ao ?_ (by omega) (by simp[ae.refs,V.ag,V.refs]<;>omega))) _ _ ?_)
     simp+contextual (disch:=first|omega|simp only[go_sem,false_implies]) only[go_sem,wrap64,if_pos,hc,qy,y1,y2,y3,y4,oR,JB,Nat.add_assoc,Nat.left_eq_add,Nat.add_eq_left,Nat.add_left_cancel_iff]
     refine aP (u3 (by kernel_rfl)) ?_
     simp+contextual (disch:=first|omega|simp only[go_sem,false_implies]) only[go_sem,wrap64,if_pos,Nat.add_assoc,Nat.left_eq_add,Nat.add_eq_left,Nat.add_left_cancel_iff]
     refine bM (fQ n) ?_
     simp+contextual (disch:=first|omega|simp only[go_sem,false_implies]) only[go_sem,wrap64,if_pos,y1,y2,Nat.add_assoc,Nat.left_eq_add,Nat.add_eq_left,Nat.add_left_cancel_iff]
     refine hK _ _ _ ?_ ?_ rfl (fun id aj=>by simp[V.ids]at aj) (fun j g1 g2 g3=> ?_) ?_ ?_
     ·omega
     ·exact(by repeat(first|exact hg.mono (by omega)|exact Good.nil|refine Good.ao ?_ (by omega) rfl|refine Good.ao ?_ (by omega) (dK _ _ _ (by omega))|refine Good.ao ?_ (by omega) (by simp[ae.refs,V.ag,V.refs]<;>omega)))
     ·(repeat(first|rfl|rw[ab]|rw[ad _ _ _ _ (by omega)]))
     ·(repeat(first|rfl|rw[ab]|rw[ad _ _ _ _ (by omega)]))
     ·(repeat(first|rfl|rw[ab]|rw[ad _ _ _ _ (by omega)]))
      rw[sU DT]
 ·have kT:(t.op==1)=false:=by simpa using h1
  have Zj:Good o (nx+3):=hg.mono (by omega)
  cases h8:(t.op==8)with
  |false=>
   have Rg: ¬t.op=8:=by simpa using h8
   have dX:=Tm.fh t
   have Gu:=hp.n1
   rw[eB,if_neg h1,if_neg Rg]at hK
   have M5:∀k∈t.kids,tN k:=fun k hk=>ih k hk (qF.2 k hk)
   have W5:Good (ao (ao (ao (ao (ao (ao (ao o nx (.row [.ptr cid 0,bv])) (nx+1) (.row t.row)) (nx+2) (.row [.d (.i 0), .d (.i 0), .aX])) (nx+11) (.row [.d (.i 0), .d (.i 0), .aX])) (nx+11) (.row [.d (.i t.op), .d (.i t.n), .aX])) (nx+14) (.row [.d .gy, .d .cI])) (nx+14) (.row [.ptr cid 0,bv])) (nx+23):=by
    have JX:∀r∈bv.refs,r<nx:=by
     rcases hp.hb with⟨e1,e2⟩|⟨b,e1,hb⟩
     ·subst e1;simp[V.refs]
     ·subst e1;simp[V.refs];exact hg.lt (by rw[hb];exact ae.noConfusion)
    have a7:(ae.row [.ptr cid 0,bv]).refs.all (fun r=>decide (r<nx+23))=true:=by
     rw[List.all_eq_true]
     intro r hr
     simp[ae.refs,V.ag,V.refs]at hr
     rcases hr with rfl|hr
     ·exact decide_eq_true (by omega)
     ·exact decide_eq_true (by have:=JX r hr;omega)
    exact(((((((hg.mono (by omega)).ao (by omega) a7).ao (by omega) rfl).ao (by omega) rfl).ao (by omega) rfl).ao (by omega) rfl).ao (by omega) rfl).ao (by omega) a7
   simp+contextual (disch:=first|omega|simp only[go_sem,false_implies]) only[go_sem,wrap64,if_pos,hc,qy,y1,y2,y3,y4,Nat.add_assoc,Nat.left_eq_add,Nat.add_eq_left,Nat.add_left_cancel_iff,kT,h8]
   rcases hp.hb with⟨e1,e2⟩|⟨b,e1,hb⟩
   ·subst e1
    have u6:=hp.lk
    rw[e2]at u6
    refine F1 (t:=t) (cid:=cid) (fid:=fid) (op':=t.op) (N:=t.n) (bd:=bd) (fr0:=fr) (n0:=n) M5 W5 (by omega) jB kS oR ?_ ?_ ?_ ?_ ?_ ?_ u6 hp.n0 (by omega) ?_ fun e' o' nx' e4 e7 g1 g2 g3 g4 g5 g6 g7=> ?_
    ·(repeat(first|rfl|rw[ab]|rw[ad _ _ _ _ (by omega)]))
    ·(repeat(first|rfl|rw[ab]|rw[ad _ _ _ _ (by omega)]))
    ·(repeat(first|rfl|rw[ab]|rw[ad _ _ _ _ (by omega)]))
    ·(repeat(first|rfl|rw[ab]|rw[ad _ _ _ _ (by omega)]))
    ·(repeat(first|rfl|rw[ab]|rw[ad _ _ _ _ (by omega)]))
     exact hc
    ·(repeat(first|rfl|rw[ab]|rw[ad _ _ _ _ (by omega)]))
     exact qy
    ·(repeat(first|exact aw|refine aq ?_|refine ah rfl ?_|refine ah (aV (aU (by omega))) ?_|refine aF rfl (by simp[V.refs,V.ag]<;>first|omega|assumption) ?_))
    have q2:o' (nx+2)= .row [.d (.i 0), .d (.i 0), .aX]:=by
     rw[g5 (nx+2) (by omega) (by omega) (by omega)];(repeat(first|rfl|rw[ab]|rw[ad _ _ _ _ (by omega)]))
    simp+contextual (disch:=first|omega|simp only[go_sem,false_implies]) only[go_sem,wrap64,if_pos,e4,e7,g3,q2,Nat.add_assoc,Nat.left_eq_add,Nat.add_eq_left,Nat.add_left_cancel_iff]
    refine rh hK jB kS (by omega) g1 g2 g4 (fun j k1 k2 k3=> ?_) g6 g7 (by omega)
    rw[g5 j (by omega) k2 k3];(repeat(first|rfl|rw[ab]|rw[ad _ _ _ _ (by omega)]))
   ·subst e1
    have p9:b<nx:=hg.lt (by rw[hb];exact ae.noConfusion)
    refine F3 (t:=t) (cid:=cid) (fid:=fid) (b:=b) (mB:=mB) (op':=t.op) (N:=t.n) (bd:=bd) (fr0:=fr) (n0:=n) M5 W5 (by omega) jB kS oR ?_ ?_ ?_ ?_ ?_ ?_ hp.lk ?_ hp.kb ?_ ?_ p9 hp.n0 (by omega) ?_ fun e' o' nx' e4 e7 g1 g2 g3 g4 g5 g6 g7=> ?_
    ·(repeat(first|rfl|rw[ab]|rw[ad _ _ _ _ (by omega)]))
    ·(repeat(first|rfl|rw[ab]|rw[ad _ _ _ _ (by omega)]))
    ·(repeat(first|rfl|rw[ab]|rw[ad _ _ _ _ (by omega)]))
    ·(repeat(first|rfl|rw[ab]|rw[ad _ _ _ _ (by omega)]))
    ·(repeat(first|rfl|rw[ab]|rw[ad _ _ _ _ (by omega)]))
     exact hc
    ·(repeat(first|rfl|rw[ab]|rw[ad _ _ _ _ (by omega)]))
     exact qy
    ·(repeat(first|rfl|rw[ab]|rw[ad _ _ _ _ (by omega)]))
     exact hb
    ·intro e;rw[e,hc]at hb;cases hb
    ·intro e;rw[e,qy]at hb;cases hb
    ·(repeat(first|exact aw|refine aq ?_|refine ah rfl ?_|refine ah (aV (aU (by omega))) ?_|refine aF rfl (by simp[V.refs,V.ag]<;>first|omega|assumption) ?_))
    have q2:o' (nx+2)= .row [.d (.i 0), .d (.i 0), .aX]:=by
     rw[g5 (nx+2) (by omega) (by omega) (by omega)];(repeat(first|rfl|rw[ab]|rw[ad _ _ _ _ (by omega)]))
    simp+contextual (disch:=first|omega|simp only[go_sem,false_implies]) only[go_sem,wrap64,if_pos,e4,e7,g3,q2,Nat.add_assoc,Nat.left_eq_add,Nat.add_eq_left,Nat.add_left_cancel_iff]
    refine rh hK jB kS (by omega) g1 g2 g4 (fun j k1 k2 k3=> ?_) g6 g7 (by omega)
    rw[g5 j (by omega) k2 k3];(repeat(first|rfl|rw[ab]|rw[ad _ _ _ _ (by omega)]))
  |true=>
   have Rg:t.op=8:=by simpa using h8
   have dX:=Tm.fh t
   have Gu:=hp.n1
   have JX:∀r∈bv.refs,r<nx:=by
    rcases hp.hb with⟨e1,e2⟩|⟨b,e1,hb⟩
    ·subst e1;simp[V.refs]
    ·subst e1;simp[V.refs];exact hg.lt (by rw[hb];exact ae.noConfusion)
   have a7:∀m,nx<=m->(ae.row [.ptr cid 0,bv]).refs.all (fun r=>decide (r<m))=true:=fun m hm=>by
    rw[List.all_eq_true]
    intro r hr
    simp[ae.refs,V.ag,V.refs]at hr
    rcases hr with rfl|hr
    ·exact decide_eq_true (by omega)
    ·exact decide_eq_true (by have:=JX r hr;omega)
   rw[eB,if_neg h1,if_pos Rg]at hK
   simp+contextual (disch:=first|omega|simp only[go_sem,false_implies]) only[go_sem,wrap64,if_pos,hc,qy,y1,y2,y3,y4,Nat.add_assoc,Nat.left_eq_add,Nat.add_eq_left,Nat.add_left_cancel_iff,kT,h8]
   refine cK (FT cid n (.mp fid) _ _ (by(repeat(first|rfl|rw[ab]|rw[ad _ _ _ _ (by omega)]));exact hc) ⟨hp.n0,by have:=hp.n1;omega⟩ ?_ _ _ ?_)
   ·exact(((((((hg.mono (by omega)).ao (by omega) (a7 _ (by omega))).ao (by omega) rfl).ao (by omega) rfl).ao (by omega) rfl).ao (by omega) rfl).ao (by omega) rfl).ao (by omega) (a7 _ (by omega))
   rcases hp.hb with⟨e1,e2⟩|⟨b,e1,hb⟩
   ·subst e1
    simp+contextual (disch:=first|omega|simp only[go_sem,false_implies]) only[go_sem,wrap64,if_pos,hc,qy,y1,y2,y3,y4,oR,JB,Nat.add_assoc,Nat.left_eq_add,Nat.add_eq_left,Nat.add_left_cancel_iff,yU]
    refine u9 (t:=t) (cid:=cid) (ib:=nx+38) (it:=nx+49) (own:=n) (mB:=[]) ?_ (by omega) jB ?_ ?_ ?_ ?_ List.nodup_nil (by omega) (by omega) ?_ fun e' o' nx' mI q2 q3 q4 q7 q8 g1 g2 g3 g4 g5 g6=> ?_
    ·exact(by repeat(first|exact hg.mono (by omega)|exact Good.nil|refine Good.ao ?_ (by omega) rfl|refine Good.ao ?_ (by omega) (dK _ _ _ (by omega))|refine Good.ao ?_ (by omega) (by simp[ae.refs,V.ag,V.refs]<;>omega)))
    ·(repeat(first|rfl|rw[ab]|rw[ad _ _ _ _ (by omega)]))
    ·(repeat(first|rfl|rw[ab]|rw[ad _ _ _ _ (by omega)]))
    ·(repeat(first|rfl|rw[ab]|rw[ad _ _ _ _ (by omega)]))
    ·(repeat(first|rfl|rw[ab]|rw[ad _ _ _ _ (by omega)]))
    ·(repeat(first|exact aw|refine aq ?_|refine ah rfl ?_|refine ah (aV (aU (by omega))) ?_|refine aF rfl (by simp[V.refs,V.ag]<;>first|omega|assumption) ?_))
    have u0:o' nx= .row [.ptr cid 0, .d .cI]:=by rw[g3 nx (by omega)];(repeat(first|rfl|rw[ab]|rw[ad _ _ _ _ (by omega)]))
    have u1:o' (nx+1)= .row t.row:=by rw[g3 (nx+1) (by omega)];(repeat(first|rfl|rw[ab]|rw[ad _ _ _ _ (by omega)]))
    have u2:o' (nx+2)= .row [.d (.i 0), .d (.i 0), .aX]:=by rw[g3 (nx+2) (by omega)];(repeat(first|rfl|rw[ab]|rw[ad _ _ _ _ (by omega)]))
    have AS:o' (nx+11)= .row [.d (.i t.op), .d (.i n), .aX]:=by rw[g3 (nx+11) (by omega)];(repeat(first|rfl|rw[ab]|rw[ad _ _ _ _ (by omega)]))
    have Rh:o' (nx+14)= .row [.ptr cid 0, .mp (nx+38)]:=by rw[g3 (nx+14) (by omega)];(repeat(first|rfl|rw[ab]|rw[ad _ _ _ _ (by omega)]))
    have uc:o' cid= .row [.d (.i (n+1)), .mp fid]:=by rw[g3 cid (by omega)];(repeat(first|rfl|rw[ab]|rw[ad _ _ _ _ (by omega)]))
    have uf:o' fid=de fr:=by rw[g3 fid (by omega)];(repeat(first|rfl|rw[ab]|rw[ad _ _ _ _ (by omega)]))
                             exact qy
    simp+contextual (disch:=first|omega|simp only[go_sem,false_implies]) only[go_sem,wrap64,if_pos,q2,q3,q4,q7,q8,u0,u1,u2,AS,Rh,Nat.add_assoc,Nat.left_eq_add,Nat.add_eq_left,Nat.add_left_cancel_iff]
    have Vh:HW o nx cid fid (.mk t.op n (aM t.kids bd ((t.n,n)::bd) 0 fr (n+1)).1,(aM t.kids bd ((t.n,n)::bd) 0 fr (n+1)).2) K:=by rw[Rg];exact hK
    have M5:∀k∈t.kids,tN k:=fun k hk=>ih k hk (qF.2 k hk)
    have WX:=hp.n0
    have u6:=hp.lk
    rw[e2]at u6
    refine F4 (t:=t) (cid:=cid) (fid:=fid) (ib:=nx+38) (mI:=mI) (inn:=(t.n,n)::bd) (op':=t.op) (N:=n) (bd:=bd) (fr0:=fr) (n0:=n+1) M5 (g2.mono (by omega)) (by omega) jB kS oR u0 u1 AS Rh uc uf u6 g4 g5 (fun v=> ?_) (by omega) (by omega) (by omega) (by omega) ?_ fun e2 o2 n2 k4 k7 l1 l2 l3 l4 l5 l6 l7=> ?_
    ·rw[g6 v,u6 v];rfl
    ·(repeat(first|exact aw|refine aq ?_|refine ah rfl ?_|refine ah (aV (aU (by omega))) ?_|refine aF rfl (by simp[V.refs,V.ag]<;>first|omega|assumption) ?_|refine ah (by first|exact q0|exact q1|exact q2|exact q3|exact q4|exact q5|exact q6|exact q7|exact q8|exact q9|exact Db|exact Dc|exact AG|exact Dd|exact De|exact wA|exact wB|exact wC|exact Df|exact Dg|exact Dh|exact Di|exact Dj|exact Dk|exact Dl|exact Dm|exact Dn|exact Dp|exact Dq|exact Dr|exact Ds|exact Dt|exact Du|exact Dv|exact Dw|exact Dx|exact Dy|exact Dz|exact DA|exact DB|exact DC) ?_|refine aF (by first|exact q0|exact q1|exact q2|exact q3|exact q4|exact q5|exact q6|exact q7|exact q8|exact q9|exact Db|exact Dc|exact AG|exact Dd|exact De|exact wA|exact wB|exact wC|exact Df|exact Dg|exact Dh|exact Di|exact Dj|exact Dk|exact Dl|exact Dm|exact Dn|exact Dp|exact Dq|exact Dr|exact Ds|exact Dt|exact Du|exact Dv|exact Dw|exact Dx|exact Dy|exact Dz|exact DA|exact DB|exact DC) (by simp[V.refs,V.ag]<;>first|omega|assumption) ?_))
    have v2:o2 (nx+2)= .row [.d (.i 0), .d (.i 0), .aX]:=by
     rw[l5 (nx+2) (by omega) (by omega) (by omega)];exact u2
    simp+contextual (disch:=first|omega|simp only[go_sem,false_implies]) only[go_sem,wrap64,if_pos,k4,k7,l3,v2,Nat.add_assoc,Nat.left_eq_add,Nat.add_eq_left,Nat.add_left_cancel_iff]
    refine rh Vh jB kS (by omega) l1 l2 l4 (fun j k1 k2 k3=> ?_) l6 l7 (by omega)
    rw[l5 j (by omega) k2 k3,g3 j (by omega)];(repeat(first|rfl|rw[ab]|rw[ad _ _ _ _ (by omega)]))
   ·subst e1
    have p9:b<nx:=hg.lt (by rw[hb];exact ae.noConfusion)
    have z1:b≠nx:=by omega
    have z2:∀k,b≠nx+k:=fun k=>by omega
    have z3:b≠cid:=fun e=>by rw[e,hc]at hb;cases hb
    have z4:b≠fid:=fun e=>by rw[e,qy]at hb;cases hb
    simp+contextual (disch:=first|omega|simp only[go_sem,false_implies]) only[go_sem,wrap64,if_pos,hc,qy,hb,y1,y2,y3,y4,z1,z2,z3,oR,JB,Nat.add_assoc,Nat.left_eq_add,Nat.add_eq_left,Nat.add_left_cancel_iff,yU]
    refine u9 (t:=t) (cid:=cid) (ib:=nx+38) (it:=nx+49) (own:=n) (mB:=mB) ?_ (by omega) jB ?_ ?_ ?_ ?_ hp.kb (by omega) (by omega) ?_ fun e' o' nx' mI q2 q3 q4 q7 q8 g1 g2 g3 g4 g5 g6=> ?_
    ·exact(by repeat(first|exact hg.mono (by omega)|exact Good.nil|refine Good.ao ?_ (by omega) rfl|refine Good.ao ?_ (by omega) (dK _ _ _ (by omega))|refine Good.ao ?_ (by omega) (by simp[ae.refs,V.ag,V.refs]<;>omega)))
    ·(repeat(first|rfl|rw[ab]|rw[ad _ _ _ _ (by omega)]))
    ·(repeat(first|rfl|rw[ab]|rw[ad _ _ _ _ (by omega)]))
    ·(repeat(first|rfl|rw[ab]|rw[ad _ _ _ _ (by omega)]))
    ·(repeat(first|rfl|rw[ab]|rw[ad _ _ _ _ (by omega)]))
    ·(repeat(first|exact aw|refine aq ?_|refine ah rfl ?_|refine ah (aV (aU (by omega))) ?_|refine aF rfl (by simp[V.refs,V.ag]<;>first|omega|assumption) ?_))
    have u0:o' nx= .row [.ptr cid 0, .mp b]:=by rw[g3 nx (by omega)];(repeat(first|rfl|rw[ab]|rw[ad _ _ _ _ (by omega)]))
    have u1:o' (nx+1)= .row t.row:=by rw[g3 (nx+1) (by omega)];(repeat(first|rfl|rw[ab]|rw[ad _ _ _ _ (by omega)]))
    have u2:o' (nx+2)= .row [.d (.i 0), .d (.i 0), .aX]:=by rw[g3 (nx+2) (by omega)];(repeat(first|rfl|rw[ab]|rw[ad _ _ _ _ (by omega)]))
    have AS:o' (nx+11)= .row [.d (.i t.op), .d (.i n), .aX]:=by rw[g3 (nx+11) (by omega)];(repeat(first|rfl|rw[ab]|rw[ad _ _ _ _ (by omega)]))
    have Rh:o' (nx+14)= .row [.ptr cid 0, .mp (nx+38)]:=by rw[g3 (nx+14) (by omega)];(repeat(first|rfl|rw[ab]|rw[ad _ _ _ _ (by omega)]))
    have uc:o' cid= .row [.d (.i (n+1)), .mp fid]:=by rw[g3 cid (by omega)];(repeat(first|rfl|rw[ab]|rw[ad _ _ _ _ (by omega)]))
    have uf:o' fid=de fr:=by rw[g3 fid (by omega)];(repeat(first|rfl|rw[ab]|rw[ad _ _ _ _ (by omega)]))
                             exact qy
    simp+contextual (disch:=first|omega|simp only[go_sem,false_implies]) only[go_sem,wrap64,if_pos,q2,q3,q4,q7,q8,u0,u1,u2,AS,Rh,Nat.add_assoc,Nat.left_eq_add,Nat.add_eq_left,Nat.add_left_cancel_iff]
    have Vh:HW o nx cid fid (.mk t.op n (aM t.kids bd ((t.n,n)::bd) 0 fr (n+1)).1,(aM t.kids bd ((t.n,n)::bd) 0 fr (n+1)).2) K:=by rw[Rg];exact hK
    have M5:∀k∈t.kids,tN k:=fun k hk=>ih k hk (qF.2 k hk)
    have WX:=hp.n0
    have u6:=hp.lk
    have ub:o' b=jv mB:=by rw[g3 b (by omega)];(repeat(first|rfl|rw[ab]|rw[ad _ _ _ _ (by omega)]))
                           exact hb
    refine F6 (t:=t) (cid:=cid) (fid:=fid) (b:=b) (mB:=mB) (ib:=nx+38) (mI:=mI) (inn:=(t.n,n)::bd) (op':=t.op) (N:=n) (bd:=bd) (fr0:=fr) (n0:=n+1) M5 (g2.mono (by omega)) (by omega) jB kS oR u0 u1 AS Rh uc uf u6 ub hp.kb z3 z4 p9 g4 g5 (fun v=> ?_) (by omega) (by omega) (by omega) (by omega) ?_ fun e2 o2 n2 k4 k7 l1 l2 l3 l4 l5 l6 l7=> ?_
    ·rw[g6 v,u6 v];rfl
    ·(repeat(first|exact aw|refine aq ?_|refine ah rfl ?_|refine ah (aV (aU (by omega))) ?_|refine aF rfl (by simp[V.refs,V.ag]<;>first|omega|assumption) ?_|refine ah (by first|exact q0|exact q1|exact q2|exact q3|exact q4|exact q5|exact q6|exact q7|exact q8|exact q9|exact Db|exact Dc|exact AG|exact Dd|exact De|exact wA|exact wB|exact wC|exact Df|exact Dg|exact Dh|exact Di|exact Dj|exact Dk|exact Dl|exact Dm|exact Dn|exact Dp|exact Dq|exact Dr|exact Ds|exact Dt|exact Du|exact Dv|exact Dw|exact Dx|exact Dy|exact Dz|exact DA|exact DB|exact DC) ?_|refine aF (by first|exact q0|exact q1|exact q2|exact q3|exact q4|exact q5|exact q6|exact q7|exact q8|exact q9|exact Db|exact Dc|exact AG|exact Dd|exact De|exact wA|exact wB|exact wC|exact Df|exact Dg|exact Dh|exact Di|exact Dj|exact Dk|exact Dl|exact Dm|exact Dn|exact Dp|exact Dq|exact Dr|exact Ds|exact Dt|exact Du|exact Dv|exact Dw|exact Dx|exact Dy|exact Dz|exact DA|exact DB|exact DC) (by simp[V.refs,V.ag]<;>first|omega|assumption) ?_))
    have v2:o2 (nx+2)= .row [.d (.i 0), .d (.i 0), .aX]:=by
     rw[l5 (nx+2) (by omega) (by omega) (by omega)];exact u2
    simp+contextual (disch:=first|omega|simp only[go_sem,false_implies]) only[go_sem,wrap64,if_pos,k4,k7,l3,v2,Nat.add_assoc,Nat.left_eq_add,Nat.add_eq_left,Nat.add_left_cancel_iff]
    refine rh Vh jB kS (by omega) l1 l2 l4 (fun j k1 k2 k3=> ?_) l6 l7 (by omega)
    rw[l5 j (by omega) k2 k3,g3 j (by omega)];(repeat(first|rfl|rw[ab]|rw[ad _ _ _ _ (by omega)]))
end Go.Proofs.YtealblliddhgiaaGreat
namespace Go.Proofs.YtealblliddhgiaaGreat
theorem B3{o:Nat->ae}{ids:List Nat}{id:Nat}(h:id∉ids):put o (ck o ids) id=o id:=
 qT (fun x hx=>by
  simp only[ck,List.mem_map]at hx
  obtain⟨j,hj,rfl⟩:=hx
  exact fun e=>h (e ▸ hj))
theorem H5{t:Tm}(h:t.fits){o:Nat->ae}{nx cid fid:Nat}{bv:V}{mB bd fr:List (Int×Int)}{n:Int}(hp:F0 o nx cid fid bv mB bd fr n t.sz){K X:V->(Nat->ae)->Nat->Prop}
 (hK:∀o' nx',nx<=nx'->(∀j,j<nx->j≠cid->j≠fid->o' j=o j)->o' cid= .row [.d (.i (aQ t bd fr n).2.2), .mp fid]->K (.d (aQ t bd fr n).1.d) o' nx'):
 eI Tryz.prog 110 [.agg [.ptr cid 0,bv], .d t.d] o nx K X:=by
 have c1:cid<nx:=hp.cQ.lt (by rw[hp.hc];exact ae.noConfusion)
 refine eI.seal (H3 t h _ _ _ _ _ _ _ _ _ hp _ _ fun v o' nx' g1 g2 g3 g4 g5 g6 g7=>⟨_,g3,hK _ _ g1 (fun j k1 k2 k3=> ?_) ?_⟩)
 ·rw[B3 (fun hm=>by have:=g4 j hm;omega)];exact g5 j k1 k2 k3
 ·rw[B3 (fun hm=>by have:=g4 cid hm;omega)];exact g6
def eE(t:Tm):Tm:=(aQ t [] [] 0).1
def DJ(t:Tm):Int:=(aQ t [] [] 0).2.2
theorem p4(t:Tm)(h:t.fits)(hs:t.sz<=1000000):cj Tryz.prog 74 [t.d] (.ret [(eE t).d, .i (DJ t)]):=by
 refine cj.bt mix Pk (by simp) ?_
 rw[Uv]
 simp+contextual (disch:=first|omega|simp only[go_sem,false_implies]) only[go_sem,wrap64,if_pos,Nat.add_assoc,Nat.left_eq_add,Nat.add_eq_left,Nat.add_left_cancel_iff]
 refine cK (H5 (cid:=5) (fid:=3) h (mB:=[]) (bd:=[]) (fr:=[]) (n:=0) ⟨(by repeat(first|exact hg.mono (by omega)|exact Good.nil|refine Good.ao ?_ (by omega) rfl|refine Good.ao ?_ (by omega) (dK _ _ _ (by omega))|refine Good.ao ?_ (by omega) (by simp[ae.refs,V.ag,V.refs]<;>omega))),by(repeat(first|rfl|rw[ab]|rw[ad _ _ _ _ (by omega)])),by(repeat(first|rfl|rw[ab]|rw[ad _ _ _ _ (by omega)])), .inl ⟨rfl,rfl⟩,List.nodup_nil,fun _=>rfl,by decide,by omega⟩ fun o2 n2 m1 m2 m3=> ?_)
 have u1:o2 1= .row [.d (.i 0), .d (.i 0), .aX]:=by rw[m2 1 (by omega) (by omega) (by omega)];(repeat(first|rfl|rw[ab]|rw[ad _ _ _ _ (by omega)]))
 have u7:o2 7= .row [.ptr 5 0, .d .cI]:=by rw[m2 7 (by omega) (by omega) (by omega)];(repeat(first|rfl|rw[ab]|rw[ad _ _ _ _ (by omega)]))
 have w1:1≠n2:=by omega
 have w2:∀k,1≠n2+k:=fun k=>by omega
 have w3:7≠n2:=by omega
 have w4:∀k,7≠n2+k:=fun k=>by omega
 have w5:5≠n2:=by omega
 have w6:∀k,5≠n2+k:=fun k=>by omega
 simp+contextual (disch:=first|omega|simp only[go_sem,false_implies]) only[go_sem,wrap64,if_pos,u1,u7,m3,w1,w2,w3,w4,w5,w6,Nat.add_assoc,Nat.left_eq_add,Nat.add_eq_left,Nat.add_left_cancel_iff]
 refine aP (cD (ids:=[1,5,7]) (nx:=n2) (by decide) (by simp;omega) [([3],[]),([2],[]),([2],[]),([1],[]),([1],[]),([1],[]),([0],[0]),([],[])] (by decide)) ?_
 simp+contextual (disch:=first|omega|simp only[go_sem,false_implies]) only[go_sem,wrap64,if_pos,u1,u7,m3,w1,w2,w3,w4,w5,w6,Nat.add_assoc,Nat.left_eq_add,Nat.add_eq_left,Nat.add_left_cancel_iff]
 rfl
theorem tQ:∀t:Tm,t.fits->∀bd fr n,(aQ t bd fr n).1.fits/\(aQ t bd fr n).1.sz<=t.sz/\(aQ t bd fr n).1.cc<=t.cc:=by
 refine Tm.gN fun t ih hf bd fr n=> ?_
 have qF:=(Tm.cY _).1 hf
 have hs:∀ (l:List Tm) (bd inn fr:List (Int×Int)) (i:Nat) (nx:Int),(∀k∈l,k∈t.kids)->(aM l bd inn i fr nx).1.length=l.length/\(∀k∈(aM l bd inn i fr nx).1,k.fits)/\jK (aM l bd inn i fr nx).1<=jK l/\Tm.dF (aM l bd inn i fr nx).1<=Tm.dF l:=by
  intro l
  induction l with
  |nil=>intro bd inn fr i nx _;simp[aM,jK,Tm.dF]
  |cons k l oY=>
   intro bd inn fr i nx hk
   have h1:=ih k (hk k (by simp)) (qF.2 k (hk k (by simp))) (if i=1 then inn else bd) fr nx
   have h2:=oY bd inn (aQ k (if i=1 then inn else bd) fr nx).2.1 (i+1) (aQ k (if i=1 then inn else bd) fr nx).2.2 (fun x hx=>hk x (by simp[hx]))
   simp only[aM,List.length_cons,cE,kI]
   refine⟨by omega, ?_,by omega, ?_⟩
   ·intro x hx
    rcases List.mem_cons.1 hx with rfl|hx
    ·exact h1.1
    ·exact h2.2.1 x hx
   ·have a:=h1.2.2;have b:=h2.2.2.2
    exact Nat.max_le.2 ⟨Nat.le_trans a (Nat.le_max_left _ _),Nat.le_trans b (Nat.le_max_right _ _)⟩
 have mk:∀ (op n:Int) (l:List Tm),l.length=t.kids.length->(∀k∈l,k.fits)->jK l<=jK t.kids->Tm.dF l<=Tm.dF t.kids->(Tm.mk op n l).fits/\(Tm.mk op n l).sz<=t.sz/\(Tm.mk op n l).cc<=t.cc:=by
  intro op n l h1 h2 h3 h4
  rw[Tm.cY,Tm.fh,Tm.fh t,Tm.dg,Tm.dg t]
  exact⟨⟨by rw[show(Tm.mk op n l).kids=l from rfl,h1];exact qF.1,h2⟩,by show 1+jK l<=_;omega,by show 1+Tm.dF l<=_;omega⟩
 have W6:∀ (op n:Int),(Tm.mk op n []).fits/\(Tm.mk op n []).sz<=t.sz/\(Tm.mk op n []).cc<=t.cc:=by
  intro op n
  rw[Tm.cY,Tm.fh,Tm.fh t,Tm.dg,Tm.dg t]
  refine⟨⟨by simp[Tm.kids],by simp[Tm.kids]⟩, ?_, ?_⟩
  ·show 1+jK []<=_;simp[jK]
  ·show 1+Tm.dF []<=_;simp[Tm.dF]
 rw[eB]
 have h0:=hs t.kids bd bd fr 0 n (fun _ h=>h)
 have h8:=hs t.kids bd ((t.n,n)::bd) fr 0 (n+1) (fun _ h=>h)
 split
 ·split
  ·exact W6 _ _
  ·split<;>exact W6 _ _
 ·split
  ·exact mk _ _ _ h8.1 h8.2.1 h8.2.2.1 h8.2.2.2
  ·exact mk _ _ _ h0.1 h0.2.1 h0.2.2.1 h0.2.2.2
theorem iX{t:Tm}(h:t.fits):(eE t).fits/\(eE t).sz<=t.sz/\(eE t).cc<=t.cc:=tQ t h [] [] 0
def kL(s:bP)(t:Tm):Tm×Int:=if fD s [t]=true then(if 20<DJ t then(.mk 0 0 [],3)else(eE t,0))else(.mk 0 0 [],2)
theorem yX(s:bP)(hs:s.Fits)(t:Tm)(ht:t.Fin)(hz:t.sz<=1000000):cj Tryz.prog 34 [s.d,t.d] (.ret [(kL s t).1.d, .i (kL s t).2]):=by
 refine cj.bt mix OZ (by simp) ?_
 rw[TT]
 simp+contextual (disch:=first|omega|simp only[go_sem,false_implies]) only[go_sem,wrap64,if_pos,and_self]
 refine aJ (wy s hs [t] (by simp) (fun x hx=>by simp at hx;subst hx;exact ht)) rfl ?_
 cases h1:fD s [t]with
 |false=>
  have e:kL s t=(.mk 0 0 [],2):=by simp[kL,h1]
  rw[e]
  simp+contextual (disch:=first|omega|simp only[go_sem,false_implies]) only[go_sem,wrap64,if_pos,and_self]
  rw[Tm.pO]
  rfl
 |true=>
  simp+contextual (disch:=first|omega|simp only[go_sem,false_implies]) only[go_sem,wrap64,if_pos,and_self]
  refine bM (p4 t ht.fits hz) ?_
  simp+contextual (disch:=first|omega|simp only[go_sem,false_implies]) only[go_sem,wrap64,if_pos,and_self]
  refine ax (fun h2=> ?_) (fun h2=> ?_)
  ·have e:kL s t=(.mk 0 0 [],3):=by simp at h2;simp[kL,h1,h2]
   rw[e]
   simp+contextual (disch:=first|omega|simp only[go_sem,false_implies]) only[go_sem,wrap64,if_pos,and_self]
   rw[Tm.pO]
   rfl
  ·have e:kL s t=(eE t,0):=by simp at h2;simp[kL,h1];omega
   rw[e]
   simp+contextual (disch:=first|omega|simp only[go_sem,false_implies]) only[go_sem,wrap64,if_pos,and_self]
theorem mS(s:bP)(hs:s.Fits)(a b:Tm)(ha:a.Fin)(hb:b.Fin)(za:a.sz<=1000000)(zb:b.sz<=1000000):cj Tryz.prog 35 [s.d,a.d,b.d] (.ret [.bool (fD s [a,b]&&gq (eE a) (eE b)), .i (o7 (fD s [a,b]))]):=by
 refine cj.bt mix O0 (by simp) ?_
 rw[TU]
 simp+contextual (disch:=first|omega|simp only[go_sem,false_implies]) only[go_sem,wrap64,if_pos,and_self]
 refine aJ (wy s hs [a,b] (by simp) (fun x hx=>by simp at hx;rcases hx with rfl|rfl<;>assumption)) rfl ?_
 cases h1:fD s [a,b]with
 |false=>simp+contextual (disch:=first|omega|simp only[go_sem,false_implies]) only[go_sem,wrap64,if_pos,and_self];simp[o7]
 |true=>
  simp+contextual (disch:=first|omega|simp only[go_sem,false_implies]) only[go_sem,wrap64,if_pos,and_self]
  refine bM (p4 a ha.fits za) ?_
  simp+contextual (disch:=first|omega|simp only[go_sem,false_implies]) only[go_sem,wrap64,if_pos,and_self]
  refine bM (p4 b hb.fits zb) ?_
  simp+contextual (disch:=first|omega|simp only[go_sem,false_implies]) only[go_sem,wrap64,if_pos,and_self]
  refine aJ (HO _ (iX ha.fits).1 _ (iX hb.fits).1) rfl ?_
  simp+contextual (disch:=first|omega|simp only[go_sem,false_implies]) only[go_sem,wrap64,if_pos,and_self]
  simp[o7]
end Go.Proofs.YtealblliddhgiaaGreat
