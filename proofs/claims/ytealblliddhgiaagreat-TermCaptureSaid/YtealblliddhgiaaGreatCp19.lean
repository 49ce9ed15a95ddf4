/-
  A PART OF THE PROOF. Conditions: none.
-/
import Derived.Test.YtealblliddhgiaaGreatCp18
set_option linter.unusedSimpArgs false
set_option linter.unusedVariables false
namespace Go.Proofs.YtealblliddhgiaaGreat
def Cs:IC:=JR.snd.snd.snd.snd.snd.snd.fst.snd.fst
def Kj:IC:=Cs.snd.snd.fst.snd.fst.fst
def Kk:IC:=Cs.snd.snd.snd.fst.snd.fst.fst
theorem RR{b:List (Int×Tm)}(hb:Iz b){o:Nat->ae}{e:Nat->V}{Q:fq->S->Prop}{c tid it:Nat}{s0:List Int}(hc:29<=c)(ht:tid<c)(hi:it<c)(hn:tid≠it)
 (hg:Good o c) (ot:o tid=lU s0) (qq:s0.Nodup) (oi:o it= .kg (enc (D.int .i64) (tQ b)) none)
 (he:eA c e [.d (wV b), .ab, .ab, .ptr 0 0, .ptr 1 0, .ptr 13 0, .mp 15, .ptr 20 0, .ab, .ab, .ab, .ab, .mp tid, .ab, .ab, .ab, .ab, .ab, .ab, .ab, .ab, .ab, .ab, .ab, .ab, .ab, .ab, .ab, .ab, .ab, .ab, .ab, .ab, .ab, .ab, .ab, .ab, .ab, .ab, .ab, .ab, .ab, .ab, .ab, .ab, .ab, .ab, .ab, .ab, .ab, .ab, .ab, .ab, .ab, .ab, .ab, .ab, .ab, .ab, .ab, .ab, .ab, .ab, .ab, .ab, .ab, .ptr it 0] 0)
 (hQ:∀e' o' nx' s',e' 0= .d (wV b)->e' 3= .ptr 0 0->e' 4= .ptr 1 0->e' 5= .ptr 13 0->e' 6= .mp 15->e' 7= .ptr 20 0->e' 12= .mp tid->c<=nx'->Good o' nx'->(∀j,j<c->j≠tid->j≠it->o' j=o j)->o' tid=lU s'->(∀v,v∈s'↔v∈s0\/∃p∈b,v=p.1\/v∈rp p.2)->Q (.exit 2) ⟨e',o',nx'⟩):
 jR 0 (fun Q s=>ka Tryz.prog 102 0 false Kj Q s) Q ⟨e,o,c⟩:=by
 have z8:it≠tid:=fun h=>hn h.symm
 refine aX (fun i:List (Int×Tm)×List Int×Option (D×D)=>⟨bB [.d (wV b), .ab, .ab, .ptr 0 0, .ptr 1 0, .ptr 13 0, .mp 15, .ptr 20 0, .ab, .ab, .ab, .ab, .mp tid, .ab, .ab, .ab, .ab, .ab, .ab, .ab, .ab, .ab, .ab, .ab, .ab, .ab, .ab, .ab, .ab, .ab, .ab, .ab, .ab, .ab, .ab, .ab, .ab, .ab, .ab, .ab, .ab, .ab, .ab, .ab, .ab, .ab, .ab, .ab, .ab, .ab, .ab, .ab, .ab, .ab, .ab, .ab, .ab, .ab, .ab, .ab, .ab, .ab, .ab, .ab, .ab, .ab, .ptr it 0],aq (aq o tid (lU i.2.1)) it (.kg (enc (D.int .i64) (tQ i.1)) i.2.2),c⟩)
  (fun i=>i.2.1.Nodup/\(∀p∈i.1,p∈b)/\∀v,(v∈i.2.1\/∃p∈i.1,v=p.1\/v∈rp p.2)↔(v∈s0\/∃p∈b,v=p.1\/v∈rp p.2)) (fun i=>i.1.length) (b,s0,none) ⟨qq,fun _ h=>h,fun _=>Iff.rfl⟩ ?_ ?_
 ·dsimp only
  refine bY.cT _ (by omega) (Nat.le_refl _) ?_ (fun j hj=> ?_) he
  ·exact(by repeat(first|exact hg.mono (by omega)|exact Good.nil|refine Good.aq ?_ (by omega) rfl|refine Good.aq ?_ (by omega) (dR _ _ _ (by omega))|refine Good.aq ?_ (by omega) (by simp[ae.refs,V.ag,V.refs]<;>omega)))
  ·by_cases e1:j=it
   ·subst e1;rw[aa];exact oi
   ·rw[ad _ _ _ _ e1]
    by_cases e2:j=tid
    ·subst e2;rw[aa];exact ot
    ·rw[ad _ _ _ _ e2]
 rintro⟨rest,s,last⟩ ⟨hs,ef,hv⟩
 replace hs:s.Nodup:=hs
 replace ef:∀p∈rest,p∈b:=ef
 replace hv:∀v,(v∈s\/∃p∈rest,v=p.1\/v∈rp p.2)↔(v∈s0\/∃p∈b,v=p.1\/v∈rp p.2):=hv
 have w1:∀k,tid≠c+k:=fun k=>by omega
 have w2:∀k,it≠c+k:=fun k=>by omega
 have w3:tid≠c:=by omega
 have w4:it≠c:=by omega
 dsimp only
 simp only[Kj,Cs,JR,IC.snd,IC.fst]
 simp+contextual (disch:=first|omega|simp only[go_sem,false_implies]) only[go_sem,wrap64,if_pos,hn,z8,w1,w2,w3,w4,Nat.add_assoc,Nat.left_eq_add,Nat.add_eq_left,Nat.add_left_cancel_iff]
 refine ve (fun hr=> ?_) fun i k x hm=> ?_
 ·subst hr
  simp+contextual (disch:=first|omega|simp only[go_sem,false_implies]) only[go_sem,wrap64,if_pos,and_self]
  refine hQ _ _ _ s ?_ ?_ ?_ ?_ ?_ ?_ ?_ ?_ ?_ (fun j g1 g2 g3=> ?_) ?_ (fun v=> ?_)
  ·rfl
  ·rfl
  ·rfl
  ·rfl
  ·rfl
  ·rfl
  ·rfl
  ·omega
  ·exact(by repeat(first|exact hg.mono (by omega)|exact Good.nil|refine Good.aq ?_ (by omega) rfl|refine Good.aq ?_ (by omega) (dR _ _ _ (by omega))|refine Good.aq ?_ (by omega) (by simp[ae.refs,V.ag,V.refs]<;>omega)))
  ·(repeat(first|rfl|rw[aa]|rw[ad _ _ _ _ (by omega)]))
  ·(repeat(first|rfl|rw[aa]|rw[ad _ _ _ _ (by omega)]))
  ·rw[<- hv v]
   simp
 ·have Nx:=List.mem_of_getElem? hm
  have Zx:x.sz<=1000:=hb.sz _ (ef _ Nx)
  have Z8:=Tm.qe x
  simp+contextual (disch:=first|omega|simp only[go_sem,false_implies]) only[go_sem,wrap64,if_pos,hn,z8,w1,w2,w3,w4,Nat.add_assoc,Nat.left_eq_add,Nat.add_eq_left,Nat.add_left_cancel_iff]
  refine ff (tg x (Tm.lM x (by omega)) (by omega) _ _ tid (s5 s k) ?_ ?_ (lF _ hs) _ _ fun o2 n2 s2 m1 m2 m3 m4 m5=> ?_)
  ·exact(by repeat(first|exact hg.mono (by omega)|exact Good.nil|refine Good.aq ?_ (by omega) rfl|refine Good.aq ?_ (by omega) (dR _ _ _ (by omega))|refine Good.aq ?_ (by omega) (by simp[ae.refs,V.ag,V.refs]<;>omega)))
  ·(repeat(first|rfl|rw[aa]|rw[ad _ _ _ _ (by omega)]))
  simp+contextual (disch:=first|omega|simp only[go_sem,false_implies]) only[go_sem,wrap64,if_pos,and_self]
  have hlen:(rest.eraseIdx i).length<rest.length:=by
   obtain⟨hi,_⟩:=List.getElem?_eq_some_iff.1 hm
   rw[List.length_eraseIdx];simp[hi];omega
  have NM:((k,x)::rest.eraseIdx i).Perm rest:=n6 hm
  refine az (rest.eraseIdx i,s2,some (.int .i64 k,x.d)) ⟨m5.1,fun p hp=>ef p (NM.mem_iff.1 (List.mem_cons_of_mem _ hp)),fun v=> ?_⟩ hlen (bY.cT _ (by omega) (by omega) ?_ (fun j hj=> ?_) ?_)
  ·show(v∈s2\/∃p∈rest.eraseIdx i,v=p.1\/v∈rp p.2)↔_
   rw[<- hv v,m5.2 v,pj]
   constructor
   ·rintro(((h|rfl)|h)|⟨p,hp,h⟩)
    ·exact .inl h
    ·exact .inr ⟨(v,x),Nx, .inl rfl⟩
    ·exact .inr ⟨(k,x),Nx, .inr h⟩
    ·exact .inr ⟨p,NM.mem_iff.1 (List.mem_cons_of_mem _ hp),h⟩
   ·rintro(h|⟨p,hp,h⟩)
    ·exact .inl (.inl (.inl h))
    ·rcases List.mem_cons.1 (NM.mem_iff.2 hp)with rfl|hp
     ·rcases h with h|h
      ·exact .inl (.inl (.inr h))
      ·exact .inl (.inr h)
     ·exact .inr ⟨p,hp,h⟩
  ·dsimp only;exact(by repeat(first|exact hg.mono (by omega)|exact Good.nil|refine Good.aq ?_ (by omega) rfl|refine Good.aq ?_ (by omega) (dR _ _ _ (by omega))|refine Good.aq ?_ (by omega) (by simp[ae.refs,V.ag,V.refs]<;>omega)))
  ·dsimp only
   by_cases e1:j=it
   ·subst e1;rw[m3 _ (by omega) z8];(repeat(first|rfl|rw[aa]|rw[ad _ _ _ _ (by omega)]))
   ·by_cases e2:j=tid
    ·subst e2;rw[m4];(repeat(first|rfl|rw[aa]|rw[ad _ _ _ _ (by omega)]))
    ·rw[m3 _ (by omega) e2];(repeat(first|rfl|rw[aa]|rw[ad _ _ _ _ (by omega)]))
  ·(repeat(first|exact aw|refine ao ?_|refine ah rfl ?_|refine ah (aT (aS (by omega))) ?_|refine aF rfl (by simp[V.refs,V.ag]<;>first|omega|assumption) ?_))
theorem RS{b:List (Int×Tm)}{o:Nat->ae}{e:Nat->V}{Q:fq->S->Prop}{c tid:Nat}{s taken:List Int}{vs:V}(hc:29<=c)(ht:tid<c)(Z9:29<=tid)
 (hg:Good o c) (ot:o tid=lU s) (hm:∀v,v∈s↔v∈taken) (hlen:taken.length<=1000000000) (oo:o 13= .row [.d (.i 8), .d (.i 0), .osl 11 0])
 (he:eA c e [.d (wV b), .ab, .ab, .ptr 0 0, .ptr 1 0, .ptr 13 0, .mp 15, .ptr 20 0, .ab, .ab, .ab, .ab, .mp tid] 0)
 (hQ:∀e' o' nx',e' 0= .d (wV b)->e' 3= .ptr 0 0->e' 4= .ptr 1 0->e' 5= .ptr 13 0->e' 6= .mp 15->e' 7= .ptr 20 0->c<=nx'->Good o' nx'->(∀j,j<c->j≠13->o' j=o j)->o' 13= .row [.d (.i 8), .d (.i (eJ taken)), .osl 11 0]->Q (.exit 4) ⟨e',o',nx'⟩):
 jR 0 (fun Q s=>ka Tryz.prog 102 0 false Kk Q s) Q ⟨e,o,c⟩:=by
 obtain⟨m,N9,IW,um,hm4⟩:=jT taken
 refine aX (fun i:Nat=>⟨bB [.d (wV b), .ab, .ab, .ptr 0 0, .ptr 1 0, .ptr 13 0, .mp 15, .ptr 20 0, .ab, .ab, .ab, .ab, .mp tid],aq o 13 (.row [.d (.i 8), .d (.i (i:Int)), .osl 11 0]),c⟩)
  (fun i=>i<=m) (fun i=>m - i) 0 (Nat.zero_le _) ?_ ?_
 ·refine bY.cT _ (by omega) (Nat.le_refl _) ?_ (fun j hj=> ?_) he
  ·exact(by repeat(first|exact hg.mono (by omega)|exact Good.nil|refine Good.aq ?_ (by omega) rfl|refine Good.aq ?_ (by omega) (dR _ _ _ (by omega))|refine Good.aq ?_ (by omega) (by simp[ae.refs,V.ag,V.refs]<;>omega)))
  ·by_cases e1:j=13
   ·subst e1;rw[aa];exact oo
   ·rw[ad _ _ _ _ e1]
 rintro i hi
 replace hi:i<=m:=hi
 have w3:tid≠13:=by omega
 have w4:(13:Nat)≠tid:=by omega
 simp only[Kk,Cs,JR,IC.snd,IC.fst]
 simp+contextual (disch:=first|omega|simp only[go_sem,false_implies]) only[go_sem,wrap64,if_pos,ot,w3,w4,Nat.add_assoc,Nat.left_eq_add,Nat.add_eq_left,Nat.add_left_cancel_iff]
 refine ay (fun h2=> ?_) (fun h2=> ?_)
 ·have nK:(i:Int)∈taken:=(hm _).1 (by simpa using h2)
  have bM:i<m:=by
   rcases Nat.lt_or_eq_of_le hi with h|h
   ·exact h
   ·subst h;exact absurd nK IW
  simp+contextual (disch:=first|omega|simp only[go_sem,false_implies]) only[go_sem,wrap64,if_pos,ot,w3,w4,Nat.add_assoc,Nat.left_eq_add,Nat.add_eq_left,Nat.add_left_cancel_iff]
  refine az (i+1) bM (by omega) (bY.cT _ (by omega) (by omega) ?_ (fun j hj=> ?_) ?_)
  ·exact(by repeat(first|exact hg.mono (by omega)|exact Good.nil|refine Good.aq ?_ (by omega) rfl|refine Good.aq ?_ (by omega) (dR _ _ _ (by omega))|refine Good.aq ?_ (by omega) (by simp[ae.refs,V.ag,V.refs]<;>omega)))
  ·by_cases e1:j=13
   ·subst e1;(repeat(first|rfl|rw[aa]|rw[ad _ _ _ _ (by omega)]))
   ·(repeat(first|rfl|rw[aa]|rw[ad _ _ _ _ (by omega)]))
  ·(repeat(first|exact aw|refine ao ?_|refine ah rfl ?_|refine ah (aT (aS (by omega))) ?_|refine aF rfl (by simp[V.refs,V.ag]<;>first|omega|assumption) ?_))
 ·have nK:(i:Int)∉taken:=fun h=>by
   have:=(hm _).2 h
   have h3:s.contains (i:Int)=true:=List.contains_iff_mem.2 this
   rw[h3]at h2
   cases h2
  have ZA:i=m:=by
   rcases Nat.lt_or_eq_of_le hi with h|h
   ·exact absurd (um i h) nK
   ·exact h
  simp+contextual (disch:=first|omega|simp only[go_sem,false_implies]) only[go_sem,wrap64,if_pos,and_self]
  refine hQ _ _ _ ?_ ?_ ?_ ?_ ?_ ?_ ?_ ?_ (fun j g1 g2=> ?_) ?_
  ·rfl
  ·rfl
  ·rfl
  ·rfl
  ·rfl
  ·rfl
  ·omega
  ·exact(by repeat(first|exact hg.mono (by omega)|exact Good.nil|refine Good.aq ?_ (by omega) rfl|refine Good.aq ?_ (by omega) (dR _ _ _ (by omega))|refine Good.aq ?_ (by omega) (by simp[ae.refs,V.ag,V.refs]<;>omega)))
  ·(repeat(first|rfl|rw[aa]|rw[ad _ _ _ _ (by omega)]))
  ·rw[N9, <- ZA];(repeat(first|rfl|rw[aa]|rw[ad _ _ _ _ (by omega)]))
end Go.Proofs.YtealblliddhgiaaGreat
namespace Go.Proofs.YtealblliddhgiaaGreat
theorem GP{t:Tm}(hw:t.wf)(hz:t.sz<=1000)(h8:t.op=8)(ih:∀t':Tm,t'.wf->t'.sz<=1000->t'.b7<t.b7->Eg t')(b:List (Int×Tm))(hb:Iz b):
 cq Tryz.prog 91 [wV b,t.d] (.ret [(bA t.b7 b t).d]):=by
 have gX:=(Tm.gC t).1 hw
 obtain⟨a,body,hk⟩:=lI (gX.2.1 h8)
 have ha:a∈t.kids:=by rw[hk];simp
 have qI:body∈t.kids:=by rw[hk];simp
 have g1:=Tm.dg ha
 have g2:=Tm.dg qI
 have s1:=Tm.tn ha
 have s2:=Tm.tn qI
 have e1:(t.kids.map Tm.d)[0]? =some a.d:=by rw[hk];rfl
 have e2:(t.kids.map Tm.d)[1]? =some body.d:=by rw[hk];rfl
 refine cq.bt mix Qj (by simp) ?_
 rw[JR]
 simp+contextual (disch:=first|omega|simp only[go_sem,false_implies]) only[go_sem,wrap64,if_pos,e1,e2]
 refine eS (ih a (gX.2.2 a ha) (by omega) (by omega) b hb) ?_
 simp+contextual (disch:=first|omega|simp only[go_sem,false_implies]) only[go_sem,wrap64,if_pos,and_self]
 refine aK (by decide) ?_
 simp+contextual (disch:=first|omega|simp only[go_sem,false_implies]) only[go_sem,wrap64,if_pos,e1,e2]
 refine aK (by decide) ?_
 simp+contextual (disch:=first|omega|simp only[go_sem,false_implies]) only[go_sem,wrap64,if_pos,and_self]
 refine bN (zh body (Tm.lM body (by omega))) ?_
 simp+contextual (disch:=first|omega|simp only[go_sem,false_implies]) only[go_sem,wrap64,if_pos,and_self]
 refine RQ (t:=t) (body:=body) hb (by repeat(first|exact hg.mono (by omega)|exact Good.nil|refine Good.aq ?_ (by omega) rfl|refine Good.aq ?_ (by omega) (dR _ _ _ (by omega))|refine Good.aq ?_ (by omega) (by simp[ae.refs,V.ag,V.refs]<;>omega))) (by(repeat(first|rfl|rw[aa]|rw[ad _ _ _ _ (by omega)]))) (by(repeat(first|rfl|rw[aa]|rw[ad _ _ _ _ (by omega)]))) ?_ ?_ fun e' o' nx' ir q0 q3 q4 q5 q6 q7 q9 m1 hg m3 m4 hp=> ?_
 ·rw[aa,jS]
 ·(repeat(first|exact aw|refine ao ?_|refine ah rfl ?_|refine ah (aT (aS (by omega))) ?_|refine aF rfl (by simp[V.refs,V.ag]<;>first|omega|assumption) ?_))
 have p0:o' 0= .row t.row:=by rw[m3 0 (by decide) (by decide) (by decide)];(repeat(first|rfl|rw[aa]|rw[ad _ _ _ _ (by omega)]))
 have p1:o' 1= .row [.d (.i 0), .d (.i 0), .aW]:=by rw[m3 1 (by decide) (by decide) (by decide)];(repeat(first|rfl|rw[aa]|rw[ad _ _ _ _ (by omega)]))
 have RT:o' 11= .arr 0 28 3 [(bA a.b7 b a).d, .agg [.i 0, .i 0, .sl []]]:=by rw[m3 11 (by decide) (by decide) (by decide)];(repeat(first|rfl|rw[aa]|rw[ad _ _ _ _ (by omega)]))
 have RU:o' 13= .row [.d (.i 8), .d (.i t.n), .osl 11 0]:=by rw[m3 13 (by decide) (by decide) (by decide)];(repeat(first|rfl|rw[aa]|rw[ad _ _ _ _ (by omega)]))
 have RV:o' 20= .row body.row:=by rw[m3 20 (by decide) (by decide) (by decide)];(repeat(first|rfl|rw[aa]|rw[ad _ _ _ _ (by omega)]))
 have RW:Iz (cu ir t.n):=by
  have Av:(cu ir t.n).Perm (cu b t.n):=hp.filter _
  have ef:∀p∈cu ir t.n,p∈b:=fun p Et=>(List.mem_filter.1 (Av.mem_iff.1 Et)).1
  refine⟨(Av.map _).nodup_iff.2 (lJ _ hb.keys), ?_,fun p h=>hb.sz p (ef p h),fun p h=>hb.cp p (ef p h)⟩
  rw[Av.length_eq]
  exact Nat.le_trans (List.length_filter_le _ _) hb.len
 have Kl:∀f x,bA f (cu ir t.n) x=bA f (cu b t.n) x:=fun f x=>kQ f x ((((hp.filter _).map _).nodup_iff).2 (lJ _ hb.keys)) (hp.filter _)
 have w15:15≠nx':=by omega
 cases hc:kP (cu b t.n) body t.n with
 |false=>
  rw[hc]at q9
  simp+contextual (disch:=first|omega|simp only[go_sem,false_implies]) only[go_sem,wrap64,if_pos,q0,q3,q4,q5,q6,q7,q9,p0,p1,RT,RU,RV,m4]
  have qQ:bA t.b7 b t= .mk 8 t.n [bA a.b7 b a,bA body.b7 (cu ir t.n) body]:=by
   have hh:t.b7=Tm.dO t.kids+1:=by rw[Tm.dq];omega
   generalize Tm.dO t.kids=f at hh
   rw[Kl,hh]
   simp only[bA]
   rw[if_neg (by omega),if_pos h8,hk]
   simp only[hc,Bool.false_eq_true,if_false]
   rw[dQ _ a.b7 a b (gX.2.2 a ha) (by omega) (Nat.le_refl _),dQ _ body.b7 body _ (gX.2.2 body qI) (by omega) (Nat.le_refl _)]
  refine eS (ih body (gX.2.2 body qI) (by omega) (by omega) _ RW) ?_
  simp+contextual (disch:=first|omega|simp only[go_sem,false_implies]) only[go_sem,wrap64,if_pos,q0,q3,q4,q5,q6,q7,q9,p0,p1,RT,RU,RV,m4]
  refine aK (by decide) ?_
  rw[qQ]
  simp+contextual (disch:=first|omega|simp only[go_sem,false_implies]) only[go_sem,wrap64,if_pos,q0,q3,q4,q5,q6,q7,q9,p0,p1,RT,RU,RV,m4,List.set_cons_succ,List.set_cons_zero]
  rw[Tm.sB]
  rfl
 |true=>
  rw[hc]at q9
  have hth:=Tm.qe t
  simp+contextual (disch:=first|omega|simp only[go_sem,false_implies]) only[go_sem,wrap64,if_pos,q0,q3,q4,q5,q6,q7,q9,p0,p1,RT,RU,RV,m4,Nat.add_assoc,Nat.left_eq_add,Nat.add_eq_left,Nat.add_left_cancel_iff]
  refine ff (tg t (Tm.lM t (by omega)) (by omega) _ _ (nx'+1) [] ?_ ?_ List.nodup_nil _ _ fun o2 n2 s2 r1 r2 r3 r4 r5=> ?_)
  ·exact(by repeat(first|exact hg.mono (by omega)|exact Good.nil|refine Good.aq ?_ (by omega) rfl|refine Good.aq ?_ (by omega) (dR _ _ _ (by omega))|refine Good.aq ?_ (by omega) (by simp[ae.refs,V.ag,V.refs]<;>omega)))
  ·(repeat(first|rfl|rw[aa]|rw[ad _ _ _ _ (by omega)]))
  have ZB:∀v,v∈s2↔v∈rp t:=fun v=>by simpa using r5.2 v
  have u0:o2 0= .row t.row:=by rw[r3 0 (by omega) (by omega)];(repeat(first|rfl|rw[aa]|rw[ad _ _ _ _ (by omega)]));exact p0
  have u1:o2 1= .row [.d (.i 0), .d (.i 0), .aW]:=by rw[r3 1 (by omega) (by omega)];(repeat(first|rfl|rw[aa]|rw[ad _ _ _ _ (by omega)]));exact p1
  have Bg:o2 11= .arr 0 28 3 [(bA a.b7 b a).d, .agg [.i 0, .i 0, .sl []]]:=by rw[r3 11 (by omega) (by omega)];(repeat(first|rfl|rw[aa]|rw[ad _ _ _ _ (by omega)]));exact RT
  have XR:o2 13= .row [.d (.i 8), .d (.i t.n), .osl 11 0]:=by rw[r3 13 (by omega) (by omega)];(repeat(first|rfl|rw[aa]|rw[ad _ _ _ _ (by omega)]));exact RU
  have IA:o2 15=pt (cu ir t.n):=by rw[r3 15 (by omega) (by omega)];(repeat(first|rfl|rw[aa]|rw[ad _ _ _ _ (by omega)]));exact m4
  have IB:o2 20= .row body.row:=by rw[r3 20 (by omega) (by omega)];(repeat(first|rfl|rw[aa]|rw[ad _ _ _ _ (by omega)]));exact RV
  simp+contextual (disch:=first|omega|simp only[go_sem,false_implies]) only[go_sem,wrap64,if_pos,q0,q3,q4,q5,q6,q7,q9,Nat.add_assoc,Nat.left_eq_add,Nat.add_eq_left,Nat.add_left_cancel_iff]
  have ZC:Good o2 n2:=r2
  clear hg
  have hg:=ZC
  refine RR hb (c:=n2+2) (tid:=nx'+1) (it:=n2+1) (s0:=s2) (by omega) (by omega) (by omega) (by omega) (by repeat(first|exact hg.mono (by omega)|exact Good.nil|refine Good.aq ?_ (by omega) rfl|refine Good.aq ?_ (by omega) (dR _ _ _ (by omega))|refine Good.aq ?_ (by omega) (by simp[ae.refs,V.ag,V.refs]<;>omega))) (by(repeat(first|rfl|rw[aa]|rw[ad _ _ _ _ (by omega)]));exact r4) r5.1 ?_ ?_ fun e3 o3 n3 s3 q0 q3 q4 q5 q6 q7 A6 r6 ZD r7 r8 r9=> ?_
  ·rw[aa,jS]
  ·(repeat(first|exact aw|refine ao ?_|refine ah rfl ?_|refine ah (aT (aS (by omega))) ?_|refine aF rfl (by simp[V.refs,V.ag]<;>first|omega|assumption) ?_|refine ah (by first|exact q0|exact q1|exact q2|exact q3|exact q4|exact q5|exact q6|exact q7|exact q8|exact q9|exact DF|exact DG|exact A6|exact DH|exact DI|exact wO|exact wP|exact wQ|exact DJ|exact DK|exact DL|exact DM|exact DN|exact DO|exact DP|exact DS|exact DT|exact DU|exact DV|exact DW|exact DX|exact DY|exact DZ|exact D0|exact D1|exact D2|exact D3|exact D4|exact D5|exact D6|exact D7) ?_|refine aF (by first|exact q0|exact q1|exact q2|exact q3|exact q4|exact q5|exact q6|exact q7|exact q8|exact q9|exact DF|exact DG|exact A6|exact DH|exact DI|exact wO|exact wP|exact wQ|exact DJ|exact DK|exact DL|exact DM|exact DN|exact DO|exact DP|exact DS|exact DT|exact DU|exact DV|exact DW|exact DX|exact DY|exact DZ|exact D0|exact D1|exact D2|exact D3|exact D4|exact D5|exact D6|exact D7) (by simp[V.refs,V.ag]<;>first|omega|assumption) ?_))
  have VU:o3 0= .row t.row:=by rw[r7 0 (by omega) (by omega) (by omega)];(repeat(first|rfl|rw[aa]|rw[ad _ _ _ _ (by omega)]));exact u0
  have VV:o3 1= .row [.d (.i 0), .d (.i 0), .aW]:=by rw[r7 1 (by omega) (by omega) (by omega)];(repeat(first|rfl|rw[aa]|rw[ad _ _ _ _ (by omega)]));exact u1
  have VW:o3 11= .arr 0 28 3 [(bA a.b7 b a).d, .agg [.i 0, .i 0, .sl []]]:=by rw[r7 11 (by omega) (by omega) (by omega)];(repeat(first|rfl|rw[aa]|rw[ad _ _ _ _ (by omega)]));exact Bg
  have VX:o3 13= .row [.d (.i 8), .d (.i t.n), .osl 11 0]:=by rw[r7 13 (by omega) (by omega) (by omega)];(repeat(first|rfl|rw[aa]|rw[ad _ _ _ _ (by omega)]));exact XR
  have VY:o3 15=pt (cu ir t.n):=by rw[r7 15 (by omega) (by omega) (by omega)];(repeat(first|rfl|rw[aa]|rw[ad _ _ _ _ (by omega)]));exact IA
  have VZ:o3 20= .row body.row:=by rw[r7 20 (by omega) (by omega) (by omega)];(repeat(first|rfl|rw[aa]|rw[ad _ _ _ _ (by omega)]));exact IB
  clear u0 u1 Bg XR IA IB
  have zG:∀v,v∈s3↔v∈eh b t:=fun v=>by rw[r9 v,na,ZB v]
  have w1:nx'+1≠n3:=by omega
  simp+contextual (disch:=first|omega|simp only[go_sem,false_implies]) only[go_sem,wrap64,if_pos,q0,q3,q4,q5,q6,q7,A6,VX,Nat.add_assoc,Nat.left_eq_add,Nat.add_eq_left,Nat.add_left_cancel_iff]
  clear hg
  have hg:=ZD
  refine RS (b:=b) (c:=n3+2) (tid:=nx'+1) (s:=s3) (taken:=eh b t) (vs:= .ab) (by omega) (by omega) (by omega) (by repeat(first|exact hg.mono (by omega)|exact Good.nil|refine Good.aq ?_ (by omega) rfl|refine Good.aq ?_ (by omega) (dR _ _ _ (by omega))|refine Good.aq ?_ (by omega) (by simp[ae.refs,V.ag,V.refs]<;>omega))) (by(repeat(first|rfl|rw[aa]|rw[ad _ _ _ _ (by omega)]));exact r8) zG ?_ (by(repeat(first|rfl|rw[aa]|rw[ad _ _ _ _ (by omega)]))) ?_ fun e4 o4 n4 q0 q3 q4 q5 q6 q7 r10 hg4 RX NR=> ?_
  ·have h1:=Cp t
   have h2:∀l:List (Int×Tm),(∀p∈l,p.2.sz<=1000)->(l.flatMap fun p=>p.1::rp p.2).length<=1001*l.length:=by
    intro l
    induction l with
    |nil=>intro _;simp
    |cons p l tL=>
     intro h
     have h3:=tL fun x hx=>h x (List.mem_cons_of_mem _ hx)
     have h4:=h p (List.mem_cons_self ..)
     have h5:=Cp p.2
     rw[List.flatMap_cons,List.length_append,List.length_cons,List.length_cons]
     omega
   have h3:=h2 b hb.sz
   have h4:=hb.len
   unfold eh
   rw[List.length_append]
   omega
  ·(repeat(first|exact aw|refine ao ?_|refine ah rfl ?_|refine ah (aT (aS (by omega))) ?_|refine aF rfl (by simp[V.refs,V.ag]<;>first|omega|assumption) ?_|refine ah (by first|exact q0|exact q1|exact q2|exact q3|exact q4|exact q5|exact q6|exact q7|exact q8|exact q9|exact DF|exact DG|exact A6|exact DH|exact DI|exact wO|exact wP|exact wQ|exact DJ|exact DK|exact DL|exact DM|exact DN|exact DO|exact DP|exact DS|exact DT|exact DU|exact DV|exact DW|exact DX|exact DY|exact DZ|exact D0|exact D1|exact D2|exact D3|exact D4|exact D5|exact D6|exact D7) ?_|refine aF (by first|exact q0|exact q1|exact q2|exact q3|exact q4|exact q5|exact q6|exact q7|exact q8|exact q9|exact DF|exact DG|exact A6|exact DH|exact DI|exact wO|exact wP|exact wQ|exact DJ|exact DK|exact DL|exact DM|exact DN|exact DO|exact DP|exact DS|exact DT|exact DU|exact DV|exact DW|exact DX|exact DY|exact DZ|exact D0|exact D1|exact D2|exact D3|exact D4|exact D5|exact D6|exact D7) (by simp[V.refs,V.ag]<;>first|omega|assumption) ?_))
  have u0:o4 0= .row t.row:=by rw[RX 0 (by omega) (by omega)];(repeat(first|rfl|rw[aa]|rw[ad _ _ _ _ (by omega)]));exact VU
  have u1:o4 1= .row [.d (.i 0), .d (.i 0), .aW]:=by rw[RX 1 (by omega) (by omega)];(repeat(first|rfl|rw[aa]|rw[ad _ _ _ _ (by omega)]));exact VV
  have Bg:o4 11= .arr 0 28 3 [(bA a.b7 b a).d, .agg [.i 0, .i 0, .sl []]]:=by rw[RX 11 (by omega) (by omega)];(repeat(first|rfl|rw[aa]|rw[ad _ _ _ _ (by omega)]));exact VW
  have IA:o4 15=pt (cu ir t.n):=by rw[RX 15 (by omega) (by omega)];(repeat(first|rfl|rw[aa]|rw[ad _ _ _ _ (by omega)]));exact VY
  have IB:o4 20= .row body.row:=by rw[RX 20 (by omega) (by omega)];(repeat(first|rfl|rw[aa]|rw[ad _ _ _ _ (by omega)]));exact VZ
  simp+contextual (disch:=first|omega|simp only[go_sem,false_implies]) only[go_sem,wrap64,if_pos,q0,q3,q4,q5,q6,q7,u0,u1,Bg,IA,IB,NR,Nat.add_assoc,Nat.left_eq_add,Nat.add_eq_left,Nat.add_left_cancel_iff]
  refine eS (fZ (eJ (eh b t))) ?_
  simp+contextual (disch:=first|omega|simp only[go_sem,false_implies]) only[go_sem,wrap64,if_pos,q0,q3,q4,q5,q6,q7,u0,u1,Bg,IA,IB,NR,Nat.add_assoc,Nat.left_eq_add,Nat.add_eq_left,Nat.add_left_cancel_iff]
  generalize ZE:eJ (eh b t)=mv at*
  have Ah:Iz []:=⟨List.nodup_nil,by simp,by simp,by simp⟩
  have XS:(Tm.mk 1 mv []).wf:=by simp[Tm.wf,Tm.Kc]
  have O5:(Tm.mk 1 mv []).sz=1:=by rw[Tm.fi];rfl
  have hvh:(Tm.mk 1 mv []).b7=1:=by rw[Tm.dq];rfl
  have hbh:1<=body.b7:=by rw[Tm.dq];omega
  have AF:=ih (.mk 1 mv []) XS (by omega) (by omega) [] Ah
  rw[mN _ _ XS]at AF
  have CQ:Iz [(t.n, .mk 1 mv [])]:=⟨by simp,by simp,by intro p hp;simp at hp;subst hp;rw[O5];omega,by intro p hp;simp at hp;subst hp;exact AF⟩
  have Bd:=iT body.b7 body [(t.n, .mk 1 mv [])] (gX.2.2 body qI) (Nat.le_refl _) (by intro p hp;simp at hp;subst hp;exact⟨rfl,rfl⟩)
  refine eS (ih body (gX.2.2 body qI) (by omega) (by omega) _ CQ) ?_
  simp+contextual (disch:=first|omega|simp only[go_sem,false_implies]) only[go_sem,wrap64,if_pos,q0,q3,q4,q5,q6,q7,u0,u1,Bg,IA,IB,NR,Nat.add_assoc,Nat.left_eq_add,Nat.add_eq_left,Nat.add_left_cancel_iff]
  refine aK (cK (ids:=[0,13,20]) (nx:=n4) (by simp) (by simp;omega) [([],[3]),([0],[]),([0],[]),([1],[]),([1],[]),([],[]),([3],[3]),([],[]),([2],[]),([3],[3]),([2],[2])] (by decide)) ?_
  simp+contextual (disch:=first|omega|simp only[go_sem,false_implies]) only[go_sem,wrap64,if_pos,q0,q3,q4,q5,q6,q7,u0,u1,Bg,IA,IB,NR,Nat.add_assoc,Nat.left_eq_add,Nat.add_eq_left,Nat.add_left_cancel_iff]
  have qQ:bA t.b7 b t= .mk 8 mv [bA a.b7 b a,bA (bA body.b7 [(t.n, .mk 1 mv [])] body).b7 (cu ir t.n) (bA body.b7 [(t.n, .mk 1 mv [])] body)]:=by
   have hh:t.b7=Tm.dO t.kids+1:=by rw[Tm.dq];omega
   generalize Tm.dO t.kids=f at hh
   rw[Kl,hh]
   simp only[bA]
   rw[if_neg (by omega),if_pos h8,hk]
   simp only[hc,if_true]
   rw[ZE,dQ f a.b7 a b (gX.2.2 a ha) (by omega) (Nat.le_refl _),dQ f body.b7 body [(t.n, .mk 1 mv [])] (gX.2.2 body qI) (by omega) (Nat.le_refl _)]
   rw[dQ f (bA body.b7 [(t.n, .mk 1 mv [])] body).b7 (bA body.b7 [(t.n, .mk 1 mv [])] body) (cu b t.n) Bd.2.1 (by rw[Bd.1];omega) (Nat.le_refl _)]
  refine eS (ih (bA body.b7 [(t.n, .mk 1 mv [])] body) Bd.2.1 (by rw[Bd.2.2];omega) (by rw[Bd.1];omega) _ RW) ?_
  simp+contextual (disch:=first|omega|simp only[go_sem,false_implies]) only[go_sem,wrap64,if_pos,q0,q3,q4,q5,q6,q7,u0,u1,Bg,IA,IB,NR,Nat.add_assoc,Nat.left_eq_add,Nat.add_eq_left,Nat.add_left_cancel_iff]
  refine aK (by decide) ?_
  rw[qQ]
  simp+contextual (disch:=first|omega|simp only[go_sem,false_implies]) only[go_sem,wrap64,if_pos,q0,q3,q4,q5,q6,q7,u0,u1,Bg,IA,IB,NR,Nat.add_assoc,Nat.left_eq_add,Nat.add_eq_left,Nat.add_left_cancel_iff,List.set_cons_succ,List.set_cons_zero]
  rw[Tm.sB]
  rfl
end Go.Proofs.YtealblliddhgiaaGreat
namespace Go.Proofs.YtealblliddhgiaaGreat
theorem wX:∀ (n:Nat) (t:Tm),t.wf->t.sz<=1000->t.b7<=n->Eg t
 |0,t,_,_,h=>by rw[Tm.dq]at h;omega
 |n+1,t,hw,hz,h=>by
  have ih:∀t':Tm,t'.wf->t'.sz<=1000->t'.b7<t.b7->Eg t':=fun t' h1 h2 h3=>wX n t' h1 h2 (by omega)
  have gX:=(Tm.gC t).1 hw
  exact GN hw hz (fun k hk=>ih k (gX.2.2 k hk) (by have:=Tm.tn hk;omega) (by have:=Tm.dg hk;omega)) (fun h8 b hb=>GP hw hz h8 ih b hb)
theorem Mz{t:Tm}{b:List (Int×Tm)}(hw:t.wf)(hz:t.sz<=1000)(hk:(b.map (·.1)).Nodup)(hl:b.length<=1000)(hb:∀p∈b,p.2.wf/\p.2.sz<=1000):
 cq Tryz.prog 53 [wV b,t.d] (.ret [(bA t.b7 b t).d]):=by
 refine wX _ t hw hz (Nat.le_refl _) b ⟨hk,hl,fun p hp=>(hb p hp).2,fun p hp=> ?_⟩
 have:=wX _ p.2 (hb p hp).1 (hb p hp).2 (Nat.le_refl _) [] ⟨List.nodup_nil,by simp,by simp,by simp⟩
 rwa [mN _ _ (hb p hp).1]at this
theorem GQ{σ:Type}(l:List TB)(hl:l.length<=9223372036854775807)(g:Nat)(dE:List V)(base:Nat)(H:σ->Nat->ae)(step:σ->TB->σ×Bool)(hc:∀r∈V.ag dE,r<base)(ok:σ->Prop)(bz:∀x∈l,∀s,ok s->(step s x).2=true->ok (step s x).1)
 (h:∀x∈l,∀s,ok s->xc Tryz.prog g (.d x.d::dE) base (H s) (H (step s x).1) (.d (.bool (step s x).2))) (s:σ) (qq:ok s):
 xc Tryz.prog 89 [.d (.sl (l.map TB.d)), .func (.func g) [] dE] base (H s) (H (aO step s l).1) (.d (.bool (aO step s l).2)):=by
 intro o nx hI K X hK
 have vA:∀r∈V.ag dE,r<nx:=fun r hr=>Nat.lt_of_lt_of_le (hc r hr) hI.le
 refine eN.bt mix Qh (by simp) ?_
 rw[Vr]
 simp+contextual only[go_sem]
 refine aX (fun i:Nat×σ×(Nat->ae)×Nat=>⟨bB [.ab, .func (.func g) [] dE, .ab, .ab, .ab, .ab, .ab, .d (.sl (l.map TB.d)), .d (.i l.length), .d (.i i.1)],i.2.2.1,i.2.2.2⟩)
  (fun i=>i.1<=l.length/\gA base (H i.2.1) i.2.2.1 i.2.2.2/\nx<=i.2.2.2/\(∀id,base<=id->id<nx->i.2.2.1 id=o id)/\aO step s l=aO step i.2.1 (l.drop i.1)/\ok i.2.1) (fun i=>l.length - i.1) (0,s,o,nx)
  ⟨Nat.zero_le _,hI,Nat.le_refl _,fun _ _ _=>rfl,rfl,qq⟩ ?_ ?_
 ·dsimp only
  refine bY.cT _ (Nat.le_refl _) (by omega) hI.cY (fun _ _=>rfl) ?_
  (repeat(first|exact aw|refine ao ?_|refine ah rfl ?_|refine ah (aT (aS (by omega))) ?_|refine aF rfl (by simp[V.refs,V.ag]<;>first|omega|assumption) ?_))
 rintro⟨k,s',o',nx'⟩ ⟨hk,B8,hn,dU,hf,sU⟩
 simp only at hk B8 hn dU hf sU
 simp+contextual only[go_sem]
 refine ay (fun h1=> ?_) (fun h1=> ?_)
 ·simp at h1
  obtain⟨x,hx⟩:=a7 h1
  have kU:=List.mem_of_getElem? hx
  have hd:l.drop k=x::l.drop (k+1):=by
   rw[List.drop_eq_getElem_cons h1]
   rw[List.getElem?_eq_getElem h1]at hx;injection hx with hx;rw[hx]
  simp+contextual only[go_sem,hx,Nat.add_assoc,Nat.left_eq_add,Nat.add_eq_left,Nat.add_left_cancel_iff]
  have Sj:=B8.le
  refine mD (h x kU s' sU _ _ (?_:gA base (H s') _ (nx'+7)) _ _ fun o2 n2 m1 m2 m3=> ?_)
  ·exact(B8.aq (i:=nx'+3) (m:=nx'+7) (by omega) (by omega) (by omega) rfl).aq (by omega) (by omega) (by omega) rfl
  have yQ:∀id,base<=id->id<nx->o2 id=o id:=fun id h2 h3=>by
   rw[m3 id h2 (by omega),ad _ _ _ _ (by omega),ad _ _ _ _ (by omega),dU id h2 h3]
  simp+contextual only[go_sem]
  refine ay (fun h2=> ?_) (fun h2=> ?_)
  ·simp+contextual only[go_sem]
   simp at h2
   have:aO step s l=((step s' x).1,false):=by rw[hf,hd,aO,if_neg (by rw[h2];exact Bool.false_ne_true)]
   rw[this]at hK
   exact hK _ _ (by omega) (m2.mono (by omega)) yQ
  ·simp+contextual only[go_sem]
   simp at h2
   have:aO step s l=aO step (step s' x).1 (l.drop (k+1)):=by rw[hf,hd,aO,if_pos h2]
   refine az (k+1,(step s' x).1,o2,n2) ⟨h1,m2,by dsimp only;omega,yQ,this,bz x kU s' sU h2⟩ (by dsimp only;omega) ?_
   dsimp only
   have J8:∀r∈V.ag dE,r<n2:=fun r hr=>by have:=vA r hr;omega
   refine bY.cT _ (by omega) (by omega) m2.cY (fun _ _=>rfl) ?_
   (repeat(first|exact aw|refine ao ?_|refine ah rfl ?_|refine ah (aT (aS (by omega))) ?_|refine aF rfl (by simp[V.refs,V.ag]<;>first|omega|assumption) ?_))
 ·simp+contextual only[go_sem]
  simp at h1
  rw[List.drop_eq_nil_of_le h1]at hf
  simp only[aO]at hf
  rw[hf]at hK
  exact hK _ _ (by omega) (B8.mono (by omega)) dU
def gH(s:bP)(last:Int)(x:TB):Int×Bool:=(x.var,decide (last<x.var)&&decide (x.var<20)&&fG s x.term)
def dJ(s:bP)(l:List TB):Bool:=decide ((l.length:Int)<=20)&&(aO (gH s) (-1) l).2
theorem Eh(s:bP)(hs:s.Fits)(x:TB)(hx:x.term.Fin)(base sp lp:Nat)(h:Nat->ae)(xu:h sp= .row s.row)(hb:sp<base)(hl:lp<base)(hn:sp≠lp)(last:Int):
 xc Tryz.prog 90 [.d x.d, .ptr lp 0, .ptr sp 0] base (aq h lp (.row [.d (.i last)])) (aq h lp (.row [.d (.i (gH s last x).1)])) (.d (.bool (gH s last x).2)):=by
 intro o nx hI K X hK
 have hle:=hI.le
 have hg:=hI.cY
 have q0:o sp= .row s.row:=by rw[hI.eq sp hb,ad _ _ _ _ hn,xu]
 have q1:o lp= .row [.d (.i last)]:=by rw[hI.eq lp hl,aa]
 have z8:lp≠sp:=fun e=>hn e.symm
 have w1:∀k,sp≠nx+k:=fun k=>by omega
 have w2:∀k,lp≠nx+k:=fun k=>by omega
 have w3:sp≠nx:=by omega
 have w4:lp≠nx:=by omega
 refine eN.bt mix Qi (by simp) ?_
 rw[Vs]
 simp only[gH]at hK
 cases h1:(decide (last<x.var)&&decide (x.var<20))with
 |false=>
  rw[h1]at hK
  simp+contextual (disch:=first|omega|simp only[go_sem,false_implies]) only[go_sem,wrap64,if_pos,q0,q1,hn,z8,w1,w2,w3,w4,Nat.add_assoc,Nat.left_eq_add,Nat.add_eq_left,Nat.add_left_cancel_iff,h1]
  rw[Bool.false_and]at hK
  refine hK _ _ (by omega) ⟨(by repeat(first|exact hg.mono (by omega)|exact Good.nil|refine Good.aq ?_ (by omega) rfl|refine Good.aq ?_ (by omega) (dR _ _ _ (by omega))|refine Good.aq ?_ (by omega) (by simp[ae.refs,V.ag,V.refs]<;>omega))),by omega,fun j hj=> ?_⟩ (fun j g1 g2=>by(repeat(first|rfl|rw[aa]|rw[ad _ _ _ _ (by omega)])))
  by_cases e:j=lp
  ·subst e;(repeat(first|rfl|rw[aa]|rw[ad _ _ _ _ (by omega)]))
  ·rw[ad _ _ _ _ e,ad _ _ _ _ e,ad _ _ _ _ (by omega),hI.eq j hj,ad _ _ _ _ e]
 |true=>
  rw[h1]at hK
  simp+contextual (disch:=first|omega|simp only[go_sem,false_implies]) only[go_sem,wrap64,if_pos,q0,q1,hn,z8,w1,w2,w3,w4,Nat.add_assoc,Nat.left_eq_add,Nat.add_eq_left,Nat.add_left_cancel_iff,h1]
  refine aM (sV s hs x.term hx.fits hx.b7) rfl ?_
  simp+contextual (disch:=first|omega|simp only[go_sem,false_implies]) only[go_sem,wrap64,if_pos,and_self]
  rw[Bool.true_and]at hK
  refine hK _ _ (by omega) ⟨(by repeat(first|exact hg.mono (by omega)|exact Good.nil|refine Good.aq ?_ (by omega) rfl|refine Good.aq ?_ (by omega) (dR _ _ _ (by omega))|refine Good.aq ?_ (by omega) (by simp[ae.refs,V.ag,V.refs]<;>omega))),by omega,fun j hj=> ?_⟩ (fun j g1 g2=>by(repeat(first|rfl|rw[aa]|rw[ad _ _ _ _ (by omega)])))
  by_cases e:j=lp
  ·subst e;(repeat(first|rfl|rw[aa]|rw[ad _ _ _ _ (by omega)]))
  ·rw[ad _ _ _ _ e,ad _ _ _ _ e,ad _ _ _ _ (by omega),hI.eq j hj,ad _ _ _ _ e]
theorem GR(s:bP)(hs:s.Fits)(l:List TB)(hl:l.length<=9223372036854775807)(hx:∀x∈l,x.term.Fin):cq Tryz.prog 52 [s.d, .sl (l.map TB.d)] (.ret [.bool (dJ s l)]):=by
 refine cq.bt mix PV (by simp) ?_
 rw[UR]
 unfold dJ
 cases h1:decide ((l.length:Int)<=20)with
 |false=>
  simp+contextual (disch:=first|omega|simp only[go_sem,false_implies]) only[go_sem,wrap64,if_pos,Nat.add_assoc,Nat.left_eq_add,Nat.add_eq_left,Nat.add_left_cancel_iff,h1]
 |true=>
  simp+contextual (disch:=first|omega|simp only[go_sem,false_implies]) only[go_sem,wrap64,if_pos,Nat.add_assoc,Nat.left_eq_add,Nat.add_eq_left,Nat.add_left_cancel_iff,h1]
  refine cQ (GQ l hl 90 [.ptr 2 0, .ptr 0 0] 3 (fun last:Int=>aq (aq (fun _=> .no) 0 (.row s.row)) 2 (.row [.d (.i last)])) (gH s) (by simp[V.ag,V.refs]) (fun _=>True) (fun _ _ _ _ _=>trivial)
   (fun x kU last _=>Eh s hs x (hx x kU) 3 0 2 (aq (fun _=> .no) 0 (.row s.row)) (aa _ _ _) (by omega) (by omega) (by omega) last) (-1) trivial _ _ ⟨?_,by omega,fun id aj=> ?_⟩ _ _ fun o2 n2 m1 m2 m3=> ?_)
  ·exact(by repeat(first|exact hg.mono (by omega)|exact Good.nil|refine Good.aq ?_ (by omega) rfl|refine Good.aq ?_ (by omega) (dR _ _ _ (by omega))|refine Good.aq ?_ (by omega) (by simp[ae.refs,V.ag,V.refs]<;>omega)))
  ·rcases(by omega:id=0\/id=1\/id=2)with rfl|rfl|rfl<;>rfl
  simp+contextual (disch:=first|omega|simp only[go_sem,false_implies]) only[go_sem,wrap64,if_pos,and_self]
theorem tq{M:Nat}(hM:1<=M):∀ (f:Nat) (t:Tm) (b:List (Int×Tm)),t.wf->t.b7<=f->(∀p∈b,p.2.sz<=M)->(bA f b t).sz<=t.sz*M
 |0,t,_,_,h,_=>by rw[Tm.dq]at h;omega
 |f+1,t,b,hw,hf,hb=>by
  have gX:=(Tm.gC t).1 hw
  have V0:∀n:Nat,n<=n*M:=fun n=>Nat.le_mul_of_pos_right n hM
  simp only[bA]
  split
  ·have:=Tm.A2 t
   split
   ·rename_i x hx
    have h1:=hb _ (jU hx)
    exact Nat.le_trans h1 (Nat.le_mul_of_pos_left M (by omega))
   ·exact V0 _
  ·split
   ·rename_i h8
    obtain⟨a,body,hk⟩:=lI (gX.2.1 h8)
    have ha:a∈t.kids:=by rw[hk];simp
    have qI:body∈t.kids:=by rw[hk];simp
    have g1:=Tm.dg ha
    have g2:=Tm.dg qI
    have e1:=tq hM f a b (gX.2.2 a ha) (by omega) hb
    have mf:∀p∈cu b t.n,p.2.sz<=M:=fun p hp=>hb p (List.mem_filter.1 hp).1
    have e2:=tq hM f body _ (gX.2.2 body qI) (by omega) mf
    have e0:=fun m=>iT f body [(t.n, .mk 1 m [])] (gX.2.2 body qI) (by omega) (by intro p hp;simp at hp;subst hp;exact⟨rfl,rfl⟩)
    have e3:=fun m=>tq hM f (bA f [(t.n, .mk 1 m [])] body) _ (e0 m).2.1 (by rw[(e0 m).1];omega) mf
    have hz:t.sz=1+(a.sz+body.sz):=by rw[Tm.fi,hk,cB,cB];simp[jD]
    have fin:∀ (n:Int) (y:Tm),y.sz<=body.sz*M->(Tm.mk 8 n [bA f b a,y]).sz<=t.sz*M:=by
     intro n y hy
     rw[Tm.Cd,cB,cB,hz,Nat.add_mul,Nat.add_mul]
     simp only[jD,List.map_nil,List.sum_nil]
     omega
    rw[hk]
    simp only
    split
    ·exact fin _ _ (by have:=e3 (eJ (eh b t));rw[(e0 _).2.2]at this;exact this)
    ·exact fin _ _ e2
   ·have hl:∀l:List Tm,(∀k∈l,k∈t.kids)->jD (l.map (bA f b))<=jD l*M:=by
     intro l
     induction l with
     |nil=>intro _;simp[jD]
     |cons k l tL=>
      intro h
      have hk:=h k (List.mem_cons_self ..)
      have h1:=tq hM f k b (gX.2.2 k hk) (by have:=Tm.dg hk;omega) hb
      have h2:=tL fun x hx=>h x (List.mem_cons_of_mem _ hx)
      rw[List.map_cons,cB,cB,Nat.add_mul]
      omega
    have:=hl t.kids fun _ h=>h
    rw[Tm.Cd,Tm.fi t,Nat.add_mul]
    omega
end Go.Proofs.YtealblliddhgiaaGreat
namespace Go.Proofs.YtealblliddhgiaaGreat
theorem Bh{K:V->List (Nat×ae)->Prop}{id:Nat}{l:List (Int×Int)}(h0:l=[]->K (.bW [.d (.bool false)]) [])
 (h1:∀ (i:Nat) n k,l[i]? =some (n,k)->K (.bW [.d (.bool true), .d (.int .i64 n), .d (D.i k)]) [(id, .kg (enc (D.int .i64) (ints (l.eraseIdx i))) (some (.int .i64 n,D.i k)))]):uL K id (enc (D.int .i64) (ints l)):=by
 refine p6 _ (fun h=>h0 ?_) fun i k x h=> ?_
 ·cases l with
  |nil=>rfl
  |cons x l=>simp[ints]at h
 ·unfold ints at h|-
  rw[List.getElem?_map]at h
  cases hl:l[i]? with
  |none=>rw[hl]at h;cases h
  |some n=>
   rw[hl]at h
   simp at h
   obtain⟨rfl,rfl⟩:=h
   have:=h1 i n.1 n.2 hl
   rw[fh]
   exact this
theorem zm{α:Type}{l:List α}{i:Nat}{n:α}(h:l[i]? =some n):l.Perm (n::l.eraseIdx i):=by
 obtain⟨hi,e⟩:=List.getElem?_eq_some_iff.1 h
 have xu:l=l.take i++n::l.drop (i+1):=by rw[<- e,List.getElem_cons_drop,List.take_append_drop]
 rw[List.eraseIdx_eq_take_drop_succ]
 conv=>lhs;rw[xu]
 exact List.perm_middle
theorem zn{k:Int}{x:D}:wK k x []=[(k,x)]:=rfl
def zo(n:Int)(m:List (Int×Int)):List (Int×Int):=m.filter fun p=>p.1!=n
theorem zp{n:Int}{m:List (Int×Int)}(h:ni m)(own:Int):ni ((n,own)::zo n m):=by
 unfold ni zo
 rw[List.map_cons,List.nodup_cons]
 refine⟨fun hm=> ?_, ?_⟩
 ·obtain⟨p,hp,e⟩:=List.mem_map.1 hm
  have:=(List.mem_filter.1 hp).2
  simp at this e
  exact this e
 ·exact h.sublist (List.filter_sublist.map _)
theorem MA{n own:Int}(m:List (Int×Int))(v:Int):lk ((n,own)::zo n m) v=if n=v then some own else lk m v:=by
 simp only[lk]
 split
 ·rfl
 ·rename_i fK
  induction m with
  |nil=>rfl
  |cons p m ih=>
   simp only[zo,List.filter_cons,lk]at ih|-
   by_cases h:p.1=n
   ·have: ¬p.1=v:=fun e=>fK (h ▸ e)
    simp[h,ih,fK]
   ·simp only[bne_iff_ne,ne_eq,h,not_false_eq_true,if_true,lk,ih]
def Ct:IC:=tJ.snd.snd.snd.snd.fst.snd.fst.snd.snd.snd.fst.fst
theorem vg{t:Tm}{o:Nat->ae}{nx c cid ib it:Nat}{own:Int}{mB:List (Int×Int)}{e:Nat->V}{Q:fq->S->Prop}
 (hg:Good o c) (hc:nx+15<=c) (c1:cid<nx) (ot:o (nx+1)= .row t.row) (os:o (nx+14)= .row [.ptr cid 0, .mp ib]) (oi:o ib=dh [(t.n,own)]) (V1:o it= .kg (enc (D.int .i64) (ints mB)) none) (kb:ni mB) (i1:nx+15<=ib) (i2:nx+15<=it)
 (he:eA c e [.ab, .ab, .ptr nx 0, .ptr (nx+1) 0, .ptr (nx+2) 0, .ab, .ab, .ptr (nx+11) 0, .ptr (nx+14) 0, .ab, .ab, .ab, .ab, .ab, .ab, .ab, .ab, .ab, .ab, .ab, .ab, .ab, .ab, .ab, .ab, .ab, .ab, .ab, .ab, .ab, .ab, .ab, .ab, .ab, .ab, .ab, .ab, .ab, .ab, .ab, .ab, .ab, .ab, .ab, .ab, .ab, .ab, .ab, .ab, .ab, .ab, .ab, .ab, .ab, .ab, .ab, .ab, .ab, .ab, .ab, .ab, .ab, .ab, .ab, .ab, .ab, .ab, .ab, .ab, .ab, .ab, .ab, .ab, .ab, .ptr it 0] 0)
 (hQ:∀e' o' nx' mI,e' 2= .ptr nx 0->e' 3= .ptr (nx+1) 0->e' 4= .ptr (nx+2) 0->e' 7= .ptr (nx+11) 0->e' 8= .ptr (nx+14) 0->c<=nx'->Good o' nx'->(∀j,j<nx+15->o' j=o j)->o' ib=dh mI->ni mI->(∀v,lk mI v=if t.n=v then some own else lk mB v)->Q (.exit 0) ⟨e',o',nx'⟩):
 jR nx (fun Q s=>ka Tryz.prog 116 nx false Ct Q s) Q ⟨e,o,c⟩:=by
 have h1:ib<c:=hg.lt (by rw[oi];exact ae.noConfusion)
 have h2:it<c:=hg.lt (by rw[V1];exact ae.noConfusion)
 have h3:ib≠it:=fun h=>by rw[h,V1]at oi;cases oi
 have h4:it≠ib:=fun h=>h3 h.symm
 have h5:∀k,k<15->ib≠nx+k:=fun k hk=>by omega
 have h6:∀k,k<15->it≠nx+k:=fun k hk=>by omega
 have h7:∀k,k<15->nx+k≠ib:=fun k hk=>by omega
 have h8:∀k,k<15->nx+k≠it:=fun k hk=>by omega
 refine aX (fun i:List (Int×Int)×List (Int×Int)×Option (D×D)=>⟨bB [.ab, .ab, .ptr nx 0, .ptr (nx+1) 0, .ptr (nx+2) 0, .ab, .ab, .ptr (nx+11) 0, .ptr (nx+14) 0, .ab, .ab, .ab, .ab, .ab, .ab, .ab, .ab, .ab, .ab, .ab, .ab, .ab, .ab, .ab, .ab, .ab, .ab, .ab, .ab, .ab, .ab, .ab, .ab, .ab, .ab, .ab, .ab, .ab, .ab, .ab, .ab, .ab, .ab, .ab, .ab, .ab, .ab, .ab, .ab, .ab, .ab, .ab, .ab, .ab, .ab, .ab, .ab, .ab, .ab, .ab, .ab, .ab, .ab, .ab, .ab, .ab, .ab, .ab, .ab, .ab, .ab, .ab, .ab, .ab, .ptr it 0],aq (aq o ib (dh i.2.1)) it (.kg (enc (D.int .i64) (ints i.1)) i.2.2),c⟩)
  (fun i=>(i.2.1++zo t.n i.1).Perm ((t.n,own)::zo t.n mB)) (fun i=>i.1.length) (mB,[(t.n,own)],none) (List.Perm.refl _) ?_ ?_
 ·dsimp only
  refine bY.cT _ (by omega) (Nat.le_refl _) ?_ (fun j hj=> ?_) he
  ·exact(by repeat(first|exact hg.mono (by omega)|exact Good.nil|refine Good.aq ?_ (by omega) rfl|refine Good.aq ?_ (by omega) (dR _ _ _ (by omega))|refine Good.aq ?_ (by omega) (by simp[ae.refs,V.ag,V.refs]<;>omega)))
  ·by_cases e1:j=it
   ·subst e1;rw[aa];exact V1
   ·rw[ad _ _ _ _ e1]
    by_cases e2:j=ib
    ·subst e2;rw[aa];exact oi
    ·rw[ad _ _ _ _ e2]
 rintro⟨rest,s',last⟩ hp
 simp only at hp
 simp only[Ct,tJ,IC.snd,IC.fst]
 simp+contextual (disch:=first|omega|simp only[go_sem,false_implies]) only[go_sem,wrap64,if_pos,h3,h4,h5,h6,h7,h8]
 refine Bh (fun hr=> ?_) fun i m v hm=> ?_
 ·subst hr
  simp+contextual (disch:=first|omega|simp only[go_sem,false_implies]) only[go_sem,wrap64,if_pos,and_self]
  have Et:s'.Perm ((t.n,own)::zo t.n mB):=by simpa[zo]using hp
  have hk:ni s':=(Et.map _).nodup_iff.2 (zp kb own)
  refine hQ _ _ _ s' ?_ ?_ ?_ ?_ ?_ ?_ ?_ (fun j g1=> ?_) ?_ hk (fun v=> ?_)
  ·rfl
  ·rfl
  ·rfl
  ·rfl
  ·rfl
  ·omega
  ·exact(by repeat(first|exact hg.mono (by omega)|exact Good.nil|refine Good.aq ?_ (by omega) rfl|refine Good.aq ?_ (by omega) (dR _ _ _ (by omega))|refine Good.aq ?_ (by omega) (by simp[ae.refs,V.ag,V.refs]<;>omega)))
  ·(repeat(first|rfl|rw[aa]|rw[ad _ _ _ _ (by omega)]))
  ·(repeat(first|rfl|rw[aa]|rw[ad _ _ _ _ (by omega)]))
  ·rw[Ix hk Et v,MA]
 ·have pN:=zm hm
  have GS:(zo t.n rest).Perm (zo t.n ((m,v)::rest.eraseIdx i)):=pN.filter _
  have hlen:(rest.eraseIdx i).length+1=rest.length:=by have:=pN.length_eq;simpa using this.symm
  simp+contextual (disch:=first|omega|simp only[go_sem,false_implies]) only[go_sem,wrap64,if_pos,ot,os,h3,h4,h5,h6,h7,h8]
  refine ay (fun h9=> ?_) (fun h9=> ?_)
  ·have fK: ¬m=t.n:=by simpa using h9
   have GU:zo t.n ((m,v)::rest.eraseIdx i)=(m,v)::zo t.n (rest.eraseIdx i):=by simp[zo,fK]
   rw[GU]at GS
   have RY:lk s' m=none:=by
    rw[Ch]
    have hk:((s'++(m,v)::zo t.n (rest.eraseIdx i)).map (·.1)).Nodup:=((((List.Perm.append_left s' GS).symm.trans hp).map _).nodup_iff).2 (zp kb own)
    rw[List.map_append,List.map_cons,List.nodup_append]at hk
    exact fun IW=>hk.2.2 m IW m (by simp) rfl
   simp+contextual (disch:=first|omega|simp only[go_sem,false_implies]) only[go_sem,wrap64,if_pos,ot,os,h3,h4,h5,h6,h7,h8]
   rw[tc RY]
   refine az (rest.eraseIdx i,s'++[(m,v)],some (.int .i64 m,D.i v)) ?_ (by dsimp only;omega) ?_
   ·dsimp only
    rw[List.append_assoc]
    exact(List.Perm.append_left s' GS).symm.trans hp
   ·dsimp only
    refine bY.cT _ (by omega) (by omega) ?_ (fun j hj=> ?_) ?_
    ·exact(by repeat(first|exact hg.mono (by omega)|exact Good.nil|refine Good.aq ?_ (by omega) rfl|refine Good.aq ?_ (by omega) (dR _ _ _ (by omega))|refine Good.aq ?_ (by omega) (by simp[ae.refs,V.ag,V.refs]<;>omega)))
    ·by_cases e1:j=it
     ·subst e1;(repeat(first|rfl|rw[aa]|rw[ad _ _ _ _ (by omega)]))
     ·by_cases e2:j=ib
      ·subst e2;(repeat(first|rfl|rw[aa]|rw[ad _ _ _ _ (by omega)]))
      ·(repeat(first|rfl|rw[aa]|rw[ad _ _ _ _ (by omega)]))
    ·(repeat(first|exact aw|refine ao ?_|refine ah rfl ?_|refine ah (aT (aS (by omega))) ?_|refine aF rfl (by simp[V.refs,V.ag]<;>first|omega|assumption) ?_))
  ·have fK:m=t.n:=by simpa using h9
   have GU:zo t.n ((m,v)::rest.eraseIdx i)=zo t.n (rest.eraseIdx i):=by simp[zo,fK]
   rw[GU]at GS
   simp+contextual (disch:=first|omega|simp only[go_sem,false_implies]) only[go_sem,wrap64,if_pos,and_self]
   refine az (rest.eraseIdx i,s',some (.int .i64 m,D.i v)) ?_ (by dsimp only;omega) ?_
   ·dsimp only
    exact(List.Perm.append_left s' GS).symm.trans hp
   ·dsimp only
    refine bY.cT _ (by omega) (by omega) ?_ (fun j hj=> ?_) ?_
    ·exact(by repeat(first|exact hg.mono (by omega)|exact Good.nil|refine Good.aq ?_ (by omega) rfl|refine Good.aq ?_ (by omega) (dR _ _ _ (by omega))|refine Good.aq ?_ (by omega) (by simp[ae.refs,V.ag,V.refs]<;>omega)))
    ·by_cases e1:j=it
     ·subst e1;(repeat(first|rfl|rw[aa]|rw[ad _ _ _ _ (by omega)]))
     ·by_cases e2:j=ib
      ·subst e2;(repeat(first|rfl|rw[aa]|rw[ad _ _ _ _ (by omega)]))
      ·(repeat(first|rfl|rw[aa]|rw[ad _ _ _ _ (by omega)]))
    ·(repeat(first|exact aw|refine ao ?_|refine ah rfl ?_|refine ah (aT (aS (by omega))) ?_|refine aF rfl (by simp[V.refs,V.ag]<;>first|omega|assumption) ?_))
theorem rr{o o':Nat->ae}{nx c cid fid nx' n2:Nat}{op' N n':Int}{l:List Tm}{Jb:List (Int×Int)}{K:V->(Nat->ae)->Nat->Prop}(hK:Iy o nx cid fid (.mk op' N l,Jb,n') K)(c1:cid<nx)(c2:fid<nx)(hc:nx+15<=c)
 (g1:c<=nx') (g2:Good o' nx') (g4:o' c= .arr 0 28 3 (l.map Tm.d)) (g5:∀j,j<nx->j≠cid->j≠fid->o' j=o j) (g6:o' cid= .row [.d (.i n'), .mp fid]) (g7:o' fid=dh Jb) (g8:nx'<=n2):
 K (.agg [.d (.i op'), .d (.i N), .osl c 0]) (aq o' (nx+2) (.row [.d (.i op'), .d (.i N), .osl c 0])) n2:=by
 have gl:c<nx':=g2.lt (by rw[g4];exact ae.noConfusion)
 refine hK _ _ _ ?_ ?_ ?_ ?_ (fun j k1 k2 k3=> ?_) ?_ ?_
 ·omega
 ·have hg:=g2
  exact(by repeat(first|exact hg.mono (by omega)|exact Good.nil|refine Good.aq ?_ (by omega) rfl|refine Good.aq ?_ (by omega) (dR _ _ _ (by omega))|refine Good.aq ?_ (by omega) (by simp[ae.refs,V.ag,V.refs]<;>omega)))
 ·rw[Tm.sB]
  have w1:c≠nx+2:=by omega
  simp+contextual (disch:=first|omega|simp only[go_sem,false_implies]) only[go_sem,wrap64,if_pos,g4,w1,Nat.add_assoc,Nat.left_eq_add,Nat.add_eq_left,Nat.add_left_cancel_iff]
 ·simp[V.ids,V.ba];omega
 ·rw[ad _ _ _ _ (by omega)]
  exact g5 j k1 k2 k3
 ·(repeat(first|rfl|rw[aa]|rw[ad _ _ _ _ (by omega)]))
  exact g6
 ·(repeat(first|rfl|rw[aa]|rw[ad _ _ _ _ (by omega)]))
  exact g7
set_option maxHeartbeats 2000000 in
theorem ID:∀t:Tm,t.fits->tP t:=by
 refine Tm.jC fun t ih hf o nx cid fid bv mB bd fr n hp K X hK=> ?_
 have rP:=(Tm.dy _).1 hf
 have hg:=hp.cY
 have hc:=hp.hc
 have qJ:=hp.hf
 have jA:cid<nx:=hg.lt (by rw[hc];exact ae.noConfusion)
 have la:fid<nx:=hg.lt (by rw[qJ];exact ae.noConfusion)
 have o7:cid≠fid:=fun e=>by rw[e,qJ]at hc;cases hc
 have Ke:fid≠cid:=fun e=>o7 e.symm
 have y1:cid≠nx:=by omega
 have y2:∀k,cid≠nx+k:=fun k=>by omega
 have y3:fid≠nx:=by omega
 have y4:∀k,fid≠nx+k:=fun k=>by omega
 refine eN.bt mix JT (by simp) ?_
 rw[tJ]
 by_cases h1:t.op=1
 ·have lX:(t.op==1)=true:=by simpa using h1
  rw[pk,if_pos h1]at hK
  have vf:=hp.lk t.n
  cases hl:lk mB t.n with
  |some k=>
   rcases hp.hb with⟨e1,e2⟩|⟨b,e1,hb⟩
   ·rw[e2]at hl;cases hl
   ·subst e1
    obtain⟨j,hj⟩:=pn hl
    have qi:b<nx:=hg.lt (by rw[hb];exact ae.noConfusion)
    have z1:b≠nx:=by omega
    have z2:∀k,b≠nx+k:=fun k=>by omega
    rw[hl]at vf
    rw[<- vf]at hK
    simp+contextual (disch:=first|omega|simp only[go_sem,false_implies]) only[go_sem,wrap64,if_pos,hc,qJ,hb,hj,y1,y2,y3,y4,z1,z2,Nat.add_assoc,Nat.left_eq_add,Nat.add_eq_left,Nat.add_left_cancel_iff,lX]
    refine bN (fZ k) ?_
    simp+contextual (disch:=first|omega|simp only[go_sem,false_implies]) only[go_sem,wrap64,if_pos,y1,y2,Nat.add_assoc,Nat.left_eq_add,Nat.add_eq_left,Nat.add_left_cancel_iff]
    refine hK _ _ _ ?_ ?_ rfl (fun id aj=>by simp[V.ids]at aj) (fun j g1 g2 g3=> ?_) ?_ ?_
    ·omega
    ·exact(by repeat(first|exact hg.mono (by omega)|exact Good.nil|refine Good.aq ?_ (by omega) rfl|refine Good.aq ?_ (by omega) (dR _ _ _ (by omega))|refine Good.aq ?_ (by omega) (by simp[ae.refs,V.ag,V.refs]<;>omega)))
    ·(repeat(first|rfl|rw[aa]|rw[ad _ _ _ _ (by omega)]))
    ·(repeat(first|rfl|rw[aa]|rw[ad _ _ _ _ (by omega)]))
     exact hc
    ·(repeat(first|rfl|rw[aa]|rw[ad _ _ _ _ (by omega)]))
     exact qJ
  |none=>
   rw[hl]at vf
   have nN:=lH hl
   rw[<- vf]at hK
   cases Bz:lk fr t.n with
   |some k=>
    obtain⟨j2,zF⟩:=pn Bz
    rw[Bz]at hK
    rcases hp.hb with⟨e1,e2⟩|⟨b,e1,hb⟩
    ·subst e1
     simp+contextual (disch:=first|omega|simp only[go_sem,false_implies]) only[go_sem,wrap64,if_pos,hc,qJ,nN,zF,y1,y2,y3,y4,Nat.add_assoc,Nat.left_eq_add,Nat.add_eq_left,Nat.add_left_cancel_iff,lX]
     refine aK (bw rfl) ?_
     simp+contextual (disch:=first|omega|simp only[go_sem,false_implies]) only[go_sem,wrap64,if_pos,hc,qJ,nN,zF,y1,y2,y3,y4,Nat.add_assoc,Nat.left_eq_add,Nat.add_eq_left,Nat.add_left_cancel_iff,lX]
     refine bN (fZ k) ?_
     simp+contextual (disch:=first|omega|simp only[go_sem,false_implies]) only[go_sem,wrap64,if_pos,y1,y2,Nat.add_assoc,Nat.left_eq_add,Nat.add_eq_left,Nat.add_left_cancel_iff]
     refine hK _ _ _ ?_ ?_ rfl (fun id aj=>by simp[V.ids]at aj) (fun j g1 g2 g3=> ?_) ?_ ?_
     ·omega
     ·exact(by repeat(first|exact hg.mono (by omega)|exact Good.nil|refine Good.aq ?_ (by omega) rfl|refine Good.aq ?_ (by omega) (dR _ _ _ (by omega))|refine Good.aq ?_ (by omega) (by simp[ae.refs,V.ag,V.refs]<;>omega)))
     ·(repeat(first|rfl|rw[aa]|rw[ad _ _ _ _ (by omega)]))
     ·(repeat(first|rfl|rw[aa]|rw[ad _ _ _ _ (by omega)]))
      exact hc
     ·(repeat(first|rfl|rw[aa]|rw[ad _ _ _ _ (by omega)]))
      exact qJ
    ·subst e1
     have qi:b<nx:=hg.lt (by rw[hb];exact ae.noConfusion)
     have z1:b≠nx:=by omega
     have z2:∀k,b≠nx+k:=fun k=>by omega
     simp+contextual (disch:=first|omega|simp only[go_sem,false_implies]) only[go_sem,wrap64,if_pos,hc,qJ,hb,nN,zF,y1,y2,y3,y4,z1,z2,Nat.add_assoc,Nat.left_eq_add,Nat.add_eq_left,Nat.add_left_cancel_iff,lX]
     refine aK (bw rfl) ?_
     simp+contextual (disch:=first|omega|simp only[go_sem,false_implies]) only[go_sem,wrap64,if_pos,hc,qJ,hb,nN,zF,y1,y2,y3,y4,z1,z2,Nat.add_assoc,Nat.left_eq_add,Nat.add_eq_left,Nat.add_left_cancel_iff,lX]
     refine bN (fZ k) ?_
     simp+contextual (disch:=first|omega|simp only[go_sem,false_implies]) only[go_sem,wrap64,if_pos,y1,y2,Nat.add_assoc,Nat.left_eq_add,Nat.add_eq_left,Nat.add_left_cancel_iff]
     refine hK _ _ _ ?_ ?_ rfl (fun id aj=>by simp[V.ids]at aj) (fun j g1 g2 g3=> ?_) ?_ ?_
     ·omega
     ·exact(by repeat(first|exact hg.mono (by omega)|exact Good.nil|refine Good.aq ?_ (by omega) rfl|refine Good.aq ?_ (by omega) (dR _ _ _ (by omega))|refine Good.aq ?_ (by omega) (by simp[ae.refs,V.ag,V.refs]<;>omega)))
     ·(repeat(first|rfl|rw[aa]|rw[ad _ _ _ _ (by omega)]))
     ·(repeat(first|rfl|rw[aa]|rw[ad _ _ _ _ (by omega)]))
      exact hc
     ·(repeat(first|rfl|rw[aa]|rw[ad _ _ _ _ (by omega)]))
      exact qJ
   |none=>
    have IE:=lH Bz
    rw[Bz]at hK
    rcases hp.hb with⟨e1,e2⟩|⟨b,e1,hb⟩
    ·subst e1
     simp+contextual (disch:=first|omega|simp only[go_sem,false_implies]) only[go_sem,wrap64,if_pos,hc,qJ,nN,IE,y1,y2,y3,y4,Nat.add_assoc,Nat.left_eq_add,Nat.add_eq_left,Nat.add_left_cancel_iff,lX]
     refine aK (bw rfl) ?_
     simp+contextual (disch:=first|omega|simp only[go_sem,false_implies]) only[go_sem,wrap64,if_pos,hc,qJ,nN,IE,y1,y2,y3,y4,Nat.add_assoc,Nat.left_eq_add,Nat.add_eq_left,Nat.add_left_cancel_iff,lX]
     refine cQ (Gw cid n (.mp fid) _ _ (by(repeat(first|rfl|rw[aa]|rw[ad _ _ _ _ (by omega)]));exact hc) ⟨hp.n0,by have:=hp.n1;omega⟩ (by repeat(first|exact hg.mono (by omega)|exact Good.nil|refine Good.aq ?_ (by omega) rfl|refine Good.aq ?_ (by omega) (dR _ _ _ (by omega))|refine Good.aq ?_ (by omega) (by simp[ae.refs,V.ag,V.refs]<;>omega))) _ _ ?_)
     simp+contextual (disch:=first|omega|simp only[go_sem,false_implies]) only[go_sem,wrap64,if_pos,hc,qJ,y1,y2,y3,y4,o7,Ke,Nat.add_assoc,Nat.left_eq_add,Nat.add_eq_left,Nat.add_left_cancel_iff]
     refine aK (va (by kernel_rfl)) ?_
     simp+contextual (disch:=first|omega|simp only[go_sem,false_implies]) only[go_sem,wrap64,if_pos,Nat.add_assoc,Nat.left_eq_add,Nat.add_eq_left,Nat.add_left_cancel_iff]
     refine bN (fZ n) ?_
     simp+contextual (disch:=first|omega|simp only[go_sem,false_implies]) only[go_sem,wrap64,if_pos,y1,y2,Nat.add_assoc,Nat.left_eq_add,Nat.add_eq_left,Nat.add_left_cancel_iff]
     refine hK _ _ _ ?_ ?_ rfl (fun id aj=>by simp[V.ids]at aj) (fun j g1 g2 g3=> ?_) ?_ ?_
     ·omega
     ·exact(by repeat(first|exact hg.mono (by omega)|exact Good.nil|refine Good.aq ?_ (by omega) rfl|refine Good.aq ?_ (by omega) (dR _ _ _ (by omega))|refine Good.aq ?_ (by omega) (by simp[ae.refs,V.ag,V.refs]<;>omega)))
     ·(repeat(first|rfl|rw[aa]|rw[ad _ _ _ _ (by omega)]))
     ·(repeat(first|rfl|rw[aa]|rw[ad _ _ _ _ (by omega)]))
     ·(repeat(first|rfl|rw[aa]|rw[ad _ _ _ _ (by omega)]))
      rw[tc Bz]
    ·subst e1
     have qi:b<nx:=hg.lt (by rw[hb];exact ae.noConfusion)
     have z1:b≠nx:=by omega
     have z2:∀k,b≠nx+k:=fun k=>by omega
     simp+contextual (disch:=first|omega|simp only[go_sem,false_implies]) only[go_sem,wrap64,if_pos,hc,qJ,hb,nN,IE,y1,y2,y3,y4,z1,z2,Nat.add_assoc,Nat.left_eq_add,Nat.add_eq_left,Nat.add_left_cancel_iff,lX]
     refine aK (bw rfl) ?_
     simp+contextual (disch:=first|omega|simp only[go_sem,false_implies]) only[go_sem,wrap64,if_pos,hc,qJ,hb,nN,IE,y1,y2,y3,y4,z1,z2,Nat.add_assoc,Nat.left_eq_add,Nat.add_eq_left,Nat.add_left_cancel_iff,lX]
     refine cQ (Gw cid n (.mp fid) _ _ (by(repeat(first|rfl|rw[aa]|rw[ad _ _ _ _ (by omega)]));exact hc) ⟨hp.n0,by have:=hp.n1;omega⟩ (by repeat(first|exact hg.mono (by omega)|exact Good.nil|refine Good.aq ?_ (by omega) rfl|refine Good.aq ?_ (by omega) (dR _ _ _ (by omega))|refine Good.aq ?_ (by omega) (by simp[ae.refs,V.ag,V.refs]<;>omega))) _ _ ?_)
     simp+contextual (disch:=first|omega|simp only[go_sem,false_implies]) only[go_sem,wrap64,if_pos,hc,qJ,y1,y2,y3,y4,o7,Ke,Nat.add_assoc,Nat.left_eq_add,Nat.add_eq_left,Nat.add_left_cancel_iff]
     refine aK (va (by kernel_rfl)) ?_
     simp+contextual (disch:=first|omega|simp only[go_sem,false_implies]) only[go_sem,wrap64,if_pos,Nat.add_assoc,Nat.left_eq_add,Nat.add_eq_left,Nat.add_left_cancel_iff]
     refine bN (fZ n) ?_
     simp+contextual (disch:=first|omega|simp only[go_sem,false_implies]) only[go_sem,wrap64,if_pos,y1,y2,Nat.add_assoc,Nat.left_eq_add,Nat.add_eq_left,Nat.add_left_cancel_iff]
     refine hK _ _ _ ?_ ?_ rfl (fun id aj=>by simp[V.ids]at aj) (fun j g1 g2 g3=> ?_) ?_ ?_
     ·omega
     ·exact(by repeat(first|exact hg.mono (by omega)|exact Good.nil|refine Good.aq ?_ (by omega) rfl|refine Good.aq ?_ (by omega) (dR _ _ _ (by omega))|refine Good.aq ?_ (by omega) (by simp[ae.refs,V.ag,V.refs]<;>omega)))
     ·(repeat(first|rfl|rw[aa]|rw[ad _ _ _ _ (by omega)]))
     ·(repeat(first|rfl|rw[aa]|rw[ad _ _ _ _ (by omega)]))
     ·(repeat(first|rfl|rw[aa]|rw[ad _ _ _ _ (by omega)]))
      rw[tc Bz]
 ·have lX:(t.op==1)=false:=by simpa using h1
  have hg1:Good o (nx+3):=hg.mono (by omega)
  cases h8:(t.op==8)with
  |false=>
   have RZ: ¬t.op=8:=by simpa using h8
   have ej:=Tm.fi t
   have G9:=hp.n1
   rw[pk,if_neg h1,if_neg RZ]at hK
   have NS:∀k∈t.kids,tP k:=fun k hk=>ih k hk (rP.2 k hk)
   have XT:Good (aq (aq (aq (aq (aq (aq (aq o nx (.row [.ptr cid 0,bv])) (nx+1) (.row t.row)) (nx+2) (.row [.d (.i 0), .d (.i 0), .aW])) (nx+11) (.row [.d (.i 0), .d (.i 0), .aW])) (nx+11) (.row [.d (.i t.op), .d (.i t.n), .aW])) (nx+14) (.row [.d .gE, .d .cO])) (nx+14) (.row [.ptr cid 0,bv])) (nx+23):=by
    have KK:∀r∈bv.refs,r<nx:=by
     rcases hp.hb with⟨e1,e2⟩|⟨b,e1,hb⟩
     ·subst e1;simp[V.refs]
     ·subst e1;simp[V.refs];exact hg.lt (by rw[hb];exact ae.noConfusion)
    have a8:(ae.row [.ptr cid 0,bv]).refs.all (fun r=>decide (r<nx+23))=true:=by
     rw[List.all_eq_true]
     intro r hr
     simp[ae.refs,V.ag,V.refs]at hr
     rcases hr with rfl|hr
     ·exact decide_eq_true (by omega)
     ·exact decide_eq_true (by have:=KK r hr;omega)
    exact(((((((hg.mono (by omega)).aq (by omega) a8).aq (by omega) rfl).aq (by omega) rfl).aq (by omega) rfl).aq (by omega) rfl).aq (by omega) rfl).aq (by omega) a8
   simp+contextual (disch:=first|omega|simp only[go_sem,false_implies]) only[go_sem,wrap64,if_pos,hc,qJ,y1,y2,y3,y4,Nat.add_assoc,Nat.left_eq_add,Nat.add_eq_left,Nat.add_left_cancel_iff,lX,h8]
   rcases hp.hb with⟨e1,e2⟩|⟨b,e1,hb⟩
   ·subst e1
    have vf:=hp.lk
    rw[e2]at vf
    refine GF (t:=t) (cid:=cid) (fid:=fid) (op':=t.op) (N:=t.n) (bd:=bd) (fr0:=fr) (n0:=n) NS XT (by omega) jA la o7 ?_ ?_ ?_ ?_ ?_ ?_ vf hp.n0 (by omega) ?_ fun e' o' nx' e4 e7 g1 g2 g3 g4 g5 g6 g7=> ?_
    ·(repeat(first|rfl|rw[aa]|rw[ad _ _ _ _ (by omega)]))
    ·(repeat(first|rfl|rw[aa]|rw[ad _ _ _ _ (by omega)]))
    ·(repeat(first|rfl|rw[aa]|rw[ad _ _ _ _ (by omega)]))
    ·(repeat(first|rfl|rw[aa]|rw[ad _ _ _ _ (by omega)]))
    ·(repeat(first|rfl|rw[aa]|rw[ad _ _ _ _ (by omega)]))
     exact hc
    ·(repeat(first|rfl|rw[aa]|rw[ad _ _ _ _ (by omega)]))
     exact qJ
    ·(repeat(first|exact aw|refine ao ?_|refine ah rfl ?_|refine ah (aT (aS (by omega))) ?_|refine aF rfl (by simp[V.refs,V.ag]<;>first|omega|assumption) ?_))
    have q2:o' (nx+2)= .row [.d (.i 0), .d (.i 0), .aW]:=by
     rw[g5 (nx+2) (by omega) (by omega) (by omega)];(repeat(first|rfl|rw[aa]|rw[ad _ _ _ _ (by omega)]))
    simp+contextual (disch:=first|omega|simp only[go_sem,false_implies]) only[go_sem,wrap64,if_pos,e4,e7,g3,q2,Nat.add_assoc,Nat.left_eq_add,Nat.add_eq_left,Nat.add_left_cancel_iff]
    refine rr hK jA la (by omega) g1 g2 g4 (fun j k1 k2 k3=> ?_) g6 g7 (by omega)
    rw[g5 j (by omega) k2 k3];(repeat(first|rfl|rw[aa]|rw[ad _ _ _ _ (by omega)]))
   ·subst e1
    have qi:b<nx:=hg.lt (by rw[hb];exact ae.noConfusion)
    refine GH (t:=t) (cid:=cid) (fid:=fid) (b:=b) (mB:=mB) (op':=t.op) (N:=t.n) (bd:=bd) (fr0:=fr) (n0:=n) NS XT (by omega) jA la o7 ?_ ?_ ?_ ?_ ?_ ?_ hp.lk ?_ hp.kb ?_ ?_ qi hp.n0 (by omega) ?_ fun e' o' nx' e4 e7 g1 g2 g3 g4 g5 g6 g7=> ?_
    ·(repeat(first|rfl|rw[aa]|rw[ad _ _ _ _ (by omega)]))
    ·(repeat(first|rfl|rw[aa]|rw[ad _ _ _ _ (by omega)]))
    ·(repeat(first|rfl|rw[aa]|rw[ad _ _ _ _ (by omega)]))
    ·(repeat(first|rfl|rw[aa]|rw[ad _ _ _ _ (by omega)]))
    ·(repeat(first|rfl|rw[aa]|rw[ad _ _ _ _ (by omega)]))
     exact hc
    ·(repeat(first|rfl|rw[aa]|rw[ad _ _ _ _ (by omega)]))
     exact qJ
    ·(repeat(first|rfl|rw[aa]|rw[ad _ _ _ _ (by omega)]))
     exact hb
    ·intro e;rw[e,hc]at hb;cases hb
    ·intro e;rw[e,qJ]at hb;cases hb
    ·(repeat(first|exact aw|refine ao ?_|refine ah rfl ?_|refine ah (aT (aS (by omega))) ?_|refine aF rfl (by simp[V.refs,V.ag]<;>first|omega|assumption) ?_))
    have q2:o' (nx+2)= .row [.d (.i 0), .d (.i 0), .aW]:=by
     rw[g5 (nx+2) (by omega) (by omega) (by omega)];(repeat(first|rfl|rw[aa]|rw[ad _ _ _ _ (by omega)]))
    simp+contextual (disch:=first|omega|simp only[go_sem,false_implies]) only[go_sem,wrap64,if_pos,e4,e7,g3,q2,Nat.add_assoc,Nat.left_eq_add,Nat.add_eq_left,Nat.add_left_cancel_iff]
    refine rr hK jA la (by omega) g1 g2 g4 (fun j k1 k2 k3=> ?_) g6 g7 (by omega)
    rw[g5 j (by omega) k2 k3];(repeat(first|rfl|rw[aa]|rw[ad _ _ _ _ (by omega)]))
  |true=>
   have RZ:t.op=8:=by simpa using h8
   have ej:=Tm.fi t
   have G9:=hp.n1
   have KK:∀r∈bv.refs,r<nx:=by
    rcases hp.hb with⟨e1,e2⟩|⟨b,e1,hb⟩
    ·subst e1;simp[V.refs]
    ·subst e1;simp[V.refs];exact hg.lt (by rw[hb];exact ae.noConfusion)
   have a8:∀m,nx<=m->(ae.row [.ptr cid 0,bv]).refs.all (fun r=>decide (r<m))=true:=fun m hm=>by
    rw[List.all_eq_true]
    intro r hr
    simp[ae.refs,V.ag,V.refs]at hr
    rcases hr with rfl|hr
    ·exact decide_eq_true (by omega)
    ·exact decide_eq_true (by have:=KK r hr;omega)
   rw[pk,if_neg h1,if_pos RZ]at hK
   simp+contextual (disch:=first|omega|simp only[go_sem,false_implies]) only[go_sem,wrap64,if_pos,hc,qJ,y1,y2,y3,y4,Nat.add_assoc,Nat.left_eq_add,Nat.add_eq_left,Nat.add_left_cancel_iff,lX,h8]
   refine cQ (Gw cid n (.mp fid) _ _ (by(repeat(first|rfl|rw[aa]|rw[ad _ _ _ _ (by omega)]));exact hc) ⟨hp.n0,by have:=hp.n1;omega⟩ ?_ _ _ ?_)
   ·exact(((((((hg.mono (by omega)).aq (by omega) (a8 _ (by omega))).aq (by omega) rfl).aq (by omega) rfl).aq (by omega) rfl).aq (by omega) rfl).aq (by omega) rfl).aq (by omega) (a8 _ (by omega))
   rcases hp.hb with⟨e1,e2⟩|⟨b,e1,hb⟩
   ·subst e1
    simp+contextual (disch:=first|omega|simp only[go_sem,false_implies]) only[go_sem,wrap64,if_pos,hc,qJ,y1,y2,y3,y4,o7,Ke,Nat.add_assoc,Nat.left_eq_add,Nat.add_eq_left,Nat.add_left_cancel_iff,zn]
    refine vg (t:=t) (cid:=cid) (ib:=nx+38) (it:=nx+49) (own:=n) (mB:=[]) ?_ (by omega) jA ?_ ?_ ?_ ?_ List.nodup_nil (by omega) (by omega) ?_ fun e' o' nx' mI q2 q3 q4 q7 q8 g1 g2 g3 g4 g5 g6=> ?_
    ·exact(by repeat(first|exact hg.mono (by omega)|exact Good.nil|refine Good.aq ?_ (by omega) rfl|refine Good.aq ?_ (by omega) (dR _ _ _ (by omega))|refine Good.aq ?_ (by omega) (by simp[ae.refs,V.ag,V.refs]<;>omega)))
    ·(repeat(first|rfl|rw[aa]|rw[ad _ _ _ _ (by omega)]))
    ·(repeat(first|rfl|rw[aa]|rw[ad _ _ _ _ (by omega)]))
    ·(repeat(first|rfl|rw[aa]|rw[ad _ _ _ _ (by omega)]))
    ·(repeat(first|rfl|rw[aa]|rw[ad _ _ _ _ (by omega)]))
    ·(repeat(first|exact aw|refine ao ?_|refine ah rfl ?_|refine ah (aT (aS (by omega))) ?_|refine aF rfl (by simp[V.refs,V.ag]<;>first|omega|assumption) ?_))
    have u0:o' nx= .row [.ptr cid 0, .d .cO]:=by rw[g3 nx (by omega)];(repeat(first|rfl|rw[aa]|rw[ad _ _ _ _ (by omega)]))
    have u1:o' (nx+1)= .row t.row:=by rw[g3 (nx+1) (by omega)];(repeat(first|rfl|rw[aa]|rw[ad _ _ _ _ (by omega)]))
    have u2:o' (nx+2)= .row [.d (.i 0), .d (.i 0), .aW]:=by rw[g3 (nx+2) (by omega)];(repeat(first|rfl|rw[aa]|rw[ad _ _ _ _ (by omega)]))
    have Bg:o' (nx+11)= .row [.d (.i t.op), .d (.i n), .aW]:=by rw[g3 (nx+11) (by omega)];(repeat(first|rfl|rw[aa]|rw[ad _ _ _ _ (by omega)]))
    have R0:o' (nx+14)= .row [.ptr cid 0, .mp (nx+38)]:=by rw[g3 (nx+14) (by omega)];(repeat(first|rfl|rw[aa]|rw[ad _ _ _ _ (by omega)]))
    have uc:o' cid= .row [.d (.i (n+1)), .mp fid]:=by rw[g3 cid (by omega)];(repeat(first|rfl|rw[aa]|rw[ad _ _ _ _ (by omega)]))
    have uf:o' fid=dh fr:=by rw[g3 fid (by omega)];(repeat(first|rfl|rw[aa]|rw[ad _ _ _ _ (by omega)]))
                             exact qJ
    simp+contextual (disch:=first|omega|simp only[go_sem,false_implies]) only[go_sem,wrap64,if_pos,q2,q3,q4,q7,q8,u0,u1,u2,Bg,R0,Nat.add_assoc,Nat.left_eq_add,Nat.add_eq_left,Nat.add_left_cancel_iff]
    have V2:Iy o nx cid fid (.mk t.op n (bg t.kids bd ((t.n,n)::bd) 0 fr (n+1)).1,(bg t.kids bd ((t.n,n)::bd) 0 fr (n+1)).2) K:=by rw[RZ];exact hK
    have NS:∀k∈t.kids,tP k:=fun k hk=>ih k hk (rP.2 k hk)
    have XN:=hp.n0
    have vf:=hp.lk
    rw[e2]at vf
    refine GI (t:=t) (cid:=cid) (fid:=fid) (ib:=nx+38) (mI:=mI) (inn:=(t.n,n)::bd) (op':=t.op) (N:=n) (bd:=bd) (fr0:=fr) (n0:=n+1) NS (g2.mono (by omega)) (by omega) jA la o7 u0 u1 Bg R0 uc uf vf g4 g5 (fun v=> ?_) (by omega) (by omega) (by omega) (by omega) ?_ fun e2 o2 n2 k4 k7 l1 l2 l3 l4 l5 l6 l7=> ?_
    ·rw[g6 v,vf v];rfl
    ·(repeat(first|exact aw|refine ao ?_|refine ah rfl ?_|refine ah (aT (aS (by omega))) ?_|refine aF rfl (by simp[V.refs,V.ag]<;>first|omega|assumption) ?_|refine ah (by first|exact q0|exact q1|exact q2|exact q3|exact q4|exact q5|exact q6|exact q7|exact q8|exact q9|exact DF|exact DG|exact A6|exact DH|exact DI|exact wO|exact wP|exact wQ|exact DJ|exact DK|exact DL|exact DM|exact DN|exact DO|exact DP|exact DS|exact DT|exact DU|exact DV|exact DW|exact DX|exact DY|exact DZ|exact D0|exact D1|exact D2|exact D3|exact D4|exact D5|exact D6|exact D7) ?_|refine aF (by first|exact q0|exact q1|exact q2|exact q3|exact q4|exact q5|exact q6|exact q7|exact q8|exact q9|exact DF|exact DG|exact A6|exact DH|exact DI|exact wO|exact wP|exact wQ|exact DJ|exact DK|exact DL|exact DM|exact DN|exact DO|exact DP|exact DS|exact DT|exact DU|exact DV|exact DW|exact DX|exact DY|exact DZ|exact D0|exact D1|exact D2|exact D3|exact D4|exact D5|exact D6|exact D7) (by simp[V.refs,V.ag]<;>first|omega|assumption) ?_))
    have v2:o2 (nx+2)= .row [.d (.i 0), .d (.i 0), .aW]:=by
     rw[l5 (nx+2) (by omega) (by omega) (by omega)];exact u2
    simp+contextual (disch:=first|omega|simp only[go_sem,false_implies]) only[go_sem,wrap64,if_pos,k4,k7,l3,v2,Nat.add_assoc,Nat.left_eq_add,Nat.add_eq_left,Nat.add_left_cancel_iff]
    refine rr V2 jA la (by omega) l1 l2 l4 (fun j k1 k2 k3=> ?_) l6 l7 (by omega)
    rw[l5 j (by omega) k2 k3,g3 j (by omega)];(repeat(first|rfl|rw[aa]|rw[ad _ _ _ _ (by omega)]))
   ·subst e1
    have qi:b<nx:=hg.lt (by rw[hb];exact ae.noConfusion)
    have z1:b≠nx:=by omega
    have z2:∀k,b≠nx+k:=fun k=>by omega
    have z3:b≠cid:=fun e=>by rw[e,hc]at hb;cases hb
    have z4:b≠fid:=fun e=>by rw[e,qJ]at hb;cases hb
    simp+contextual (disch:=first|omega|simp only[go_sem,false_implies]) only[go_sem,wrap64,if_pos,hc,qJ,hb,y1,y2,y3,y4,z1,z2,z3,o7,Ke,Nat.add_assoc,Nat.left_eq_add,Nat.add_eq_left,Nat.add_left_cancel_iff,zn]
    refine vg (t:=t) (cid:=cid) (ib:=nx+38) (it:=nx+49) (own:=n) (mB:=mB) ?_ (by omega) jA ?_ ?_ ?_ ?_ hp.kb (by omega) (by omega) ?_ fun e' o' nx' mI q2 q3 q4 q7 q8 g1 g2 g3 g4 g5 g6=> ?_
    ·exact(by repeat(first|exact hg.mono (by omega)|exact Good.nil|refine Good.aq ?_ (by omega) rfl|refine Good.aq ?_ (by omega) (dR _ _ _ (by omega))|refine Good.aq ?_ (by omega) (by simp[ae.refs,V.ag,V.refs]<;>omega)))
    ·(repeat(first|rfl|rw[aa]|rw[ad _ _ _ _ (by omega)]))
    ·(repeat(first|rfl|rw[aa]|rw[ad _ _ _ _ (by omega)]))
    ·(repeat(first|rfl|rw[aa]|rw[ad _ _ _ _ (by omega)]))
    ·(repeat(first|rfl|rw[aa]|rw[ad _ _ _ _ (by omega)]))
    ·(repeat(first|exact aw|refine ao ?_|refine ah rfl ?_|refine ah (aT (aS (by omega))) ?_|refine aF rfl (by simp[V.refs,V.ag]<;>first|omega|assumption) ?_))
    have u0:o' nx= .row [.ptr cid 0, .mp b]:=by rw[g3 nx (by omega)];(repeat(first|rfl|rw[aa]|rw[ad _ _ _ _ (by omega)]))
    have u1:o' (nx+1)= .row t.row:=by rw[g3 (nx+1) (by omega)];(repeat(first|rfl|rw[aa]|rw[ad _ _ _ _ (by omega)]))
    have u2:o' (nx+2)= .row [.d (.i 0), .d (.i 0), .aW]:=by rw[g3 (nx+2) (by omega)];(repeat(first|rfl|rw[aa]|rw[ad _ _ _ _ (by omega)]))
    have Bg:o' (nx+11)= .row [.d (.i t.op), .d (.i n), .aW]:=by rw[g3 (nx+11) (by omega)];(repeat(first|rfl|rw[aa]|rw[ad _ _ _ _ (by omega)]))
    have R0:o' (nx+14)= .row [.ptr cid 0, .mp (nx+38)]:=by rw[g3 (nx+14) (by omega)];(repeat(first|rfl|rw[aa]|rw[ad _ _ _ _ (by omega)]))
    have uc:o' cid= .row [.d (.i (n+1)), .mp fid]:=by rw[g3 cid (by omega)];(repeat(first|rfl|rw[aa]|rw[ad _ _ _ _ (by omega)]))
    have uf:o' fid=dh fr:=by rw[g3 fid (by omega)];(repeat(first|rfl|rw[aa]|rw[ad _ _ _ _ (by omega)]))
                             exact qJ
    simp+contextual (disch:=first|omega|simp only[go_sem,false_implies]) only[go_sem,wrap64,if_pos,q2,q3,q4,q7,q8,u0,u1,u2,Bg,R0,Nat.add_assoc,Nat.left_eq_add,Nat.add_eq_left,Nat.add_left_cancel_iff]
    have V2:Iy o nx cid fid (.mk t.op n (bg t.kids bd ((t.n,n)::bd) 0 fr (n+1)).1,(bg t.kids bd ((t.n,n)::bd) 0 fr (n+1)).2) K:=by rw[RZ];exact hK
    have NS:∀k∈t.kids,tP k:=fun k hk=>ih k hk (rP.2 k hk)
    have XN:=hp.n0
    have vf:=hp.lk
    have ub:o' b=jF mB:=by rw[g3 b (by omega)];(repeat(first|rfl|rw[aa]|rw[ad _ _ _ _ (by omega)]))
                           exact hb
    refine GK (t:=t) (cid:=cid) (fid:=fid) (b:=b) (mB:=mB) (ib:=nx+38) (mI:=mI) (inn:=(t.n,n)::bd) (op':=t.op) (N:=n) (bd:=bd) (fr0:=fr) (n0:=n+1) NS (g2.mono (by omega)) (by omega) jA la o7 u0 u1 Bg R0 uc uf vf ub hp.kb z3 z4 qi g4 g5 (fun v=> ?_) (by omega) (by omega) (by omega) (by omega) ?_ fun e2 o2 n2 k4 k7 l1 l2 l3 l4 l5 l6 l7=> ?_
    ·rw[g6 v,vf v];rfl
    ·(repeat(first|exact aw|refine ao ?_|refine ah rfl ?_|refine ah (aT (aS (by omega))) ?_|refine aF rfl (by simp[V.refs,V.ag]<;>first|omega|assumption) ?_|refine ah (by first|exact q0|exact q1|exact q2|exact q3|exact q4|exact q5|exact q6|exact q7|exact q8|exact q9|exact DF|exact DG|exact A6|exact DH|exact DI|exact wO|exact wP|exact wQ|exact DJ|exact DK|exact DL|exact DM|exact DN|exact DO|exact DP|exact DS|exact DT|exact DU|exact DV|exact DW|exact DX|exact DY|exact DZ|exact D0|exact D1|exact D2|exact D3|exact D4|exact D5|exact D6|exact D7) ?_|refine aF (by first|exact q0|exact q1|exact q2|exact q3|exact q4|exact q5|exact q6|exact q7|exact q8|exact q9|exact DF|exact DG|exact A6|exact DH|exact DI|exact wO|exact wP|exact wQ|exact DJ|exact DK|exact DL|exact DM|exact DN|exact DO|exact DP|exact DS|exact DT|exact DU|exact DV|exact DW|exact DX|exact DY|exact DZ|exact D0|exact D1|exact D2|exact D3|exact D4|exact D5|exact D6|exact D7) (by simp[V.refs,V.ag]<;>first|omega|assumption) ?_))
    have v2:o2 (nx+2)= .row [.d (.i 0), .d (.i 0), .aW]:=by
     rw[l5 (nx+2) (by omega) (by omega) (by omega)];exact u2
    simp+contextual (disch:=first|omega|simp only[go_sem,false_implies]) only[go_sem,wrap64,if_pos,k4,k7,l3,v2,Nat.add_assoc,Nat.left_eq_add,Nat.add_eq_left,Nat.add_left_cancel_iff]
    refine rr V2 jA la (by omega) l1 l2 l4 (fun j k1 k2 k3=> ?_) l6 l7 (by omega)
    rw[l5 j (by omega) k2 k3,g3 j (by omega)];(repeat(first|rfl|rw[aa]|rw[ad _ _ _ _ (by omega)]))
end Go.Proofs.YtealblliddhgiaaGreat
namespace Go.Proofs.YtealblliddhgiaaGreat
theorem Cu{o:Nat->ae}{ids:List Nat}{id:Nat}(h:id∉ids):put o (cw o ids) id=o id:=
 re (fun x hx=>by
  simp only[cw,List.mem_map]at hx
  obtain⟨j,hj,rfl⟩:=hx
  exact fun e=>h (e ▸ hj))
theorem IF{t:Tm}(h:t.fits){o:Nat->ae}{nx cid fid:Nat}{bv:V}{mB bd fr:List (Int×Int)}{n:Int}(hp:GD o nx cid fid bv mB bd fr n t.sz){K X:V->(Nat->ae)->Nat->Prop}
 (hK:∀o' nx',nx<=nx'->(∀j,j<nx->j≠cid->j≠fid->o' j=o j)->o' cid= .row [.d (.i (bL t bd fr n).2.2), .mp fid]->K (.d (bL t bd fr n).1.d) o' nx'):
 eN Tryz.prog 110 [.agg [.ptr cid 0,bv], .d t.d] o nx K X:=by
 have c1:cid<nx:=hp.cY.lt (by rw[hp.hc];exact ae.noConfusion)
 refine eN.seal (ID t h _ _ _ _ _ _ _ _ _ hp _ _ fun v o' nx' g1 g2 g3 g4 g5 g6 g7=>⟨_,g3,hK _ _ g1 (fun j k1 k2 k3=> ?_) ?_⟩)
 ·rw[Cu (fun hm=>by have:=g4 j hm;omega)];exact g5 j k1 k2 k3
 ·rw[Cu (fun hm=>by have:=g4 cid hm;omega)];exact g6
def Ei(t:Tm):Tm:=(bL t [] [] 0).1
def V3(t:Tm):Int:=(bL t [] [] 0).2.2
theorem vh(t:Tm)(h:t.fits)(hs:t.sz<=1000000):cq Tryz.prog 74 [t.d] (.ret [(Ei t).d, .i (V3 t)]):=by
 refine cq.bt mix P7 (by simp) ?_
 rw[Vc]
 simp+contextual (disch:=first|omega|simp only[go_sem,false_implies]) only[go_sem,wrap64,if_pos,Nat.add_assoc,Nat.left_eq_add,Nat.add_eq_left,Nat.add_left_cancel_iff]
 refine cQ (IF (cid:=5) (fid:=3) h (mB:=[]) (bd:=[]) (fr:=[]) (n:=0) ⟨(by repeat(first|exact hg.mono (by omega)|exact Good.nil|refine Good.aq ?_ (by omega) rfl|refine Good.aq ?_ (by omega) (dR _ _ _ (by omega))|refine Good.aq ?_ (by omega) (by simp[ae.refs,V.ag,V.refs]<;>omega))),by(repeat(first|rfl|rw[aa]|rw[ad _ _ _ _ (by omega)])),by(repeat(first|rfl|rw[aa]|rw[ad _ _ _ _ (by omega)])), .inl ⟨rfl,rfl⟩,List.nodup_nil,fun _=>rfl,by decide,by omega⟩ fun o2 n2 m1 m2 m3=> ?_)
 have u1:o2 1= .row [.d (.i 0), .d (.i 0), .aW]:=by rw[m2 1 (by omega) (by omega) (by omega)];(repeat(first|rfl|rw[aa]|rw[ad _ _ _ _ (by omega)]))
 have u7:o2 7= .row [.ptr 5 0, .d .cO]:=by rw[m2 7 (by omega) (by omega) (by omega)];(repeat(first|rfl|rw[aa]|rw[ad _ _ _ _ (by omega)]))
 have w1:1≠n2:=by omega
 have w2:∀k,1≠n2+k:=fun k=>by omega
 have w3:7≠n2:=by omega
 have w4:∀k,7≠n2+k:=fun k=>by omega
 have w5:5≠n2:=by omega
 have w6:∀k,5≠n2+k:=fun k=>by omega
 simp+contextual (disch:=first|omega|simp only[go_sem,false_implies]) only[go_sem,wrap64,if_pos,u1,u7,m3,w1,w2,w3,w4,w5,w6,Nat.add_assoc,Nat.left_eq_add,Nat.add_eq_left,Nat.add_left_cancel_iff]
 refine aK (cK (ids:=[1,5,7]) (nx:=n2) (by decide) (by simp;omega) [([3],[]),([2],[]),([2],[]),([1],[]),([1],[]),([1],[]),([0],[0]),([],[])] (by decide)) ?_
 simp+contextual (disch:=first|omega|simp only[go_sem,false_implies]) only[go_sem,wrap64,if_pos,u1,u7,m3,w1,w2,w3,w4,w5,w6,Nat.add_assoc,Nat.left_eq_add,Nat.add_eq_left,Nat.add_left_cancel_iff]
 rfl
theorem tS:∀t:Tm,t.fits->∀bd fr n,(bL t bd fr n).1.fits/\(bL t bd fr n).1.sz<=t.sz/\(bL t bd fr n).1.b7<=t.b7:=by
 refine Tm.jC fun t ih hf bd fr n=> ?_
 have rP:=(Tm.dy _).1 hf
 have hs:∀ (l:List Tm) (bd inn fr:List (Int×Int)) (i:Nat) (nx:Int),(∀k∈l,k∈t.kids)->(bg l bd inn i fr nx).1.length=l.length/\(∀k∈(bg l bd inn i fr nx).1,k.fits)/\jD (bg l bd inn i fr nx).1<=jD l/\Tm.dO (bg l bd inn i fr nx).1<=Tm.dO l:=by
  intro l
  induction l with
  |nil=>intro bd inn fr i nx _;simp[bg,jD,Tm.dO]
  |cons k l tL=>
   intro bd inn fr i nx hk
   have h1:=ih k (hk k (by simp)) (rP.2 k (hk k (by simp))) (if i=1 then inn else bd) fr nx
   have h2:=tL bd inn (bL k (if i=1 then inn else bd) fr nx).2.1 (i+1) (bL k (if i=1 then inn else bd) fr nx).2.2 (fun x hx=>hk x (by simp[hx]))
   simp only[bg,List.length_cons,cB,kN]
   refine⟨by omega, ?_,by omega, ?_⟩
   ·intro x hx
    rcases List.mem_cons.1 hx with rfl|hx
    ·exact h1.1
    ·exact h2.2.1 x hx
   ·have a:=h1.2.2;have b:=h2.2.2.2
    exact Nat.max_le.2 ⟨Nat.le_trans a (Nat.le_max_left _ _),Nat.le_trans b (Nat.le_max_right _ _)⟩
 have mk:∀ (op n:Int) (l:List Tm),l.length=t.kids.length->(∀k∈l,k.fits)->jD l<=jD t.kids->Tm.dO l<=Tm.dO t.kids->(Tm.mk op n l).fits/\(Tm.mk op n l).sz<=t.sz/\(Tm.mk op n l).b7<=t.b7:=by
  intro op n l h1 h2 h3 h4
  rw[Tm.dy,Tm.fi,Tm.fi t,Tm.dq,Tm.dq t]
  exact⟨⟨by rw[show(Tm.mk op n l).kids=l from rfl,h1];exact rP.1,h2⟩,by show 1+jD l<=_;omega,by show 1+Tm.dO l<=_;omega⟩
 have XU:∀ (op n:Int),(Tm.mk op n []).fits/\(Tm.mk op n []).sz<=t.sz/\(Tm.mk op n []).b7<=t.b7:=by
  intro op n
  rw[Tm.dy,Tm.fi,Tm.fi t,Tm.dq,Tm.dq t]
  refine⟨⟨by simp[Tm.kids],by simp[Tm.kids]⟩, ?_, ?_⟩
  ·show 1+jD []<=_;simp[jD]
  ·show 1+Tm.dO []<=_;simp[Tm.dO]
 rw[pk]
 have h0:=hs t.kids bd bd fr 0 n (fun _ h=>h)
 have h8:=hs t.kids bd ((t.n,n)::bd) fr 0 (n+1) (fun _ h=>h)
 split
 ·split
  ·exact XU _ _
  ·split<;>exact XU _ _
 ·split
  ·exact mk _ _ _ h8.1 h8.2.1 h8.2.2.1 h8.2.2.2
  ·exact mk _ _ _ h0.1 h0.2.1 h0.2.2.1 h0.2.2.2
theorem vi{t:Tm}(h:t.fits):(Ei t).fits/\(Ei t).sz<=t.sz/\(Ei t).b7<=t.b7:=tS t h [] [] 0
theorem Ej(s:bP)(hs:s.Fits)(a b:Tm)(ha:a.Fin)(hb:b.Fin)(za:a.sz<=1000000)(zb:b.sz<=1000000):cq Tryz.prog 35 [s.d,a.d,b.d] (.ret [.bool (eH s [a,b]&&o9 (Ei a) (Ei b)), .i (kM (eH s [a,b]))]):=by
 refine cq.bt mix PQ (by simp) ?_
 rw[UA]
 simp+contextual (disch:=first|omega|simp only[go_sem,false_implies]) only[go_sem,wrap64,if_pos,and_self]
 refine aM (wL s hs [a,b] (by simp) (fun x hx=>by simp at hx;rcases hx with rfl|rfl<;>assumption)) rfl ?_
 cases h1:eH s [a,b]with
 |false=>simp+contextual (disch:=first|omega|simp only[go_sem,false_implies]) only[go_sem,wrap64,if_pos,and_self];simp[kM]
 |true=>
  simp+contextual (disch:=first|omega|simp only[go_sem,false_implies]) only[go_sem,wrap64,if_pos,and_self]
  refine bN (vh a ha.fits za) ?_
  simp+contextual (disch:=first|omega|simp only[go_sem,false_implies]) only[go_sem,wrap64,if_pos,and_self]
  refine bN (vh b hb.fits zb) ?_
  simp+contextual (disch:=first|omega|simp only[go_sem,false_implies]) only[go_sem,wrap64,if_pos,and_self]
  refine aM (Iw _ (vi ha.fits).1 _ (vi hb.fits).1) rfl ?_
  simp+contextual (disch:=first|omega|simp only[go_sem,false_implies]) only[go_sem,wrap64,if_pos,and_self]
  simp[kM]
end Go.Proofs.YtealblliddhgiaaGreat
