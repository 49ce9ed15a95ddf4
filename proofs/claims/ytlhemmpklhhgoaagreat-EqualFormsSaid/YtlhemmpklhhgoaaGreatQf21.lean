/-
  A PART. Conditions: none.
-/
import Derived.Test.YtlhemmpklhhgoaaGreatQf20
set_option linter.unusedSimpArgs false
set_option linter.unusedVariables false
set_option maxHeartbeats 8000000
namespace Go.Proofs.YtlhemmpklhhgoaaGreat
theorem aah{s:az}{b:List (Int×Tm)}{l:List TB}{ρ:Int->Nat}{R:Nat}(h:kp s b l ρ R)(hl:dK s l)(hf:∀p∈b,AE b p.2):∀y∈l,y.term.sz<=40:=fun y hm=>by
 have h1:bR (ag l) y.var=some y.term:=(fN (yh hl)).2 (fe hm)
 cases hx:bR b y.var with
 |none=>rw[(h.vX _).1 hx]at h1;cases h1
 |some x=>
  obtain⟨q1,q2,_⟩:=h.ok _ _ hx
  have e:y.term=aO (ag l) x:=by rw[<- q2];simp[Lv,h1]
  rw[e]
  exact G6 h q1 (hf _ (cm hx))
theorem JA{s:az}{b:List (Int×Tm)}{l:List TB}{ρ:Int->Nat}{R:Nat}(h:kp s b l ρ R)(hl:dK s l)(hf:∀p∈b,AE b p.2){t:Tm}(ht:bT s t=true):Vs s (aO (ag l) t)/\(aO (ag l) t).eP/\(aO (ag l) t).sz<=1600:=by
 obtain⟨h1,h2,_⟩:=bc ht
 refine⟨Vs.sub hl.bd t h1,Tm.nI (lR fun x hx=>Tm.Hb _ (by have:=aah h hl hf x hx;omega)) t (js ht), ?_⟩
 have:=lP h hf h1
 omega
theorem Cj{s:az}{x y:Tm}(hx:Vs s x/\x.eP/\x.sz<=1600)(hy:Vs s y/\y.eP/\y.sz<=1600){f:Nat}{r:List TB×Bool}(h:da f x y []=some r):
 a7 Tryz.prog 67 [.sl [sK (x,y)]] (.ret [.sl (if r.2=true then r.1.map TB.d else []), .bool r.2]):=by
 obtain⟨g,e,b',h1,h2⟩:=x4 (lim:=false) f x y [] r h dK.nil hx.1 hy.1 x y [] _ _ kp.nil hx.1 hy.1 rfl rfl
 have hL:lX (jJ false g) (([(x,y)]:List (Tm×Tm)).map (·.1)) (([(x,y)]:List (Tm×Tm)).map (·.2)) []=some (e,b'):=by
  simp only[List.map_cons,List.map_nil,lX,h1]
  by_cases e0:e=0
  ·rw[if_pos e0,e0]
  ·rw[if_neg e0]
 have hq:∀p∈([(x,y)]:List (Tm×Tm)),QT s p.1/\QT s p.2:=fun p hp=>by
  simp at hp
  subst hp
  exact⟨⟨hx.1,by have:=hx.2.2;dsimp only;omega⟩,⟨hy.1,by have:=hy.2.2;dsimp only;omega⟩⟩
 rcases h2 with⟨rfl,h3,GZ,R',hS⟩|⟨rfl,h3⟩|⟨_,h3⟩
 ·have hr:r=(r.1,true):=by rw[<- h3]
  have ah2:=(gU f x y [] r.1 (by rw[h,hr]) dK.nil hx.1 hy.1).1
  have:=uv hq aF hL (l':=r.1) (ρ:=GZ) (R:=R') (fun _=>⟨hS,ah2,we f x y [] r h hx.2.1 hy.2.1 (fun _ h=>by cases h)⟩)
  rw[h3,if_pos rfl]
  exact this
 ·have:=uv hq aF hL (l':=[]) (ρ:=fun _=>0) (R:=0) (fun h=>absurd h bF)
  rw[h3,if_neg (by decide)]
  exact this
 ·cases h3
theorem SQ(l:List Nt)(hl:l.length<=1000):Qk Tryz.prog 69 [.sl (l.map Nt.d)] (.pY (l.map Nt.d)):=by
 refine Qk.l8 rfl ?_
 refine bJ.aH mix aef aF ?_
 rw[c69]
 have hc:((l.map Nt.d).all fun z=>z.cells.length==6)=true:=by
  rw[List.all_eq_true]
  intro z hz
  obtain⟨r,_,rfl⟩:=List.mem_map.1 hz
  rfl
 have hk:(l.map Nt.d).take l.length=l.map Nt.d:=List.take_of_length_le aF
 exact abw (ae hc hk)
theorem Hl(s:b9)(hs:s.Cp)(b:List (Int×Tm))(o:Nat->aa)(nx id lb:Nat)(hg:Good o nx)(ay:o id= .bZ (enc (D.int .i64) (jR b)))(M0:o lb= .arr 0 101 6 (s.aD.map Nt.d))(K X:V->(Nat->aa)->Nat->Prop)
 (x9:∀o' nx' i j k,nx<=nx'->Good o' nx'->(∀j,j<nx->j≠lb->o' j=o j)->
  o' i= .arr 0 59 4 (s.binds.map TB.d)->o' j= .arr 0 101 6 (s.aD.map Nt.d)->o' k= .arr 0 77 2 (s.marks.map uh)->
  K (.agg [.d (.sl (s.sig.cons.map fj.d)), .d (.sl (s.sig.ct.map fj.d)), .osl i 0, .osl j 0, .osl k 0]) o' nx'):
 bJ Tryz.prog 65 [.agg [.d (.sl (s.sig.cons.map fj.d)), .d (.sl (s.sig.ct.map fj.d)), .d (.sl (s.binds.map TB.d)), .osl lb 0, .d (.sl (s.marks.map uh)), .mp id]] o nx K X:=by
 refine bJ.x7 (d:=s.kd b) ?_ ?_
 ·exact qp (ae ay M0)
 ·refine Cf s hs b _ nx (yg hg _) K X (fun o' nx' i j k m1 m2 m3 m4 m5 m6=>x9 o' nx' i j k m1 m2 (fun j j1 j2=>(m3 j j1).trans ?_) m4 m5 m6)
  show put o (bK o [lb,id]) j=o j
  simp only[bK,List.map_cons,List.map_nil,ay,M0,put,List.foldl_cons,List.foldl_nil]
  by_cases e:j=id
  ·subst e;rw[ab,ay]
  ·rw[af _ _ _ _ e,af _ _ _ _ j2]
def jW(s:b9)(bA uy:Bool):Int:=if bA=true then 5 else if uy=true then(if s.aD.length=12 then 3 else 0)else 0
def lS(s:b9)(n:Nt)(bA uy:Bool):b9:=if bA=true then pE else if uy=true then(if s.aD.length=12 then pE else s.Hj n)else s
theorem PA(s:b9)(hs:s.Fin)(a c:Tm)(ha:a.Fin)(hc:c.Fin)(h:bn s)(va:bT s.sig a=true)(vc:bT s.sig c=true){bA:Bool}(WE:bA=true↔EV (ag s.binds) ⟨a,c⟩){l':List TB}{ρ:Int->Nat}{R:Nat}(hS:kp s.sig (ag s.binds) l' ρ R)(hl:dK s.sig l')
 {f:Nat} {r:List TB×Bool} (hr:da f (aO (ag l') a) (aO (ag l') c) []=some r):a7 Tryz.prog 16 [s.d,a.d,c.d] (.ret [(lS s ⟨a,c⟩ bA r.2).d, .i (jW s bA r.2)]):=by
 have dn:∀p∈ag s.binds,AE (ag s.binds) p.2:=fun p hp=>(h.gA.all p hp).1
 have oa:=JA hS hl dn va
 have oc:=JA hS hl dn vc
 have fa:=nP hS _ a (bc va).1 (Nat.le_refl _)
 have fc:=nP hS _ c (bc vc).1 (Nat.le_refl _)
 have uL:=h.sI
 refine a7.aH mix ad4 aF ?_
 rw[c16]
 refine gB ?_
 refine bI (Jz s hs a c ha hc _ _ dx _ _ (fun h1 h2 h3 o' nx' id i1 i2 i3 i4=> ?_) (fun hn=>absurd ⟨h,va,vc⟩ hn))
 have e1:o' 1= .row a.row:=(i3 _ ad).trans bp
 have e2:o' 2= .row c.row:=(i3 _ ad).trans bp
 have e3:o' 3= .row [.ao, .ao, .ao, .ao, .ao]:=(i3 _ ad).trans bp
 have ay:id<nx':=Good.lt i2 HB
 have w1:∀k,id≠nx'+k:=fun k=>ad
 have w2:∀k,(1:Nat)≠nx'+k:=fun k=>ad
 have w3:∀k,(2:Nat)≠nx'+k:=fun k=>ad
 have w4:∀k,(3:Nat)≠nx'+k:=fun k=>ad
 have w5:∀k,nx'+k≠id:=fun k=>ad
 have d1:(1:Nat)≠id:=fun e=>by subst e;rw[e1]at i4;cases i4
 have d2:(2:Nat)≠id:=fun e=>by subst e;rw[e2]at i4;cases i4
 have d3:(3:Nat)≠id:=fun e=>by subst e;rw[e3]at i4;cases i4
 refine c9 (ae e1 (ae e2 (ae e3 (ae i4 (ae w1 (ae w2 (ae w3 (ae w4 (ae w5 (ae d1 (ae d2 d3))))))))))) ?_
 refine ax (Pq h.gA s (n:=⟨a,c⟩) va vc WE).1 rfl ?_
 cases bA with
 |true=>
  simp+contextual (disch:=first|omega|simp only[go_sem,false_implies]) only[go_sem,wrap64,if_pos,Nat.add_assoc,Nat.left_eq_add,Nat.add_eq_left,Nat.add_left_cancel_iff,e1,e2,e3,i4,w1,w2,w3,w4,pF,jW,lS]
 |false=>
  refine c9 (ae e1 (ae e2 (ae e3 (ae i4 (ae w1 (ae w2 (ae w3 (ae w4 (ae w5 (ae d1 (ae d2 d3))))))))))) ?_
  refine aZ (nF (fun p hp=>(h.gA.all p hp).2) _ a _ ha.fits fa ad) ?_
  refine c9 (ae e1 (ae e2 (ae e3 (ae i4 (ae w1 (ae w2 (ae w3 (ae w4 (ae w5 (ae d1 (ae d2 d3))))))))))) ?_
  refine aZ (nF (fun p hp=>(h.gA.all p hp).2) _ c _ hc.fits fc ad) ?_
  refine c9 (ae e1 (ae e2 (ae e3 (ae i4 (ae w1 (ae w2 (ae w3 (ae w4 (ae w5 (ae d1 (ae d2 d3))))))))))) ?_
  refine aZ (Cj oa oc hr) ?_
  refine c9 (ae e1 (ae e2 (ae e3 (ae i4 (ae w1 (ae w2 (ae w3 (ae w4 (ae w5 (ae d1 (ae d2 d3))))))))))) ?_
  refine aL (bE (ids:=[nx'+3,1,id,2,nx'+25]) (nx:=nx'+32) ir ir [([0],[]),([0],[]),([1],[]),([2],[2]),([0],[]),([0],[]),([3],[]),([2],[2]),([],[]),([],[4]),([4],[4]),([],[]),([],[]),([],[]),([],[]),([],[])] bF) ?_
  have hg:=i2
  have SM:=h.cp
  cases uJ:r.2 with
  |false=>
   rw[show lS s ⟨a,c⟩ false false=s from rfl,show jW s false false=0 from rfl]
   refine c9 (ae e1 (ae e2 (ae e3 (ae i4 (ae w1 (ae w2 (ae w3 (ae w4 (ae w5 (ae d1 (ae d2 d3))))))))))) ?_
   refine bI (Pm s h.cp (ag s.binds) _ _ id dx bp _ _ (fun o2 n2 i j k m1 m2 m3 m4 m5 m6=> ?_))
   have f3:o2 3= .row [.ao, .ao, .ao, .ao, .ao]:=(m3 3 ad).trans (gW e3)
   have z1:i≠3:=fun e=>by subst e;rw[m4]at f3;cases f3
   have z2:j≠3:=fun e=>by subst e;rw[m5]at f3;cases f3
   have z3:k≠3:=fun e=>by subst e;rw[m6]at f3;cases f3
   exact Fy (ae f3 (ae m4 (ae m5 (ae m6 (ae z1 (ae z2 z3))))))
  |true=>
   by_cases Qr:s.aD.length=12
   ·have aai:((s.aD.length:Int)==12)=true:=by rw[beq_iff_eq];omega
    simp+contextual (disch:=first|omega|simp only[go_sem,false_implies]) only[go_sem,wrap64,if_pos,Nat.add_assoc,Nat.left_eq_add,Nat.add_eq_left,Nat.add_left_cancel_iff,e1,e2,e3,i4,w1,w2,w3,w4,w5,d1,d2,d3,List.length_map,aai,Qr,pF,jW,lS]
   ·have aai:((s.aD.length:Int)==12)=false:=by rw[beq_eq_false_iff_ne];omega
    refine dQ (ae e1 (ae e2 (ae e3 (ae i4 (ae w1 (ae w2 (ae w3 (ae w4 (ae w5 (ae d1 (ae d2 (ae d3 aai)))))))))))) ?_
    refine Ai (SQ s.aD ad) ?_
    have dR:s.aD.length+1<=1099511627776/\(s.aD.length+1)*72<=1099511627776:=ad
    refine dQ (ae e1 (ae e2 (ae e3 (ae i4 (ae w1 (ae w2 (ae w3 (ae w4 (ae w5 (ae d1 (ae d2 (ae d3 dR)))))))))))) ?_
    refine aL (bE (ids:=[nx'+3,nx'+11,nx'+43,nx'+44]) (nx:=nx'+48) aF aF [([0],[]),([0],[]),([0],[]),([],[]),([1],[]),([],[2]),([2],[3]),([0],[]),([0],[]),([0,3],[0])] bF) ?_
    refine c9 (ae e1 (ae e2 (ae e3 (ae i4 (ae w1 (ae w2 (ae w3 (ae w4 (ae w5 (ae d1 (ae d2 d3))))))))))) ?_
    have aaj:(s.Hj ⟨a,c⟩).Cp:=by
     refine⟨SM.lc,SM.lf,SM.bl, ?_,SM.ml,SM.bt,fun x hx=> ?_⟩
     ·show(s.aD++[_]).length<=1000
      simp;omega
     ·have hx:x∈s.aD++[⟨a,c⟩]:=hx
      rcases List.mem_append.1 hx with hx|hx
      ·exact SM.nt x hx
      ·simp at hx
       subst hx
       have q1:=(bc va).2.1
       have q2:=(bc vc).2.1
       exact⟨by dsimp only;omega,by dsimp only;omega⟩
    rw[show lS s ⟨a,c⟩ false true=s.Hj ⟨a,c⟩ by simp[lS,Qr],show jW s false true=0 by simp[jW,Qr]]
    refine bI (Hl (s.Hj ⟨a,c⟩) aaj (ag s.binds) _ _ id (nx'+44) ?_ ?_ ?_ _ _ (fun o2 n2 i j k m1 m2 m3 m4 m5 m6=> ?_))
    ·exact dx
    ·exact bp
    ·(repeat first|rfl|rw[ab]|rw[af _ _ _ _ (by omega)])
     simp[b9.Hj]
    have f3:o2 3= .row [.ao, .ao, .ao, .ao, .ao]:=(m3 3 ad ad).trans (gW e3)
    have z1:i≠3:=fun e=>by subst e;rw[m4]at f3;cases f3
    have z2:j≠3:=fun e=>by subst e;rw[m5]at f3;cases f3
    have z3:k≠3:=fun e=>by subst e;rw[m6]at f3;cases f3
    exact Fy (ae f3 (ae m4 (ae m5 (ae m6 (ae z1 (ae z2 z3))))))
theorem JB:pE.Cp:=⟨bF,bF,bF,bF,bF,fun _ h=>lA,fun _ h=>lA⟩
theorem gP{s:az}{t:Tm}(h:bT s t=true):t.Fin:=by
 obtain⟨_,h2,h3⟩:=bc h
 exact⟨Tm.fq t ad,ad⟩
theorem bn.fin {s:b9}(h:bn s)(hf:s.sig.Fits):s.Fin:=by
 have h1:=h.gA.len
 have h2:=h.sI
 have h3:=h.EW
 exact⟨hf,ad,ad,ad,fun x hx=>gP (h.gA.ok x hx).2,fun n hn=>⟨gP (h.aD n hn).1,gP (h.aD n hn).2.1⟩⟩
theorem Hm{s:b9}(h:bn s)(hf:s.sig.Fits){a c:Tm}(va:bT s.sig a=true)(vc:bT s.sig c=true){bA:Bool}(WE:bA=true↔EV (ag s.binds) ⟨a,c⟩)(uy:Bool):
 (lS s ⟨a,c⟩ bA uy).Cp/\(jW s bA uy=0->bn (lS s ⟨a,c⟩ bA uy)/\(lS s ⟨a,c⟩ bA uy).Fin):=by
 unfold lS jW
 have uL:=h.sI
 cases bA with
 |true=>exact⟨JB,fun h=>absurd (show(5:Int)=0 from h) bF⟩
 |false=>
  cases uy with
  |false=>exact⟨h.cp,fun _=>⟨h,h.fin hf⟩⟩
  |true=>
   by_cases Qr:s.aD.length=12
   ·simp only[Bool.false_eq_true,if_false,if_true,if_pos Qr]
    exact⟨JB,fun h=>absurd h bF⟩
   ·simp only[Bool.false_eq_true,if_false,if_true,if_neg Qr]
    have hD:bn (s.Hj ⟨a,c⟩):=LH h va vc (fun hb=>Bool.false_ne_true (WE.2 hb)) ad
    exact⟨hD.cp,fun _=>⟨hD,hD.fin hf⟩⟩
theorem sQ{s:az}:∀ (f:Nat) (a c:Tm) (l l':List TB),da f a c l=some (l',true)->dK s l->Vs s a->Vs s c->aO (ag l') a=aO (ag l') c
 |0,_,_,_,_,h,_,_,_=>by cases h
 |f+1,a,c,l,l',h,hl,ha,hc=>by
  obtain⟨vK,afs⟩:=gU (f+1) a c l l' h hl ha hc
  rw[<- afs.sub ha, <- afs.sub hc]
  have va:=Vs.sub hl.bd a ha
  have vc:=Vs.sub hl.bd c hc
  have fc:=fun u=>hl.free hc (u:=u)
  have fa:=fun u=>hl.free ha (u:=u)
  have na:=hl.EF ha
  have nc:=hl.EF hc
  have lone:∀ (n:Int) (t:Tm),bR (ag l) n=none->Vs s t->(∀u,gy u t=true->bR (ag l) u=none)-> ¬gy n t=true->aO (ag (iP l n t)) t=t:=fun n t hn ht hf kZ=>by
   refine sD t ht fun u hu=> ?_
   rw[vW hn,if_neg (show ¬u=n from fun e=>kZ (by rw[<- e];exact hu)),hf u hu]
   rfl
  simp only[da]at h
  generalize aO (ag l) a=a0 at*
  generalize aO (ag l) c=c0 at*
  split at h
  ·rename_i hs
   rw[(ek _ _).1 hs]
  ·rename_i hs
   split at h
   ·rename_i h1
    injection h with h;injection h with h;subst h
    obtain⟨r1,u1,e1⟩:=na h1.1
    obtain⟨r2,u2,e2⟩:=nc h1.2
    have fS:a0.n≠c0.n:=fun e=>hs (by rw[ek,e1,e2,e])
    have wM:bR (ag l) (max a0.n c0.n)=none:=by rcases Int.le_total a0.n c0.n with h|h<;>simp[Int.max_def]<;>split<;>assumption
    have Sh:bR (ag l) (min a0.n c0.n)=none:=by rcases Int.le_total a0.n c0.n with h|h<;>simp[Int.min_def]<;>split<;>assumption
    have both:∀v,v=a0.n\/v=c0.n->Lv (ag (iP l (max a0.n c0.n) (.mk 1 (min a0.n c0.n) []))) v= .mk 1 (min a0.n c0.n) []:=fun v hv=>by
     rw[jq wM]
     by_cases e:v=max a0.n c0.n
     ·rw[if_pos e]
     ·rw[if_neg e]
      have e3:v=min a0.n c0.n:=ad
      have hlv:bR (ag l) v=none:=by rw[e3];exact Sh
      rw[show Lv (ag l) v= .mk 1 v [] by simp[Lv,hlv],dJ,ue,if_neg e,e3]
    rw[dW va h1.1,dW vc h1.2,both _ (.inl rfl),both _ (.inr rfl)]
   ·split at h
    ·rename_i h1 h2
     injection h with h;injection h with h h3;subst h
     obtain⟨r1,u1,e1⟩:=na h2
     have kZ: ¬gy a0.n c0=true:=fun hh=>by
      have:(cQ c0).contains a0.n=true:=List.contains_iff_mem.2 (((cV c0).2 _).2 hh)
      exact HM
     rw[lone _ _ u1 vc (fun u hu=>fc u hu) kZ,dW va h2,jq u1,if_pos rfl]
    ·split at h
     ·rename_i h1 h2 j7
      injection h with h;injection h with h h3;subst h
      obtain⟨r2,u2,e2⟩:=nc j7
      have kZ: ¬gy c0.n a0=true:=fun hh=>by
       have:(cQ a0).contains c0.n=true:=List.contains_iff_mem.2 (((cV a0).2 _).2 hh)
       exact HM
      rw[lone _ _ u2 va (fun u hu=>fa u hu) kZ,dW vc j7,jq u2,if_pos rfl]
     ·split at h
      ·injection h with h;injection h with _ h;cases h
      ·rename_i h1 h2 h3 h4
       have key:∀ (ks cK:List Tm) (l:List TB),(∀k∈ks,Vs s k)->(∀k∈cK,Vs s k)->dK s l->ks.length=cK.length->bH (da f) ks cK l=some (l',true)->ks.map (aO (ag l'))=cK.map (aO (ag l'))/\mm l l':=by
        intro ks
        induction ks with
        |nil=>
         intro cK l _ _ hl hlen h
         cases cK with
         |nil=>simp only[bH]at h;injection h with h;injection h with h;subst h;exact⟨rfl,mm.refl hl⟩
         |cons _ _=>cases hlen
        |cons k ks vC=>
         intro cK l h1 h2 hl hlen h
         cases cK with
         |nil=>cases hlen
         |cons k' cK=>
          simp only[bH]at h
          split at h
          ·rename_i l1 e
           have v1:=h1 k aF
           have v2:=h2 k' aF
           obtain⟨g1,g2⟩:=gU f k k' l l1 e hl v1 v2
           have g5:=sQ f k k' l l1 e hl v1 v2
           obtain⟨g3,g4⟩:=vC cK l1 (fun x hx=>h1 x pN) (fun x hx=>h2 x pN) g1 (by simpa using hlen) h
           refine⟨?_,g2.trans hl g4 (fun v=>hl.vX)⟩
           rw[List.map_cons,List.map_cons,g3, <- g4.sub v1, <- g4.sub v2,g5]
          ·injection h with h;injection h with _ h;cases h
          ·cases h
       have e1:a0.op=c0.op:=Classical.byContradiction fun e=>h4 (Or.inl e)
       have e2:a0.n=c0.n:=Classical.byContradiction fun e=>h4 (Or.inr (Or.inl e))
       have e3:a0.kids.length=c0.kids.length:=Classical.byContradiction fun e=>h4 (Or.inr (Or.inr e))
       rw[eo h2,eo h3,e1,e2,(key _ _ _ (fun k hk=>va.lu hk) (fun k hk=>vc.lu hk) hl e3 h).1]
def mn(θ:List (Int×Tm))(l:List TB):Prop:=∀v,0<=v/\v<20->aO θ (Lv (ag l) v)=Lv θ v
theorem mn.nil {θ:List (Int×Tm)}:mn θ []:=fun v _=>by rw[show Lv (ag []) v= .mk 1 v []from rfl,dJ]
theorem mn.sub {s:az}{θ:List (Int×Tm)}{l:List TB}(h:mn θ l){t:Tm}(ht:Vs s t):aO θ (aO (ag l) t)=aO θ t:=sC t ht fun v hv=>h v (ht.range hv)
theorem mn.Hn {s:az}{θ:List (Int×Tm)}{l:List TB}(h:mn θ l)(hl:dK s l){n:Int}{t:Tm}(hn:bR (ag l) n=none)(e:Lv θ n=aO θ t):mn θ (iP l n t):=fun v hv=>by
 rw[jq hn]
 by_cases h1:v=n
 ·rw[if_pos h1,h1,e]
 ·rw[if_neg h1, <- h v hv]
  refine sC (s:=s) _ (Vs.Lv hl.bd hv) fun u _=> ?_
  rw[ue]
  split
  ·rename_i h2;rw[h2,e]
  ·rw[dJ]
theorem aak{s:az}{θ:List (Int×Tm)}{n:Int}:∀t:Tm,Vs s t->gy n t=true->(Lv θ n).sz<=(aO θ t).sz/\(t.op≠1->(Lv θ n).sz<(aO θ t).sz):=by
 refine Tm.eM fun t ih hv hf=> ?_
 by_cases h1:t.op=1
 ·rw[dW hv h1,(iy h1).1 hf]
  exact⟨Nat.le_refl _,fun h=>absurd h1 h⟩
 ·obtain⟨k,hk,hf2⟩:=(qm hv h1).1 hf
  have h2:=(ih k hk (hv.lu hk) hf2).1
  have h3:aO θ k∈(aO θ t).kids:=by rw[eo h1];exact List.mem_map.2 ⟨k,hk,rfl⟩
  have h4:=Tm.mW h3
  exact⟨ad,fun _=>ad⟩
theorem pH{s:az}{θ:List (Int×Tm)}:∀ (f:Nat) (a c:Tm) (l:List TB) (r:List TB×Bool),da f a c l=some r->dK s l->Vs s a->Vs s c->mn θ l->aO θ a=aO θ c->r.2=true/\mn θ r.1
 |0,_,_,_,_,h,_,_,_,_,_=>by cases h
 |f+1,a,c,l,r,h,hl,ha,hc,hg,hs=>by
  have va:=Vs.sub hl.bd a ha
  have vc:=Vs.sub hl.bd c hc
  have na:=hl.EF ha
  have nc:=hl.EF hc
  rw[<- hg.sub ha, <- hg.sub hc]at hs
  simp only[da]at h
  generalize aO (ag l) a=a0 at*
  generalize aO (ag l) c=c0 at*
  have occ:∀ (x y:Tm),Vs s x->Vs s y->x.op=1->y.op≠1->aO θ x=aO θ y-> ¬ (cQ y).contains x.n=true:=fun x y hx hy h1 h2 e hc=>by
   have h3:=((cV y).2 _).1 (List.contains_iff_mem.1 hc)
   have h4:=(aak (θ:=θ) y hy h3).2 h2
   rw[dW hx h1]at e
   rw[e]at h4
   omega
  split at h
  ·injection h with h;subst h;exact⟨rfl,hg⟩
  ·rename_i FR
   split at h
   ·rename_i h1
    injection h with h;subst h
    obtain⟨r1,u1,e1⟩:=na h1.1
    obtain⟨r2,u2,e2⟩:=nc h1.2
    have wM:bR (ag l) (max a0.n c0.n)=none:=by rcases Int.le_total a0.n c0.n with h|h<;>simp[Int.max_def]<;>split<;>assumption
    refine⟨rfl,hg.Hn hl wM ?_⟩
    rw[dW va h1.1,dW vc h1.2]at hs
    rw[dJ]
    rcases Int.le_total a0.n c0.n with h|h
    ·rw[Int.max_eq_right h,Int.min_eq_left h,hs]
    ·rw[Int.max_eq_left h,Int.min_eq_right h,hs]
   ·split at h
    ·rename_i h1 h2
     injection h with h;subst h
     obtain⟨r1,u1,e1⟩:=na h2
     have jK:=occ a0 c0 va vc h2 (fun e=>h1 ⟨h2,e⟩) hs
     refine⟨by simpa using jK,hg.Hn hl u1 ?_⟩
     rw[<- hs,dW va h2]
    ·split at h
     ·rename_i h1 h2 h3
      injection h with h;subst h
      obtain⟨r2,u2,e2⟩:=nc h3
      have jK:=occ c0 a0 vc va h3 h2 hs.symm
      refine⟨by simpa using jK,hg.Hn hl u2 ?_⟩
      rw[hs,dW vc h3]
     ·rename_i h1 h2 h3
      rw[eo h2,eo h3]at hs
      injection hs with q1 q2 q3
      have q4:a0.kids.length=c0.kids.length:=by simpa using congrArg List.length q3
      rw[if_neg (by rintro(h|h|h)<;>contradiction)]at h
      have key:∀ (ks cK:List Tm) (l:List TB),(∀k∈ks,Vs s k)->(∀k∈cK,Vs s k)->dK s l->mn θ l->ks.map (aO θ)=cK.map (aO θ)->bH (da f) ks cK l=some r->r.2=true/\mn θ r.1:=by
       intro ks
       induction ks with
       |nil=>intro cK l _ _ hl hg hm h;simp only[bH]at h;injection h with h;subst h;exact⟨rfl,hg⟩
       |cons k ks vC=>
        intro cK l h1 h2 hl hg hm h
        cases cK with
        |nil=>cases hm
        |cons k' cK=>
         rw[List.map_cons,List.map_cons]at hm
         injection hm with m1 m2
         have v1:=h1 k aF
         have v2:=h2 k' aF
         simp only[bH]at h
         split at h
         ·rename_i l1 e
          have g1:=(gU f k k' l l1 e hl v1 v2).1
          have g2:=(pH f k k' l _ e hl v1 v2 hg m1).2
          exact vC cK l1 (fun x hx=>h1 x pN) (fun x hx=>h2 x pN) g1 g2 m2 h
         ·rename_i l1 e
          have:=(pH f k k' l _ e hl v1 v2 hg m1).1
          cases this
         ·cases h
      exact key _ _ _ (fun k hk=>va.lu hk) (fun k hk=>vc.lu hk) hl hg q3 h
theorem JC{s:az}{f:Nat}:∀ (ps cs:List Tm) (l:List TB) (r:List TB×Bool),bH (da f) ps cs l=some r->dK s l->(∀t∈ps,Vs s t)->(∀t∈cs,Vs s t)->∀ (b:List (Int×Tm)) (ρ:Int->Nat) (R:Nat),kp s b l ρ R->
 ∃g e b',lX (jJ false g) ps cs b=some (e,b')/\EqR s false r e b'
 |[],cs,l,r,h,_,_,_,b,ρ,R,hS=>by
  simp only[bH]at h
  injection h with h
  subst h
  exact TU
 |a::ps,[],l,r,h,_,_,_,b,ρ,R,hS=>by
  simp only[bH]at h
  injection h with h
  subst h
  exact TU
 |a::ps,c::cs,l,r,h,hl,ha,hc,b,ρ,R,hS=>by
  have va:=ha a aF
  have vc:=hc c aF
  simp only[bH]at h
  cases hq:da f a c l with
  |none=>rw[hq]at h;cases h
  |some q=>
  obtain⟨l1,ok⟩:=q
  rw[hq]at h
  obtain⟨g,e,b1,h1,h2⟩:=x4 (lim:=false) f a c l (l1,ok) hq hl va vc a c b ρ R hS va vc rfl rfl
  cases ok with
  |false=>
   simp only at h
   injection h with h
   subst h
   rcases h2 with⟨_,h3,_⟩|⟨rfl,_⟩|⟨_,h3⟩
   ·cases h3
   ·exact⟨g,5,b1,by simp only[lX,h1];rfl, .inr (.inl ⟨rfl,rfl⟩)⟩
   ·cases h3
  |true=>
   simp only at h
   have qf:=(gU f a c l l1 hq hl va vc).1
   rcases h2 with⟨rfl,_,GZ,R',G9⟩|⟨_,h3⟩|⟨_,h3⟩
   ·obtain⟨g2,e2,b2,k1,k2⟩:=JC ps cs l1 r h qf (fun t ht=>ha t nL) (fun t ht=>hc t nL) b1 GZ R' G9
    refine⟨max g g2,e2,b2, ?_,k2⟩
    simp only[lX]
    rw[eQ h1 (Nat.le_max_left _ _)]
    exact TL
   ·cases h3
   ·cases h3
theorem yj{s:az}:∀ (ps cs:List Tm) (l:List TB),dK s l->(∀t∈ps,Vs s t)->(∀t∈cs,Vs s t)->∃f r,bH (da f) ps cs l=some r
 |[],cs,l,_,_,_=>⟨0,_,by simp only[bH];rfl⟩
 |a::ps,[],l,_,_,_=>⟨0,_,by simp only[bH];rfl⟩
 |a::ps,c::cs,l,hl,ha,hc=>by
  have va:=ha a aF
  have vc:=hc c aF
  obtain⟨f,⟨l1,ok⟩,h⟩:=mM _ _ a c l (Nat.le_refl _) (Nat.le_refl _) hl va vc
  cases ok with
  |false=>exact⟨f,(l1,false),by simp only[bH,h]⟩
  |true=>
   obtain⟨f2,r,h2⟩:=yj ps cs l1 (gU f a c l l1 h hl va vc).1 (fun t ht=>ha t nL) (fun t ht=>hc t nL)
   refine⟨max f f2,r, ?_⟩
   simp only[bH]
   rw[mL h (Nat.le_max_left _ _)]
   exact nE (fun k k' l r hk=>mL hk (Nat.le_max_right _ _)) h2
theorem yl{s:az}{θ:List (Int×Tm)}{f:Nat}:∀ (ps cs:List Tm) (l:List TB) (r:List TB×Bool),bH (da f) ps cs l=some r->dK s l->(∀t∈ps,Vs s t/\t.eP)->(∀t∈cs,Vs s t/\t.eP)->(∀x∈l,x.term.eP)->mn θ l->ps.map (aO θ)=cs.map (aO θ)->
 r.2=true/\mn θ r.1/\dK s r.1/\∀x∈r.1,x.term.eP
 |[],cs,l,r,h,hl,_,_,hw,hg,_=>by
  exact Uq
 |a::ps,[],l,r,h,hl,_,_,hw,hg,_=>by
  exact Uq
 |a::ps,c::cs,l,r,h,hl,ha,hc,hw,hg,he=>by
  have va:=ha a aF
  have vc:=hc c aF
  rw[List.map_cons,List.map_cons]at he
  injection he with he1 he2
  simp only[bH]at h
  cases hq:da f a c l with
  |none=>rw[hq]at h;cases h
  |some q=>
  obtain⟨l1,ok⟩:=q
  rw[hq]at h
  obtain⟨h1,h2⟩:=pH f a c l (l1,ok) hq hl va.1 vc.1 hg he1
  have h1:ok=true:=h1
  subst h1
  simp only at h
  exact yl ps cs l1 r h (gU f a c l l1 hq hl va.1 vc.1).1 (fun t ht=>ha t nL) (fun t ht=>hc t nL) (we f a c l (l1,true) hq va.2 vc.2 hw) h2 he2
theorem PB{s:az}{θ:List (Int×Tm)}:∀t:Tm,Vs s t->t.sz<=(aO θ t).sz:=by
 refine Tm.eM fun t ih ht=> ?_
 by_cases h1:t.op=1
 ·rw[ht.eta h1]
  have:=Tm.qR (aO θ (.mk 1 t.n []))
  rw[Tm.iN]
  simp[Tm.kids,py]
  omega
 ·rw[eo h1,Tm.iN,Tm.iN (.mk _ _ _)]
  show 1+py t.kids<=1+py (t.kids.map (aO θ))
  have key:∀ks:List Tm,(∀k∈ks,k.sz<=(aO θ k).sz)->py ks<=py (ks.map (aO θ)):=by
   intro ks
   induction ks with
   |nil=>intro _;simp[py]
   |cons k ks vC=>
    intro h
    have h1:=h k aF
    have h2:=vC fun y hy=>h y jX
    rw[List.map_cons,mJ,mJ]
    omega
  have:=key t.kids fun k hk=>ih k hk (ht.lu hk)
  omega
def qY(x:TB):Tm:= .mk 1 x.var []
def Ho(s:b9):List Tm:=s.binds.map qY
def Hq(s:b9):List Tm:=s.binds.map (·.term)
structure qZ (s:b9) (l:List TB):Prop where
 uni:∃f,bH (da f) (Ho s) (Hq s) []=some (l,true)
 zd:dK s.sig l
 eP:∀x∈l,x.term.eP
 eq:∃g b' ρ R,lX (jJ false g) (Ho s) (Hq s) []=some (0,b')/\kp s.sig b' l ρ R
 val:∀t,bT s.sig t=true->Vs s.sig (aO (ag l) t)/\(aO (ag l) t).eP/\(aO (ag l) t).sz<=1600
theorem E8{s:b9}(h:bn s):(∀t∈Ho s,Vs s.sig t/\t.eP)/\∀t∈Hq s,Vs s.sig t/\t.eP:=by
 refine⟨fun t ht=> ?_,fun t ht=> ?_⟩
 ·obtain⟨x,hx,rfl⟩:=List.mem_map.1 ht
  exact⟨Vs.var (h.gA.ok x hx).1,sP _⟩
 ·obtain⟨x,hx,rfl⟩:=List.mem_map.1 ht
  exact⟨(bc (h.gA.ok x hx).2).1,js (h.gA.ok x hx).2⟩
theorem LK{s:b9}(h:bn s):∃l,qZ s l/\∃l0 ρ R,kp s.sig (ag s.binds) l0 ρ R/\dK s.sig l0/\mn (ag l0) l:=by
 obtain⟨l0,ρ,R,hS,Xz⟩:=jr h.gA.keys h.gA.ok h.gA.Fu
 obtain⟨hv,ht⟩:=E8 h
 obtain⟨f,r,hr⟩:=yj (Ho s) (Hq s) [] dK.nil (fun t h=>(hv t h).1) (fun t h=>(ht t h).1)
 have he:(Ho s).map (aO (ag l0))=(Hq s).map (aO (ag l0)):=by
  unfold Ho Hq
  rw[List.map_map,List.map_map]
  refine List.map_congr_left fun x hx=> ?_
  have h1:bR (ag s.binds) x.var=some x.term:=(fN h.gA.keys).2 (fe hx)
  have h2:=(hS.ok _ _ h1).2.1
  show aO (ag l0) (.mk 1 x.var [])=aO (ag l0) x.term
  rw[dJ,h2]
 obtain⟨h1,h2,h3,h4⟩:=yl (Ho s) (Hq s) [] r hr dK.nil hv ht (fun _ h=>by cases h) mn.nil he
 obtain⟨l,ok⟩:=r
 have h1:ok=true:=h1
 subst h1
 have h2:mn (ag l0) l:=h2
 have h3:dK s.sig l:=h3
 have h4:∀x∈l,x.term.eP:=h4
 obtain⟨g,e,b',k1,k2⟩:=JC (Ho s) (Hq s) [] (l,true) hr dK.nil (fun t h=>(hv t h).1) (fun t h=>(ht t h).1) [] _ _ kp.nil
 refine⟨l,⟨⟨f,hr⟩,h3,h4, ?_,fun t hq=> ?_⟩,l0,ρ,R,hS,Xz,h2⟩
 ·rcases k2 with⟨rfl,_,GZ,R',G9⟩|⟨_,k3⟩|⟨_,k3⟩
  ·exact⟨g,b',GZ,R',k1,G9⟩
  ·cases k3
  ·cases k3
 ·have hvt:=(bc hq).1
  have v1:=Vs.sub h3.bd t hvt
  refine⟨v1,Tm.nI (lR h4) t (js hq), ?_⟩
  have e1:=PB (θ:=ag l0) _ v1
  rw[mn.sub h2 hvt]at e1
  have e2:=lP hS (fun p hp=>by obtain⟨x,hx,rfl⟩:=cz hp;exact h.gA.Su x hx) hvt
  have e3:=(bc hq).2.1
  omega
theorem wo{c:Nat}{G:List Gr}{so:Nat->aa}{gone:Nat->Prop}{x x' y y':aa}(h:x=y)(h':x'=y')(hs:yX c G so gone y y'):yX c G so gone x x':=by rw[h,h'];exact hs
@[reducible] def q8 (B:Nat->aa) (r c:Nat) (ds:List D) (ty sz:Nat) (es:List D):Nat->aa:=aw (aw B r (.row (ds.map .d++[.osl c 0]))) c (.arr 0 ty sz es)
theorem Ck{c:Nat}{G:List Gr}{so:Nat->aa}{gone:Nat->Prop}{l l':List V}:∀ds:List D,qL c G so gone l l'->qL c G so gone (ds.map .d++l) (ds.map .d++l')
 |[],h=>h
 |d::ds,h=>lW (Ck ds h)
theorem PC(B:Nat->aa)(r c:Nat)(ds:List D)(ty sz:Nat)(es:List D):q8 B r c ds ty sz es c= .arr 0 ty sz es:=ab _ _ _
theorem PD(B:Nat->aa){r c:Nat}(h:r<c)(ds:List D)(ty sz:Nat)(es:List D):q8 B r c ds ty sz es r= .row (ds.map .d++[.osl c 0]):=(af _ _ _ _ ad).trans (ab _ _ _)
theorem AZ(B:Nat->aa){r c j:Nat}(h:j≠r)(h2:j≠c)(ds:List D)(ty sz:Nat)(es:List D):q8 B r c ds ty sz es j=B j:=(af _ _ _ _ h2).trans (af _ _ _ _ h)
theorem LL{B:Nat->aa}{r c:Nat}{ds:List D}{ty sz:Nat}{e:Nat->V}{so:Nat->aa}{m:Nat}(l:List V)(hg:Good B c)(jK:∀j,c<=j->B j= .no)(hr:r<c)(ho:∀j,j<c->j≠r->so j=B j)(cL:so r= .row (ds.map .d++[.ao]))(eD:0<sz)
 (he:iL c [⟨.ao,ty,sz,[]⟩] so (fun _=>False) e l 0):bM 0 ⟨e,so,m⟩ ⟨aY l,q8 B r c ds ty sz [],c+1⟩:=by
 refine bM.sj (fun _=>False) .ao c _ ad (fun j hj=> ?_) (PC _ _ _ _ _ _ _) (.inl ⟨rfl,rfl,eD⟩) (fun j hj=> ?_) (fun _ h=>h.elim) he
 ·by_cases e1:j=r
  ·subst e1
   exact wo (y:= .row (ds.map .d++[.ao])) cL (PD B hr ds ty sz _) (jt rfl (Ck ds (qv (g:=⟨.ao,ty,sz,[]⟩) 0 rfl rfl rfl ju)))
  ·exact abS
 ·exact TK
theorem sR{B:Nat->aa}{r c ep:Nat}{ds:List D}{ty sz:Nat}{es:List D}{e:Nat->V}{so:Nat->aa}{m:Nat}(l:List V)(hg:Good B c)(jK:∀j,c<=j->B j= .no)(hr:r<c)(ho:∀j,j<c->j≠r->so j=B j)(cL:so r= .row (ds.map .d++[.osl c ep]))(dF:so c= .arr ep ty sz es)
 (he:iL c [⟨.osl c ep,ty,sz,es⟩] so (fun j=>j=c) e l 0):bM 0 ⟨e,so,m⟩ ⟨aY l,q8 B r c ds ty sz es,c+1⟩:=by
 refine bM.sj (fun j=>j=c) (.osl c ep) c _ ad (fun j hj=> ?_) (PC _ _ _ _ _ _ _) (.inr ⟨c,ep,rfl,rfl,dF⟩) (fun j hj=> ?_) (fun j h h2=>ad) he
 ·by_cases e1:j=r
  ·subst e1
   exact wo (y:= .row (ds.map .d++[.osl c ep])) cL (PD B hr ds ty sz _) (jt rfl (Ck ds (qv (g:=⟨.osl c ep,ty,sz,es⟩) 0 rfl rfl rfl ju)))
  ·exact abS
 ·exact TK
structure Fm where
 binds:List TB
 aD:List (List TB)
@[reducible] def CH (l:List TB):D:= .sl (l.map TB.d)
@[reducible] def Fm.d (x:Fm):D:= .agg [.sl (x.binds.map TB.d), .sl (x.aD.map CH)]
def gJ(ru:Nt->List TB×Bool)(l:List Nt):List (List TB):=(l.filter fun n=>(ru n).2).map fun n=>(ru n).1
theorem sS(ru:Nt->List TB×Bool)(l:List Nt)(n:Nt):gJ ru (l++[n])=gJ ru l++(if(ru n).2=true then [(ru n).1]else []):=by
 unfold gJ
 rw[List.filter_append,List.map_append]
 by_cases h:(ru n).2=true
 ·simp[h]
 ·simp[h]
theorem JD(ru:Nt->List TB×Bool)(l:List Nt):(gJ ru l).length<=l.length:=by
 unfold gJ
 rw[List.length_map]
 exact List.length_filter_le _ _
theorem cX{O:Nat->aa}{b c ty sz:Nat}{es:List D}(hg:Good O c)(hb:b<=c)(gone:Nat->Prop)(x:V)(env:List V)(tT:∀id,gone id->c<=id){e:Nat->V}{so:Nat->aa}{m:Nat}(gx:gw so gone ty sz es x)(ho:∀j,j<c->so j=O j)(he:iL c [⟨x,ty,sz,es⟩] so gone e env 0):
 bM b ⟨e,so,m⟩ ⟨aY env,aw O c (.arr 0 ty sz es),c+1⟩:=by
 refine bM.sj gone x c env hb (fun j hj=> ?_) (ab _ _ _) gx (fun j hj=> ?_) (fun j h1 h2=>absurd (tT j h1) ad) he
 ·rw[af _ _ _ _ (by omega)]
  exact bB (ho j hj) (fun r hr=>hg.refs j r hr)
 ·rw[af _ _ _ _ (by omega)]
  exact CN
def Fw(s:b9):List (Tm×Tm):=s.binds.map fun x=>(qY x,x.term)
theorem JE{s:az}{l:List TB}(h:dK s l):∃ρ R,kp s (ag l) l ρ R:=by
 refine⟨fun v=>if bR (ag l) v=none then 0 else 1,1,yh h,fun v=>Iff.rfl,fun v x hx=> ?_,fun v=> ?_⟩
 ·have hm:=cm hx
  obtain⟨y,hy,e⟩:=cz hm
  have e2:y.term=x:=(congrArg Prod.snd e).symm
  have hi:=h.idem y hy
  rw[e2]at hi
  have hv:Vs s x:=e2 ▸ (h.ok y hy).2
  refine⟨hv, ?_,fun u hu=> ?_⟩
  ·rw[sD x hv hi];simp[Lv,hx]
  ·rw[if_pos (hi u hu),if_neg (by rw[hx];exact Option.some_ne_none _)]
   omega
 ·split<;>omega
theorem ym(s:b9)(hs:s.Fin)(h:bn s){l:List TB}(hl:qZ s l){ru:Nt->List TB×Bool}(ze:∀n∈s.aD,∃f,da f (aO (ag l) n.a) (aO (ag l) n.b) []=some (ru n)):a7 Tryz.prog 24 [s.d] (.ret [Fm.d ⟨l,gJ ru s.aD⟩, .i 0]):=by
 have rA:=h.gA.len
 have uL:=h.sI
 have wJ:(Fw s).length=s.binds.length:=List.length_map _
 refine a7.aH mix ad5 aF ?_
 rw[c24]
 refine gB ?_
 refine bI (Js s hs _ _ dx _ _ (fun _ o' nx' id i1 i2 i3 i4=> ?_) (fun hn=>absurd h hn))
 have e1:o' 1= .row [.ao, .ao]:=(i3 1 ad).trans bp
 have ay:id<nx':=Good.lt i2 HB
 refine dQ e1 ?_
 obtain⟨O,hO⟩:∃O,O=aw (aw o' (nx'+3) (.row [.ao, .ao, .ao, .ao, .ao, .d .dX])) (nx'+3) (.row (s.row++[.mp id])):=⟨_,rfl⟩
 have Ss:Good O (nx'+4):=by
  rw[hO]
  refine Good.aw (Good.aw (i2.mono ad) ad rfl) ad ?_
  simp[aa.refs,V.aN,V.refs]
  omega
 have O1:O 1= .row [.ao, .ao]:=by rw[hO];(repeat first|rfl|rw[ab]|rw[af _ _ _ _ (by omega)]);exact e1
 have O3:O (nx'+3)= .row (s.row++[.mp id]):=by rw[hO];(repeat first|rfl|rw[ab]|rw[af _ _ _ _ (by omega)])
 have w1:∀k,(1:Nat)≠nx'+k:=fun k=>ad
 refine aC (fun k:Nat=>⟨aY (.ai:: .ai:: .ptr 1 0:: .ai:: .ptr (nx'+3) 0:: .ai:: .osl (nx'+4) 0::dy (dy [.ai, .ai, .ai, .ai, .d (.sl (s.binds.map TB.d)), .d (.i s.binds.length), .d (.i k)])),aw O (nx'+4) (.arr 0 106 6 (((Fw s).take k).map sK)),nx'+5⟩)
  (fun k=>k<=s.binds.length) (fun k=>s.binds.length - k) 0 (Nat.zero_le _) ?_ (fun k hk=> ?_)
 ·refine cX Ss ad (fun _=>False) .ao _ (fun _ h=>h.elim) (.inl ⟨rfl,rfl,bF⟩) (fun j hj=>by rw[hO];rfl) ?_
  exact iV
 replace hk:k<=s.binds.length:=hk
 have q1:aw O (nx'+4) (.arr 0 106 6 (((Fw s).take k).map sK)) 1= .row [.ao, .ao]:=by rw[af _ _ _ _ (by omega)];exact O1
 have q3:aw O (nx'+4) (.arr 0 106 6 (((Fw s).take k).map sK)) (nx'+3)= .row (s.row++[.mp id]):=by rw[af _ _ _ _ (by omega)];exact O3
 have l1:((Fw s).take k).length=k:=by rw[List.length_take];omega
 have dR:k<=140737488355327/\(k+1)*72<=140737488355328:=ad
 refine dQ (ae O1 (ae O3 w1)) ?_
 refine ak (fun h6=> ?_) (fun h6=> ?_)
 ·replace h6:k<s.binds.length:=by simp at h6;omega
  obtain⟨x,hx⟩:=aA h6
  have tP:(Fw s).take (k+1)=(Fw s).take k++[(qY x,x.term)]:=by rw[List.take_add_one,Fw,List.getElem?_map,hx];rfl
  refine dQ (ae O1 (ae O3 (ae w1 (ae hx (ae l1 dR))))) ?_
  refine aj (k+1) h6 ad (cX Ss ad (fun j=>nx'+4<=j) (.osl (nx'+4) 1) _ (fun _ h=>h) (.inr ⟨nx'+4,1,ad,rfl,by(repeat first|rfl|rw[ab]|rw[af _ _ _ _ (by omega)]);rw[tP,List.map_append];rfl⟩) (fun j hj=>bp) ?_)
  exact iV
 ·replace h6:k=s.binds.length:=by simp at h6;omega
  subst h6
  rw[List.take_of_length_le (by omega)]
  refine dQ (ae O1 (ae O3 w1)) ?_
  have hun:a7 Tryz.prog 67 [.sl ((Fw s).map sK)] (.ret [.sl (l.map TB.d), .bool true]):=by
   obtain⟨g,b',ρ,R,k1,k2⟩:=hl.eq
   have ev:(Fw s).map (·.1)=Ho s:=by unfold Fw Ho;rw[List.map_map];rfl
   have et:(Fw s).map (·.2)=Hq s:=by unfold Fw Hq;rw[List.map_map];rfl
   have hq:∀p∈Fw s,QT s.sig p.1/\QT s.sig p.2:=fun p hp=>by
    obtain⟨x,hx,rfl⟩:=List.mem_map.1 hp
    exact⟨QT.var (h.gA.ok x hx).1,uj (h.gA.ok x hx).2⟩
   exact uv hq ad (by rw[ev,et];exact k1) (fun _=>⟨k2,hl.zd,hl.eP⟩)
  refine bC hun ?_
  refine dQ (ae O1 (ae O3 w1)) ?_
  obtain⟨B,hB⟩:∃B,B=aw (aw (aw (aw O (nx'+4) (.arr 0 106 6 ((Fw s).map sK))) (nx'+6) (.row [.ao, .ao])) (nx'+4) (.vg 0 ((Fw s).map sK))) (nx'+6) (.row [.d (.sl (l.map TB.d)), .ao]):=⟨_,rfl⟩
  have hgB:Good B (nx'+14):=by
   rw[hB]
   exact Good.aw (Good.aw (Good.aw (Good.aw (Ss.mono ad) ad rfl) ad rfl) ad rfl) ad rfl
  have B1:B 1= .row [.ao, .ao]:=by rw[hB];(repeat first|rfl|rw[ab]|rw[af _ _ _ _ (by omega)]);exact O1
  have B3:B (nx'+3)= .row (s.row++[.mp id]):=by rw[hB];(repeat first|rfl|rw[ab]|rw[af _ _ _ _ (by omega)]);exact O3
  have B6:B (nx'+6)= .row [.d (.sl (l.map TB.d)), .ao]:=by rw[hB];(repeat first|rfl|rw[ab]|rw[af _ _ _ _ (by omega)])
  have hll:l.length<=20:=hl.zd.len
  refine aC (fun k:Nat=>⟨aY (.ai:: .ai:: .ptr 1 0:: .ai:: .ptr (nx'+3) 0:: .ai:: .ai:: .ai:: .ai:: .ptr (nx'+6) 0:: .mp (nx'+14)::dy (dy (dy (dy (dy [.d (.sl (l.map TB.d)), .d (.i l.length), .d (.i k)]))))),aw B (nx'+14) (dk (ag (l.take k))),nx'+15⟩)
   (fun k=>k<=l.length) (fun k=>l.length - k) 0 (Nat.zero_le _) ?_ (fun k hk=> ?_)
  ·refine bM.bQ _ ad ad (Good.aw (hgB.mono ad) ad rfl) (fun j hj=>by rw[hB];rfl) ?_
   exact dU
  replace hk:k<=l.length:=hk
  refine dQ (ae B1 (ae B3 (ae B6 w1))) ?_
  refine ak (fun h6=> ?_) (fun h6=> ?_)
  ·replace h6:k<l.length:=by simp at h6;omega
   obtain⟨x,hx⟩:=aA h6
   have qW:=xZ l hx
   have L3:bR (ag (l.take k)) x.var=none:=by
    rw[kW]
    intro hm
    have yR:=yh hl.zd
    have h7:((ag (l.take (k+1))).map (·.1)).Nodup:=yR.sublist (((List.take_sublist _ _).map _).map _)
    rw[qW,List.map_append,List.nodup_append]at h7
    exact h7.2.2 x.var hm x.var aF rfl
   refine dQ (ae B1 (ae B3 (ae B6 (ae w1 (ae hx (dS L3)))))) ?_
   refine aj (k+1) h6 ad (bM.bQ _ ad ad (Good.aw (hgB.mono ad) ad rfl) (fun j hj=> ?_) ?_)
   ·have hj:j<nx'+15:=hj
    rw[qW]
    by_cases e:j=nx'+14
    ·subst e;(repeat first|rfl|rw[ab]|rw[af _ _ _ _ (by omega)]);rw[xV L3]
    ·exact bp
   ·exact dU
  ·replace h6:k=l.length:=by simp at h6;omega
   subst h6
   rw[List.take_length]
   refine dQ (ae B1 (ae B3 (ae B6 w1))) ?_
   obtain⟨ρs,Rs,hSl⟩:=JE hl.zd
   have JF:∀p∈ag l,p.2.fits:=fun p hp=>by
    obtain⟨x,hx,rfl⟩:=cz hp
    exact Tm.mN _ (hl.eP x hx)
   have PE:∀M:aa,(M=dk (ag l)\/M= .bZ (enc (D.int .i64) (jR (ag l))))->Good (aw B (nx'+14) M) (nx'+15):=fun M hM=>Good.aw (hgB.mono ad) ad (by rcases hM with rfl|rfl<;>rfl)
   refine aC (fun i:Nat×aa=>⟨aY (.ai:: .ai:: .ptr 1 0:: .ai:: .ai:: .ai:: .ai:: .ai:: .ai:: .ptr (nx'+6) 0:: .mp (nx'+14)::dy (dy (dy (dy (dy (dy [.ai, .ai, .ai, .ai, .ai, .ai, .d (.sl (s.aD.map Nt.d)), .d (.i s.aD.length), .d (.i i.1)])))))),q8 (aw B (nx'+14) i.2) (nx'+6) (nx'+15) [.sl (l.map TB.d)] 25 1 ((gJ ru (s.aD.take i.1)).map CH),nx'+16⟩)
    (fun i=>i.1<=s.aD.length/\(i.2=dk (ag l)\/i.2= .bZ (enc (D.int .i64) (jR (ag l))))) (fun i=>s.aD.length - i.1) (0,dk (ag l)) ⟨Nat.zero_le _, .inl rfl⟩ ?_ ?_
   ·refine LL (ds:=[.sl (l.map TB.d)]) _ (PE _ (.inl rfl)) (fun j hj=>(PE _ (.inl rfl)).fresh j hj) ad (fun j hj fS=>rfl) (gW B6) bF ?_
    exact iV
   rintro⟨k,M⟩ ⟨hk,hM⟩
   dsimp only at hk hM|-
   have hgm:=PE M hM
   have m1:q8 (aw B (nx'+14) M) (nx'+6) (nx'+15) [.sl (l.map TB.d)] 25 1 ((gJ ru (s.aD.take k)).map CH) 1= .row [.ao, .ao]:=by unfold q8;(repeat first|rfl|rw[ab]|rw[af _ _ _ _ (by omega)]);exact B1
   have m6:q8 (aw B (nx'+14) M) (nx'+6) (nx'+15) [.sl (l.map TB.d)] 25 1 ((gJ ru (s.aD.take k)).map CH) (nx'+6)= .row [.d (.sl (l.map TB.d)), .osl (nx'+15) 0]:=by unfold q8;(repeat first|rfl|rw[ab]|rw[af _ _ _ _ (by omega)])
   have Fx:q8 (aw B (nx'+14) M) (nx'+6) (nx'+15) [.sl (l.map TB.d)] 25 1 ((gJ ru (s.aD.take k)).map CH) (nx'+14)=M:=by unfold q8;(repeat first|rfl|rw[ab]|rw[af _ _ _ _ (by omega)])
   have CI:q8 (aw B (nx'+14) M) (nx'+6) (nx'+15) [.sl (l.map TB.d)] 25 1 ((gJ ru (s.aD.take k)).map CH) (nx'+15)= .arr 0 25 1 ((gJ ru (s.aD.take k)).map CH):=by unfold q8;(repeat first|rfl|rw[ab]|rw[af _ _ _ _ (by omega)])
   have hl3:(gJ ru (s.aD.take k)).length<=12:=by have:=JD ru (s.aD.take k);rw[List.length_take]at this;omega
   have dR:(gJ ru (s.aD.take k)).length<=140737488355327/\((gJ ru (s.aD.take k)).length+1)*24<=140737488355328:=ad
   obtain⟨Q,hQ⟩:∃Q,Q=q8 (aw B (nx'+14) M) (nx'+6) (nx'+15) [.sl (l.map TB.d)] 25 1 ((gJ ru (s.aD.take k)).map CH):=⟨_,rfl⟩
   rw[<- hQ]at m1 m6 Fx CI|-
   refine dQ (ae m1 (ae m6 (ae Fx (ae CI w1)))) ?_
   refine ak (fun h6=> ?_) (fun h6=> ?_)
   ·replace h6:k<s.aD.length:=by simp at h6;omega
    obtain⟨n,hn⟩:=aA h6
    have yS:=List.mem_of_getElem? hn
    have RB:s.aD.take (k+1)=s.aD.take k++[n]:=by rw[List.take_add_one,hn];rfl
    obtain⟨na,nb,_⟩:=h.aD n yS
    obtain⟨fn,FH⟩:=ze n yS
    have va:=hl.val _ na
    have vb:=hl.val _ nb
    have fa:=nP hSl _ n.a (bc na).1 (Nat.le_refl _)
    have fb:=nP hSl _ n.b (bc nb).1 (Nat.le_refl _)
    rcases hM with hM|hM
    ·rw[hM]at Fx
     refine dQ (ae m1 (ae m6 (ae Fx (ae CI (ae w1 hn))))) ?_
     refine aZ (nF JF _ n.a _ (gP na).fits fa ad) ?_
     refine dQ (ae m1 (ae m6 (ae Fx (ae CI (ae w1 hn))))) ?_
     refine aZ (nF JF _ n.b _ (gP nb).fits fb ad) ?_
     refine dQ (ae m1 (ae m6 (ae Fx (ae CI (ae w1 hn))))) ?_
     refine aZ (Cj va vb FH) ?_
     refine dQ (ae m1 (ae m6 (ae Fx (ae CI (ae w1 hn))))) ?_
     refine aL (bE (ids:=[nx'+19,nx'+14,nx'+30]) (nx:=nx'+37) aF aF [([],[]),([0],[]),([0],[]),([1],[1]),([],[]),([0],[]),([0],[]),([1],[1]),([],[]),([],[2]),([2],[2]),([],[]),([],[]),([],[]),([],[]),([],[])] bF) ?_
     cases uJ:(ru n).2 with
     |false=>
      have hsn:gJ ru (s.aD.take (k+1))=gJ ru (s.aD.take k):=by rw[RB,sS,uJ];simp
      refine dQ (ae m1 (ae m6 (ae Fx (ae CI w1)))) ?_
      refine aj (k+1, .bZ (enc (D.int .i64) (jR (ag l)))) ⟨h6, .inr rfl⟩ iT ?_
      dsimp only
      rw[hsn]
      refine sR (ep:=0) (ds:=[.sl (l.map TB.d)]) _ (PE _ (.inr rfl)) (fun j hj=>(PE _ (.inr rfl)).fresh j hj) ad (fun j hj fS=> ?_) (gW m6) (gW CI) ?_
      ·by_cases e:j=nx'+14
       ·exact qq
       ·(repeat first|rfl|rw[ab]|rw[af _ _ _ _ (by omega)])
        exact QE
      ·exact iV
     |true=>
      have hsn:gJ ru (s.aD.take (k+1))=gJ ru (s.aD.take k)++[(ru n).1]:=by rw[RB,sS,uJ];simp
      refine dQ (ae m1 (ae m6 (ae Fx (ae CI (ae w1 dR))))) ?_
      refine aj (k+1, .bZ (enc (D.int .i64) (jR (ag l)))) ⟨h6, .inr rfl⟩ iT ?_
      dsimp only
      rw[hsn]
      refine sR (ep:=1) (ds:=[.sl (l.map TB.d)]) _ (PE _ (.inr rfl)) (fun j hj=>(PE _ (.inr rfl)).fresh j hj) ad (fun j hj fS=> ?_) bp WZ ?_
      ·by_cases e:j=nx'+14
       ·exact qq
       ·(repeat first|rfl|rw[ab]|rw[af _ _ _ _ (by omega)])
        exact QE
      ·exact iV
    ·rw[hM]at Fx
     refine dQ (ae m1 (ae m6 (ae Fx (ae CI (ae w1 hn))))) ?_
     refine aZ (nF JF _ n.a _ (gP na).fits fa ad) ?_
     refine dQ (ae m1 (ae m6 (ae Fx (ae CI (ae w1 hn))))) ?_
     refine aZ (nF JF _ n.b _ (gP nb).fits fb ad) ?_
     refine dQ (ae m1 (ae m6 (ae Fx (ae CI (ae w1 hn))))) ?_
     refine aZ (Cj va vb FH) ?_
     refine dQ (ae m1 (ae m6 (ae Fx (ae CI (ae w1 hn))))) ?_
     refine aL (bE (ids:=[nx'+19,nx'+14,nx'+30]) (nx:=nx'+37) aF aF [([],[]),([0],[]),([0],[]),([1],[1]),([],[]),([0],[]),([0],[]),([1],[1]),([],[]),([],[2]),([2],[2]),([],[]),([],[]),([],[]),([],[]),([],[])] bF) ?_
     cases uJ:(ru n).2 with
     |false=>
      have hsn:gJ ru (s.aD.take (k+1))=gJ ru (s.aD.take k):=by rw[RB,sS,uJ];simp
      refine dQ (ae m1 (ae m6 (ae Fx (ae CI w1)))) ?_
      refine aj (k+1, .bZ (enc (D.int .i64) (jR (ag l)))) ⟨h6, .inr rfl⟩ iT ?_
      dsimp only
      rw[hsn]
      refine sR (ep:=0) (ds:=[.sl (l.map TB.d)]) _ (PE _ (.inr rfl)) (fun j hj=>(PE _ (.inr rfl)).fresh j hj) ad (fun j hj fS=> ?_) (gW m6) (gW CI) ?_
      ·by_cases e:j=nx'+14
       ·exact qq
       ·(repeat first|rfl|rw[ab]|rw[af _ _ _ _ (by omega)])
        exact QE
      ·exact iV
     |true=>
      have hsn:gJ ru (s.aD.take (k+1))=gJ ru (s.aD.take k)++[(ru n).1]:=by rw[RB,sS,uJ];simp
      refine dQ (ae m1 (ae m6 (ae Fx (ae CI (ae w1 dR))))) ?_
      refine aj (k+1, .bZ (enc (D.int .i64) (jR (ag l)))) ⟨h6, .inr rfl⟩ iT ?_
      dsimp only
      rw[hsn]
      refine sR (ep:=1) (ds:=[.sl (l.map TB.d)]) _ (PE _ (.inr rfl)) (fun j hj=>(PE _ (.inr rfl)).fresh j hj) ad (fun j hj fS=> ?_) bp WZ ?_
      ·by_cases e:j=nx'+14
       ·exact qq
       ·(repeat first|rfl|rw[ab]|rw[af _ _ _ _ (by omega)])
        exact QE
      ·exact iV
   ·replace h6:k=s.aD.length:=by simp at h6;omega
    subst h6
    rw[List.take_length]at CI
    simp+contextual (disch:=first|omega|simp only[go_sem,false_implies]) only[go_sem,wrap64,if_pos,m1,m6,CI,w1,Nat.add_assoc,Nat.left_eq_add,Nat.add_eq_left,Nat.add_left_cancel_iff,List.length_map]
end Go.Proofs.YtlhemmpklhhgoaaGreat
section
namespace Go.Proofs.YtlhemmpklhhgoaaGreat
structure Sy where
 a:Tm
 b:Tm
 no:Bool
@[reducible] def Sy.d (x:Sy):D:= .agg [.i x.a.op, .i x.a.n, .sl (x.a.kids.map Tm.d), .i x.b.op, .i x.b.n, .sl (x.b.kids.map Tm.d), .bool x.no]
@[reducible] def Sy.row (x:Sy):List V:=[.d (.i x.a.op), .d (.i x.a.n), .d (.sl (x.a.kids.map Tm.d)), .d (.i x.b.op), .d (.i x.b.n), .d (.sl (x.b.kids.map Tm.d)), .d (.bool x.no)]
structure Sy.Ok (s:az) (x:Sy):Prop where
 va:bT s x.a=true
 vb:bT s x.b=true
theorem mP{s:az}{t:Tm}(h:bT s t=true):dI t=true:=(xN t).2 (by have:=(bc h).2;omega)
theorem bn.sm {s:b9}(h:bn s)(hs:eW s.sig=true):Ph s:=by
 have h1:=h.gA.len
 have h2:=h.sI
 have h3:=h.EW
 exact⟨hs,ad,ad,ad,fun x hx=>mP (h.gA.ok x hx).2,fun n hn=>⟨mP (h.aD n hn).1,mP (h.aD n hn).2.1⟩⟩
theorem bn.fits {s:b9}(h:bn s)(hf:s.sig.Fits):s.Fits:=by
 have h1:=h.gA.len
 have h2:=h.sI
 have h3:=h.EW
 exact⟨hf,ad,ad,ad,fun x hx=>(gP (h.gA.ok x hx).2).fits,fun n hn=>⟨(gP (h.aD n hn).1).fits,(gP (h.aD n hn).2.1).fits⟩⟩
structure SdP (s:b9) (x:Sy) (T:b9) (e:Int):Prop where
 call:a7 Tryz.prog 29 [s.d,x.d] (.ret [T.d, .i e])
 err:e=0\/e=5\/e=3
 ok:e=0->bn T/\T.sig=s.sig/\T.marks=s.marks/\(∃E,T.binds=s.binds++E)/\∃F,T.aD=s.aD++F
 sem:(x.no=false/\∃f e1 b' bk,jJ true f x.a x.b (ag s.binds)=some (e1,b')/\(∀n,bk n=true↔EV b' n)/\e=iX e1 (s.aD.any bk)/\(e=0->T=s.tell b'))\/
  (x.no=true/\∃bA l ρ R f r,(bA=true↔EV (ag s.binds) ⟨x.a,x.b⟩)/\kp s.sig (ag s.binds) l ρ R/\dK s.sig l/\da f (aO (ag l) x.a) (aO (ag l) x.b) []=some r/\e=jW s bA r.2/\T=lS s ⟨x.a,x.b⟩ bA r.2)
theorem AP(s:b9)(x:Sy)(hx:x.no=false){T:b9}{e:Int}(h:a7 Tryz.prog 15 [s.d,x.a.d,x.b.d] (.ret [T.d, .i e])):a7 Tryz.prog 29 [s.d,x.d] (.ret [T.d, .i e]):=by
 exact T7
theorem LM(s:b9)(x:Sy)(hx:x.no=true){T:b9}{e:Int}(h:a7 Tryz.prog 16 [s.d,x.a.d,x.b.d] (.ret [T.d, .i e])):a7 Tryz.prog 29 [s.d,x.d] (.ret [T.d, .i e]):=by
 exact T7
theorem tellE_0{e:Int}{b:Bool}(h:iX e b=0):e=0/\b=false:=by
 unfold iX at h
 split at h
 ·cases b with
  |false=>exact⟨by assumption,rfl⟩
  |true=>exact absurd (show(5:Int)=0 from h) bF
 ·rename_i h1;exact absurd h h1
theorem E9{e:Int}(he:e=0\/e=5\/e=3)(b:Bool):iX e b=0\/iX e b=5\/iX e b=3:=by
 unfold iX
 split
 ·split
  ·exact .inr (.inl rfl)
  ·exact .inl rfl
 ·exact he
theorem PF(s:b9)(b u:Bool):jW s b u=0\/jW s b u=5\/jW s b u=3:=by
 unfold jW
 split
 ·exact .inr (.inl rfl)
 ·split
  ·split
   ·exact .inr (.inr rfl)
   ·exact .inl rfl
  ·exact .inl rfl
theorem SR{s:b9}(h:bn s)(hf:s.sig.Fits){x:Sy}(hx:x.Ok s.sig):∃p:b9×Int,SdP s x p.1 p.2:=by
 have mf:=h.fin hf
 have fa:=gP hx.va
 have fb:=gP hx.vb
 cases hn:x.no with
 |false=>
  obtain⟨f,e,b',hq,UF⟩:=Jp h hx.va hx.vb
  have he:e=0\/e=5\/e=3:=by
   rcases UF with⟨h,_⟩|h|h
   ·exact .inl h
   ·exact .inr (.inl h)
   ·exact .inr (.inr h)
  obtain⟨bk,AJ⟩:∃bk:Nt->Bool,∀n,bk n=true↔EV b' n:=by
   classical
   exact⟨fun n=>decide (EV b' n),fun n=>aF⟩
  have t1:=Pt s mf x.a x.b fa fb h hx.va hx.vb hq he (bk:=bk) (fun _ n _=>AJ n)
  by_cases h0:iX e (s.aD.any bk)=0
  ·obtain⟨e0,b0⟩:=tellE_0 h0
   rw[if_pos h0]at t1
   refine⟨(s.tell b',iX e (s.aD.any bk)),AP s x hn t1,E9 he _,fun _=> ?_, .inl ⟨hn,f,e,b',bk,hq,AJ,rfl,fun _=>rfl⟩⟩
   subst e0
   obtain⟨E,rfl,hB⟩:=sO h hx.va hx.vb hq
   have hT:=Sx h hB (fun n hn hbr=>by
    have h2:s.aD.any bk=true:=List.any_eq_true.2 ⟨n,hn,(AJ n).2 hbr⟩
    rw[b0]at h2;cases h2)
   have et:s.tell (ag (s.binds++E))=⟨s.sig,s.binds++E,s.aD,s.marks⟩:=by unfold b9.tell;rw[pG]
   dsimp only
   rw[et]
   exact⟨hT,rfl,rfl,⟨E,rfl⟩,[],aF⟩
  ·rw[if_neg h0]at t1
   exact⟨(pE,iX e (s.aD.any bk)),AP s x hn t1,E9 he _,fun h1=>absurd h1 h0, .inl ⟨hn,f,e,b',bk,hq,AJ,rfl,fun h1=>absurd h1 h0⟩⟩
 |true=>
  obtain⟨bA,WE⟩:∃bA:Bool,bA=true↔EV (ag s.binds) ⟨x.a,x.b⟩:=by
   classical
   exact⟨decide (EV (ag s.binds) ⟨x.a,x.b⟩),aF⟩
  obtain⟨l',ρ,R,hS,hl⟩:=jr h.gA.keys h.gA.ok h.gA.Fu
  obtain⟨fu,r,hr⟩:=mM _ _ (aO (ag l') x.a) (aO (ag l') x.b) [] (Nat.le_refl _) (Nat.le_refl _) dK.nil (Vs.sub hl.bd x.a (bc hx.va).1) (Vs.sub hl.bd x.b (bc hx.vb).1)
  have t3:=PA s mf x.a x.b fa fb h hx.va hx.vb WE hS hl hr
  refine⟨(lS s ⟨x.a,x.b⟩ bA r.2,jW s bA r.2),LM s x hn t3,PF s bA r.2,fun h0=> ?_, .inr ⟨hn,bA,l',ρ,R,fu,r,WE,hS,hl,hr,rfl,rfl⟩⟩
  have hd:=(Hm h hf hx.va hx.vb WE r.2).2 h0
  refine⟨hd.1, ?_⟩
  dsimp only at h0|-
  unfold jW at h0
  unfold lS
  split at h0
  ·exact absurd h0 bF
  ·rename_i h1
   rw[if_neg h1]
   split at h0
   ·rename_i h2
    rw[if_pos h2]
    split at h0
    ·exact absurd h0 bF
    ·rename_i h3
     rw[if_neg h3]
     exact⟨rfl,rfl,⟨[],by simp[b9.Hj]⟩,[⟨x.a,x.b⟩],rfl⟩
   ·rename_i h2
    rw[if_neg h2]
    exact⟨rfl,rfl,⟨[],aF⟩,[],aF⟩
open Classical in
noncomputable def SS(s:b9)(x:Sy):b9×Int:=if h:∃p:b9×Int,SdP s x p.1 p.2 then h.choose else(s,0)
theorem PG{s:b9}(h:bn s)(hf:s.sig.Fits){x:Sy}(hx:x.Ok s.sig):SdP s x (SS s x).1 (SS s x).2:=by
 have he:=SR h hf hx
 unfold SS
 rw[dif_pos he]
 exact he.choose_spec
noncomputable def sU:b9->List Sy->b9×List Sy
 |s,[]=>(s,[])
 |s,x::l=>if(SS s x).2=0 then((sU (SS s x).1 l).1,x::(sU (SS s x).1 l).2)else sU s l
theorem Cl:∀ (l:List Sy) {s:b9},bn s->s.sig.Fits->(∀x∈l,x.Ok s.sig)->bn (sU s l).1/\(sU s l).1.sig=s.sig/\(sU s l).1.marks=s.marks/\∀x∈(sU s l).2,x∈l
 |[],s,h,_,_=>⟨h,rfl,rfl,fun x hx=>hx⟩
 |x::l,s,h,hf,hx=>by
  have hs:=PG h hf (hx x aF)
  simp only[sU]
  by_cases h0:(SS s x).2=0
  ·rw[if_pos h0]
   obtain⟨k1,k2,k3,_⟩:=hs.ok h0
   obtain⟨g1,g2,g3,g4⟩:=Cl l k1 (by rw[k2];exact hf) (fun y hy=>by rw[k2];exact hx y jX)
   exact⟨g1,g2.trans k2,g3.trans k3,fun y hy=>by
    rcases List.mem_cons.1 hy with rfl|hy
    ·simp
    ·simp[g4 y hy]⟩
  ·rw[if_neg h0]
   obtain⟨g1,g2,g3,g4⟩:=Cl l h hf (fun y hy=>hx y jX)
   exact⟨g1,g2,g3,fun y hy=>by simp[g4 y hy]⟩
theorem WG(s0:b9)(h0:bn s0)(hf:s0.sig.Fits)(hss:eW s0.sig=true)(l:List Sy)(hl:l.length<=1000)(hx:∀x∈l,x.Ok s0.sig):a7 Tryz.prog 34 [s0.d, .sl (l.map Sy.d)] (.ret [(sU s0 l).1.d, .sl ((sU s0 l).2.map Sy.d), .bool true]):=by
 refine a7.aH mix aha aF ?_
 rw[c34]
 refine ra ?_
 have EZ:∀s:b9,Good (aw (aw (fun _=> .no) 0 (.row s.row)) 1 (.row [.ao, .ao, .ao, .ao, .ao])) 2:=fun s=>dx
 refine aC (fun i:Nat×b9×List Sy=>⟨aY [.ai, .ai, .ptr 0 0, .ai, .ptr 1 0, .ai, .ai, .osl 2 0, .ai, .ai, .ai, .ai, .d (.sl (l.map Sy.d)), .d (.i l.length), .d (.i i.1)],aw (aw (aw (fun _=> .no) 0 (.row i.2.1.row)) 1 (.row [.ao, .ao, .ao, .ao, .ao])) 2 (.arr 0 53 7 (i.2.2.map Sy.d)),3⟩)
  (fun i=>i.1<=l.length/\i.2.2.length<=i.1/\bn i.2.1/\i.2.1.sig=s0.sig/\(sU s0 l).1=(sU i.2.1 (l.drop i.1)).1/\(sU s0 l).2=i.2.2++(sU i.2.1 (l.drop i.1)).2) (fun i=>l.length - i.1) (0,s0,[]) ⟨Nat.zero_le _,aF,h0,rfl,rfl,rfl⟩ ?_ ?_
 ·refine cX (EZ s0) ad (fun _=>False) .ao _ (fun _ h=>h.elim) (.inl ⟨rfl,rfl,bF⟩) (fun j hj=>rfl) ?_
  exact iV
 rintro⟨k,s,own⟩ ⟨hk,ho,h,SU,L7,L8⟩
 dsimp only at hk ho h SU L7 L8|-
 have dR:own.length<=140737488355327/\(own.length+1)*80<=140737488355328:=ad
 refine ra ?_
 refine ak (fun h6=> ?_) (fun h6=> ?_)
 ·replace h6:k<l.length:=by simp at h6;omega
  obtain⟨x,L4⟩:=aA h6
  have cj:=List.mem_of_getElem? L4
  have ES:l.drop k=x::l.drop (k+1):=by
   obtain⟨i1,i2⟩:=List.getElem?_eq_some_iff.1 L4
   exact FB
  have sd:=PG h (by rw[SU];exact hf) (x:=x) (by rw[SU];exact hx x cj)
  rw[ES]at L7 L8
  simp only[sU]at L7 L8
  cases hp:SS s x with
  |mk T e=>
  rw[hp]at sd L7 L8
  dsimp only at sd L7 L8
  refine eC L4 ?_
  refine bC sd.call ?_
  have skip:e≠0->(sU s0 l).1=(sU s (l.drop (k+1))).1/\(sU s0 l).2=own++(sU s (l.drop (k+1))).2:=fun he=>by
   rw[if_neg he]at L7 L8
   exact⟨L7,L8⟩
  rcases sd.err with rfl|rfl|rfl
  ·obtain⟨k1,k2,k3,_⟩:=sd.ok rfl
   rw[if_pos rfl]at L7 L8
   have sn:T.sig=s0.sig:=k2.trans SU
   have hfT:T.sig.Fits:=by rw[sn];exact hf
   refine eC L4 ?_
   refine ax (Hh T (k1.fits hfT) (ok:=true) ⟨fun _=>k1.sm (by rw[sn];exact hss),fun _=>rfl⟩) rfl ?_
   refine eC L4 ?_
   refine ax (Hg T (k1.fin hfT) (ok:=true) ⟨fun _=>k1,fun _=>rfl⟩) rfl ?_
   refine eC (ae L4 dR) ?_
   refine aj (k+1,T,own++[x]) ⟨h6,by rw[List.length_append,List.length_singleton];omega,k1,sn,L7,by rw[L8];simp⟩ iT (cX (EZ T) ad (fun j=>2<=j) (.osl 2 1) _ (fun _ h=>h) (.inr ⟨2,1,ad,rfl,by(repeat first|rfl|rw[ab]|rw[af _ _ _ _ (by omega)]);rw[List.map_append];rfl⟩) (fun j hj=> ?_) ?_)
   ·have hj:j<2:=hj
    rcases(by omega:j=0\/j=1)with rfl|rfl
    ·exact bp
    ·exact bp
   ·exact iV
  ·obtain⟨s1,s2⟩:=skip bF
   refine eC L4 ?_
   refine aj (k+1,s,own) ⟨h6,Nat.le_succ_of_le ho,h,SU,s1,s2⟩ iT (cX (EZ s) ad (fun j=>2<=j) (.osl 2 0) _ (fun _ h=>h) (.inr ⟨2,0,ad,rfl,bp⟩) (fun j hj=> ?_) ?_)
   ·have hj:j<2:=hj
    rcases(by omega:j=0\/j=1)with rfl|rfl
    ·exact bp
    ·exact bp
   ·exact iV
  ·obtain⟨s1,s2⟩:=skip bF
   refine eC L4 ?_
   refine aj (k+1,s,own) ⟨h6,Nat.le_succ_of_le ho,h,SU,s1,s2⟩ iT (cX (EZ s) ad (fun j=>2<=j) (.osl 2 0) _ (fun _ h=>h) (.inr ⟨2,0,ad,rfl,bp⟩) (fun j hj=> ?_) ?_)
   ·have hj:j<2:=hj
    rcases(by omega:j=0\/j=1)with rfl|rfl
    ·exact bp
    ·exact bp
   ·exact iV
 ·replace h6:k=l.length:=by simp at h6;omega
  subst h6
  rw[List.drop_length]at L7 L8
  simp only[sU,List.append_nil]at L7 L8
  rw[L7,L8]
  simp+contextual (disch:=first|omega|simp only[go_sem,false_implies]) only[go_sem,wrap64,if_pos,List.length_map]
end Go.Proofs.YtlhemmpklhhgoaaGreat
end
namespace Go.Proofs.YtlhemmpklhhgoaaGreat
def Cm(s:az)(x:Sy):Bool:= !(bT s x.a&&bT s x.b)
theorem aal(s:az)(hs:s.Fits)(SU:jP s=true)(x:Sy)(hx:x.a.fits/\x.b.fits){p:Nat}(o:Nat->aa)(nx:Nat)(hg:Good o nx)(hp:o p= .row s.row)(K X:V->(Nat->aa)->Nat->Prop)
 (hK:∀ (o':Nat->aa) (nx':Nat),nx<=nx'->Good o' nx'->(∀j,j<nx->o' j=o j)->K (.d (.bool (Cm s x))) o' nx'):
 bJ Tryz.prog 84 [.d x.d, .ptr p 0] o nx K X:=by
 have lp:p<nx:=hg.lt CJ
 have w1:∀k,p≠nx+k:=fun k=>ad
 have w2:p≠nx:=ad
 refine bJ.aH mix ahC aF ?_
 rw[c84]
 have va:=yc SU x.a
 have vb:=yc SU x.b
 have nw:bT s x.a=false\/bT s x.b=false->Cm s x=true:=fun h=>by unfold Cm;rcases h with h|h<;>simp[h]
 have fin:∀n,nx+1<=n->Good (aw o nx (.row x.row)) n:=fun n hn=>(hg.mono ad).aw ad rfl
 refine c9 (ae hp (ae w1 w2)) ?_
 refine ax (pw x.a hx.1) rfl ?_
 cases h1:dI x.a with
 |false=>
  rw[nw (.inl (Bool.eq_false_iff.2 fun h=>by rw[mP h]at h1;cases h1))]at hK
  exact QN
 |true=>
  refine c9 (ae hp (ae w1 w2)) ?_
  refine ax (pw x.b hx.2) rfl ?_
  cases h2:dI x.b with
  |false=>
   rw[nw (.inr (Bool.eq_false_iff.2 fun h=>by rw[mP h]at h2;cases h2))]at hK
   exact QN
  |true=>
   refine c9 (ae hp (ae w1 w2)) ?_
   refine ax (mO s hs x.a hx.1) rfl ?_
   cases h3:(il s x.a&&fL x.a)with
   |false=>
    rw[nw (.inl (va.trans h3))]at hK
    exact QN
   |true=>
    refine c9 (ae hp (ae w1 w2)) ?_
    refine ax (mO s hs x.b hx.2) rfl ?_
    have hv:Cm s x= !(il s x.b&&fL x.b):=by unfold Cm;rw[va,vb,h3,Bool.true_and]
    rw[hv]at hK
    exact QN
theorem SV(l:List Sy)(hl:l.length<=9223372036854775807){g p:Nat}{R:aa}(br:Sy->Bool)(hb:∀x∈l,∀ (o:Nat->aa) (nx:Nat),Good o nx->o p=R->∀ (K X:V->(Nat->aa)->Nat->Prop),(∀ (o':Nat->aa) (nx':Nat),nx<=nx'->Good o' nx'->(∀j,j<nx->o' j=o j)->K (.d (.bool (br x))) o' nx')->bJ Tryz.prog g [.d x.d, .ptr p 0] o nx K X)
 (o:Nat->aa) (nx:Nat) (hg:Good o nx) (hp:o p=R) (lp:p<nx) (K X:V->(Nat->aa)->Nat->Prop)
 (hK:∀ (o':Nat->aa) (nx':Nat),nx<=nx'->Good o' nx'->(∀j,j<nx->o' j=o j)->K (.d (.bool (l.any br))) o' nx'):
 bJ Tryz.prog 83 [.d (.sl (l.map Sy.d)), .func (.func g) [] [.ptr p 0]] o nx K X:=by
 refine bJ.aH mix ahB aF ?_
 rw[c83]
 refine gB ?_
 have key:∀ (K X:V->(Nat->aa)->Nat->Prop),(∀r:Int,decide (0<=r)=l.any br->∀ (o':Nat->aa) (nx':Nat),nx+3<=nx'->Good o' nx'->(∀j,j<nx->o' j=o j)->K (.d (.i r)) o' nx')->
  bJ Tryz.prog 125 [.d (.sl (l.map Sy.d)), .func (.func g) [] [.ptr p 0]] o (nx+3) K X:=by
  intro K X hK
  refine bJ.aH mix aez aF ?_
  rw[aey]
  refine LR ?_
  refine aC (fun i:Nat=>⟨aY [.d (.sl (l.map Sy.d)), .func (.func g) [] [.ptr p 0], .ai, .ai, .ai, .ai, .ai, .d (.i l.length), .d (.i i)],o,nx+3⟩)
   (fun i=>i<=l.length/\l.any br=(l.drop i).any br) (fun i=>l.length - i) 0 ⟨Nat.zero_le _,rfl⟩ ?_ ?_
  ·exact QL
  rintro k ⟨Qj,zi⟩
  refine LR ?_
  refine ak (fun h1=> ?_) (fun h1=> ?_)
  ·have h1:k<l.length:=by simp at h1;omega
   obtain⟨x,hx⟩:=aA h1
   have cj:=List.mem_of_getElem? hx
   have hd:l.drop k=x::l.drop (k+1):=by
    exact W8
   rw[hd,List.any_cons]at zi
   refine dQ hx ?_
   refine aT (hb x cj _ _ (hg.mono ad) hp _ _ (fun o2 n2 m1 m2 m3=> ?_))
   cases yI:br x with
   |true=>
    exact QO
   |false=>
    exact zw3
  ·have h1:k=l.length:=by simp at h1;omega
   exact HW
 exact QJ
structure JG (s:az) (l:List Sy):Prop where
 sm:eW s=true
 sig:jP s=true
 len:l.length<=14
 ok:∀x∈l,x.Ok s
theorem SW(s:az)(hs:s.Fits)(l:List Sy)(hl:l.length<=9223372036854775807)(hb:∀x∈l,x.a.fits/\x.b.fits){ok:Bool}(a8:ok=true↔JG s l):a7 Tryz.prog 27 [s.d, .sl (l.map Sy.d)] (.ret [.bool ok]):=by
 have no: ¬JG s l->ok=false:=fun h=>by
  cases ok with
  |false=>rfl
  |true=>exact absurd (a8.1 rfl) h
 refine a7.aH mix ag6 aF ?_
 rw[c27]
 refine cS ?_
 refine ax (xG s hs) rfl ?_
 cases h1:eW s with
 |false=>
  rw[no fun h=>by have:=h.sm;rw[h1]at this;cases this]
  exact qo
 |true=>
  refine cS ?_
  refine ax (Wi s hs) rfl ?_
  cases h2:jP s with
  |false=>
   rw[no fun h=>by have:=h.sig;rw[h2]at this;cases this]
   exact qo
  |true=>
   by_cases h3:14<l.length
   ·have j7:decide ((l.length:Int)>14)=true:=decide_eq_true ad
    rw[no fun h=>by have:=h.len;omega]
    exact rk j7
   ·have j7:decide ((l.length:Int)>14)=false:=decide_eq_false ad
    have hr:ok= !(l.any (Cm s)):=by
     rw[Bool.eq_iff_iff,a8,Bool.not_eq_true',List.any_eq_false]
     constructor
     ·intro h x hx
      obtain⟨q1,q2⟩:=h.ok x hx
      simp[Cm,q1,q2]
     ·intro h
      refine⟨h1,h2,ad,fun x hx=> ?_⟩
      have:=h x hx
      simp[Cm]at this
      exact⟨this.1,this.2⟩
    rw[hr]
    refine eC j7 ?_
    refine aT (SV l hl (R:= .row s.row) (Cm s) (fun x hx o nx hg hp K X hK=>aal s hs h2 x (hb x hx) o nx hg hp K X hK) _ _ dx bp ad _ _ fun o' nx' g2 g3 g4=> ?_)
    exact WU
end Go.Proofs.YtlhemmpklhhgoaaGreat
namespace Go.Proofs.YtlhemmpklhhgoaaGreat
theorem SX{s:az}{P:List TB}(hlen:P.length<=100){id ep:Nat}:∀t:Tm,Vs s t->t.eP->∀ (o:Nat->aa) (nx:Nat),Good o nx->o id= .arr ep 59 4 (P.map TB.d)->∀ (K X:V->(Nat->aa)->Nat->Prop),
 (∀ (o':Nat->aa) (nx':Nat),nx<=nx'->Good o' nx'->(∀j,j<nx->o' j=o j)->K (.d (aO (ag P) t).d) o' nx')->bJ Tryz.prog 82 [.d t.d, .osl id ep] o nx K X:=by
 refine Tm.eM fun t ih hv hw o nx hg ho K X hK=> ?_
 have hw':=(Tm.iS t).1 hw
 have ay:id<nx:=hg.lt MF
 have w1:∀k,id≠nx+k:=fun k=>ad
 have w2:id≠nx:=ad
 refine bJ.seal ?_
 refine bJ.aH mix aei aF ?_
 rw[c82]
 by_cases h1:t.op=1
 ·have fP:(t.op==1)=true:=by simpa using h1
  refine c9 (ae fP (ae ho (ae w1 w2))) ?_
  refine ax (OH P t.n ad) rfl ?_
  rcases sB P t.n with⟨f1,f2⟩|⟨k,x,f1,f2,f3⟩
  ·have hs:aO (ag P) t=t:=by rw[oX,if_pos h1,f2]
   have f3:decide (findF P t.n≥0)=false:=by simp;omega
   rw[hs]at hK
   refine c9 (ae fP (ae f3 (ae ho (ae w1 w2)))) ?_
   refine⟨_,rfl,hK _ _ ?_ ?_ (fun j hj=> ?_)⟩
   ·omega
   ·exact dx
   ·exact bp
  ·have hs:aO (ag P) t=x.term:=by rw[oX,if_pos h1,f3]
   have LI:decide (((k:Nat):Int)≥0)=true:=aF
   rw[hs]at hK
   have Dh:k<P.length:=(List.getElem?_eq_some_iff.1 f2).1
   refine dQ (ae fP (ae f1 (ae LI (ae f2 (ae Dh (ae ho (ae w1 w2))))))) ?_
   refine⟨_,rfl,hK _ _ ?_ ?_ (fun j hj=> ?_)⟩
   ·omega
   ·exact dx
   ·exact bp
 ·have fP:(t.op==1)=false:=by simpa using h1
  have h8':(t.op==8)=false:=by simpa using hv.n8
  rw[eo h1]at hK
  refine c9 (ae fP (ae h8' (ae ho (ae w1 w2)))) ?_
  have Ss:Good (aw (aw o nx (.row t.row)) (nx+1) (.row [.d (.i 0), .d (.i 0), .ao])) (nx+2):=dx
  refine aC (fun i:Nat=>⟨aY [.ai, .osl id ep, .ptr nx 0, .ai, .ptr (nx+1) 0, .ai, .osl (nx+2) 0, .d (.i i)],aw (aw (aw o nx (.row t.row)) (nx+1) (.row [.d (.i 0), .d (.i 0), .ao])) (nx+2) (.arr 0 33 3 (((t.kids.take i).map (aO (ag P))).map Tm.d)),nx+3⟩)
   (fun i=>i<=t.kids.length) (fun i=>t.kids.length - i) 0 (Nat.zero_le _) ?_ ?_
  ·refine cX Ss ad (fun _=>False) .ao _ (fun _ h=>h.elim) (.inl ⟨rfl,rfl,bF⟩) (fun j hj=>rfl) ?_
   exact iV
  rintro k hk
  replace hk:k<=t.kids.length:=hk
  refine dQ (ae ho (ae w1 w2)) ?_
  refine ak (fun h2=> ?_) (fun h2=> ?_)
  ·simp at h2
   obtain⟨x,hx⟩:=aA h2
   have cj:=List.mem_of_getElem? hx
   have qW:t.kids.take (k+1)=t.kids.take k++[x]:=by rw[List.take_add_one,hx];rfl
   have e0:(t.kids.take k).length=k:=by rw[List.length_take];omega
   have dR:k<=140737488355327/\(k+1)*24<=140737488355328:=by have:=hw'.1;omega
   refine dQ (ae ho (ae w1 (ae w2 (ae hx e0)))) ?_
   refine bI (ih x cj (hv.lu cj) (hw'.2 x cj) _ _ ?_ ?_ _ _ (fun o2 n2 m1 m2 m3=> ?_))
   ·exact Good.aw (Ss.mono ad) ad rfl
   ·(repeat first|rfl|rw[ab]|rw[af _ _ _ _ (by omega)]);exact ho
   have q0:o2 nx= .row t.row:=by rw[m3 _ (by omega)];(repeat first|rfl|rw[ab]|rw[af _ _ _ _ (by omega)])
   have q1:o2 (nx+1)= .row [.d (.i 0), .d (.i 0), .ao]:=by rw[m3 _ (by omega)];(repeat first|rfl|rw[ab]|rw[af _ _ _ _ (by omega)])
   have q2:o2 (nx+2)= .arr 0 33 3 (((t.kids.take k).map (aO (ag P))).map Tm.d):=by rw[m3 _ (by omega)];(repeat first|rfl|rw[ab]|rw[af _ _ _ _ (by omega)])
   have y1:∀k,nx+2≠n2+k:=fun k=>ad
   refine dQ (ae q0 (ae q1 (ae q2 (ae y1 (ae hx (ae e0 dR)))))) ?_
   refine aj (k+1) h2 ad (cX Ss ad (fun j=>nx+2<=j) (.osl (nx+2) 1) _ (fun _ h=>h) (.inr ⟨nx+2,1,ad,rfl,by(repeat first|rfl|rw[ab]|rw[af _ _ _ _ (by omega)]);rw[qW,List.map_append,List.map_append];rfl⟩) (fun j hj=> ?_) ?_)
   ·(repeat first|rfl|rw[ab]|rw[af _ _ _ _ (by omega)])
    rw[m3 j (by omega)]
    exact bp
   ·exact iV
  ·simp at h2
   have Dh:k=t.kids.length:=ad
   subst Dh
   rw[List.take_length]
   rw[Tm.D4]at hK
   refine dQ (ae ho (ae w1 w2)) ?_
   refine⟨_,rfl,hK _ _ ?_ ?_ (fun j hj=> ?_)⟩
   ·omega
   ·exact dx
   ·exact bp
theorem PH(P:List TB)(hp:P≠[])(hl:P.length<=1000)(o:Nat->aa)(nx:Nat)(hg:Good o nx)(K X:V->(Nat->aa)->Nat->Prop)
 (hK:∀ (o':Nat->aa) (nx' id ep:Nat),nx<=nx'->nx<=id->id<nx'->Good o' nx'->(∀j,j<nx->o' j=o j)->o' id= .arr ep 59 4 (P.map TB.d)->K (.osl id ep) o' nx'):bJ Tryz.prog 86 [.d (.sl (P.map TB.d))] o nx K X:=by
 refine bJ.aH mix ahD aF ?_
 rw[c86]
 have hu:Tryz.prog.underlying 25=some (.slice 59):=aJ
 obtain⟨a,l,rfl⟩:∃a l,P=a::l:=by
  cases P with
  |nil=>exact absurd rfl hp
  |cons a l=>exact⟨a,l,rfl⟩
 have heq:∀O,th Tryz.prog O 25 true (.d (.sl (TB.d a::l.map TB.d))) .ao=some (.d (.bool false)):=by
  intro O
  unfold th
  rw[hu]
  rfl
 simp only[List.map_cons]at hK|-
 refine c9 heq ?_
 simp only[List.isEmpty_nil,if_true]
 have dR:(l.length+1<=1099511627776/\(l.length+1)*48<=1099511627776):=by simp only[List.length_cons]at hl;omega
 simp+contextual (disch:=first|omega|simp only[go_sem,false_implies]) only[go_sem,wrap64,if_pos,heq,Nat.add_assoc,Nat.left_eq_add,Nat.add_eq_left,Nat.add_left_cancel_iff,List.length_cons,List.length_map,dR]
 refine hK _ _ (nx+3) 1 ?_ ad ?_ ?_ (fun j hj=> ?_) ?_
 ·omega
 ·omega
 ·exact dx
 ·exact bp
 ·exact bp
theorem sV{s:az}{P:List TB}(hlen:P.length<=100)(hP:∀x∈P,x.term.eP)(a c:Tm)(va:Vs s a)(fa:a.eP)(vc:Vs s c)(fc:c.eP):a7 Tryz.prog 36 [.sl (P.map TB.d),a.d,c.d] (.ret [.bool (iH (aO (ag P) a) (aO (ag P) c))]):=by
 refine a7.aH mix ahc aF ?_
 rw[c36]
 refine cS ?_
 refine aZ (Jt a va fa P hlen) ?_
 refine cS ?_
 refine aZ (Jt c vc fc P hlen) ?_
 refine cS ?_
 refine bf (GM _ (Tm.mN _ (Tm.nI (lR hP) a fa)) _ (Tm.mN _ (Tm.nI (lR hP) c fc))) rfl ?_
 exact QM
theorem MH(n:Int):a7 Tryz.prog 48 [.i n] (.ret [(Tm.mk 1 n []).d]):=by
 refine a7.aH mix ad7 aF ?_
 rw[c48]
 refine cS ?_
 refine bC (ZS n) ?_
 exact qo
structure AQ (P:List TB):Prop where
 len:P.length=20
 var:∀ (i:Nat) (y:TB),P[i]? =some y->y.var=i
 eP:∀y∈P,y.term.eP
def exS(P:List TB)(b:TB):List TB:=if 0<=gf (aO (ag P) b.term) 4000 400 then P.set b.var.toNat ⟨b.var,aO (ag P) b.term⟩else P
def exR(s:b9)(P:List TB):List TB:=s.binds.foldl exS P
def WH(s:b9):Nat->List TB->List TB
 |0,P=>P
 |n+1,P=>WH s n (exR s P)
theorem JH{P:List TB}(h:AQ P){b:TB}(hr:0<=b.var/\b.var<20)(hf:b.term.eP):AQ (exS P b):=by
 unfold exS
 split
 ·refine⟨by rw[List.length_set];exact h.len,fun i y hy=> ?_,fun y hy=> ?_⟩
  ·rw[List.getElem?_set]at hy
   split at hy
   ·rename_i e
    split at hy
    ·injection hy with hy
     rw[<- hy]
     dsimp only
     omega
    ·cases hy
   ·exact h.var i y hy
  ·rcases List.mem_or_eq_of_mem_set hy with hy|rfl
   ·exact h.eP y hy
   ·exact Tm.nI (lR h.eP) _ hf
 ·exact h
def WI(s:b9)(P:List TB):Nat->aa:=aw (aw (fun _=> .no) 0 (.row s.row)) 1 (.arr 0 59 4 (P.map TB.d))
theorem Hr{s:b9}(h:bn s){P:List TB}(hP:AQ P):a7 Tryz.prog 30 [s.d, .sl (P.map TB.d)] (.ret [.sl ((WH s s.binds.length P).map TB.d)]):=by
 have rA:=h.gA.len
 have fS:P≠[]:=fun e=>by have:=hP.len;rw[e]at this;cases this
 have EZ:Good (aw (fun _=> .no) 0 (.row s.row)) 1:=dx
 refine a7.aH mix ag8 aF ?_
 rw[c30]
 refine cS ?_
 refine bI (PH P fS (by have:=hP.len;omega) _ _ dx _ _ (fun o1 n1 id ep m1 m2 m2' m3 m4 m5=> ?_))
 have q0:o1 0= .row s.row:=by rw[m4 0 (by omega)];(repeat first|rfl|rw[ab]|rw[af _ _ _ _ (by omega)])
 refine eC (ae q0 m5) ?_
 refine aC (fun i:Nat×List TB=>⟨aY (.ai:: .osl 1 0:: .ptr 0 0::dy [.ai, .d (.i s.binds.length), .d (.i i.1)]),WI s i.2,2⟩)
  (fun i=>i.1<=s.binds.length/\AQ i.2/\WH s (s.binds.length - i.1) i.2=WH s s.binds.length P) (fun i=>s.binds.length - i.1) (0,P) ⟨Nat.zero_le _,hP,rfl⟩ ?_ ?_
 ·refine cX EZ ad (fun j=>j=id) (.osl id ep) _ (fun j e=>ad) (.inr ⟨id,ep,rfl,rfl,m5⟩) (fun j hj=> ?_) ?_
  ·have:j=0:=ad
   subst this
   rw[q0];(repeat first|rfl|rw[ab]|rw[af _ _ _ _ (by omega)])
  ·exact iV
 rintro⟨j,Q⟩ ⟨hj,hQ,hI⟩
 dsimp only at hj hQ hI|-
 have v0:WI s Q 0= .row s.row:=rfl
 have v1:WI s Q 1= .arr 0 59 4 (Q.map TB.d):=rfl
 refine eC (ae v0 v1) ?_
 refine ak (fun h6=> ?_) (fun h6=> ?_)
 ·replace h6:j<s.binds.length:=by simp at h6;omega
  refine eC (ae v0 v1) ?_
  refine aC (fun i:Nat×List TB=>⟨aY (.ai:: .osl 1 0:: .ptr 0 0::dy [.ai, .d (.i s.binds.length), .d (.i j), .ai, .ai, .d (.sl (s.binds.map TB.d)), .d (.i s.binds.length), .d (.i i.1)]),WI s i.2,2⟩)
   (fun i=>i.1<=s.binds.length/\AQ i.2/\(s.binds.drop i.1).foldl exS i.2=exR s Q) (fun i=>s.binds.length - i.1) (0,Q) ⟨Nat.zero_le _,hQ,rfl⟩ ?_ ?_
  ·refine cX EZ ad (fun j=>j=1) (.osl 1 0) _ (fun j e=>ad) (.inr ⟨1,0,rfl,rfl,v1⟩) (fun j hj=> ?_) ?_
   ·have:j=0:=ad
    subst this
    rfl
   ·exact iV
  rintro⟨k,W⟩ ⟨hk,hW,hF⟩
  dsimp only at hk hW hF|-
  have u0:WI s W 0= .row s.row:=rfl
  have u1:WI s W 1= .arr 0 59 4 (W.map TB.d):=rfl
  have hWl:=hW.len
  refine eC (ae u0 u1) ?_
  refine ak (fun h7=> ?_) (fun h7=> ?_)
  ·replace h7:k<s.binds.length:=by simp at h7;omega
   obtain⟨x,hx⟩:=aA h7
   have cj:=List.mem_of_getElem? hx
   obtain⟨hr,hv⟩:=h.gA.ok x cj
   have ES:s.binds.drop k=x::s.binds.drop (k+1):=by
    exact W8
   rw[ES,List.foldl_cons]at hF
   have hWx:=JH hW hr (js hv)
   refine eC (ae u0 (ae u1 hx)) ?_
   refine bI (SX (P:=W) ad x.term (bc hv).1 (js hv) _ _ ?_ ?_ _ _ (fun o2 n2 m1 m2 m3=> ?_))
   ·have hg:Good (WI s W) 2:=by unfold WI;exact dx
    exact dx
   ·exact bp
   have f0:o2 0= .row s.row:=by rw[m3 _ (by omega)];(repeat first|rfl|rw[ab]|rw[af _ _ _ _ (by omega)])
   have f1:o2 1= .arr 0 59 4 (W.map TB.d):=by rw[m3 _ (by omega)];(repeat first|rfl|rw[ab]|rw[af _ _ _ _ (by omega)])
   have f5:o2 5= .row [.d (.i x.var), .d (.i x.term.op), .d (.i x.term.n), .d (.sl (x.term.kids.map Tm.d))]:=by rw[m3 _ (by omega)];(repeat first|rfl|rw[ab]|rw[af _ _ _ _ (by omega)])
   obtain⟨v,hvv⟩:∃v:Nat,x.var=v:=⟨x.var.toNat,ad⟩
   have Pg:v<W.length:=ad
   obtain⟨y,hy⟩:=aA Pg
   have hyv:=hW.var v y hy
   have c1:decide ((v:Int)≥0)=true:=decide_eq_true ad
   have c2:decide ((v:Int)<(W.length:Int))=true:=decide_eq_true ad
   have Ow:(aO (ag W) x.term).fits:=Tm.mN _ (Tm.nI (lR hW.eP) _ (js hv))
   have cw:=BU (aO (ag W) x.term) Ow 4000 400 ad ad
   have ex:exS W x=if 0<=gf (aO (ag W) x.term) 4000 400 then W.set v ⟨x.var,aO (ag W) x.term⟩else W:=by unfold exS;rw[hvv];rfl
   have w1:∀k,(1:Nat)≠n2+k:=fun k=>ad
   have w5:∀k,(5:Nat)≠n2+k:=fun k=>ad
   rw[hvv]at f5
   generalize aO (ag W) x.term=u at cw ex Ow
   refine dQ (ae f0 (ae f1 (ae f5 (ae hvv (ae c1 (ae c2 (ae w1 w5))))))) ?_
   refine ax cw rfl ?_
   by_cases hz:0<=gf u 4000 400
   ·have Dc:decide (gf u 4000 400≥0)=true:=decide_eq_true ad
    rw[if_pos hz]at ex
    obtain⟨yv,yt⟩:=y
    obtain⟨yo,yn,yk⟩:=yt
    obtain⟨uo,un,uk⟩:=u
    refine dQ (ae f0 (ae f1 (ae f5 (ae hvv (ae c1 (ae c2 (ae Dc (ae w1 (ae w5 (ae Pg (ae hy @Tm.D4))))))))))) ?_
    have hyv:yv=(v:Int):=hyv
    refine aj (k+1,W.set v ⟨x.var, .mk uo un uk⟩) ⟨h7,by rw[ex]at hWx;exact hWx,by rw[ex]at hF;exact hF⟩ iT (cX EZ ad (fun j=>j=1) (.osl 1 0) _ (fun j e=>ad) (.inr ⟨1,0,rfl,rfl, ?_⟩) (fun j hj=> ?_) ?_)
    ·(repeat first|rfl|rw[ab]|rw[af _ _ _ _ (by omega)])
     dsimp only
     rw[List.map_set,hyv, <- hvv]
     rfl
    ·have:j=0:=ad
     subst this
     (repeat first|rfl|rw[ab]|rw[af _ _ _ _ (by omega)])
     exact f0
    ·exact iV
   ·have Dc:decide (gf u 4000 400≥0)=false:=decide_eq_false ad
    rw[if_neg hz]at ex
    refine dQ (ae f0 (ae f1 (ae f5 (ae hvv (ae c1 (ae c2 (ae Dc (ae w1 w5)))))))) ?_
    refine aj (k+1,W) ⟨h7,hW,by rw[ex]at hF;exact hF⟩ iT (cX EZ ad (fun j=>j=1) (.osl 1 0) _ (fun j e=>ad) (.inr ⟨1,0,rfl,rfl,gW f1⟩) (fun j hj=> ?_) ?_)
    ·have:j=0:=ad
     subst this
     (repeat first|rfl|rw[ab]|rw[af _ _ _ _ (by omega)])
     exact f0
    ·exact iV
  ·replace h7:k=s.binds.length:=by simp at h7;omega
   subst h7
   rw[List.drop_length]at hF
   have hF:W=exR s Q:=hF
   refine eC (ae u0 u1) ?_
   have e1:s.binds.length - j=(s.binds.length - (j+1))+1:=ad
   rw[e1]at hI
   refine aj (j+1,W) ⟨h6,hW,by rw[hF];exact hI⟩ iT (cX EZ ad (fun j=>j=1) (.osl 1 0) _ (fun j e=>ad) (.inr ⟨1,0,rfl,rfl,u1⟩) (fun j hj=> ?_) ?_)
   ·have:j=0:=ad
    subst this
    rfl
   ·exact iV
 ·replace h6:j=s.binds.length:=by simp at h6;omega
  subst h6
  rw[Nat.sub_self]at hI
  have hI:Q=WH s s.binds.length P:=hI
  rw[<- hI]
  exact rk (ae v0 v1)
def Sat(θ b:List (Int×Tm)):Prop:=∀p∈b,Lv θ p.1=aO θ p.2
theorem Cn{s:az}{θ b:List (Int×Tm)}{l:List TB}{ρ:Int->Nat}{R:Nat}(h:kp s b l ρ R)(hs:Sat θ b):mn θ l:=by
 have key:∀ (n:Nat) (v:Int),ρ v<=n->aO θ (Lv (ag l) v)=Lv θ v:=by
  intro n
  induction n using Nat.strongRecOn with
  |ind n ih=>
   intro v hv
   cases hx:bR b v with
   |none=>
    rw[show Lv (ag l) v= .mk 1 v [] by simp[Lv,(h.vX v).1 hx],dJ]
   |some x=>
    obtain⟨q1,q2,q3⟩:=h.ok v x hx
    rw[q2,sC x q1 (fun u hu=>ih (ρ u) (by have:=q3 u hu;omega) u (Nat.le_refl _))]
    exact(hs _ (cm hx)).symm
 exact fun v _=>key _ v (Nat.le_refl _)
theorem JI{s:az}{θ b:List (Int×Tm)}{l:List TB}{ρ:Int->Nat}{R:Nat}(h:kp s b l ρ R)(hr:∀p∈b,0<=p.1/\p.1<20)(hg:mn θ l):Sat θ b:=fun p hp=>by
 obtain⟨q1,q2,q3⟩:=h.ok p.1 p.2 ((fN h.keys).2 hp)
 rw[<- hg p.1 (hr p hp),q2]
 exact mn.sub hg q1
theorem SY{sg:az}{l:List TB}(h:jG sg l):∀p∈ag l,0<=p.1/\p.1<20:=fun p hp=>by
 obtain⟨x,hx,rfl⟩:=cz hp
 exact(h.ok x hx).1
theorem Fa{s:b9}(h:bn s){a c:Tm}(ha:bT s.sig a=true)(hc:bT s.sig c=true){f:Nat}{e:Int}{b':List (Int×Tm)}(hq:jJ true f a c (ag s.binds)=some (e,b')){θ:List (Int×Tm)}(hs:Sat θ (ag s.binds)):
 (e=0->(Sat θ b'↔aO θ a=aO θ c))/\(e=5->aO θ a≠aO θ c):=by
 obtain⟨l,ρ,R,hS,hl⟩:=jr h.gA.keys h.gA.ok h.gA.Fu
 have va:=(bc ha).1
 have vc:=(bc hc).1
 obtain⟨f2,r,hr⟩:=mM _ _ a c l (Nat.le_refl _) (Nat.le_refl _) hl va vc
 obtain⟨g,e2,b2,h1,h2⟩:=x4 (lim:=true) f2 a c l r hr hl va vc a c _ ρ R hS va vc rfl rfl
 have e1:=eQ hq (Nat.le_max_left f g)
 rw[eQ h1 (Nat.le_max_right f g)]at e1
 injection e1 with e1
 injection e1 with e1 e3
 subst e1
 subst e3
 have aft:=Cn hS hs
 refine⟨fun h0=> ?_,fun h5 he=> ?_⟩
 ·rcases h2 with⟨_,k2,GZ,R',k3⟩|⟨k1,_⟩|⟨k1,_⟩
  ·obtain⟨l',ok⟩:=r
   have k2:ok=true:=k2
   subst k2
   have a8:=gU f2 a c l l' hr hl va vc
   subst h0
   obtain⟨E,hE,hB⟩:=sO h ha hc hq
   constructor
   ·intro kE
    have Se:=Cn k3 kE
    have uK:=sQ f2 a c l l' hr hl va vc
    have e1:=mn.sub Se va
    have e2:=mn.sub Se vc
    rw[<- e1, <- e2]
    exact congrArg (aO θ) uK
   ·intro he
    have:=pH f2 a c l (l',true) hr hl va vc aft he
    refine JI k3 ?_ this.2
    rw[hE]
    exact SY hB
  ·omega
  ·omega
 ·have:=(pH f2 a c l r hr hl va vc aft he).1
  rcases h2 with⟨k1,_⟩|⟨_,k2⟩|⟨k1,_⟩
  ·omega
  ·rw[this]at k2;cases k2
  ·omega
def Slv(θ:List (Int×Tm))(s:b9):Prop:=Sat θ (ag s.binds)/\∀n∈s.aD,aO θ n.a≠aO θ n.b
end Go.Proofs.YtlhemmpklhhgoaaGreat
