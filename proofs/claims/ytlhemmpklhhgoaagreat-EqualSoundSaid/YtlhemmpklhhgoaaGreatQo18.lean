/-
  A PART OF THE PROOF. Conditions: none.
-/
import Derived.Test.YtlhemmpklhhgoaaGreatQo17
set_option linter.unusedSimpArgs false
set_option linter.unusedVariables false
section
namespace Go.Proofs.YtlhemmpklhhgoaaGreat
open Classical in
noncomputable def gw(lim:Bool)(b:List (Int×Tm))(n:Int)(t:Tm):Int×List (Int×Tm):=
 if oe b n t then(5,b)else if lim=true/\ ¬ (∀p∈b++[(n,t)],zB (b++[(n,t)]) p.2)then(3,b++[(n,t)])else(0,b++[(n,t)])
open Classical in
noncomputable def gJ(b:List (Int×Tm))(t:Tm):Option Tm:=if h:∃x g,lC g b t=some x then some h.choose else none
theorem cU{b:List (Int×Tm)}{g:Nat}{t x:Tm}(h:lC g b t=some x):gJ b t=some x:=by
 have hx:∃x g,lC g b t=some x:=⟨x,g,h⟩
 unfold gJ
 rw[dif_pos hx]
 obtain⟨g',h'⟩:=hx.choose_spec
 have e1:=hZ h (Nat.le_max_left g g')
 rw[hZ h' (Nat.le_max_right g g')]at e1
 exact e1
theorem rF{b:List (Int×Tm)}{t x:Tm}(h:gJ b t=some x):∃g,lC g b t=some x:=by
 unfold gJ at h
 split at h
 ·rename_i hx
  injection h with h
  subst h
  exact hx.choose_spec
 ·cases h
def l8(F:Tm->Tm->List (Int×Tm)->Option (Int×List (Int×Tm))):List Tm->List Tm->List (Int×Tm)->Option (Int×List (Int×Tm))
 |k::ks,k'::cE,b=>match F k k' b with
  |some (e,b1)=>if e=0 then l8 F ks cE b1 else some (e,b1)
  |none=>none
 |_,_,b=>some (0,b)
noncomputable def jl(lim:Bool):Nat->Tm->Tm->List (Int×Tm)->Option (Int×List (Int×Tm))
 |0,_,_,_=>none
 |f+1,a,c,b=>match gJ b a,gJ b c with
  |some x,some y=>
   if x.op=1 then
    if y.op=1 then(if x.n=y.n then some (0,b)else some (gw lim b (max x.n y.n) (.mk 1 (min x.n y.n) [])))
    else some (gw lim b x.n y)
   else if y.op=1 then some (gw lim b y.n x)
   else if x.op=y.op/\x.n=y.n/\x.kids.length=y.kids.length then l8 (jl lim f) x.kids y.kids b
   else some (5,b)
  |_,_=>none
noncomputable def ko(lim:Bool)(top:Nat):Nat->List (Tm×Tm)->List (Int×Tm)->Option (Int×List (Int×Tm))
 |0,_,_=>none
 |f+1,[],b=>some (0,b)
 |f+1,(a,c)::st,b=>if st.length≥top then none else match gJ b a,gJ b c with
  |some x,some y=>
   if x.op=1 then
    if y.op=1 then(if x.n=y.n then ko lim top f st b else
     if(gw lim b (max x.n y.n) (.mk 1 (min x.n y.n) [])).1=0 then ko lim top f st (gw lim b (max x.n y.n) (.mk 1 (min x.n y.n) [])).2 else some (gw lim b (max x.n y.n) (.mk 1 (min x.n y.n) [])))
    else if(gw lim b x.n y).1=0 then ko lim top f st (gw lim b x.n y).2 else some (gw lim b x.n y)
   else if y.op=1 then(if(gw lim b y.n x).1=0 then ko lim top f st (gw lim b y.n x).2 else some (gw lim b y.n x))
   else if x.op=y.op/\x.n=y.n/\x.kids.length=y.kids.length then ko lim top f (x.kids.zip y.kids++st) b
   else some (5,b)
  |_,_=>none
theorem lU{F G:Tm->Tm->List (Int×Tm)->Option (Int×List (Int×Tm))}(DO:∀k k' b r,F k k' b=some r->G k k' b=some r):∀ {ks cE:List Tm} {b:List (Int×Tm)} {r:Int×List (Int×Tm)},l8 F ks cE b=some r->l8 G ks cE b=some r
 |[],_,_,_,h=>by simpa[l8]using h
 |_::_,[],_,_,h=>by simpa[l8]using h
 |k::ks,k'::cE,b,r,h=>by
  simp only[l8]at h|-
  cases e:F k k' b with
  |none=>rw[e]at h;cases h
  |some q=>
   rw[e]at h
   rw[DO _ _ _ _ e]
   dsimp only at h|-
   split at h
   ·rename_i e0;rw[if_pos e0];exact lU DO h
   ·rename_i e0;rw[if_neg e0];exact h
theorem fg{lim:Bool}:∀ {f g:Nat} {t u:Tm} {b:List (Int×Tm)} {r:Int×List (Int×Tm)},jl lim f t u b=some r->f<=g->jl lim g t u b=some r
 |0,_,_,_,_,_,h,_=>by cases h
 |f+1,0,_,_,_,_,h,hg=>af
 |f+1,g+1,t,u,b,r,h,hg=>by
  simp only[jl]at h|-
  cases ha:gJ b t with
  |none=>rw[ha]at h;cases h
  |some x=>
  cases hc:gJ b u with
  |none=>rw[ha,hc]at h;cases h
  |some y=>
  rw[ha,hc]at h
  skip
  dsimp only at h|-
  split at h
  ·rename_i h1;rw[if_pos h1];exact h
  ·rename_i h1
   rw[if_neg h1]
   split at h
   ·rename_i h2;rw[if_pos h2];exact h
   ·rename_i h2
    rw[if_neg h2]
    split at h
    ·rename_i h3;rw[if_pos h3];exact lU (fun k k' b r hk=>fg hk af) h
    ·rename_i h3;rw[if_neg h3];exact h
theorem gK{lim:Bool}{top:Nat}:∀ {f g:Nat} {st:List (Tm×Tm)} {b:List (Int×Tm)} {r:Int×List (Int×Tm)},ko lim top f st b=some r->f<=g->ko lim top g st b=some r
 |0,_,_,_,_,h,_=>by cases h
 |f+1,0,_,_,_,h,hg=>af
 |f+1,g+1,[],b,r,h,hg=>h
 |f+1,g+1,(t,u)::st,b,r,h,hg=>by
  simp only[ko]at h|-
  by_cases h0:st.length≥top
  ·rw[if_pos h0]at h;cases h
  rw[if_neg h0]at h|-
  cases ha:gJ b t with
  |none=>rw[ha]at h;cases h
  |some x=>
  cases hc:gJ b u with
  |none=>rw[ha,hc]at h;cases h
  |some y=>
  rw[ha,hc]at h
  skip
  dsimp only at h|-
  by_cases h1:x.op=1
  ·rw[if_pos h1]at h|-
   by_cases h2:y.op=1
   ·rw[if_pos h2]at h|-
    by_cases h3:x.n=y.n
    ·rw[if_pos h3]at h|-;exact gK h af
    ·rw[if_neg h3]at h|-
     split at h
     ·rename_i h4;rw[if_pos h4];exact gK h af
     ·rename_i h4;rw[if_neg h4];exact h
   ·rw[if_neg h2]at h|-
    split at h
    ·rename_i h4;rw[if_pos h4];exact gK h af
    ·rename_i h4;rw[if_neg h4];exact h
  ·rw[if_neg h1]at h|-
   by_cases h2:y.op=1
   ·rw[if_pos h2]at h|-
    split at h
    ·rename_i h4;rw[if_pos h4];exact gK h af
    ·rename_i h4;rw[if_neg h4];exact h
   ·rw[if_neg h2]at h|-
    split at h
    ·rename_i h4;rw[if_pos h4];exact gK h af
    ·rename_i h4;rw[if_neg h4];exact h
theorem F4{lim:Bool}{top W:Nat}{P:Tm->Prop}{I:List (Int×Tm)->Prop}(hP:∀t,P t->t.kids.length<=W/\∀k∈t.kids,P k)(hR:∀b t x,I b->P t->gJ b t=some x->P x)
 (hI:∀f t u b b',jl lim f t u b=some (0,b')->I b->P t->P u->I b'):∀ (f:Nat) (t u:Tm) (b:List (Int×Tm)) (e:Int) (b':List (Int×Tm)),jl lim f t u b=some (e,b')->I b->P t->P u->∀ (st:List (Tm×Tm)) (n:Nat) (r:Int×List (Int×Tm)),st.length+f*W+1<=top->(if e=0 then ko lim top n st b'=some r else r=(e,b'))->∃m,ko lim top m ((t,u)::st) b=some r
 |0,_,_,_,_,_,h,_,_,_,_,_,_,_,_=>by cases h
 |f+1,t,u,b,e,b',h,YJ,hpt,hpu,st,n,r,ahx,hr=>by
  simp only[jl]at h
  cases ha:gJ b t with
  |none=>rw[ha]at h;cases h
  |some x=>
  cases hc:gJ b u with
  |none=>rw[ha,hc]at h;cases h
  |some y=>
  rw[ha,hc]at h
  dsimp only at h
  have hpx:=hR b t x YJ hpt ha
  have hpy:=hR b u y YJ hpu hc
  have ky: ¬st.length≥top:=af
  have bnd:∀q:Int×List (Int×Tm),q=(e,b')->∀m,n<=m->(if q.1=0 then ko lim top m st q.2 else some q)=some r:=by
   rintro q rfl m hm
   dsimp only
   split
   ·rename_i e0;rw[if_pos e0]at hr;exact gK hr hm
   ·rename_i e0;rw[if_neg e0]at hr;rw[hr]
  by_cases h1:x.op=1
  ·rw[if_pos h1]at h
   by_cases h2:y.op=1
   ·rw[if_pos h2]at h
    by_cases h3:x.n=y.n
    ·rw[if_pos h3]at h
     injection h with h
     injection h with h4 h5
     subst h4;subst h5
     rw[if_pos rfl]at hr
     refine⟨max f n+1, ?_⟩
     simp only[ko]
     rw[if_neg ky,ha,hc]
     dsimp only
     rw[if_pos h1,if_pos h2,if_pos h3]
     exact gK hr (Nat.le_max_right _ _)
    ·rw[if_neg h3]at h
     injection h with h
     refine⟨max f n+1, ?_⟩
     simp only[ko]
     rw[if_neg ky,ha,hc]
     dsimp only
     rw[if_pos h1,if_pos h2,if_neg h3]
     exact Lt
   ·rw[if_neg h2]at h
    injection h with h
    refine⟨max f n+1, ?_⟩
    simp only[ko]
    rw[if_neg ky,ha,hc]
    dsimp only
    rw[if_pos h1,if_neg h2]
    exact Lt
  ·rw[if_neg h1]at h
   by_cases h2:y.op=1
   ·rw[if_pos h2]at h
    injection h with h
    refine⟨max f n+1, ?_⟩
    simp only[ko]
    rw[if_neg ky,ha,hc]
    dsimp only
    rw[if_neg h1,if_pos h2]
    exact Lt
   ·rw[if_neg h2]at h
    by_cases h3:x.op=y.op/\x.n=y.n/\x.kids.length=y.kids.length
    ·rw[if_pos h3]at h
     have hW:(f+1)*W=f*W+W:=by rw[Nat.add_mul,Nat.one_mul]
     have key:∀ (ks cE:List Tm) (b:List (Int×Tm)),(∀k∈ks,P k)->(∀k∈cE,P k)->I b->ks.length<=W->l8 (jl lim f) ks cE b=some (e,b')->∃m,ko lim top m (ks.zip cE++st) b=some r:=by
      intro ks
      induction ks with
      |nil=>
       intro cE b _ _ _ _ h
       exact abB
      |cons k ks ih=>
       intro cE b m1 m2 YJ hlk h
       cases cE with
       |nil=>
        exact abB
       |cons k' cE=>
        simp only[l8]at h
        cases he:jl lim f k k' b with
        |none=>rw[he]at h;cases h
        |some q=>
         obtain⟨e1,b1⟩:=q
         rw[he]at h
         dsimp only at h
         have SL:(ks.zip cE++st).length+f*W+1<=top:=by
          rw[List.length_append,List.length_zip]
          rw[List.length_cons]at hlk
          omega
         by_cases e0:e1=0
         ·rw[if_pos e0]at h
          obtain⟨m,hm⟩:=ih cE b1 (fun z hz=>m1 z qq) (fun z hz=>m2 z qq) (hI f k k' b b1 (e0 ▸ he) YJ (m1 k aE) (m2 k' aE)) (by rw[List.length_cons]at hlk;omega) h
          exact F4 hP hR hI f k k' b e1 b1 he YJ (m1 k aE) (m2 k' aE) (ks.zip cE++st) m r SL (by rw[if_pos e0];exact hm)
         ·rw[if_neg e0]at h
          injection h with h
          injection h with h4 h5
          subst h4;subst h5
          rw[if_neg e0]at hr
          exact F4 hP hR hI f k k' b e1 b1 he YJ (m1 k aE) (m2 k' aE) (ks.zip cE++st) n r SL (by rw[if_neg e0];exact hr)
     obtain⟨m,hm⟩:=key x.kids y.kids b (hP x hpx).2 (hP y hpy).2 YJ (hP x hpx).1 h
     refine⟨max f m+1, ?_⟩
     simp only[ko]
     rw[if_neg ky,ha,hc]
     dsimp only
     rw[if_neg h1,if_neg h2,if_pos h3]
     exact gK hm (Nat.le_max_right _ _)
    ·rw[if_neg h3]at h
     injection h with h
     injection h with h4 h5
     subst h4;subst h5
     rw[if_neg (by omega)]at hr
     subst hr
     refine⟨f+1, ?_⟩
     simp only[ko]
     rw[if_neg ky,ha,hc]
     dsimp only
     rw[if_neg h1,if_neg h2,if_neg h3]
end Go.Proofs.YtlhemmpklhhgoaaGreat
end
namespace Go.Proofs.YtlhemmpklhhgoaaGreat
theorem Rl{s:az}{lim:Bool}{b:List (Int×Tm)}{l:List TB}{ρ:Int->Nat}{R:Nat}(h:kn s b l ρ R):∀ (z:Nat) (t u:Tm),Vs s t->Vs s u->(aR (ag l) t).sz<=z->aR (ag l) t=aR (ag l) u->∃g,jl lim g t u b=some (0,b):=by
 intro z
 induction z with
 |zero=>intro t u _ _ hz;have:=Tm.sY (aR (ag l) t);omega
 |succ z ih=>
  intro t u ht hu hz he
  obtain⟨x,a1,a2,a3,a4,_,_⟩:=h.root ht
  obtain⟨y,b1,b2,b3,b4,_,_⟩:=h.root hu
  obtain⟨p1,p2,p3,p4,p5⟩:=uY h a2 a4
  obtain⟨q1,q2,q3,q4,q5⟩:=uY h b2 b4
  have hxy:aR (ag l) x=aR (ag l) y:=by rw[a3,b3,he]
  have e1:x.op=y.op:=by rw[<- p1, <- q1,hxy]
  have e2:x.n=y.n:=by rw[<- p2, <- q2,hxy]
  have e3:x.kids.length=y.kids.length:=by rw[<- p3, <- q3,hxy]
  by_cases h1:x.op=1
  ·refine⟨R+3, ?_⟩
   simp only[jl,cU a1,cU b1,if_pos h1,if_pos (e1 ▸ h1:y.op=1),if_pos e2]
  ·have h2: ¬y.op=1:=e1 ▸ h1
   have key:∀ (ks cE:List Tm),(∀k∈ks,k∈x.kids)->(∀k∈cE,k∈y.kids)->ks.map (aR (ag l))=cE.map (aR (ag l))->∃g,l8 (jl lim g) ks cE b=some (0,b):=by
    intro ks
    induction ks with
    |nil=>intro cE _ _ _;exact⟨0,by simp only[l8]⟩
    |cons k ks uF=>
     intro cE m1 m2 hm
     cases cE with
     |nil=>exact⟨0,by simp only[l8]⟩
     |cons k' cE=>
      rw[List.map_cons,List.map_cons]at hm
      injection hm with KG OZ
      have hk:=m1 k aE
      have hkz:(aR (ag l) k).sz<=z:=by
       have h3:aR (ag l) k∈(aR (ag l) x).kids:=by rw[p5 h1];exact List.mem_map.2 ⟨k,hk,rfl⟩
       have h4:=Tm.l7 h3
       rw[a3]at h4
       omega
      obtain⟨g,hg⟩:=ih k k' (a2.ki hk) (b2.ki (m2 k' aE)) hkz KG
      obtain⟨g2,hg2⟩:=uF cE (fun y hy=>m1 y lD) (fun y hy=>m2 y lD) OZ
      refine⟨max g g2, ?_⟩
      simp only[l8]
      rw[fg hg (Nat.le_max_left _ _)]
      exact lU (fun k k' b r hk=>fg hk (Nat.le_max_right _ _)) hg2
   obtain⟨g,hg⟩:=key x.kids y.kids (fun _ h=>h) (fun _ h=>h) (by rw[<- p5 h1, <- q5 h2,hxy])
   refine⟨max g (R+2)+1, ?_⟩
   simp only[jl]
   rw[cU a1,cU b1]
   simp only[if_neg h1,if_neg h2,if_pos (⟨e1,e2,e3⟩:x.op=y.op/\x.n=y.n/\x.kids.length=y.kids.length)]
   exact lU (fun k k' b r hk=>fg hk (Nat.le_max_left _ _)) hg
def EqR(s:az)(lim:Bool)(r:List TB×Bool)(e:Int)(b':List (Int×Tm)):Prop:=
 (e=0/\r.2=true/\∃NI R',kn s b' r.1 NI R')\/(e=5/\r.2=false)\/(e=3/\lim=true)
theorem Bj{s:az}{lim:Bool}{b:List (Int×Tm)}{l:List TB}{ρ:Int->Nat}{R:Nat}(h:kn s b l ρ R)(hl:iq s l){n:Int}{y:Tm}(hn:bQ b n=none)(hy:Vs s y):
 EqR s lim (iy l n (aR (ag l) y), !(cJ (aR (ag l) y)).contains n) (gw lim b n y).1 (gw lim b n y).2:=by
 have hc:(cJ (aR (ag l) y)).contains n=true↔fO n (aR (ag l) y)=true:=by rw[List.contains_iff_mem];exact(cO _).2 _
 have hr:=Bd h hl hn hy
 unfold gw
 by_cases h1:oe b n y
 ·rw[if_pos h1]
  exact .inr (.inl ⟨rfl,by rw[hc.2 (hr.2 h1)];rfl⟩)
 ·rw[if_neg h1]
  split
  ·rename_i h2
   exact .inr (.inr ⟨rfl,h2.1⟩)
  ·refine .inl ⟨rfl, ?_,h.ext hl hn hy fun hf=>h1 (hr.1 hf)⟩
   cases hcc:(cJ (aR (ag l) y)).contains n with
   |false=>rfl
   |true=>exact absurd (hr.1 (hc.1 hcc)) h1
theorem Bk{s:az}{lim:Bool}:∀ (f:Nat) (a c:Tm) (l:List TB) (r:List TB×Bool),fP f a c l=some r->iq s l->Vs s a->Vs s c->∀ (t u:Tm) (b:List (Int×Tm)) (ρ:Int->Nat) (R:Nat),kn s b l ρ R->Vs s t->Vs s u->aR (ag l) t=aR (ag l) a->aR (ag l) u=aR (ag l) c->
 ∃g e b',jl lim g t u b=some (e,b')/\EqR s lim r e b'
 |0,_,_,_,_,h,_,_,_,_,_,_,_,_,_,_,_,_,_=>by cases h
 |f+1,a,c,l,r,h,hl,ha,hc,t,u,b,ρ,R,hs,ht,hu,eta,euc=>by
  obtain⟨x,a1,a2,a3,a4,_,_⟩:=hs.root ht
  obtain⟨y,b1,b2,b3,b4,_,_⟩:=hs.root hu
  obtain⟨p1,p2,p3,p4,p5⟩:=uY hs a2 a4
  obtain⟨q1,q2,q3,q4,q5⟩:=uY hs b2 b4
  have ex:aR (ag l) a=aR (ag l) x:=by rw[a3,eta]
  have ey:aR (ag l) c=aR (ag l) y:=by rw[b3,euc]
  simp only[fP,ex,ey,p1,q1,p2,q2,p3,q3]at h
  split at h
  ·rename_i EO
   injection h with h
   subst h
   rw[dR]at EO
   obtain⟨g,hg⟩:=Rl (lim:=lim) hs _ t u ht hu (Nat.le_refl _) (by rw[<- a3, <- b3,EO])
   exact⟨g,0,b,hg, .inl ⟨rfl,rfl,ρ,R,hs⟩⟩
  ·rename_i iu
   split at h
   ·rename_i O9
    injection h with h
    subst h
    obtain⟨h1,h2⟩:=O9
    have hxy:x.n≠y.n:=fun e=>iu (by rw[dR,p4 h1,q4 h2,a2.eta h1,b2.eta h2];rw[e])
    have rx:=a2.range ((fG h1).2 rfl)
    have ry:=b2.range ((fG h2).2 rfl)
    have lmx:bQ b (max x.n y.n)=none:=by
     rw[Int.max_def];split
     ·exact b4 h2
     ·exact a4 h1
    have lmn:bQ b (min x.n y.n)=none:=by
     rw[Int.min_def];split
     ·exact a4 h1
     ·exact b4 h2
    have hvm:aR (ag l) (.mk 1 (min x.n y.n) [])= .mk 1 (min x.n y.n) []:=by
     rw[gv];simp[Lv,(hs.xC _).1 lmn]
    have hb:=Bj (lim:=lim) hs hl lmx (Vs.var (s:=s) (v:=min x.n y.n) af)
    rw[hvm]at hb
    have hnc:(cJ (Tm.mk 1 (min x.n y.n) [])).contains (max x.n y.n)=false:=by
     rw[Bool.eq_false_iff,Ne,List.contains_iff_mem,(cO _).2,nY]
     simp
     omega
    rw[hnc]at hb
    exact⟨R+3,_,_,by simp only[jl,cU a1,cU b1,if_pos h1,if_pos h2,if_neg hxy],hb⟩
   ·rename_i O9
    split at h
    ·rename_i h1
     injection h with h
     subst h
     have h2: ¬y.op=1:=fun h2=>O9 ⟨h1,h2⟩
     exact⟨R+3,_,_,by simp only[jl,cU a1,cU b1,if_pos h1,if_neg h2],Bj hs hl (a4 h1) b2⟩
    ·rename_i h1
     split at h
     ·rename_i h2
      injection h with h
      subst h
      exact⟨R+3,_,_,by simp only[jl,cU a1,cU b1,if_neg h1,if_pos h2],Bj hs hl (b4 h2) a2⟩
     ·rename_i h2
      split at h
      ·rename_i h3
       injection h with h
       subst h
       refine⟨R+3,5,b, ?_, .inr (.inl ⟨rfl,rfl⟩)⟩
       simp only[jl,cU a1,cU b1,if_neg h1,if_neg h2]
       rw[if_neg]
       rintro⟨g1,g2,g3⟩
       rcases h3 with h3|h3|h3
       ·exact h3 g1
       ·exact h3 g2
       ·exact h3 g3
      ·rename_i h3
       have kF:x.op=y.op/\x.n=y.n/\x.kids.length=y.kids.length:=⟨Classical.byContradiction fun e=>h3 (Or.inl e),Classical.byContradiction fun e=>h3 (Or.inr (Or.inl e)),Classical.byContradiction fun e=>h3 (Or.inr (Or.inr e))⟩
       have key:∀ (xs ys:List Tm) (l1:List TB) (b:List (Int×Tm)) (ρ:Int->Nat) (R:Nat),(∀k∈xs,Vs s k)->(∀k∈ys,Vs s k)->iq s l1->mY l l1->kn s b l1 ρ R->da (fP f) (xs.map (aR (ag l))) (ys.map (aR (ag l))) l1=some r->
        ∃g e b',l8 (jl lim g) xs ys b=some (e,b')/\EqR s lim r e b':=by
        intro xs
        induction xs with
        |nil=>intro ys l1 b ρ R _ _ r8 _ r9 h;simp only[List.map_nil,da]at h;injection h with h;subst h;exact⟨0,0,b,by simp only[l8], .inl ⟨rfl,rfl,ρ,R,r9⟩⟩
        |cons k xs uF=>
         intro ys l1 b ρ R m1 m2 r8 he r9 h
         cases ys with
         |nil=>simp only[List.map_nil,List.map_cons,da]at h;injection h with h;subst h;exact⟨0,0,b,by simp only[l8], .inl ⟨rfl,rfl,ρ,R,r9⟩⟩
         |cons k' ys=>
          have vk:=m1 k aE
          have vk':=m2 k' aE
          have vsk:=Vs.sub hl.bd k vk
          have aeR:=Vs.sub hl.bd k' vk'
          simp only[List.map_cons,da]at h
          cases e:fP f (aR (ag l) k) (aR (ag l) k') l1 with
          |none=>rw[e]at h;cases h
          |some r1=>
           obtain⟨g,e1,b',g1,g2⟩:=Bk (lim:=lim) f _ _ l1 r1 e r8 vsk aeR k k' b ρ R r9 vk vk' (he.sub vk).symm (he.sub vk').symm
           obtain⟨l2,ok⟩:=r1
           rw[e]at h
           rcases g2 with⟨e0,rfl,ρ2,R2,G6⟩|⟨e0,rfl⟩|⟨e0,hlm⟩
           ·simp only at h
            obtain⟨o1,o2⟩:=od f _ _ l1 l2 e r8 vsk aeR
            obtain⟨g',e2,b2,k1,k2⟩:=uF ys l2 b' ρ2 R2 (fun y hy=>m1 y lD) (fun y hy=>m2 y lD) o1 (he.trans hl o2 fun v=>hl.xC) G6 h
            refine⟨max g g',e2,b2, ?_,k2⟩
            simp only[l8]
            rw[fg g1 (Nat.le_max_left _ _)]
            dsimp only
            rw[if_pos e0]
            exact lU (fun k k' b r hk=>fg hk (Nat.le_max_right _ _)) k1
           ·simp only at h
            injection h with h
            subst h
            refine⟨g,e1,b', ?_, .inr (.inl ⟨e0,rfl⟩)⟩
            simp only[l8,g1]
            rw[if_neg (by omega)]
           ·refine⟨g,e1,b', ?_, .inr (.inr ⟨e0,hlm⟩)⟩
            simp only[l8,g1]
            rw[if_neg (by omega)]
       rw[p5 h1,q5 h2]at h
       obtain⟨g,e,b',g1,g2⟩:=key x.kids y.kids l b ρ R (fun k hk=>a2.ki hk) (fun k hk=>b2.ki hk) hl (mY.refl hl) hs h
       refine⟨max g (R+2)+1,e,b', ?_,g2⟩
       simp only[jl]
       rw[cU a1,cU b1]
       simp only[if_neg h1,if_neg h2,if_pos kF]
       exact lU (fun k k' b r hk=>fg hk (Nat.le_max_left _ _)) g1
end Go.Proofs.YtlhemmpklhhgoaaGreat
namespace Go.Proofs.YtlhemmpklhhgoaaGreat
theorem u7{s:az}{t:Tm}:bJ s t=true↔ji s=true/\(t.sz<=40/\t.mA<=12)/\Vs s t:=by
 unfold bJ jk
 simp only[Bool.and_eq_true,List.all_cons,List.all_nil,Bool.and_true,qb]
 constructor
 ·rintro⟨⟨h1,h2⟩,h3⟩
  rw[oJ h2]at h3
  have h4:=HS h2
  rw[gI,Bool.and_eq_true]at h2
  exact⟨h1,h4.2,h2.2,h3⟩
 ·rintro⟨h1,h2,h3,h4⟩
  have h5:gI s t=true:=by
   rw[gI,Bool.and_eq_true,decide_eq_true_eq,nW]
   exact⟨af,h3⟩
  exact⟨⟨h1,h5⟩,by rw[oJ h5];exact h4⟩
theorem H7{s:az}{t k:Tm}(h:bJ s t=true)(hk:k∈t.kids):bJ s k=true:=by
 obtain⟨h0,⟨h1,h2⟩,h3⟩:=u7.1 h
 have hz:=Tm.l7 hk
 have hh:=Tm.ra hk
 exact u7.2 ⟨h0,⟨af,af⟩,h3.ki hk⟩
theorem Rm{s:az}(hs:ji s=true){v:Int}(h:0<=v/\v<20):bJ s (.mk 1 v [])=true:=by
 refine u7.2 ⟨hs,⟨?_, ?_⟩,Vs.var h⟩
 ·rw[Tm.iw];simp[Tm.kids,oH]
 ·rw[Tm.qa];simp[Tm.kids,Tm.iZ]
structure Inv (s:az) (lim:Bool) (b:List (Int×Tm)):Prop where
 ok:∀p∈b,(0<=p.1/\p.1<20)/\bJ s p.2=true
 Vd:lim=true->∀p∈b,zB b p.2
theorem F7{s:az}{b:List (Int×Tm)}(hb:∀p∈b,bJ s p.2=true):∀ (f:Nat) (t x:Tm),lC f b t=some x->bJ s t=true->bJ s x=true
 |0,_,_,h,_=>by cases h
 |f+1,t,x,h,ht=>by
  simp only[lC]at h
  split at h
  ·split at h
   ·rename_i y hy;exact F7 hb f y x h (hb _ (ck hy))
   ·exact IY
  ·exact IY
theorem Bl{s:az}{lim:Bool}{b:List (Int×Tm)}(h:Inv s lim b){n:Int}{y:Tm}(hn:0<=n/\n<20)(hy:bJ s y=true)(h0:(gw lim b n y).1=0):Inv s lim (gw lim b n y).2/\∃ext,(gw lim b n y).2=b++ext:=by
 unfold gw at h0|-
 split at h0
 ·exact GF
 ·rename_i h1
  rw[if_neg h1]
  split at h0
  ·exact GF
  ·rename_i h2
   rw[if_neg h2]
   refine⟨⟨fun p hp=> ?_,fun hl=> ?_⟩,_,rfl⟩
   ·rcases List.mem_append.1 hp with hp|hp
    ·exact h.ok p hp
    ·simp at hp;subst hp;exact⟨hn,hy⟩
   ·exact Classical.byContradiction fun hc=>h2 ⟨hl,hc⟩
theorem Bm{s:az}{t:Tm}(h:bJ s t=true)(h1:t.op=1):(0<=t.n/\t.n<20)/\t= .mk 1 t.n []:=by
 have hv:=(bz h).1
 exact⟨hv.range ((fG h1).2 rfl),hv.eta h1⟩
theorem eq_inv{s:az}{lim:Bool}:∀ (f:Nat) (t u:Tm) (b b':List (Int×Tm)),jl lim f t u b=some (0,b')->Inv s lim b->bJ s t=true->bJ s u=true->Inv s lim b'/\∃ext,b'=b++ext
 |0,_,_,_,_,h,_,_,_=>by cases h
 |f+1,t,u,b,b',h,hb,ht,hu=>by
  simp only[jl]at h
  cases ha:gJ b t with
  |none=>rw[ha]at h;cases h
  |some x=>
  cases hc:gJ b u with
  |none=>rw[ha,hc]at h;cases h
  |some y=>
  rw[ha,hc]at h
  dsimp only at h
  obtain⟨ga,Vc⟩:=rF ha
  obtain⟨gc,yM⟩:=rF hc
  have hx:=F7 (fun p hp=>(hb.ok p hp).2) ga t x Vc ht
  have hy:=F7 (fun p hp=>(hb.ok p hp).2) gc u y yM hu
  by_cases h1:x.op=1
  ·obtain⟨rx,ex⟩:=Bm hx h1
   rw[if_pos h1]at h
   by_cases h2:y.op=1
   ·obtain⟨ry,ey⟩:=Bm hy h2
    rw[if_pos h2]at h
    by_cases h3:x.n=y.n
    ·exact Ta
    ·rw[if_neg h3]at h
     injection h with h
     have:=Bl hb (n:=max x.n y.n) (y:= .mk 1 (min x.n y.n) []) af (Rm (u7.1 hx).1 af) (by rw[h])
     rwa [h]at this
   ·rw[if_neg h2]at h
    injection h with h
    have:=Bl hb rx hy (by rw[h])
    rwa [h]at this
  ·rw[if_neg h1]at h
   by_cases h2:y.op=1
   ·obtain⟨ry,ey⟩:=Bm hy h2
    rw[if_pos h2]at h
    injection h with h
    have:=Bl hb ry hx (by rw[h])
    rwa [h]at this
   ·rw[if_neg h2]at h
    split at h
    ·have key:∀ (ks cE:List Tm) (b:List (Int×Tm)),(∀k∈ks,bJ s k=true)->(∀k∈cE,bJ s k=true)->Inv s lim b->l8 (jl lim f) ks cE b=some (0,b')->Inv s lim b'/\∃ext,b'=b++ext:=by
      intro ks
      induction ks with
      |nil=>
       exact SR
      |cons k ks ih=>
       intro cE b m1 m2 hb h
       cases cE with
       |nil=>
        exact abf
       |cons k' cE=>
        simp only[l8]at h
        cases he:jl lim f k k' b with
        |none=>rw[he]at h;cases h
        |some q=>
         obtain⟨e1,b1⟩:=q
         rw[he]at h
         dsimp only at h
         by_cases e0:e1=0
         ·rw[if_pos e0]at h
          subst e0
          obtain⟨g1,x1,g2⟩:=eq_inv f k k' b b1 he hb (m1 k aE) (m2 k' aE)
          exact abn
         ·exact S6
     exact key x.kids y.kids b (fun k hk=>H7 hx hk) (fun k hk=>H7 hy hk) hb h
    ·injection h with h
     injection h with h _
     exact absurd h bF
def xY(b:List (Int×Tm)):List TB:=b.map fun p=>⟨p.1,p.2⟩
theorem H8(b:List (Int×Tm)):ag (xY b)=b:=by
 unfold ag xY
 rw[List.map_map]
 exact List.map_id _
theorem dS(l l':List TB):ag (l++l')=ag l++ag l':=List.map_append
theorem H9{s:bU}(h:bB s){a c:Tm}(ha:bJ s.sig a=true)(hc:bJ s.sig c=true):∃f e b',jl true f a c (ag s.binds)=some (e,b')/\((e=0/\∃ext,b'=ag (s.binds++ext)/\iz s.sig (s.binds++ext))\/e=5\/e=3):=by
 obtain⟨l,ρ,R,hS,hl⟩:=jv h.iS.keys h.iS.ok h.iS.FW
 have va:=(bz ha).1
 have vc:=(bz hc).1
 obtain⟨f,r,hr⟩:=tf _ _ a c l (Nat.le_refl _) (Nat.le_refl _) hl va vc
 obtain⟨g,e,b',h1,h2⟩:=Bk (lim:=true) f a c l r hr hl va vc a c _ ρ R hS va vc rfl rfl
 refine⟨g,e,b',h1, ?_⟩
 rcases h2 with⟨rfl,_,NI,R',NZ⟩|⟨rfl,_⟩|⟨rfl,_⟩
 ·left
  refine⟨rfl, ?_⟩
  obtain⟨hI,ext,hx⟩:=eq_inv g a c _ b' h1 ⟨fun p hp=>by obtain⟨x,hx,rfl⟩:=dq hp;exact h.iS.ok x hx,fun _ p hp=>by obtain⟨x,hx,rfl⟩:=dq hp;exact h.iS.Vd x hx⟩ ha hc
  have hb:b'=ag (s.binds++xY ext):=by rw[dS,H8,hx]
  have hk:=NZ.keys
  rw[hb]at hk hI NZ
  refine⟨xY ext,hb,⟨?_,hk,fun x hx=>hI.ok _ (ez hx),NZ.FW,fun x hx=>hI.Vd rfl _ (ez hx)⟩⟩
  have:=DU hk fun v hv=>by
   obtain⟨p,hp,rfl⟩:=List.mem_map.1 hv
   exact(hI.ok p hp).1
  rw[List.length_map]at this
  unfold ag at this
  rwa [List.length_map]at this
 ·exact .inr (.inl rfl)
 ·exact .inr (.inr rfl)
theorem w8{nb nn nb' nn':Int}(h1:nb<=nb')(h2:nn<=nn'):∀ {l:List (Int×Int)} {a:Int×Int},mJ nb nn a l=true->mJ nb' nn' a l=true
 |[],_,_=>rfl
 |x::l,a,h=>by
  simp only[mJ,Bool.and_eq_true,Bool.not_eq_true',Bool.or_eq_false_iff,decide_eq_false_iff_not]at h|-
  obtain⟨⟨⟨⟨g1,g2⟩,g3⟩,g4⟩,g5⟩:=h
  exact⟨⟨⟨⟨g1,af⟩,g3⟩,af⟩,w8 h1 h2 g5⟩
theorem Rn{s:bU}(h:bB s){ext:List TB}(hb:iz s.sig (s.binds++ext))(hn:∀n∈s.aI, ¬BP (ag (s.binds++ext)) n):bB ⟨s.sig,s.binds++ext,s.aI,s.marks⟩:=
 ⟨h.sig,h.tl,h.D2,hb,fun n hm=>⟨(h.aI n hm).1,(h.aI n hm).2.1,hn n hm⟩,w8 gL (Int.le_refl _) h.marks⟩
theorem Ki{s:bU}(h:bB s){n:Nt}(ha:bJ s.sig n.a=true)(hc:bJ s.sig n.b=true)(hn: ¬BP (ag s.binds) n)(hl:s.aI.length<12):bB ⟨s.sig,s.binds,s.aI++[n],s.marks⟩:=
 ⟨h.sig,by simp;omega,h.D2,h.iS,fun m hm=>by
   rcases List.mem_append.1 hm with hm|hm
   ·exact h.aI m hm
   ·simp at hm;subst hm;exact⟨ha,hc,hn⟩,w8 (Int.le_refl _) gL h.marks⟩
structure QT (s:az) (t:Tm):Prop where
 vs:Vs s t
 sz:t.sz<=2000
theorem QT.ki {s:az}{t k:Tm}(h:QT s t)(hk:k∈t.kids):QT s k:=⟨h.vs.ki hk,by have:=Tm.l7 hk;have:=h.sz;omega⟩
theorem QT.fits {s:az}{t:Tm}(h:QT s t):t.fits:=Tm.dC t (by have:=h.sz;omega)
theorem QT.var {s:az}{v:Int}(h:0<=v/\v<20):QT s (.mk 1 v []):=⟨Vs.var h,by rw[Tm.iw];simp[Tm.kids,oH]⟩
theorem QT.eta {s:az}{t:Tm}(h:QT s t)(h1:t.op=1):(0<=t.n/\t.n<20)/\t= .mk 1 t.n []:=⟨h.vs.range ((fG h1).2 rfl),h.vs.eta h1⟩
theorem w9{s:az}{t:Tm}(h:bJ s t=true):QT s t:=⟨(bz h).1,by have:=(bz h).2.1;omega⟩
structure qp (s:az) (b:List (Int×Tm)):Prop where
 keys:(b.map (·.1)).Nodup
 ok:∀p∈b,(0<=p.1/\p.1<20)/\QT s p.2
 FW:YC b
theorem qp.nil {s:az}:qp s []:=⟨List.nodup_nil,fun _ h=>jQ,fun _ _ h=>by cases h⟩
theorem qp.sim {s:az}{b:List (Int×Tm)}(h:qp s b):∃l ρ R,kn s b l ρ R/\iq s l:=NN h.keys (fun p hp=>⟨(h.ok p hp).1,(h.ok p hp).2.vs⟩) h.FW
theorem aeS{P:Tm->Prop}{b:List (Int×Tm)}(hb:∀p∈b,P p.2):∀ (f:Nat) (t x:Tm),lC f b t=some x->P t->P x
 |0,_,_,h,_=>by cases h
 |f+1,t,x,h,ht=>by
  simp only[lC]at h
  split at h
  ·split at h
   ·rename_i y hy;exact aeS hb f y x h (hb _ (ck hy))
   ·exact IY
  ·exact IY
theorem ij{s:az}{b:List (Int×Tm)}(h:qp s b){t:Tm}(ht:QT s t):∃x,gJ b t=some x/\QT s x/\(x.op=1->bQ b x.n=none):=by
 obtain⟨l,ρ,R,hS,hl⟩:=h.sim
 obtain⟨x,a1,a2,a3,a4,_⟩:=hS.root ht.vs
 exact⟨x,cU a1,aeS (fun p hp=>(h.ok p hp).2) _ t x a1 ht,a4⟩
theorem D4{s:az}{b:List (Int×Tm)}(h:qp s b){n:Int}{y:Tm}(hn:bQ b n=none)(hr:0<=n/\n<20)(hy:QT s y)(hnr: ¬oe b n y):qp s (b++[(n,y)]):=by
 obtain⟨l,ρ,R,hS,hl⟩:=h.sim
 obtain⟨NI,R',h'⟩:=hS.ext hl hn hy.vs fun hf=>hnr ((Bd hS hl hn hy.vs).1 hf)
 refine⟨h'.keys,fun p hp=> ?_,h'.FW⟩
 rcases List.mem_append.1 hp with hp|hp
 ·exact h.ok p hp
 ·simp at hp;subst hp;exact⟨hr,hy⟩
theorem oM{s:az}{lim:Bool}{b:List (Int×Tm)}(h:qp s b){n:Int}{y:Tm}(hn:bQ b n=none)(hr:0<=n/\n<20)(hy:QT s y)(h0:(gw lim b n y).1=0):qp s (gw lim b n y).2/\∃ext,(gw lim b n y).2=b++ext:=by
 unfold gw at h0|-
 split at h0
 ·exact GF
 ·rename_i h1
  rw[if_neg h1]
  split at h0
  ·exact GF
  ·rename_i h2
   rw[if_neg h2]
   exact⟨D4 h hn hr hy h1,_,rfl⟩
theorem xa{s:az}{lim:Bool}:∀ (f:Nat) (t u:Tm) (b b':List (Int×Tm)),jl lim f t u b=some (0,b')->qp s b->QT s t->QT s u->qp s b'/\∃ext,b'=b++ext
 |0,_,_,_,_,h,_,_,_=>by cases h
 |f+1,t,u,b,b',h,hb,ht,hu=>by
  simp only[jl]at h
  obtain⟨x,ha,hx,L3⟩:=ij hb ht
  obtain⟨y,hc,hy,hyu⟩:=ij hb hu
  rw[ha,hc]at h
  dsimp only at h
  by_cases h1:x.op=1
  ·obtain⟨rx,ex⟩:=hx.eta h1
   rw[if_pos h1]at h
   by_cases h2:y.op=1
   ·obtain⟨ry,ey⟩:=hy.eta h2
    rw[if_pos h2]at h
    by_cases h3:x.n=y.n
    ·exact Ta
    ·rw[if_neg h3]at h
     injection h with h
     have lmx:bQ b (max x.n y.n)=none:=by
      rw[Int.max_def];split
      ·exact hyu h2
      ·exact L3 h1
     have:=oM hb lmx (y:= .mk 1 (min x.n y.n) []) af (QT.var af) (by rw[h])
     rwa [h]at this
   ·rw[if_neg h2]at h
    injection h with h
    have:=oM hb (L3 h1) rx hy (by rw[h])
    rwa [h]at this
  ·rw[if_neg h1]at h
   by_cases h2:y.op=1
   ·obtain⟨ry,ey⟩:=hy.eta h2
    rw[if_pos h2]at h
    injection h with h
    have:=oM hb (hyu h2) ry hx (by rw[h])
    rwa [h]at this
   ·rw[if_neg h2]at h
    split at h
    ·have key:∀ (ks cE:List Tm) (b:List (Int×Tm)),(∀k∈ks,QT s k)->(∀k∈cE,QT s k)->qp s b->l8 (jl lim f) ks cE b=some (0,b')->qp s b'/\∃ext,b'=b++ext:=by
      intro ks
      induction ks with
      |nil=>
       exact SR
      |cons k ks ih=>
       intro cE b m1 m2 hb h
       cases cE with
       |nil=>
        exact abf
       |cons k' cE=>
        simp only[l8]at h
        cases he:jl lim f k k' b with
        |none=>rw[he]at h;cases h
        |some q=>
         obtain⟨e1,b1⟩:=q
         rw[he]at h
         dsimp only at h
         by_cases e0:e1=0
         ·rw[if_pos e0]at h
          subst e0
          obtain⟨g1,x1,g2⟩:=xa f k k' b b1 he hb (m1 k aE) (m2 k' aE)
          exact abn
         ·exact S6
     exact key x.kids y.kids b (fun k hk=>hx.ki hk) (fun k hk=>hy.ki hk) hb h
    ·injection h with h
     injection h with h _
     exact absurd h bF
theorem aeT{s:az}{b:List (Int×Tm)}{l:List TB}{ρ:Int->Nat}{R:Nat}(h:kn s b l ρ R){M:Nat}(hM:∀p∈b,p.2.mA<=M):∀ (r:Nat) (t:Tm),Vs s t->(∀u,fO u t=true->ρ u<r)->(aR (ag l) t).mA<=t.mA+th b ρ r*M:=by
 intro r
 induction r using Nat.strongRecOn with
 |ind r ihr=>
  refine Tm.ek fun t ih ht hr=> ?_
  by_cases h1:t.op=1
  ·have hv:fO t.n t=true:=(fG h1).2 rfl
   rw[du ht h1]
   cases hx:bQ b t.n with
   |none=>
    rw[show Lv (ag l) t.n= .mk 1 t.n [] by simp[Lv,(h.xC _).1 hx], <- ht.eta h1]
    omega
   |some x=>
    obtain⟨g1,g2,g3⟩:=h.ok _ _ hx
    have h3:=HY hx (hr _ hv)
    have h4:=ihr _ (hr _ hv) x g1 g3
    have h5:=hM _ (ck hx)
    have h6:(th b ρ (ρ t.n)+1)*M<=th b ρ r*M:=Nat.mul_le_mul_right _ h3
    rw[Nat.add_mul,Nat.one_mul]at h6
    rw[g2]
    dsimp only at h5
    omega
  ·rw[dY h1,Tm.qa,Tm.qa t]
   show 1+Tm.iZ (t.kids.map (aR (ag l)))<=1+Tm.iZ t.kids+th b ρ r*M
   have:Tm.iZ (t.kids.map (aR (ag l)))<=Tm.iZ t.kids+th b ρ r*M:=by
    rw[oI]
    intro k hk
    obtain⟨k,I4,rfl⟩:=List.mem_map.1 hk
    have h2:=ih k I4 (ht.ki I4) (fun u hu=>hr u ((pA ht h1).2 ⟨k,I4,hu⟩))
    have h3:=(oI _ _).1 (Nat.le_refl (Tm.iZ t.kids)) k I4
    omega
   omega
theorem Ro(b:List (Int×Tm))(ρ:Int->Nat)(r:Nat):th b ρ r<=b.length:=by
 unfold th
 exact aaX
inductive KU (b:List (Int×Tm)) (q:Tm):Nat->Tm->Prop where
 |nil:KU b q 0 q
 |step {d:Nat} {p x k:Tm}:KU b q d p->gJ b p=some x->k∈x.kids->KU b q (d+1) k
theorem Rp{b ext:List (Int×Tm)}{v:Int}{x:Tm}(h:bQ b v=some x):bQ (b++ext) v=some x:=by
 induction b with
 |nil=>cases h
 |cons p b ih=>
  rw[List.cons_append]
  simp only[bQ]at h|-
  split at h
  ·rename_i e;rw[if_pos e];exact h
  ·rename_i e;rw[if_neg e];exact ih h
theorem N0{b ext:List (Int×Tm)}:∀ (f:Nat) (t x:Tm),lC f b t=some x->x.op≠1->lC f (b++ext) t=some x
 |0,_,_,h,_=>by cases h
 |f+1,t,x,h,hx=>by
  simp only[lC]at h|-
  by_cases h1:t.op=1
  ·rw[if_pos h1]at h|-
   cases e:bQ b t.n with
   |none=>rw[e]at h;injection h with h;subst h;exact absurd h1 hx
   |some y=>
    rw[e]at h
    rw[Rp e]
    exact N0 f y x h hx
  ·rw[if_neg h1]at h|-;exact h
theorem KU.qt {s:az}{b:List (Int×Tm)}(hb:qp s b){q:Tm}(hq:QT s q){d:Nat}{k:Tm}(h:KU b q d k):QT s k:=by
 induction h with
 |nil=>exact hq
 |step h1 h2 h3 ih=>
  obtain⟨x,e,hx,_⟩:=ij hb ih
  rw[e]at h2
  cases h2
  exact hx.ki h3
theorem KU.app {s:az}{b ext:List (Int×Tm)}(hb:qp s b){q:Tm}(hq:QT s q){d:Nat}{k:Tm}(h:KU b q d k):KU (b++ext) q d k:=by
 induction h with
 |nil=>exact .nil
 |step h1 h2 h3 ih=>
  rename_i d p x k
  obtain⟨y,e,hy,_⟩:=ij hb (h1.qt hb hq)
  obtain rfl:x=y:=Option.some.inj (h2.symm.trans e)
  have gy:x.op≠1:=fun ho=>by
   rw[(hy.eta ho).2]at h3
   cases h3
  obtain⟨g,hg⟩:=rF e
  exact .step ih (cU (N0 g p x hg gy)) h3
theorem KU.le {s:az}{b:List (Int×Tm)}(hb:qp s b){q:Tm}(hq:QT s q){d:Nat}{k:Tm}(h:KU b q d k):d+1<=42001:=by
 obtain⟨l,ρ,R,hS,hl⟩:=hb.sim
 have h1:(aR (ag l) k).mA+d<=(aR (ag l) q).mA:=by
  induction h with
  |nil=>omega
  |step h1 h2 h3 ih=>
   rename_i d p x k
   obtain⟨y,a1,a2,a3,_⟩:=hS.root (h1.qt hb hq).vs
   obtain rfl:x=y:=Option.some.inj (h2.symm.trans (cU a1))
   have gy:x.op≠1:=fun ho=>by
    rw[a2.eta ho]at h3
    cases h3
   have h4:aR (ag l) k∈(aR (ag l) x).kids:=by rw[dY gy];exact List.mem_map.2 ⟨k,h3,rfl⟩
   have h5:=Tm.ra h4
   rw[a3]at h5
   omega
 have h2:=aeT hS (M:=2000) (fun p hp=>by have:=(hb.ok p hp).2.sz;have:=Tm.s8 p.2;omega) (R+1) q hq.vs (fun u _=>by have:=hS.bd u;omega)
 have h3:=Ro b ρ (R+1)
 have h4:b.length<=20:=by
  have:=DU hb.keys fun v hv=>by
   obtain⟨p,hp,rfl⟩:=List.mem_map.1 hv
   exact(hb.ok p hp).1
  rwa [List.length_map]at this
 have h5:th b ρ (R+1)*2000<=20*2000:=Nat.mul_le_mul_right _ af
 have h6:=hq.sz
 have h7:=Tm.s8 q
 omega
theorem Ia{s:az}{lim:Bool}:∀ (f:Nat) (t u q:Tm) (b:List (Int×Tm)) (d:Nat) (r:Int×List (Int×Tm)),qp s b->QT s q->QT s u->KU b q d t->jl lim f t u b=some r->∀F,42001<=d+F->jl lim F t u b=some r
 |0,_,_,_,_,_,_,_,_,_,_,h,_,_=>by cases h
 |f+1,t,u,q,b,d,r,hb,hq,hu,hp,h,F,hF=>by
  have hd:=hp.le hb hq
  obtain⟨F,rfl⟩:∃k,F=k+1:=⟨F - 1,af⟩
  have ht:=hp.qt hb hq
  obtain⟨x,ha,hx,L3⟩:=ij hb ht
  obtain⟨y,hc,hy,hyu⟩:=ij hb hu
  simp only[jl]at h|-
  rw[ha,hc]at h|-
  dsimp only at h|-
  split at h
  ·rename_i h1;rw[if_pos h1];exact h
  ·rename_i h1
   rw[if_neg h1]
   split at h
   ·rename_i h2;rw[if_pos h2];exact h
   ·rename_i h2
    rw[if_neg h2]
    split at h
    ·rename_i h3
     rw[if_pos h3]
     have key:∀ (ks cE:List Tm) (b:List (Int×Tm)),qp s b->(∀k∈ks,KU b q (d+1) k)->(∀k∈cE,QT s k)->l8 (jl lim f) ks cE b=some r->l8 (jl lim F) ks cE b=some r:=by
      intro ks
      induction ks with
      |nil=>intro cE b _ _ _ h;simpa only[l8]using h
      |cons k ks ih=>
       intro cE b hb m1 m2 h
       cases cE with
       |nil=>simpa only[l8]using h
       |cons k' cE=>
        simp only[l8]at h|-
        cases he:jl lim f k k' b with
        |none=>rw[he]at h;cases h
        |some w=>
         obtain⟨e1,b1⟩:=w
         rw[he]at h
         rw[Ia f k k' q b (d+1) _ hb hq (m2 k' (by simp)) (m1 k (by simp)) he F (by omega)]
         dsimp only at h|-
         by_cases e0:e1=0
         ·rw[if_pos e0]at h|-
          subst e0
          obtain⟨g1,x1,g2⟩:=xa f k k' b b1 he hb ((m1 k aE).qt hb hq) (m2 k' aE)
          refine ih cE b1 g1 (fun z hz=> ?_) (fun z hz=>m2 z qq) h
          rw[g2]
          exact(m1 z qq).app hb hq
         ·rw[if_neg e0]at h|-;exact h
     exact key x.kids y.kids b hb (fun k hk=> .step hp ha hk) (fun k hk=>hy.ki hk) h
    ·rename_i h3;rw[if_neg h3];exact h
theorem N1{s:az}{lim:Bool}{b:List (Int×Tm)}(hb:qp s b){t u:Tm}(ht:QT s t)(hu:QT s u){f:Nat}{e:Int}{b':List (Int×Tm)}(h:jl lim f t u b=some (e,b')):∃m,ko lim 1000000000 m [(t,u)] b=some (e,b'):=by
 have h1:=Ia f t u t b 0 _ hb ht hu .nil h 42001 af
 refine F4 (W:=2000) (P:=QT s) (I:=qp s) (fun t ht=>⟨?_,fun k hk=>ht.ki hk⟩) (fun b t x hb ht hx=> ?_) (fun f t u b b' h hb ht hu=>(xa f t u b b' h hb ht hu).1) 42001 t u b e b' h1 hb ht hu [] 1 (e,b') bF ?_
 ·have:=mH t.kids
  have:=Tm.iw t
  have:=ht.sz
  omega
 ·obtain⟨y,e,hy,_⟩:=ij hb ht
  rw[e]at hx
  cases hx
  exact hy
 ·split
  ·rename_i e0;subst e0;rfl
  ·rfl
end Go.Proofs.YtlhemmpklhhgoaaGreat
set_option maxHeartbeats 4000000
namespace Go.Proofs.YtlhemmpklhhgoaaGreat
theorem YK{b:List (Int×Tm)}{f:Nat}{t x:Tm}(h:lC f b t=some x){o:Nat->ad}{id:Nat}(ho:o id=dt b):CtO Tryz.prog 112 [.mp id, .d t.d] o (.d x.d):=by
 intro nx hg K X hK
 have cq:id<nx:=hg.lt LF
 have y1:id≠nx:=af
 have y2:∀k,id≠nx+k:=fun k=>af
 refine bP.aG mix M9 aE ?_
 rw[QN]
 refine Vw ho y1 y2 ?_
 refine aD (fun i:Nat×Tm=>⟨aX [.mp id, .ab, .ab, .ptr nx 0, .ptr (nx+1) 0],ay (ay o nx (.row i.2.row)) (nx+1) (.row [.d (.i 0), .d (.i 0), .ax]),nx+2⟩)
  (fun i=>lC i.1 b i.2=some x) (fun i=>i.1) (f,t) h ?_ ?_
 ·exact abm
 rintro⟨f,t⟩ hf
 simp only at hf
 cases f with
 |zero=>cases hf
 |succ f=>
 simp only[lC]at hf
 by_cases h1:t.op=1
 ·have fh:(t.op==1)=true:=by simpa using h1
  rw[if_pos h1]at hf
  cases hl:bQ b t.n with
  |none=>
   rw[hl]at hf
   injection hf with hf
   subst hf
   simp+contextual (disch:=first|omega|simp only[go_sem,false_implies]) only[go_sem,wrap64,if_pos,fh,ho,y1,y2,Nat.add_assoc,Nat.left_eq_add,Nat.add_eq_left,Nat.add_left_cancel_iff,eH hl]
   exact hK _ _ af dh (fun j hj=>by(repeat(first|rfl|rw[aa]|rw[ae _ _ _ _ (by omega)])))
  |some z=>
   rw[hl]at hf
   obtain⟨j,hj⟩:=fX hl
   refine zR fh ho y1 y2 hj ?_
   refine aj (f,z) hf kV (bL.bS _ af af dh (fun j hj=> ?_) ?_)
   ·have Tq:j<nx+2:=hj
    by_cases e1:j=nx
    ·subst e1;(repeat(first|rfl|rw[aa]|rw[ae _ _ _ _ (by omega)]))
    ·by_cases e2:j=nx+1
     ·exact VG
     ·exact cg
   ·exact dT
 ·have fh:(t.op==1)=false:=by simpa using h1
  rw[if_neg h1]at hf
  injection hf with hf
  subst hf
  refine BC fh ho y1 y2 ?_
  exact hK _ _ af dh (fun j hj=>by(repeat(first|rfl|rw[aa]|rw[ae _ _ _ _ (by omega)])))
theorem D5{P:Program}{g:FuncId}{K:KD}{X:XD}{o:Nat->ad}{nx fr:Nat}{all:List V}{ds:List D}{rd0 rd:List Nat}{rs:List D}{Δ:List (Nat×ad)}(mV:rd.all (fun id=>decide (id<nx))=true)(h:BI P g all rd o (.ret rs) Δ)(hk:K (jf rs) Δ rd):mz P g K X o nx fr rd0 ds all:=by
 unfold mz
 exact .inr (Da mV h hk)
theorem N2{b:List (Int×Tm)}{t x:Tm}(h:gJ b t=some x){o:Nat->ad}{id:Nat}(ho:o id=dt b):BI Tryz.prog 112 [.mp id, .d t.d] [id] o (.ret [x.d]) []:=by
 obtain⟨f,hf⟩:=rF h
 refine BI.WW (id+1) aE yg (fun i hi j hj=> ?_) (YK hf (by simp[Fc,ho]))
 simp at hi
 subst hi
 rw[ho]at hj
 simp[ad.refs]at hj
structure EqH (o:Nat->ad) (x m l:Nat) (ep:Nat) (lim:Bool) (b:List (Int×Tm)) (L:List TB):Prop where
 row:o x= .row [.mp m, .osl l ep, .d (.bool lim)]
 map:o m=dt b
 Ub:o l= .arr ep 59 4 (L.map TB.d)
theorem F8{s:az}{lim:Bool}{b:List (Int×Tm)}{L:List TB}{n:Int}{y:Tm}(hb:qp s b)(hn:bQ b n=none)(hr:0<=n/\n<20)(hy:QT s y)(hL:L.length<=1000){x m l:Nat}(o:Nat->ad)(nx:Nat)(hg:Good o nx)(he:EqH o x m l 0 lim b L)(K X:V->(Nat->ad)->Nat->Prop)
 (aY:(gw lim b n y)=(0,b++[(n,y)])->∀o' nx',nx<=nx'->Good o' nx'->EqH o' x m l 1 lim (b++[(n,y)]) (L++[⟨n,y⟩])->(∀j,j<nx->j≠x->j≠m->j≠l->o' j=o j)->K (.bY []) o' nx')
 (mP:(gw lim b n y).1=5->∀o' nx',nx<=nx'->Good o' nx'->(∀j,j<nx->j≠x->j≠m->j≠l->o' j=o j)->X (.d (.iface 162 (.agg []))) o' nx')
 (Ag:(gw lim b n y).1=3->∀o' nx',nx<=nx'->Good o' nx'->(∀j,j<nx->j≠x->j≠m->j≠l->o' j=o j)->X (.d (.iface 163 (.agg []))) o' nx'):
 bP Tryz.prog 132 [.ptr x 0, .d (.i n), .d y.d] o nx K X:=by
 obtain⟨hx,hm,hl⟩:=he
 have lx:x<nx:=hg.lt LG
 have lm:m<nx:=hg.lt Gv
 have ll:l<nx:=hg.lt (by rw[hl];exact ad.noConfusion)
 have dxm:x≠m:=fun e=>by subst e;rw[hx]at hm;cases hm
 have dxl:x≠l:=fun e=>by subst e;rw[hx]at hl;cases hl
 have dml:m≠l:=fun e=>by subst e;rw[hm]at hl;cases hl
 have y1:x≠nx:=af
 have y2:∀k,x≠nx+k:=fun k=>af
 have y3:m≠nx:=af
 have y4:∀k,m≠nx+k:=fun k=>af
 have y5:l≠nx:=af
 have y6:∀k,l≠nx+k:=fun k=>af
 have GN:∀p∈b,Vs s p.2:=fun p hp=>(hb.ok p hp).2.vs
 have og:∀p∈b,p.2.fits:=fun p hp=>(hb.ok p hp).2.fits
 refine bP.aG mix Ut aE ?_
 rw[XH]
 obtain⟨is,F1⟩:∃is:Bool,is=true↔oe b n y:=by
  classical
  exact⟨decide (oe b n y),aE⟩
 refine IA hx hm hl y1 y2 y3 y4 y5 y6 ?_
 refine aZ (H6 GN og n y hy.vs hy.fits F1) rfl ?_
 refine IA hx hm hl y1 y2 y3 y4 y5 y6 ?_
 refine aK (bp rfl) ?_
 cases is with
 |true=>
  refine IA hx hm hl y1 y2 y3 y4 y5 y6 ?_
  have mZ:gw lim b n y=(5,b):=by unfold gw;rw[if_pos (F1.1 rfl)]
  exact mP (by rw[mZ]) _ _ af dh (fun j h1 h2 h3 h4=>by(repeat(first|rfl|rw[aa]|rw[ae _ _ _ _ (by omega)])))
 |false=>
  have hnr: ¬oe b n y:=fun h=>Bool.false_ne_true (F1.2 h)
  have EL:=D4 hb hn hr hy hnr
  have e0:L.length<=140737488355327/\(L.length+1)*48<=140737488355328:=af
  simp+contextual (disch:=first|omega|simp only[go_sem,false_implies]) only[go_sem,wrap64,if_pos,hx,hm,hl,y1,y2,y3,y4,y5,y6,Nat.add_assoc,Nat.left_eq_add,Nat.add_eq_left,Nat.add_left_cancel_iff,eH hn]
  refine aK (bD (ids:=[x,nx,m]) (nx:=nx+15) gL gL [([],[]),([0],[]),([0],[]),([0],[]),([],[]),([1],[]),([2],[2])] bF) ?_
  rw[DK hn]
  simp+contextual (disch:=first|omega|simp only[go_sem,false_implies]) only[go_sem,wrap64,if_pos,hx,hm,hl,y1,y2,y3,y4,y5,y6,dxm,dxl,dml,dxm.symm,dxl.symm,dml.symm,Nat.add_assoc,Nat.left_eq_add,Nat.add_eq_left,Nat.add_left_cancel_iff,List.length_map,e0]
  refine aK (bD (ids:=[x,nx,nx+23,l]) (nx:=nx+28) gL gL [([],[]),([],[]),([0],[]),([0],[]),([0],[]),([],[]),([1],[]),([],[]),([],[2]),([3,2],[3]),([0],[]),([0],[]),([0,3],[0])] bF) ?_
  cases lim with
  |false=>
   simp+contextual (disch:=first|omega|simp only[go_sem,false_implies]) only[go_sem,wrap64,if_pos,hx,hm,hl,y1,y2,y3,y4,y5,y6,dxm,dxl,dml,dxm.symm,dxl.symm,dml.symm,Nat.add_assoc,Nat.left_eq_add,Nat.add_eq_left,Nat.add_left_cancel_iff]
   exact aY (by unfold gw;rw[if_neg hnr,if_neg (by simp)]) _ _ af dh ⟨by(repeat(first|rfl|rw[aa]|rw[ae _ _ _ _ (by omega)])),by(repeat(first|rfl|rw[aa]|rw[ae _ _ _ _ (by omega)])),by(repeat(first|rfl|rw[aa]|rw[ae _ _ _ _ (by omega)]));rw[List.map_append];rfl⟩ (fun j h1 h2 h3 h4=>by(repeat(first|rfl|rw[aa]|rw[ae _ _ _ _ (by omega)])))
  |true=>
   obtain⟨fo,BN⟩:∃fo:Bool,fo=true↔∀p∈b++[(n,y)],zB (b++[(n,y)]) p.2:=by
    classical
    exact⟨decide (∀p∈b++[(n,y)],zB (b++[(n,y)]) p.2),aE⟩
   obtain⟨l',NI,R',NZ,G0⟩:=EL.sim
   simp+contextual (disch:=first|omega|simp only[go_sem,false_implies]) only[go_sem,wrap64,if_pos,hx,hm,hl,y1,y2,y3,y4,y5,y6,dxm,dxl,dml,dxm.symm,dxl.symm,dml.symm,Nat.add_assoc,Nat.left_eq_add,Nat.add_eq_left,Nat.add_left_cancel_iff]
   refine aq (zE (b:=b++[(n,y)]) (fun p hp=>(EL.ok p hp).2.fits) (fun p hp=>by obtain⟨r,hr⟩:=LK NZ 12 p.2 40 (EL.ok p hp).2.vs;exact⟨_,r,hr⟩) BN) rfl ?_
   cases fo with
   |true=>
    refine fY ?_
    exact aY (by unfold gw;rw[if_neg hnr,if_neg (fun h=>h.2 (BN.1 rfl))]) _ _ af dh ⟨by(repeat(first|rfl|rw[aa]|rw[ae _ _ _ _ (by omega)])),by(repeat(first|rfl|rw[aa]|rw[ae _ _ _ _ (by omega)])),by(repeat(first|rfl|rw[aa]|rw[ae _ _ _ _ (by omega)]));rw[List.map_append];rfl⟩ (fun j h1 h2 h3 h4=>by(repeat(first|rfl|rw[aa]|rw[ae _ _ _ _ (by omega)])))
   |false=>
    refine fY ?_
    exact Ag (by unfold gw;rw[if_neg hnr,if_pos ⟨rfl,fun h=>Bool.false_ne_true (BN.2 h)⟩]) _ _ af dh (fun j h1 h2 h3 h4=>by(repeat(first|rfl|rw[aa]|rw[ae _ _ _ _ (by omega)])))
end Go.Proofs.YtlhemmpklhhgoaaGreat
set_option maxHeartbeats 4000000
namespace Go.Proofs.YtlhemmpklhhgoaaGreat
@[reducible] def xc (p:Tm×Tm):D:= .agg [.i p.1.op, .i p.1.n, .sl (p.1.kids.map Tm.d), .i p.2.op, .i p.2.n, .sl (p.2.kids.map Tm.d)]
def rV(o:Nat->ad)(nx x m:Nat)(lim:Bool)(a c:Tm)(b:List (Int×Tm))(L:List TB)(st:List D):Nat->ad:=
 ay (ay (ay (ay (ay (ay o nx (.row a.row)) (nx+1) (.row c.row)) x (.row [.mp m, .osl (nx+7) 0, .d (.bool lim)])) m (dt b)) (nx+7) (.arr 0 59 4 (L.map TB.d))) (nx+8) (.arr 0 106 6 st)
section
variable {o:Nat->ad}{nx x m:Nat}{lim:Bool}{a c:Tm}{b:List (Int×Tm)}{L:List TB}{st:List D}(lx:x<nx)(lm:m<nx)(cf:x≠m)
include lx lm cf
theorem eqS_0:rV o nx x m lim a c b L st nx= .row a.row:=ID
theorem eqS_1:rV o nx x m lim a c b L st (nx+1)= .row c.row:=ID
theorem N3:rV o nx x m lim a c b L st x= .row [.mp m, .osl (nx+7) 0, .d (.bool lim)]:=ID
theorem N4:rV o nx x m lim a c b L st m=dt b:=ID
theorem eqS_7:rV o nx x m lim a c b L st (nx+7)= .arr 0 59 4 (L.map TB.d):=ID
theorem eqS_8:rV o nx x m lim a c b L st (nx+8)= .arr 0 106 6 st:=ID
omit lx lm cf in
theorem se{j:Nat}(h0:j≠nx)(h1:j≠nx+1)(h2:j≠x)(h3:j≠m)(h7:j≠nx+7)(h8:j≠nx+8):rV o nx x m lim a c b L st j=o j:=by unfold rV;(repeat(first|rfl|rw[aa]|rw[ae _ _ _ _ (by omega)]))
omit lx lm cf in
theorem VL{b':List (Int×Tm)}{L':List TB}{st':List D}{j:Nat}(h1:j<nx+7)(h2:j≠x)(h3:j≠m):rV o nx x m lim a c b L st j=rV o nx x m lim a c b' L' st' j:=by
 have e:∀b L st,rV o nx x m lim a c b L st j=ay (ay o nx (.row a.row)) (nx+1) (.row c.row) j:=fun b L st=>by
  unfold rV
  rw[ae _ _ _ _ (by omega),ae _ _ _ _ (by omega),ae _ _ _ _ h3,ae _ _ _ _ h2]
 rw[e,e]
omit lx lm cf in
theorem YL{st':List D}{j:Nat}(h:j≠nx+8):rV o nx x m lim a c b L st j=rV o nx x m lim a c b L st' j:=by
 unfold rV
 rw[ae _ _ _ _ h,ae _ _ _ _ h]
theorem jJ(hg:Good o nx):Good (rV o nx x m lim a c b L st) (nx+9):=by
 have _:=cf
 unfold rV
 refine Good.ay (Good.ay (Good.ay (Good.ay (Good.ay (Good.ay (hg.mono af) af rfl) af rfl) af ?_) af rfl) af rfl) af rfl
 simp[ad.refs,V.aL,V.refs]
 omega
theorem oN(gone:Nat->Prop)(xl xs:V)(l:List V)(hg:Good o nx)(sT:∀id,gone id->nx+7<=id\/(o id= .no/\id≠nx/\id≠nx+1/\id≠x/\id≠m)){e:Nat->V}{so:Nat->ad}{k:Nat}
 (gl:fN so gone 59 4 (L.map TB.d) xl) (gs:fN so gone 106 6 st xs) (iu:∀id ep fT,xl= .osl id ep->xs= .osl id fT->False) (sx:so x= .row [.mp m,xl, .d (.bool lim)]) (sm:so m=dt b)
 (h:∀j,j<nx+7->j≠x->j≠m->rV o nx x m lim a c b L st j= .no\/so j=rV o nx x m lim a c b L st j)
 (he:iP (nx+7) [⟨xl,59,4,L.map TB.d⟩,⟨xs,106,6,st⟩] so gone e l 0):bL nx ⟨e,so,k⟩ ⟨aX l,rV o nx x m lim a c b L st,nx+9⟩:=by
 have hG:=jJ (lim:=lim) (a:=a) (c:=c) (b:=b) (L:=L) (st:=st) lx lm cf hg
 refine bL.see gone _ (nx+7) l rfl af (fun j hj=> ?_) (fun i g h=> ?_) (fun j hj=>hG.fresh j hj) (fun j h1 h2=> ?_) (fun i j gi gj id ep fT h h' e1 e2=> ?_) he
 ·by_cases e1:j=x
  ·subst e1
   rw[N3 lx lm cf]
   exact aaY
  ·by_cases e2:j=m
   ·subst e2
    rw[N4 lx lm cf]
    exact bn sm (fun r hr=>by simp[ad.refs]at hr)
   ·rcases h j hj e1 e2 with h|h
    ·rw[h];exact js
    ·refine bn h fun r hr=> ?_
     by_cases e3:j=nx
     ·subst e3;rw[eqS_0 lx lm cf]at hr;simp[ad.refs,V.aL,V.refs]at hr
     ·by_cases e4:j=nx+1
      ·subst e4;rw[eqS_1 lx lm cf]at hr;simp[ad.refs,V.aL,V.refs]at hr
      ·rw[se e3 e4 e1 e2 (by omega) (by omega)]at hr
       have:=hg.refs j r hr
       omega
 ·match i,h with
  |0,h=>simp at h;subst h;exact⟨eqS_7 lx lm cf,gl⟩
  |1,h=>simp at h;subst h;exact⟨eqS_8 lx lm cf,gs⟩
 ·rcases sT j h1 with h|⟨g1,g2,g3,g4,g5⟩
  ·omega
  ·rw[se g2 g3 g4 g5 (by omega) (by omega)];exact g1
 ·match i,j,h,h' with
  |0,0,_,_=>rfl
  |1,1,_,_=>rfl
  |0,1,h,h'=>simp at h h';subst h;subst h';exact(iu _ _ _ e1 e2).elim
  |1,0,h,h'=>simp at h h';subst h;subst h';exact(iu _ _ _ e2 e1).elim
end
theorem kS(o:Nat->ad)(ng:Bool)(a b:Int):qu Tryz.prog o 164 ng (.d (.agg [.i a, .i b])) (.d (.agg [.i 1, .i 1]))=some (.d (.bool (a==1&&b==1))):=by
 have h1:bO Tryz.prog 164=some (.arr 2 30):=ai
 have h3:bO Tryz.prog 30=some .int:=ai
 have h5:dg Tryz.prog 30=some false:=ai
 have h6:pf Tryz.prog 100 164 (.agg [.i a, .i b]) (.agg [.i 1, .i 1])=some (a==1&&b==1):=by
  have h7:Tryz.prog.cellsOf 30=1:=ai
  simp[pf,h1,h3,h5,h7,B9,PH,iW,EJ]
 obtain⟨n,e,h⟩:∃n e,Tryz.prog.underlying 164=some (.array n e):=⟨2,30,ai⟩
 have h2:Tryz.prog.eqGuardType Tryz.prog.depth 164=false:=ai
 unfold qu
 rw[h]
 dsimp only
 rw[if_pos h2,h6]
 rfl
section
variable {o:Nat->ad}{nx x m:Nat}{lim:Bool}{a c:Tm}{b:List (Int×Tm)}{L:List TB}{st:List D}(lx:x<nx)(lm:m<nx)(cf:x≠m)
include lx lm cf
theorem N5(gone:Nat->Prop)(xs:V)(l:List V)(hg:Good o nx)(sT:∀id,gone id->nx+87<=id\/id=nx+8){xt xu:Tm}{e:Nat->V}{so:Nat->ad}{k:Nat}
 (gs:fN so gone 106 6 st xs) (h40:so (nx+40)= .row xt.row) (h41:so (nx+41)= .row xu.row)
 (h:∀j,j<nx+40->j≠nx+8->j≠nx+18->True->so j=rV o nx x m lim a c b L [] j)
 (he:iP (nx+87) [⟨xs,106,6,st⟩] so gone e l 0):bL nx ⟨e,so,k⟩ ⟨aX l,ay (ay (ay (ay (rV o nx x m lim a c b L []) (nx+8) .no) (nx+40) (.row xt.row)) (nx+41) (.row xu.row)) (nx+87) (.arr 0 106 6 st),nx+87+1⟩:=by
 have hG:=jJ (lim:=lim) (a:=a) (c:=c) (b:=b) (L:=L) (st:=[]) lx lm cf hg
 refine bL.uD gone xs (nx+87) l af (fun j hj=> ?_) (aa _ _ _) gs (fun j hj=> ?_) (fun j h1 h2=> ?_) he
 ·by_cases e1:j=nx+41
  ·subst e1
   exact mG (y:= .row xu.row) h41 cg (bn rfl (fun r hr=>by simp[ad.refs,V.aL,V.refs]at hr))
  ·by_cases e2:j=nx+40
   ·subst e2
    exact mG (y:= .row xt.row) h40 cg (bn rfl (fun r hr=>by simp[ad.refs,V.aL,V.refs]at hr))
   ·by_cases e3:j=nx+8
    ·subst e3
     exact mG (y':= .no) rfl cg js
    ·by_cases e4:j<nx+9
     ·exact mG (y:=rV o nx x m lim a c b L [] j) (h j af e3 af trivial) cg (bn rfl (fun r hr=>by have:=hG.refs j r hr;omega))
     ·exact mG (y':= .no) rfl (by(repeat(first|rfl|rw[aa]|rw[ae _ _ _ _ (by omega)]));exact hG.fresh j af) js
 ·(repeat(first|rfl|rw[aa]|rw[ae _ _ _ _ (by omega)]))
  exact hG.fresh j af
 ·rcases sT j h1 with h|h
  ·omega
  ·exact Sl
end
end Go.Proofs.YtlhemmpklhhgoaaGreat
namespace Go.Proofs.YtlhemmpklhhgoaaGreat
theorem bP.xd {P:Program}{g:FuncId}{x:V}{d:D}{rest:List V}{o:Nat->ad}{nx:Nat}{K X:V->(Nat->ad)->Nat->Prop}(hx:dM o x=some d)
 (h:bP P g (.d d::rest) (put o (bG o x.ids)) nx K X):bP P g (x::rest) o nx K X:=by
 refine⟨h.1,fun M φ w vals hH hd=> ?_⟩
 have hd0:=hd
 obtain⟨val,us,lE,hv,ec⟩:=hd
 have hu:=fun id aw=>cS x val hv id aw
 obtain⟨f1,f2,f3,f4,f5⟩:=cY (H:=hp o nx) hH x.ids hu
 have fA:(hp o nx).put (bG o x.ids)=hp (put o (bG o x.ids)) nx:=Bb (fun y hy=>by
  simp only[bG,List.mem_map]at hy
  obtain⟨id,aw,rfl⟩:=hy
  exact hu id aw)
 have U8:=f1;have U9:=f2
 rw[show bG (hp o nx).o x.ids=bG o x.ids from rfl,fA]at U8 U9
 have O7:∀k,cI φ ((hp o nx).put (bG o x.ids)) k->cI φ (hp o nx) k:=by
  rintro k ⟨id,g1,g2⟩
  by_cases aw:id∈x.ids
  ·have:=f3 id aw
   rw[show((hp o nx).put (bG o x.ids)).o id=_ from this]at g1
   refine⟨id, ?_,g2⟩
   revert g1
   cases(hp o nx).o id<;>simp[ad.fz,ad.live]
  ·have:=f4 id aw
   exact S0
 have zH:∀j,kz (((hp o nx).put (bG o x.ids)).o j) ((hp o nx).o j):=fun j=>by
  by_cases hm:j∈x.ids
  ·exact Sp
  ·exact Si
 have h4:=V.ke (H:=hp o nx) (H':=(hp o nx).put (bG o x.ids)) (B:=ao M φ (hp o nx)) (B':=ao M φ ((hp o nx).put (bG o x.ids))) (fun k h h'=>h (h'.imp id (O7 k))) x val (fun id aw=>⟨zH id,rfl,(f5 id).2 ((V.jF x val hv) id aw)⟩) hv
 have h5:=eN f1 (o:=o) x d val (fun id aw=>f3 id aw) hx h4
 have h6:=V.eG (H:=hp o nx) (H':=(hp o nx).put (bG o x.ids)) (B:=ao M φ (hp o nx)) (B':=ao M φ ((hp o nx).put (bG o x.ids))) (fun k h h'=>h (h'.imp id (O7 k))) rest us (fun id aw=>⟨zH id,rfl,(f5 id).2 ((V.eo rest us ec) id aw)⟩) ec
 rw[show(hp o nx).put (bG (hp o nx).o x.ids)=hp (put o (bG o x.ids)) nx from fA]at h5
 rw[fA]at h6
 refine(h.2 M φ w vals U8 ⟨val,us,lE,h5,h6⟩).mono ?_
 rintro e w' ⟨aH,o',nx',v,k1,k2,k3⟩
 exact⟨aH,o',nx',v,k1,U9.trans k2,k3⟩
theorem mL{B:Nat->Prop}{φ:Place}{H:Hp}{w:World}:∀ (pre:List V) (x:V) (rest:List V) (vals:List Value),V.aF B φ H w (pre++x::rest) vals↔∃v1 val us,vals=v1++val::us/\V.aF B φ H w pre v1/\V.den B φ H w x val/\V.aF B φ H w rest us
 |[],x,rest,vals=>by
  constructor
  ·rintro⟨u,us,h1,h2,h3⟩;exact⟨[],u,us,h1,rfl,h2,h3⟩
  ·rintro⟨v1,u,us,h1,h0,h2,h3⟩
   have h0:v1=[]:=h0
   subst h0
   exact⟨u,us,h1,h2,h3⟩
 |a::pre,x,rest,vals=>by
  constructor
  ·rintro⟨u,us,h1,h2,h3⟩
   obtain⟨v1,val,us',g1,g2,g3,g4⟩:=(mL pre x rest us).1 h3
   exact⟨u::v1,val,us',by rw[h1,g1];rfl,⟨u,v1,rfl,h2,g2⟩,g3,g4⟩
  ·rintro⟨v1,val,us',g1,⟨u,v2,g5,g6,g7⟩,g3,g4⟩
   subst g5
   exact⟨u,v2++val::us',by rw[g1];rfl,g6,(mL pre x rest _).2 ⟨v2,val,us',rfl,g7,g3,g4⟩⟩
theorem bP.YM {P:Program}{g:FuncId}(pre:List V){x:V}{d:D}{rest:List V}{o:Nat->ad}{nx:Nat}{K X:V->(Nat->ad)->Nat->Prop}(hx:dM o x=some d)
 (h:bP P g (pre++ .d d::rest) (put o (bG o x.ids)) nx K X):bP P g (pre++x::rest) o nx K X:=by
 refine⟨h.1,fun M φ w vals hH hd=> ?_⟩
 have hd0:=hd
 obtain⟨v1,val,us,lE,pY,hv,ec⟩:=(mL pre x rest vals.toList).1 hd
 have hu:=fun id aw=>cS x val hv id aw
 obtain⟨f1,f2,f3,f4,f5⟩:=cY (H:=hp o nx) hH x.ids hu
 have fA:(hp o nx).put (bG o x.ids)=hp (put o (bG o x.ids)) nx:=Bb (fun y hy=>by
  simp only[bG,List.mem_map]at hy
  obtain⟨id,aw,rfl⟩:=hy
  exact hu id aw)
 have U8:=f1;have U9:=f2
 rw[show bG (hp o nx).o x.ids=bG o x.ids from rfl,fA]at U8 U9
 have O7:∀k,cI φ ((hp o nx).put (bG o x.ids)) k->cI φ (hp o nx) k:=by
  rintro k ⟨id,g1,g2⟩
  by_cases aw:id∈x.ids
  ·have:=f3 id aw
   rw[show((hp o nx).put (bG o x.ids)).o id=_ from this]at g1
   refine⟨id, ?_,g2⟩
   revert g1
   cases(hp o nx).o id<;>simp[ad.fz,ad.live]
  ·have:=f4 id aw
   exact S0
 have zH:∀j,kz (((hp o nx).put (bG o x.ids)).o j) ((hp o nx).o j):=fun j=>by
  by_cases hm:j∈x.ids
  ·exact Sp
  ·exact Si
 have h4:=V.ke (H:=hp o nx) (H':=(hp o nx).put (bG o x.ids)) (B:=ao M φ (hp o nx)) (B':=ao M φ ((hp o nx).put (bG o x.ids))) (fun k h h'=>h (h'.imp id (O7 k))) x val (fun id aw=>⟨zH id,rfl,(f5 id).2 ((V.jF x val hv) id aw)⟩) hv
 have h5:=eN f1 (o:=o) x d val (fun id aw=>f3 id aw) hx h4
 have h6:=V.eG (H:=hp o nx) (H':=(hp o nx).put (bG o x.ids)) (B:=ao M φ (hp o nx)) (B':=ao M φ ((hp o nx).put (bG o x.ids))) (fun k h h'=>h (h'.imp id (O7 k))) rest us (fun id aw=>⟨zH id,rfl,(f5 id).2 ((V.eo rest us ec) id aw)⟩) ec
 have h7:=V.eG (H:=hp o nx) (H':=(hp o nx).put (bG o x.ids)) (B:=ao M φ (hp o nx)) (B':=ao M φ ((hp o nx).put (bG o x.ids))) (fun k h h'=>h (h'.imp id (O7 k))) pre v1 (fun id aw=>⟨zH id,rfl,(f5 id).2 ((V.eo pre v1 pY) id aw)⟩) pY
 rw[show(hp o nx).put (bG (hp o nx).o x.ids)=hp (put o (bG o x.ids)) nx from fA]at h5
 rw[fA]at h6 h7
 refine(h.2 M φ w vals U8 ((mL pre (.d d) rest vals.toList).2 ⟨v1,val,us,lE,h7,h5,h6⟩)).mono ?_
 rintro e w' ⟨aH,o',nx',v,k1,k2,k3⟩
 exact⟨aH,o',nx',v,k1,U9.trans k2,k3⟩
end Go.Proofs.YtlhemmpklhhgoaaGreat
