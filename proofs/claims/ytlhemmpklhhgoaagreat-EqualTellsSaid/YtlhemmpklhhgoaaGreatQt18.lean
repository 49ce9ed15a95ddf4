/-
  A PART OF THE PROOF. Conditions: none.
-/
import Derived.Test.YtlhemmpklhhgoaaGreatQt17
set_option linter.unusedSimpArgs false
set_option linter.unusedVariables false
namespace Go.Proofs.YtlhemmpklhhgoaaGreat
theorem Pj{s:aF}{lim:Bool}{b:List (Int×Tm)}{l:List TB}{ρ:Int->Nat}{R:Nat}(h:lM s b l ρ R):∀ (z:Nat) (t u:Tm),Vs s t->Vs s u->(bc (ah l) t).sz<=z->bc (ah l) t=bc (ah l) u->∃g,iC lim g t u b=some (0,b):=by
 intro z
 induction z with
 |zero=>intro t u _ _ hz;have:=Tm.sJ (bc (ah l) t);omega
 |succ z ih=>
  intro t u ht hu hz he
  obtain⟨x,a1,a2,a3,a4,_,_⟩:=h.root ht
  obtain⟨y,b1,b2,b3,b4,_,_⟩:=h.root hu
  obtain⟨p1,p2,p3,p4,p5⟩:=uG h a2 a4
  obtain⟨q1,q2,q3,q4,q5⟩:=uG h b2 b4
  have X1:bc (ah l) x=bc (ah l) y:=by rw[a3,b3,he]
  have e1:x.op=y.op:=by rw[<- p1, <- q1,X1]
  have e2:x.n=y.n:=by rw[<- p2, <- q2,X1]
  have e3:x.kids.length=y.kids.length:=by rw[<- p3, <- q3,X1]
  by_cases h1:x.op=1
  ·refine⟨R+3, ?_⟩
   simp only[iC,cP a1,cP b1,if_pos h1,if_pos (e1 ▸ h1:y.op=1),if_pos e2]
  ·have h2: ¬y.op=1:=e1 ▸ h1
   have key:∀ (ks dD:List Tm),(∀k∈ks,k∈x.kids)->(∀k∈dD,k∈y.kids)->ks.map (bc (ah l))=dD.map (bc (ah l))->∃g,lg (iC lim g) ks dD b=some (0,b):=by
    intro ks
    induction ks with
    |nil=>intro dD _ _ _;exact⟨0,by simp only[lg]⟩
    |cons k ks Dp=>
     intro dD m1 m2 hm
     cases dD with
     |nil=>exact⟨0,by simp only[lg]⟩
     |cons k' dD=>
      rw[List.map_cons,List.map_cons]at hm
      injection hm with Jn M9
      have hk:=m1 k aH
      have hkz:(bc (ah l) k).sz<=z:=by
       have h3:bc (ah l) k∈(bc (ah l) x).kids:=by rw[p5 h1];exact List.mem_map.2 ⟨k,hk,rfl⟩
       have h4:=Tm.mU h3
       rw[a3]at h4
       omega
      obtain⟨g,hg⟩:=ih k k' (a2.kY hk) (b2.kY (m2 k' aH)) hkz Jn
      obtain⟨g2,hg2⟩:=Dp dD (fun y hy=>m1 y mK) (fun y hy=>m2 y mK) M9
      refine⟨max g g2, ?_⟩
      simp only[lg]
      rw[gZ hg (Nat.le_max_left _ _)]
      exact lO (fun k k' b r hk=>gZ hk (Nat.le_max_right _ _)) hg2
   obtain⟨g,hg⟩:=key x.kids y.kids (fun _ h=>h) (fun _ h=>h) (by rw[<- p5 h1, <- q5 h2,X1])
   refine⟨max g (R+2)+1, ?_⟩
   simp only[iC]
   rw[cP a1,cP b1]
   simp only[if_neg h1,if_neg h2,if_pos (⟨e1,e2,e3⟩:x.op=y.op/\x.n=y.n/\x.kids.length=y.kids.length)]
   exact lO (fun k k' b r hk=>gZ hk (Nat.le_max_left _ _)) hg
def EqR(s:aF)(lim:Bool)(r:List TB×Bool)(e:Int)(b':List (Int×Tm)):Prop:=
 (e=0/\r.2=true/\∃L5 R',lM s b' r.1 L5 R')\/(e=5/\r.2=false)\/(e=3/\lim=true)
theorem A3{s:aF}{lim:Bool}{b:List (Int×Tm)}{l:List TB}{ρ:Int->Nat}{R:Nat}(h:lM s b l ρ R)(hl:jh s l){n:Int}{y:Tm}(hn:bR b n=none)(hy:Vs s y):
 EqR s lim (jg l n (bc (ah l) y), !(cJ (bc (ah l) y)).contains n) (eB lim b n y).1 (eB lim b n y).2:=by
 have hc:(cJ (bc (ah l) y)).contains n=true↔gC n (bc (ah l) y)=true:=by rw[List.contains_iff_mem];exact(dE _).2 _
 have hr:=AV h hl hn hy
 unfold eB
 by_cases h1:mH b n y
 ·rw[if_pos h1]
  exact .inr (.inl ⟨rfl,by rw[hc.2 (hr.2 h1)];rfl⟩)
 ·rw[if_neg h1]
  split
  ·rename_i h2
   exact .inr (.inr ⟨rfl,h2.1⟩)
  ·refine .inl ⟨rfl, ?_,h.ext hl hn hy fun hf=>h1 (hr.1 hf)⟩
   cases hcc:(cJ (bc (ah l) y)).contains n with
   |false=>rfl
   |true=>exact absurd (hr.1 (hc.1 hcc)) h1
theorem Fk{s:aF}{lim:Bool}:∀ (f:Nat) (a c:Tm) (l:List TB) (r:List TB×Bool),fZ f a c l=some r->jh s l->Vs s a->Vs s c->∀ (t u:Tm) (b:List (Int×Tm)) (ρ:Int->Nat) (R:Nat),lM s b l ρ R->Vs s t->Vs s u->bc (ah l) t=bc (ah l) a->bc (ah l) u=bc (ah l) c->
 ∃g e b',iC lim g t u b=some (e,b')/\EqR s lim r e b'
 |0,_,_,_,_,h,_,_,_,_,_,_,_,_,_,_,_,_,_=>by cases h
 |f+1,a,c,l,r,h,hl,ha,hc,t,u,b,ρ,R,hs,ht,hu,eta,euc=>by
  obtain⟨x,a1,a2,a3,a4,_,_⟩:=hs.root ht
  obtain⟨y,b1,b2,b3,b4,_,_⟩:=hs.root hu
  obtain⟨p1,p2,p3,p4,p5⟩:=uG hs a2 a4
  obtain⟨q1,q2,q3,q4,q5⟩:=uG hs b2 b4
  have ex:bc (ah l) a=bc (ah l) x:=by rw[a3,eta]
  have ey:bc (ah l) c=bc (ah l) y:=by rw[b3,euc]
  simp only[fZ,ex,ey,p1,q1,p2,q2,p3,q3]at h
  split at h
  ·rename_i xh
   injection h with h
   subst h
   rw[gB]at xh
   obtain⟨g,hg⟩:=Pj (lim:=lim) hs _ t u ht hu (Nat.le_refl _) (by rw[<- a3, <- b3,xh])
   exact⟨g,0,b,hg, .inl ⟨rfl,rfl,ρ,R,hs⟩⟩
  ·rename_i jo
   split at h
   ·rename_i He
    injection h with h
    subst h
    obtain⟨h1,h2⟩:=He
    have X1:x.n≠y.n:=fun e=>jo (by rw[gB,p4 h1,q4 h2,a2.eta h1,b2.eta h2];rw[e])
    have rx:=a2.range ((iF h1).2 rfl)
    have ry:=b2.range ((iF h2).2 rfl)
    have Pk:bR b (max x.n y.n)=none:=by
     rw[Int.max_def];split
     ·exact b4 h2
     ·exact a4 h1
    have lmn:bR b (min x.n y.n)=none:=by
     rw[Int.min_def];split
     ·exact a4 h1
     ·exact b4 h2
    have hvm:bc (ah l) (.mk 1 (min x.n y.n) [])= .mk 1 (min x.n y.n) []:=by
     rw[pU];simp[Lv,(hs.AU _).1 lmn]
    have hb:=A3 (lim:=lim) hs hl Pk (Vs.var (s:=s) (v:=min x.n y.n) af)
    rw[hvm]at hb
    have hnc:(cJ (Tm.mk 1 (min x.n y.n) [])).contains (max x.n y.n)=false:=by
     rw[Bool.eq_false_iff,Ne,List.contains_iff_mem,(dE _).2,nR]
     simp
     omega
    rw[hnc]at hb
    exact⟨R+3,_,_,by simp only[iC,cP a1,cP b1,if_pos h1,if_pos h2,if_neg X1],hb⟩
   ·rename_i He
    split at h
    ·rename_i h1
     injection h with h
     subst h
     have h2: ¬y.op=1:=fun h2=>He ⟨h1,h2⟩
     exact⟨R+3,_,_,by simp only[iC,cP a1,cP b1,if_pos h1,if_neg h2],A3 hs hl (a4 h1) b2⟩
    ·rename_i h1
     split at h
     ·rename_i h2
      injection h with h
      subst h
      exact⟨R+3,_,_,by simp only[iC,cP a1,cP b1,if_neg h1,if_pos h2],A3 hs hl (b4 h2) a2⟩
     ·rename_i h2
      split at h
      ·rename_i h3
       injection h with h
       subst h
       refine⟨R+3,5,b, ?_, .inr (.inl ⟨rfl,rfl⟩)⟩
       simp only[iC,cP a1,cP b1,if_neg h1,if_neg h2]
       rw[if_neg]
       rintro⟨g1,g2,g3⟩
       rcases h3 with h3|h3|h3
       ·exact h3 g1
       ·exact h3 g2
       ·exact h3 g3
      ·rename_i h3
       have j6:x.op=y.op/\x.n=y.n/\x.kids.length=y.kids.length:=⟨Classical.byContradiction fun e=>h3 (Or.inl e),Classical.byContradiction fun e=>h3 (Or.inr (Or.inl e)),Classical.byContradiction fun e=>h3 (Or.inr (Or.inr e))⟩
       have key:∀ (xs ys:List Tm) (l1:List TB) (b:List (Int×Tm)) (ρ:Int->Nat) (R:Nat),(∀k∈xs,Vs s k)->(∀k∈ys,Vs s k)->jh s l1->oO l l1->lM s b l1 ρ R->dw (fZ f) (xs.map (bc (ah l))) (ys.map (bc (ah l))) l1=some r->
        ∃g e b',lg (iC lim g) xs ys b=some (e,b')/\EqR s lim r e b':=by
        intro xs
        induction xs with
        |nil=>intro ys l1 b ρ R _ _ rJ _ oJ h;simp only[List.map_nil,dw]at h;injection h with h;subst h;exact⟨0,0,b,by simp only[lg], .inl ⟨rfl,rfl,ρ,R,oJ⟩⟩
        |cons k xs Dp=>
         intro ys l1 b ρ R m1 m2 rJ he oJ h
         cases ys with
         |nil=>simp only[List.map_nil,List.map_cons,dw]at h;injection h with h;subst h;exact⟨0,0,b,by simp only[lg], .inl ⟨rfl,rfl,ρ,R,oJ⟩⟩
         |cons k' ys=>
          have vk:=m1 k aH
          have vk':=m2 k' aH
          have vsk:=Vs.sub hl.bd k vk
          have ac3:=Vs.sub hl.bd k' vk'
          simp only[List.map_cons,dw]at h
          cases e:fZ f (bc (ah l) k) (bc (ah l) k') l1 with
          |none=>rw[e]at h;cases h
          |some r1=>
           obtain⟨g,e1,b',g1,g2⟩:=Fk (lim:=lim) f _ _ l1 r1 e rJ vsk ac3 k k' b ρ R oJ vk vk' (he.sub vk).symm (he.sub vk').symm
           obtain⟨l2,ok⟩:=r1
           rw[e]at h
           rcases g2 with⟨e0,rfl,ρ2,R2,DV⟩|⟨e0,rfl⟩|⟨e0,hlm⟩
           ·simp only at h
            obtain⟨o1,o2⟩:=wI f _ _ l1 l2 e rJ vsk ac3
            obtain⟨g',e2,b2,k1,k2⟩:=Dp ys l2 b' ρ2 R2 (fun y hy=>m1 y mK) (fun y hy=>m2 y mK) o1 (he.trans hl o2 fun v=>hl.AU) DV h
            refine⟨max g g',e2,b2, ?_,k2⟩
            simp only[lg]
            rw[gZ g1 (Nat.le_max_left _ _)]
            dsimp only
            rw[if_pos e0]
            exact lO (fun k k' b r hk=>gZ hk (Nat.le_max_right _ _)) k1
           ·simp only at h
            injection h with h
            subst h
            refine⟨g,e1,b', ?_, .inr (.inl ⟨e0,rfl⟩)⟩
            simp only[lg,g1]
            rw[if_neg (by omega)]
           ·refine⟨g,e1,b', ?_, .inr (.inr ⟨e0,hlm⟩)⟩
            simp only[lg,g1]
            rw[if_neg (by omega)]
       rw[p5 h1,q5 h2]at h
       obtain⟨g,e,b',g1,g2⟩:=key x.kids y.kids l b ρ R (fun k hk=>a2.kY hk) (fun k hk=>b2.kY hk) hl (oO.refl hl) hs h
       refine⟨max g (R+2)+1,e,b', ?_,g2⟩
       simp only[iC]
       rw[cP a1,cP b1]
       simp only[if_neg h1,if_neg h2,if_pos j6]
       exact lO (fun k k' b r hk=>gZ hk (Nat.le_max_left _ _)) g1
theorem rm{s:aF}{t:Tm}:bn s t=true↔kU s=true/\(t.sz<=40/\t.mm<=12)/\Vs s t:=by
 unfold bn ja
 simp only[Bool.and_eq_true,List.all_cons,List.all_nil,Bool.and_true,pQ]
 constructor
 ·rintro⟨⟨h1,h2⟩,h3⟩
  rw[ow h2]at h3
  have h4:=G2 h2
  rw[gA,Bool.and_eq_true]at h2
  exact⟨h1,h4.2,h2.2,h3⟩
 ·rintro⟨h1,h2,h3,h4⟩
  have h5:gA s t=true:=by
   rw[gA,Bool.and_eq_true,decide_eq_true_eq,q8]
   exact⟨af,h3⟩
  exact⟨⟨h1,h5⟩,by rw[ow h5];exact h4⟩
theorem uK{s:aF}{t k:Tm}(h:bn s t=true)(hk:k∈t.kids):bn s k=true:=by
 obtain⟨h0,⟨h1,h2⟩,h3⟩:=rm.1 h
 have hz:=Tm.mU hk
 have hh:=Tm.qP hk
 exact rm.2 ⟨h0,⟨af,af⟩,h3.kY hk⟩
theorem Hf{s:aF}(hs:kU s=true){v:Int}(h:0<=v/\v<20):bn s (.mk 1 v [])=true:=by
 refine rm.2 ⟨hs,⟨?_, ?_⟩,Vs.var h⟩
 ·rw[Tm.jR];simp[Tm.kids,rK]
 ·rw[Tm.pP];simp[Tm.kids,Tm.iM]
structure Inv (s:aF) (lim:Bool) (b:List (Int×Tm)):Prop where
 ok:∀p∈b,(0<=p.1/\p.1<20)/\bn s p.2=true
 SU:lim=true->∀p∈b,ui b p.2
theorem wN{s:aF}{b:List (Int×Tm)}(hb:∀p∈b,bn s p.2=true):∀ (f:Nat) (t x:Tm),jY f b t=some x->bn s t=true->bn s x=true
 |0,_,_,h,_=>by cases h
 |f+1,t,x,h,ht=>by
  simp only[jY]at h
  split at h
  ·split at h
   ·rename_i y hy;exact wN hb f y x h (hb _ (cK hy))
   ·exact Hx
  ·exact Hx
theorem A4{s:aF}{lim:Bool}{b:List (Int×Tm)}(h:Inv s lim b){n:Int}{y:Tm}(hn:0<=n/\n<20)(hy:bn s y=true)(h0:(eB lim b n y).1=0):Inv s lim (eB lim b n y).2/\∃ext,(eB lim b n y).2=b++ext:=by
 unfold eB at h0|-
 split at h0
 ·exact FO
 ·rename_i h1
  rw[if_neg h1]
  split at h0
  ·exact FO
  ·rename_i h2
   rw[if_neg h2]
   refine⟨⟨fun p hp=> ?_,fun hl=> ?_⟩,_,rfl⟩
   ·rcases List.mem_append.1 hp with hp|hp
    ·exact h.ok p hp
    ·simp at hp;subst hp;exact⟨hn,hy⟩
   ·exact Classical.byContradiction fun hc=>h2 ⟨hl,hc⟩
theorem oB{s:aF}{t:Tm}(h:bn s t=true)(h1:t.op=1):(0<=t.n/\t.n<20)/\t= .mk 1 t.n []:=by
 have hv:=(b9 h).1
 exact⟨hv.range ((iF h1).2 rfl),hv.eta h1⟩
theorem eq_inv{s:aF}{lim:Bool}:∀ (f:Nat) (t u:Tm) (b b':List (Int×Tm)),iC lim f t u b=some (0,b')->Inv s lim b->bn s t=true->bn s u=true->Inv s lim b'/\∃ext,b'=b++ext
 |0,_,_,_,_,h,_,_,_=>by cases h
 |f+1,t,u,b,b',h,hb,ht,hu=>by
  simp only[iC]at h
  cases ha:gD b t with
  |none=>rw[ha]at h;cases h
  |some x=>
  cases hc:gD b u with
  |none=>rw[ha,hc]at h;cases h
  |some y=>
  rw[ha,hc]at h
  dsimp only at h
  obtain⟨ga,Md⟩:=lN ha
  obtain⟨gc,vr⟩:=lN hc
  have hx:=wN (fun p hp=>(hb.ok p hp).2) ga t x Md ht
  have hy:=wN (fun p hp=>(hb.ok p hp).2) gc u y vr hu
  by_cases h1:x.op=1
  ·obtain⟨rx,ex⟩:=oB hx h1
   rw[if_pos h1]at h
   by_cases h2:y.op=1
   ·obtain⟨ry,ey⟩:=oB hy h2
    rw[if_pos h2]at h
    by_cases h3:x.n=y.n
    ·exact QL
    ·rw[if_neg h3]at h
     injection h with h
     have:=A4 hb (n:=max x.n y.n) (y:= .mk 1 (min x.n y.n) []) af (Hf (rm.1 hx).1 af) (by rw[h])
     rwa [h]at this
   ·rw[if_neg h2]at h
    injection h with h
    have:=A4 hb rx hy (by rw[h])
    rwa [h]at this
  ·rw[if_neg h1]at h
   by_cases h2:y.op=1
   ·obtain⟨ry,ey⟩:=oB hy h2
    rw[if_pos h2]at h
    injection h with h
    have:=A4 hb ry hx (by rw[h])
    rwa [h]at this
   ·rw[if_neg h2]at h
    split at h
    ·have key:∀ (ks dD:List Tm) (b:List (Int×Tm)),(∀k∈ks,bn s k=true)->(∀k∈dD,bn s k=true)->Inv s lim b->lg (iC lim f) ks dD b=some (0,b')->Inv s lim b'/\∃ext,b'=b++ext:=by
      intro ks
      induction ks with
      |nil=>
       exact ZH
      |cons k ks ih=>
       intro dD b m1 m2 hb h
       cases dD with
       |nil=>
        exact Za
       |cons k' dD=>
        simp only[lg]at h
        cases he:iC lim f k k' b with
        |none=>rw[he]at h;cases h
        |some q=>
         obtain⟨e1,b1⟩:=q
         rw[he]at h
         dsimp only at h
         by_cases e0:e1=0
         ·rw[if_pos e0]at h
          subst e0
          obtain⟨g1,x1,g2⟩:=eq_inv f k k' b b1 he hb (m1 k aH) (m2 k' aH)
          exact Zj
         ·exact QG
     exact key x.kids y.kids b (fun k hk=>uK hx hk) (fun k hk=>uK hy hk) hb h
    ·injection h with h
     injection h with h _
     exact absurd h bD
def rn(b:List (Int×Tm)):List TB:=b.map fun p=>⟨p.1,p.2⟩
theorem uL(b:List (Int×Tm)):ah (rn b)=b:=by
 unfold ah rn
 rw[List.map_map]
 exact List.map_id _
theorem dP(l l':List TB):ah (l++l')=ah l++ah l':=List.map_append
theorem Hg{s:c6}(h:bO s){a c:Tm}(ha:bn s.sig a=true)(hc:bn s.sig c=true):∃f e b',iC true f a c (ah s.binds)=some (e,b')/\((e=0/\∃ext,b'=ah (s.binds++ext)/\ji s.sig (s.binds++ext))\/e=5\/e=3):=by
 obtain⟨l,ρ,R,hS,hl⟩:=oA h.kZ.keys h.kZ.ok h.kZ.I2
 have va:=(b9 ha).1
 have vc:=(b9 hc).1
 obtain⟨f,r,hr⟩:=y9 _ _ a c l (Nat.le_refl _) (Nat.le_refl _) hl va vc
 obtain⟨g,e,b',h1,h2⟩:=Fk (lim:=true) f a c l r hr hl va vc a c _ ρ R hS va vc rfl rfl
 refine⟨g,e,b',h1, ?_⟩
 rcases h2 with⟨rfl,_,L5,R',I7⟩|⟨rfl,_⟩|⟨rfl,_⟩
 ·left
  refine⟨rfl, ?_⟩
  obtain⟨hI,ext,hx⟩:=eq_inv g a c _ b' h1 ⟨fun p hp=>by obtain⟨x,hx,rfl⟩:=dz hp;exact h.kZ.ok x hx,fun _ p hp=>by obtain⟨x,hx,rfl⟩:=dz hp;exact h.kZ.SU x hx⟩ ha hc
  have hb:b'=ah (s.binds++rn ext):=by rw[dP,uL,hx]
  have hk:=I7.keys
  rw[hb]at hk hI I7
  refine⟨rn ext,hb,⟨?_,hk,fun x hx=>hI.ok _ (gY hx),I7.I2,fun x hx=>hI.SU rfl _ (gY hx)⟩⟩
  have:=Dv hk fun v hv=>by
   obtain⟨p,hp,rfl⟩:=List.mem_map.1 hv
   exact(hI.ok p hp).1
  rw[List.length_map]at this
  unfold ah at this
  rwa [List.length_map]at this
 ·exact .inr (.inl rfl)
 ·exact .inr (.inr rfl)
theorem wO{nb nn nb' nn':Int}(h1:nb<=nb')(h2:nn<=nn'):∀ {l:List (Int×Int)} {a:Int×Int},sV nb nn a l=true->sV nb' nn' a l=true
 |[],_,_=>rfl
 |x::l,a,h=>by
  simp only[sV,Bool.and_eq_true,Bool.not_eq_true',Bool.or_eq_false_iff,decide_eq_false_iff_not]at h|-
  obtain⟨⟨⟨⟨g1,g2⟩,g3⟩,g4⟩,g5⟩:=h
  exact⟨⟨⟨⟨g1,af⟩,g3⟩,af⟩,wO h1 h2 g5⟩
theorem Pl{s:c6}(h:bO s){ext:List TB}(hb:ji s.sig (s.binds++ext))(hn:∀n∈s.aJ, ¬A1 (ah (s.binds++ext)) n):bO ⟨s.sig,s.binds++ext,s.aJ,s.marks⟩:=
 ⟨h.sig,h.wM,h.I6,hb,fun n hm=>⟨(h.aJ n hm).1,(h.aJ n hm).2.1,hn n hm⟩,wO fI (Int.le_refl _) h.marks⟩
theorem I8{s:c6}(h:bO s){n:Nt}(ha:bn s.sig n.a=true)(hc:bn s.sig n.b=true)(hn: ¬A1 (ah s.binds) n)(hl:s.aJ.length<12):bO ⟨s.sig,s.binds,s.aJ++[n],s.marks⟩:=
 ⟨h.sig,by simp;omega,h.I6,h.kZ,fun m hm=>by
   rcases List.mem_append.1 hm with hm|hm
   ·exact h.aJ m hm
   ·simp at hm;subst hm;exact⟨ha,hc,hn⟩,wO (Int.le_refl _) fI h.marks⟩
structure QT (s:aF) (t:Tm):Prop where
 vs:Vs s t
 sz:t.sz<=2000
theorem QT.kY {s:aF}{t k:Tm}(h:QT s t)(hk:k∈t.kids):QT s k:=⟨h.vs.kY hk,by have:=Tm.mU hk;have:=h.sz;omega⟩
theorem QT.fits {s:aF}{t:Tm}(h:QT s t):t.fits:=Tm.dv t (by have:=h.sz;omega)
theorem QT.var {s:aF}{v:Int}(h:0<=v/\v<20):QT s (.mk 1 v []):=⟨Vs.var h,by rw[Tm.jR];simp[Tm.kids,rK]⟩
theorem QT.eta {s:aF}{t:Tm}(h:QT s t)(h1:t.op=1):(0<=t.n/\t.n<20)/\t= .mk 1 t.n []:=⟨h.vs.range ((iF h1).2 rfl),h.vs.eta h1⟩
theorem jU{s:aF}{t:Tm}(h:bn s t=true):QT s t:=⟨(b9 h).1,by have:=(b9 h).2.1;omega⟩
structure oC (s:aF) (b:List (Int×Tm)):Prop where
 keys:(b.map (·.1)).Nodup
 ok:∀p∈b,(0<=p.1/\p.1<20)/\QT s p.2
 I2:Wn b
theorem oC.nil {s:aF}:oC s []:=⟨List.nodup_nil,fun _ h=>oU,fun _ _ h=>by cases h⟩
theorem oC.sim {s:aF}{b:List (Int×Tm)}(h:oC s b):∃l ρ R,lM s b l ρ R/\jh s l:=Ma h.keys (fun p hp=>⟨(h.ok p hp).1,(h.ok p hp).2.vs⟩) h.I2
theorem ac4{P:Tm->Prop}{b:List (Int×Tm)}(hb:∀p∈b,P p.2):∀ (f:Nat) (t x:Tm),jY f b t=some x->P t->P x
 |0,_,_,h,_=>by cases h
 |f+1,t,x,h,ht=>by
  simp only[jY]at h
  split at h
  ·split at h
   ·rename_i y hy;exact ac4 hb f y x h (hb _ (cK hy))
   ·exact Hx
  ·exact Hx
theorem e7{s:aF}{b:List (Int×Tm)}(h:oC s b){t:Tm}(ht:QT s t):∃x,gD b t=some x/\QT s x/\(x.op=1->bR b x.n=none):=by
 obtain⟨l,ρ,R,hS,hl⟩:=h.sim
 obtain⟨x,a1,a2,a3,a4,_⟩:=hS.root ht.vs
 exact⟨x,cP a1,ac4 (fun p hp=>(h.ok p hp).2) _ t x a1 ht,a4⟩
theorem wP{s:aF}{b:List (Int×Tm)}(h:oC s b){n:Int}{y:Tm}(hn:bR b n=none)(hr:0<=n/\n<20)(hy:QT s y)(Nk: ¬mH b n y):oC s (b++[(n,y)]):=by
 obtain⟨l,ρ,R,hS,hl⟩:=h.sim
 obtain⟨L5,R',h'⟩:=hS.ext hl hn hy.vs fun hf=>Nk ((AV hS hl hn hy.vs).1 hf)
 refine⟨h'.keys,fun p hp=> ?_,h'.I2⟩
 rcases List.mem_append.1 hp with hp|hp
 ·exact h.ok p hp
 ·simp at hp;subst hp;exact⟨hr,hy⟩
theorem oD{s:aF}{lim:Bool}{b:List (Int×Tm)}(h:oC s b){n:Int}{y:Tm}(hn:bR b n=none)(hr:0<=n/\n<20)(hy:QT s y)(h0:(eB lim b n y).1=0):oC s (eB lim b n y).2/\∃ext,(eB lim b n y).2=b++ext:=by
 unfold eB at h0|-
 split at h0
 ·exact FO
 ·rename_i h1
  rw[if_neg h1]
  split at h0
  ·exact FO
  ·rename_i h2
   rw[if_neg h2]
   exact⟨wP h hn hr hy h1,_,rfl⟩
theorem sW{s:aF}{lim:Bool}:∀ (f:Nat) (t u:Tm) (b b':List (Int×Tm)),iC lim f t u b=some (0,b')->oC s b->QT s t->QT s u->oC s b'/\∃ext,b'=b++ext
 |0,_,_,_,_,h,_,_,_=>by cases h
 |f+1,t,u,b,b',h,hb,ht,hu=>by
  simp only[iC]at h
  obtain⟨x,ha,hx,Kn⟩:=e7 hb ht
  obtain⟨y,hc,hy,hyu⟩:=e7 hb hu
  rw[ha,hc]at h
  dsimp only at h
  by_cases h1:x.op=1
  ·obtain⟨rx,ex⟩:=hx.eta h1
   rw[if_pos h1]at h
   by_cases h2:y.op=1
   ·obtain⟨ry,ey⟩:=hy.eta h2
    rw[if_pos h2]at h
    by_cases h3:x.n=y.n
    ·exact QL
    ·rw[if_neg h3]at h
     injection h with h
     have Pk:bR b (max x.n y.n)=none:=by
      rw[Int.max_def];split
      ·exact hyu h2
      ·exact Kn h1
     have:=oD hb Pk (y:= .mk 1 (min x.n y.n) []) af (QT.var af) (by rw[h])
     rwa [h]at this
   ·rw[if_neg h2]at h
    injection h with h
    have:=oD hb (Kn h1) rx hy (by rw[h])
    rwa [h]at this
  ·rw[if_neg h1]at h
   by_cases h2:y.op=1
   ·obtain⟨ry,ey⟩:=hy.eta h2
    rw[if_pos h2]at h
    injection h with h
    have:=oD hb (hyu h2) ry hx (by rw[h])
    rwa [h]at this
   ·rw[if_neg h2]at h
    split at h
    ·have key:∀ (ks dD:List Tm) (b:List (Int×Tm)),(∀k∈ks,QT s k)->(∀k∈dD,QT s k)->oC s b->lg (iC lim f) ks dD b=some (0,b')->oC s b'/\∃ext,b'=b++ext:=by
      intro ks
      induction ks with
      |nil=>
       exact ZH
      |cons k ks ih=>
       intro dD b m1 m2 hb h
       cases dD with
       |nil=>
        exact Za
       |cons k' dD=>
        simp only[lg]at h
        cases he:iC lim f k k' b with
        |none=>rw[he]at h;cases h
        |some q=>
         obtain⟨e1,b1⟩:=q
         rw[he]at h
         dsimp only at h
         by_cases e0:e1=0
         ·rw[if_pos e0]at h
          subst e0
          obtain⟨g1,x1,g2⟩:=sW f k k' b b1 he hb (m1 k aH) (m2 k' aH)
          exact Zj
         ·exact QG
     exact key x.kids y.kids b (fun k hk=>hx.kY hk) (fun k hk=>hy.kY hk) hb h
    ·injection h with h
     injection h with h _
     exact absurd h bD
theorem ac5{s:aF}{b:List (Int×Tm)}{l:List TB}{ρ:Int->Nat}{R:Nat}(h:lM s b l ρ R){M:Nat}(hM:∀p∈b,p.2.mm<=M):∀ (r:Nat) (t:Tm),Vs s t->(∀u,gC u t=true->ρ u<r)->(bc (ah l) t).mm<=t.mm+sS b ρ r*M:=by
 intro r
 induction r using Nat.strongRecOn with
 |ind r ihr=>
  refine Tm.eY fun t ih ht hr=> ?_
  by_cases h1:t.op=1
  ·have hv:gC t.n t=true:=(iF h1).2 rfl
   rw[je ht h1]
   cases hx:bR b t.n with
   |none=>
    rw[show Lv (ah l) t.n= .mk 1 t.n [] by simp[Lv,(h.AU _).1 hx], <- ht.eta h1]
    omega
   |some x=>
    obtain⟨g1,g2,g3⟩:=h.ok _ _ hx
    have h3:=G8 hx (hr _ hv)
    have h4:=ihr _ (hr _ hv) x g1 g3
    have h5:=hM _ (cK hx)
    have h6:(sS b ρ (ρ t.n)+1)*M<=sS b ρ r*M:=Nat.mul_le_mul_right _ h3
    rw[Nat.add_mul,Nat.one_mul]at h6
    rw[g2]
    dsimp only at h5
    omega
  ·rw[jf h1,Tm.pP,Tm.pP t]
   show 1+Tm.iM (t.kids.map (bc (ah l)))<=1+Tm.iM t.kids+sS b ρ r*M
   have:Tm.iM (t.kids.map (bc (ah l)))<=Tm.iM t.kids+sS b ρ r*M:=by
    rw[ou]
    intro k hk
    obtain⟨k,HC,rfl⟩:=List.mem_map.1 hk
    have h2:=ih k HC (ht.kY HC) (fun u hu=>hr u ((re ht h1).2 ⟨k,HC,hu⟩))
    have h3:=(ou _ _).1 (Nat.le_refl (Tm.iM t.kids)) k HC
    omega
   omega
theorem Pm(b:List (Int×Tm))(ρ:Int->Nat)(r:Nat):sS b ρ r<=b.length:=by
 unfold sS
 exact YN
inductive Jt (b:List (Int×Tm)) (q:Tm):Nat->Tm->Prop where
 |nil:Jt b q 0 q
 |step {d:Nat} {p x k:Tm}:Jt b q d p->gD b p=some x->k∈x.kids->Jt b q (d+1) k
theorem Po{b ext:List (Int×Tm)}{v:Int}{x:Tm}(h:bR b v=some x):bR (b++ext) v=some x:=by
 induction b with
 |nil=>cases h
 |cons p b ih=>
  rw[List.cons_append]
  simp only[bR]at h|-
  split at h
  ·rename_i e;rw[if_pos e];exact h
  ·rename_i e;rw[if_neg e];exact ih h
theorem Mo{b ext:List (Int×Tm)}:∀ (f:Nat) (t x:Tm),jY f b t=some x->x.op≠1->jY f (b++ext) t=some x
 |0,_,_,h,_=>by cases h
 |f+1,t,x,h,hx=>by
  simp only[jY]at h|-
  by_cases h1:t.op=1
  ·rw[if_pos h1]at h|-
   cases e:bR b t.n with
   |none=>rw[e]at h;injection h with h;subst h;exact absurd h1 hx
   |some y=>
    rw[e]at h
    rw[Po e]
    exact Mo f y x h hx
  ·rw[if_neg h1]at h|-;exact h
theorem Jt.qt {s:aF}{b:List (Int×Tm)}(hb:oC s b){q:Tm}(hq:QT s q){d:Nat}{k:Tm}(h:Jt b q d k):QT s k:=by
 induction h with
 |nil=>exact hq
 |step h1 h2 h3 ih=>
  obtain⟨x,e,hx,_⟩:=e7 hb ih
  rw[e]at h2
  cases h2
  exact hx.kY h3
theorem Jt.app {s:aF}{b ext:List (Int×Tm)}(hb:oC s b){q:Tm}(hq:QT s q){d:Nat}{k:Tm}(h:Jt b q d k):Jt (b++ext) q d k:=by
 induction h with
 |nil=>exact .nil
 |step h1 h2 h3 ih=>
  rename_i d p x k
  obtain⟨y,e,hy,_⟩:=e7 hb (h1.qt hb hq)
  obtain rfl:x=y:=Option.some.inj (h2.symm.trans e)
  have gf:x.op≠1:=fun ho=>by
   rw[(hy.eta ho).2]at h3
   cases h3
  obtain⟨g,hg⟩:=lN e
  exact .step ih (cP (Mo g p x hg gf)) h3
theorem Jt.le {s:aF}{b:List (Int×Tm)}(hb:oC s b){q:Tm}(hq:QT s q){d:Nat}{k:Tm}(h:Jt b q d k):d+1<=42001:=by
 obtain⟨l,ρ,R,hS,hl⟩:=hb.sim
 have h1:(bc (ah l) k).mm+d<=(bc (ah l) q).mm:=by
  induction h with
  |nil=>omega
  |step h1 h2 h3 ih=>
   rename_i d p x k
   obtain⟨y,a1,a2,a3,_⟩:=hS.root (h1.qt hb hq).vs
   obtain rfl:x=y:=Option.some.inj (h2.symm.trans (cP a1))
   have gf:x.op≠1:=fun ho=>by
    rw[a2.eta ho]at h3
    cases h3
   have h4:bc (ah l) k∈(bc (ah l) x).kids:=by rw[jf gf];exact List.mem_map.2 ⟨k,h3,rfl⟩
   have h5:=Tm.qP h4
   rw[a3]at h5
   omega
 have h2:=ac5 hS (M:=2000) (fun p hp=>by have:=(hb.ok p hp).2.sz;have:=Tm.y0 p.2;omega) (R+1) q hq.vs (fun u _=>by have:=hS.bd u;omega)
 have h3:=Pm b ρ (R+1)
 have h4:b.length<=20:=by
  have:=Dv hb.keys fun v hv=>by
   obtain⟨p,hp,rfl⟩:=List.mem_map.1 hv
   exact(hb.ok p hp).1
  rwa [List.length_map]at this
 have h5:sS b ρ (R+1)*2000<=20*2000:=Nat.mul_le_mul_right _ af
 have h6:=hq.sz
 have h7:=Tm.y0 q
 omega
theorem Hh{s:aF}{lim:Bool}:∀ (f:Nat) (t u q:Tm) (b:List (Int×Tm)) (d:Nat) (r:Int×List (Int×Tm)),oC s b->QT s q->QT s u->Jt b q d t->iC lim f t u b=some r->∀F,42001<=d+F->iC lim F t u b=some r
 |0,_,_,_,_,_,_,_,_,_,_,h,_,_=>by cases h
 |f+1,t,u,q,b,d,r,hb,hq,hu,hp,h,F,hF=>by
  have hd:=hp.le hb hq
  obtain⟨F,rfl⟩:∃k,F=k+1:=⟨F - 1,af⟩
  have ht:=hp.qt hb hq
  obtain⟨x,ha,hx,Kn⟩:=e7 hb ht
  obtain⟨y,hc,hy,hyu⟩:=e7 hb hu
  simp only[iC]at h|-
  rw[ha,hc]at h|-
  dsimp only at h|-
  split at h
  ·rename_i h1;rw[if_pos h1];exact h
  ·rename_i h1
   rw[if_neg h1]
   split at h
   ·rename_i h2;rw[if_pos h2];exact h
   ·rename_i h2
    rw[if_neg h2]
    split at h
    ·rename_i h3
     rw[if_pos h3]
     have key:∀ (ks dD:List Tm) (b:List (Int×Tm)),oC s b->(∀k∈ks,Jt b q (d+1) k)->(∀k∈dD,QT s k)->lg (iC lim f) ks dD b=some r->lg (iC lim F) ks dD b=some r:=by
      intro ks
      induction ks with
      |nil=>intro dD b _ _ _ h;simpa only[lg]using h
      |cons k ks ih=>
       intro dD b hb m1 m2 h
       cases dD with
       |nil=>simpa only[lg]using h
       |cons k' dD=>
        simp only[lg]at h|-
        cases he:iC lim f k k' b with
        |none=>rw[he]at h;cases h
        |some w=>
         obtain⟨e1,b1⟩:=w
         rw[he]at h
         rw[Hh f k k' q b (d+1) _ hb hq (m2 k' (by simp)) (m1 k (by simp)) he F (by omega)]
         dsimp only at h|-
         by_cases e0:e1=0
         ·rw[if_pos e0]at h|-
          subst e0
          obtain⟨g1,x1,g2⟩:=sW f k k' b b1 he hb ((m1 k aH).qt hb hq) (m2 k' aH)
          refine ih dD b1 g1 (fun z hz=> ?_) (fun z hz=>m2 z tc) h
          rw[g2]
          exact(m1 z tc).app hb hq
         ·rw[if_neg e0]at h|-;exact h
     exact key x.kids y.kids b hb (fun k hk=> .step hp ha hk) (fun k hk=>hy.kY hk) h
    ·rename_i h3;rw[if_neg h3];exact h
theorem Mp{s:aF}{lim:Bool}{b:List (Int×Tm)}(hb:oC s b){t u:Tm}(ht:QT s t)(hu:QT s u){f:Nat}{e:Int}{b':List (Int×Tm)}(h:iC lim f t u b=some (e,b')):∃m,jT lim 1000000000 m [(t,u)] b=some (e,b'):=by
 have h1:=Hh f t u t b 0 _ hb ht hu .nil h 42001 af
 refine Fj (W:=2000) (P:=QT s) (I:=oC s) (fun t ht=>⟨?_,fun k hk=>ht.kY hk⟩) (fun b t x hb ht hx=> ?_) (fun f t u b b' h hb ht hu=>(sW f t u b b' h hb ht hu).1) 42001 t u b e b' h1 hb ht hu [] 1 (e,b') bD ?_
 ·have:=my t.kids
  have:=Tm.jR t
  have:=ht.sz
  omega
 ·obtain⟨y,e,hy,_⟩:=e7 hb ht
  rw[e]at hx
  cases hx
  exact hy
 ·split
  ·rename_i e0;subst e0;rfl
  ·rfl
end Go.Proofs.YtlhemmpklhhgoaaGreat
set_option maxHeartbeats 4000000
namespace Go.Proofs.YtlhemmpklhhgoaaGreat
theorem Wv{b:List (Int×Tm)}{f:Nat}{t x:Tm}(h:jY f b t=some x){o:Nat->ab}{id:Nat}(ho:o id=dg b):CtO Tryz.prog 112 [.mp id, .d t.d] o (.d x.d):=by
 intro nx hg K X hK
 have ck:id<nx:=hg.lt (by rw[ho];exact ab.noConfusion)
 have y1:id≠nx:=af
 have y2:∀k,id≠nx+k:=fun k=>af
 refine bZ.aG mix Lz aH ?_
 rw[OI]
 refine Tf ho y1 y2 ?_
 refine aC (fun i:Nat×Tm=>⟨aY [.mp id, .ad, .ad, .ptr nx 0, .ptr (nx+1) 0],ay (ay o nx (.row i.2.row)) (nx+1) (.row [.d (.i 0), .d (.i 0), .ax]),nx+2⟩)
  (fun i=>jY i.1 b i.2=some x) (fun i=>i.1) (f,t) h ?_ ?_
 ·exact Zi
 rintro⟨f,t⟩ hf
 simp only at hf
 cases f with
 |zero=>cases hf
 |succ f=>
 simp only[jY]at hf
 by_cases h1:t.op=1
 ·have db:(t.op==1)=true:=by simpa using h1
  rw[if_pos h1]at hf
  cases hl:bR b t.n with
  |none=>
   rw[hl]at hf
   injection hf with hf
   subst hf
   simp+contextual (disch:=first|omega|simp only[go_sem,false_implies]) only[go_sem,wrap64,if_pos,db,ho,y1,y2,Nat.add_assoc,Nat.left_eq_add,Nat.add_eq_left,Nat.add_left_cancel_iff,eE hl]
   exact hK _ _ af dB (fun j hj=>by(repeat(first|rfl|rw[aa]|rw[ae _ _ _ _ (by omega)])))
  |some z=>
   rw[hl]at hf
   obtain⟨j,hj⟩:=fP hl
   refine D1 db ho y1 y2 hj ?_
   refine aj (f,z) hf mQ (bH.bM _ af af dB (fun j hj=> ?_) ?_)
   ·have Nb:j<nx+2:=hj
    by_cases e1:j=nx
    ·subst e1;(repeat(first|rfl|rw[aa]|rw[ae _ _ _ _ (by omega)]))
    ·by_cases e2:j=nx+1
     ·exact To
     ·exact cF
   ·exact dC
 ·have db:(t.op==1)=false:=by simpa using h1
  rw[if_neg h1]at hf
  injection hf with hf
  subst hf
  refine Bs db ho y1 y2 ?_
  exact hK _ _ af dB (fun j hj=>by(repeat(first|rfl|rw[aa]|rw[ae _ _ _ _ (by omega)])))
theorem DE{P:Program}{g:FuncId}{K:KD}{X:XD}{o:Nat->ab}{nx fr:Nat}{all:List V}{ds:List D}{rd0 rd:List Nat}{rs:List D}{Δ:List (Nat×ab)}(mJ:rd.all (fun id=>decide (id<nx))=true)(h:Bn P g all rd o (.ret rs) Δ)(hk:K (iV rs) Δ rd):mj P g K X o nx fr rd0 ds all:=by
 unfold mj
 exact .inr (CK mJ h hk)
theorem Mq{b:List (Int×Tm)}{t x:Tm}(h:gD b t=some x){o:Nat->ab}{id:Nat}(ho:o id=dg b):Bn Tryz.prog 112 [.mp id, .d t.d] [id] o (.ret [x.d]) []:=by
 obtain⟨f,hf⟩:=lN h
 refine Bn.UE (id+1) aH xU (fun i hi j hj=> ?_) (Wv hf (by simp[EC,ho]))
 simp at hi
 subst hi
 rw[ho]at hj
 simp[ab.refs]at hj
structure EqH (o:Nat->ab) (x m l:Nat) (ep:Nat) (lim:Bool) (b:List (Int×Tm)) (L:List TB):Prop where
 row:o x= .row [.mp m, .osl l ep, .d (.bool lim)]
 map:o m=dg b
 RN:o l= .arr ep 59 4 (L.map TB.d)
theorem Fl{s:aF}{lim:Bool}{b:List (Int×Tm)}{L:List TB}{n:Int}{y:Tm}(hb:oC s b)(hn:bR b n=none)(hr:0<=n/\n<20)(hy:QT s y)(hL:L.length<=1000){x m l:Nat}(o:Nat->ab)(nx:Nat)(hg:Good o nx)(he:EqH o x m l 0 lim b L)(K X:V->(Nat->ab)->Nat->Prop)
 (aW:(eB lim b n y)=(0,b++[(n,y)])->∀o' nx',nx<=nx'->Good o' nx'->EqH o' x m l 1 lim (b++[(n,y)]) (L++[⟨n,y⟩])->(∀j,j<nx->j≠x->j≠m->j≠l->o' j=o j)->K (.bS []) o' nx')
 (oQ:(eB lim b n y).1=5->∀o' nx',nx<=nx'->Good o' nx'->(∀j,j<nx->j≠x->j≠m->j≠l->o' j=o j)->X (.d (.iface 162 (.agg []))) o' nx')
 (zQ:(eB lim b n y).1=3->∀o' nx',nx<=nx'->Good o' nx'->(∀j,j<nx->j≠x->j≠m->j≠l->o' j=o j)->X (.d (.iface 163 (.agg []))) o' nx'):
 bZ Tryz.prog 132 [.ptr x 0, .d (.i n), .d y.d] o nx K X:=by
 obtain⟨hx,hm,hl⟩:=he
 have lx:x<nx:=hg.lt J1
 have lm:m<nx:=hg.lt FF
 have ll:l<nx:=hg.lt (by rw[hl];exact ab.noConfusion)
 have X2:x≠m:=fun e=>by subst e;rw[hx]at hm;cases hm
 have X4:x≠l:=fun e=>by subst e;rw[hx]at hl;cases hl
 have X5:m≠l:=fun e=>by subst e;rw[hm]at hl;cases hl
 have y1:x≠nx:=af
 have y2:∀k,x≠nx+k:=fun k=>af
 have y3:m≠nx:=af
 have y4:∀k,m≠nx+k:=fun k=>af
 have y5:l≠nx:=af
 have y6:∀k,l≠nx+k:=fun k=>af
 have FV:∀p∈b,Vs s p.2:=fun p hp=>(hb.ok p hp).2.vs
 have nU:∀p∈b,p.2.fits:=fun p hp=>(hb.ok p hp).2.fits
 refine bZ.aG mix R8 aH ?_
 rw[Vu]
 obtain⟨is,A0⟩:∃is:Bool,is=true↔mH b n y:=by
  classical
  exact⟨decide (mH b n y),aH⟩
 refine Ho hx hm hl y1 y2 y3 y4 y5 y6 ?_
 refine aZ (Hd FV nU n y hy.vs hy.fits A0) rfl ?_
 refine Ho hx hm hl y1 y2 y3 y4 y5 y6 ?_
 refine aE (ba rfl) ?_
 cases is with
 |true=>
  refine Ho hx hm hl y1 y2 y3 y4 y5 y6 ?_
  have kW:eB lim b n y=(5,b):=by unfold eB;rw[if_pos (A0.1 rfl)]
  exact oQ (by rw[kW]) _ _ af dB (fun j h1 h2 h3 h4=>by(repeat(first|rfl|rw[aa]|rw[ae _ _ _ _ (by omega)])))
 |false=>
  have Nk: ¬mH b n y:=fun h=>Bool.false_ne_true (A0.2 h)
  have ya:=wP hb hn hr hy Nk
  have e0:L.length<=140737488355327/\(L.length+1)*48<=140737488355328:=af
  simp+contextual (disch:=first|omega|simp only[go_sem,false_implies]) only[go_sem,wrap64,if_pos,hx,hm,hl,y1,y2,y3,y4,y5,y6,Nat.add_assoc,Nat.left_eq_add,Nat.add_eq_left,Nat.add_left_cancel_iff,eE hn]
  refine aE (bK (ids:=[x,nx,m]) (nx:=nx+15) fI fI [([],[]),([0],[]),([0],[]),([0],[]),([],[]),([1],[]),([2],[2])] bD) ?_
  rw[Dk hn]
  simp+contextual (disch:=first|omega|simp only[go_sem,false_implies]) only[go_sem,wrap64,if_pos,hx,hm,hl,y1,y2,y3,y4,y5,y6,X2,X4,X5,X2.symm,X4.symm,X5.symm,Nat.add_assoc,Nat.left_eq_add,Nat.add_eq_left,Nat.add_left_cancel_iff,List.length_map,e0]
  refine aE (bK (ids:=[x,nx,nx+23,l]) (nx:=nx+28) fI fI [([],[]),([],[]),([0],[]),([0],[]),([0],[]),([],[]),([1],[]),([],[]),([],[2]),([3,2],[3]),([0],[]),([0],[]),([0,3],[0])] bD) ?_
  cases lim with
  |false=>
   simp+contextual (disch:=first|omega|simp only[go_sem,false_implies]) only[go_sem,wrap64,if_pos,hx,hm,hl,y1,y2,y3,y4,y5,y6,X2,X4,X5,X2.symm,X4.symm,X5.symm,Nat.add_assoc,Nat.left_eq_add,Nat.add_eq_left,Nat.add_left_cancel_iff]
   exact aW (by unfold eB;rw[if_neg Nk,if_neg (by simp)]) _ _ af dB ⟨by(repeat(first|rfl|rw[aa]|rw[ae _ _ _ _ (by omega)])),by(repeat(first|rfl|rw[aa]|rw[ae _ _ _ _ (by omega)])),by(repeat(first|rfl|rw[aa]|rw[ae _ _ _ _ (by omega)]));rw[List.map_append];rfl⟩ (fun j h1 h2 h3 h4=>by(repeat(first|rfl|rw[aa]|rw[ae _ _ _ _ (by omega)])))
  |true=>
   obtain⟨fo,xn⟩:∃fo:Bool,fo=true↔∀p∈b++[(n,y)],ui (b++[(n,y)]) p.2:=by
    classical
    exact⟨decide (∀p∈b++[(n,y)],ui (b++[(n,y)]) p.2),aH⟩
   obtain⟨l',L5,R',I7,Gb⟩:=ya.sim
   simp+contextual (disch:=first|omega|simp only[go_sem,false_implies]) only[go_sem,wrap64,if_pos,hx,hm,hl,y1,y2,y3,y4,y5,y6,X2,X4,X5,X2.symm,X4.symm,X5.symm,Nat.add_assoc,Nat.left_eq_add,Nat.add_eq_left,Nat.add_left_cancel_iff]
   refine ak (zd (b:=b++[(n,y)]) (fun p hp=>(ya.ok p hp).2.fits) (fun p hp=>by obtain⟨r,hr⟩:=FU I7 12 p.2 40 (ya.ok p hp).2.vs;exact⟨_,r,hr⟩) xn) rfl ?_
   cases fo with
   |true=>
    refine gH ?_
    exact aW (by unfold eB;rw[if_neg Nk,if_neg (fun h=>h.2 (xn.1 rfl))]) _ _ af dB ⟨by(repeat(first|rfl|rw[aa]|rw[ae _ _ _ _ (by omega)])),by(repeat(first|rfl|rw[aa]|rw[ae _ _ _ _ (by omega)])),by(repeat(first|rfl|rw[aa]|rw[ae _ _ _ _ (by omega)]));rw[List.map_append];rfl⟩ (fun j h1 h2 h3 h4=>by(repeat(first|rfl|rw[aa]|rw[ae _ _ _ _ (by omega)])))
   |false=>
    refine gH ?_
    exact zQ (by unfold eB;rw[if_neg Nk,if_pos ⟨rfl,fun h=>Bool.false_ne_true (xn.2 h)⟩]) _ _ af dB (fun j h1 h2 h3 h4=>by(repeat(first|rfl|rw[aa]|rw[ae _ _ _ _ (by omega)])))
end Go.Proofs.YtlhemmpklhhgoaaGreat
set_option maxHeartbeats 4000000
namespace Go.Proofs.YtlhemmpklhhgoaaGreat
@[reducible] def wQ (p:Tm×Tm):D:= .agg [.i p.1.op, .i p.1.n, .sl (p.1.kids.map Tm.d), .i p.2.op, .i p.2.n, .sl (p.2.kids.map Tm.d)]
def rF(o:Nat->ab)(nx x m:Nat)(lim:Bool)(a c:Tm)(b:List (Int×Tm))(L:List TB)(st:List D):Nat->ab:=
 ay (ay (ay (ay (ay (ay o nx (.row a.row)) (nx+1) (.row c.row)) x (.row [.mp m, .osl (nx+7) 0, .d (.bool lim)])) m (dg b)) (nx+7) (.arr 0 59 4 (L.map TB.d))) (nx+8) (.arr 0 106 6 st)
section
variable {o:Nat->ab}{nx x m:Nat}{lim:Bool}{a c:Tm}{b:List (Int×Tm)}{L:List TB}{st:List D}(lx:x<nx)(lm:m<nx)(cy:x≠m)
include lx lm cy
theorem eqS_0:rF o nx x m lim a c b L st nx= .row a.row:=Hr
theorem eqS_1:rF o nx x m lim a c b L st (nx+1)= .row c.row:=Hr
theorem Mr:rF o nx x m lim a c b L st x= .row [.mp m, .osl (nx+7) 0, .d (.bool lim)]:=Hr
theorem Ms:rF o nx x m lim a c b L st m=dg b:=Hr
theorem eqS_7:rF o nx x m lim a c b L st (nx+7)= .arr 0 59 4 (L.map TB.d):=Hr
theorem eqS_8:rF o nx x m lim a c b L st (nx+8)= .arr 0 106 6 st:=Hr
omit lx lm cy in
theorem rO{j:Nat}(h0:j≠nx)(h1:j≠nx+1)(h2:j≠x)(h3:j≠m)(h7:j≠nx+7)(h8:j≠nx+8):rF o nx x m lim a c b L st j=o j:=by unfold rF;(repeat(first|rfl|rw[aa]|rw[ae _ _ _ _ (by omega)]))
omit lx lm cy in
theorem Ty{b':List (Int×Tm)}{L':List TB}{st':List D}{j:Nat}(h1:j<nx+7)(h2:j≠x)(h3:j≠m):rF o nx x m lim a c b L st j=rF o nx x m lim a c b' L' st' j:=by
 have e:∀b L st,rF o nx x m lim a c b L st j=ay (ay o nx (.row a.row)) (nx+1) (.row c.row) j:=fun b L st=>by
  unfold rF
  rw[ae _ _ _ _ (by omega),ae _ _ _ _ (by omega),ae _ _ _ _ h3,ae _ _ _ _ h2]
 rw[e,e]
omit lx lm cy in
theorem Ww{st':List D}{j:Nat}(h:j≠nx+8):rF o nx x m lim a c b L st j=rF o nx x m lim a c b L st' j:=by
 unfold rF
 rw[ae _ _ _ _ h,ae _ _ _ _ h]
theorem jA(hg:Good o nx):Good (rF o nx x m lim a c b L st) (nx+9):=by
 have _:=cy
 unfold rF
 refine Good.ay (Good.ay (Good.ay (Good.ay (Good.ay (Good.ay (hg.mono af) af rfl) af rfl) af ?_) af rfl) af rfl) af rfl
 simp[ab.refs,V.aO,V.refs]
 omega
theorem oE(gone:Nat->Prop)(xl xs:V)(l:List V)(hg:Good o nx)(uh:∀id,gone id->nx+7<=id\/(o id= .no/\id≠nx/\id≠nx+1/\id≠x/\id≠m)){e:Nat->V}{so:Nat->ab}{k:Nat}
 (gl:fY so gone 59 4 (L.map TB.d) xl) (gs:fY so gone 106 6 st xs) (jo:∀id ep fW,xl= .osl id ep->xs= .osl id fW->False) (sx:so x= .row [.mp m,xl, .d (.bool lim)]) (sm:so m=dg b)
 (h:∀j,j<nx+7->j≠x->j≠m->rF o nx x m lim a c b L st j= .no\/so j=rF o nx x m lim a c b L st j)
 (he:iY (nx+7) [⟨xl,59,4,L.map TB.d⟩,⟨xs,106,6,st⟩] so gone e l 0):bH nx ⟨e,so,k⟩ ⟨aY l,rF o nx x m lim a c b L st,nx+9⟩:=by
 have hG:=jA (lim:=lim) (a:=a) (c:=c) (b:=b) (L:=L) (st:=st) lx lm cy hg
 refine bH.see gone _ (nx+7) l rfl af (fun j hj=> ?_) (fun i g h=> ?_) (fun j hj=>hG.fresh j hj) (fun j h1 h2=> ?_) (fun i j gi gj id ep fW h h' e1 e2=> ?_) he
 ·by_cases e1:j=x
  ·subst e1
   rw[Mr lx lm cy]
   exact YO
  ·by_cases e2:j=m
   ·subst e2
    rw[Ms lx lm cy]
    exact bC sm (fun r hr=>by simp[ab.refs]at hr)
   ·rcases h j hj e1 e2 with h|h
    ·rw[h];exact mo
    ·refine bC h fun r hr=> ?_
     by_cases e3:j=nx
     ·subst e3;rw[eqS_0 lx lm cy]at hr;simp[ab.refs,V.aO,V.refs]at hr
     ·by_cases e4:j=nx+1
      ·subst e4;rw[eqS_1 lx lm cy]at hr;simp[ab.refs,V.aO,V.refs]at hr
      ·rw[rO e3 e4 e1 e2 (by omega) (by omega)]at hr
       have:=hg.refs j r hr
       omega
 ·match i,h with
  |0,h=>simp at h;subst h;exact⟨eqS_7 lx lm cy,gl⟩
  |1,h=>simp at h;subst h;exact⟨eqS_8 lx lm cy,gs⟩
 ·rcases uh j h1 with h|⟨g1,g2,g3,g4,g5⟩
  ·omega
  ·rw[rO g2 g3 g4 g5 (by omega) (by omega)];exact g1
 ·match i,j,h,h' with
  |0,0,_,_=>rfl
  |1,1,_,_=>rfl
  |0,1,h,h'=>simp at h h';subst h;subst h';exact(jo _ _ _ e1 e2).elim
  |1,0,h,h'=>simp at h h';subst h;subst h';exact(jo _ _ _ e2 e1).elim
end
theorem kE(o:Nat->ab)(mW:Bool)(a b:Int):rR Tryz.prog o 164 mW (.d (.agg [.i a, .i b])) (.d (.agg [.i 1, .i 1]))=some (.d (.bool (a==1&&b==1))):=by
 have h1:bN Tryz.prog 164=some (.arr 2 30):=ai
 have h3:bN Tryz.prog 30=some .int:=ai
 have h5:df Tryz.prog 30=some false:=ai
 have h6:oX Tryz.prog 100 164 (.agg [.i a, .i b]) (.agg [.i 1, .i 1])=some (a==1&&b==1):=by
  have h7:Tryz.prog.cellsOf 30=1:=ai
  simp[oX,h1,h3,h5,h7,BI,NC,iJ,Ea]
 obtain⟨n,e,h⟩:∃n e,Tryz.prog.underlying 164=some (.array n e):=⟨2,30,ai⟩
 have h2:Tryz.prog.eqGuardType Tryz.prog.depth 164=false:=ai
 unfold rR
 rw[h]
 dsimp only
 rw[if_pos h2,h6]
 rfl
section
variable {o:Nat->ab}{nx x m:Nat}{lim:Bool}{a c:Tm}{b:List (Int×Tm)}{L:List TB}{st:List D}(lx:x<nx)(lm:m<nx)(cy:x≠m)
include lx lm cy
theorem Mt(gone:Nat->Prop)(xs:V)(l:List V)(hg:Good o nx)(uh:∀id,gone id->nx+87<=id\/id=nx+8){xt xu:Tm}{e:Nat->V}{so:Nat->ab}{k:Nat}
 (gs:fY so gone 106 6 st xs) (h40:so (nx+40)= .row xt.row) (h41:so (nx+41)= .row xu.row)
 (h:∀j,j<nx+40->j≠nx+8->j≠nx+18->True->so j=rF o nx x m lim a c b L [] j)
 (he:iY (nx+87) [⟨xs,106,6,st⟩] so gone e l 0):bH nx ⟨e,so,k⟩ ⟨aY l,ay (ay (ay (ay (rF o nx x m lim a c b L []) (nx+8) .no) (nx+40) (.row xt.row)) (nx+41) (.row xu.row)) (nx+87) (.arr 0 106 6 st),nx+87+1⟩:=by
 have hG:=jA (lim:=lim) (a:=a) (c:=c) (b:=b) (L:=L) (st:=[]) lx lm cy hg
 refine bH.sG gone xs (nx+87) l af (fun j hj=> ?_) (aa _ _ _) gs (fun j hj=> ?_) (fun j h1 h2=> ?_) he
 ·by_cases e1:j=nx+41
  ·subst e1
   exact kD (y:= .row xu.row) h41 cF (bC rfl (fun r hr=>by simp[ab.refs,V.aO,V.refs]at hr))
  ·by_cases e2:j=nx+40
   ·subst e2
    exact kD (y:= .row xt.row) h40 cF (bC rfl (fun r hr=>by simp[ab.refs,V.aO,V.refs]at hr))
   ·by_cases e3:j=nx+8
    ·subst e3
     exact kD (y':= .no) rfl cF mo
    ·by_cases e4:j<nx+9
     ·exact kD (y:=rF o nx x m lim a c b L [] j) (h j af e3 af trivial) cF (bC rfl (fun r hr=>by have:=hG.refs j r hr;omega))
     ·exact kD (y':= .no) rfl (by(repeat(first|rfl|rw[aa]|rw[ae _ _ _ _ (by omega)]));exact hG.fresh j af) mo
 ·(repeat(first|rfl|rw[aa]|rw[ae _ _ _ _ (by omega)]))
  exact hG.fresh j af
 ·rcases uh j h1 with h|h
  ·omega
  ·exact PY
end
end Go.Proofs.YtlhemmpklhhgoaaGreat
namespace Go.Proofs.YtlhemmpklhhgoaaGreat
theorem bZ.wR {P:Program}{g:FuncId}{x:V}{d:D}{rest:List V}{o:Nat->ab}{nx:Nat}{K X:V->(Nat->ab)->Nat->Prop}(hx:dQ o x=some d)
 (h:bZ P g (.d d::rest) (put o (bE o x.ids)) nx K X):bZ P g (x::rest) o nx K X:=by
 refine⟨h.1,fun M φ w vals hH hd=> ?_⟩
 have hd0:=hd
 obtain⟨val,us,lh,hv,dU⟩:=hd
 have hu:=fun id aw=>cO x val hv id aw
 obtain⟨f1,f2,f3,f4,f5⟩:=cU (H:=hp o nx) hH x.ids hu
 have fk:(hp o nx).put (bE o x.ids)=hp (put o (bE o x.ids)) nx:=AP (fun y hy=>by
  simp only[bE,List.mem_map]at hy
  obtain⟨id,aw,rfl⟩:=hy
  exact hu id aw)
 have SN:=f1;have SO:=f2
 rw[show bE (hp o nx).o x.ids=bE o x.ids from rfl,fk]at SN SO
 have Nh:∀k,cD φ ((hp o nx).put (bE o x.ids)) k->cD φ (hp o nx) k:=by
  rintro k ⟨id,g1,g2⟩
  by_cases aw:id∈x.ids
  ·have:=f3 id aw
   rw[show((hp o nx).put (bE o x.ids)).o id=_ from this]at g1
   refine⟨id, ?_,g2⟩
   revert g1
   cases(hp o nx).o id<;>simp[ab.fz,ab.live]
  ·have:=f4 id aw
   exact QB
 have zf:∀j,j5 (((hp o nx).put (bE o x.ids)).o j) ((hp o nx).o j):=fun j=>by
  by_cases hm:j∈x.ids
  ·exact Qa
  ·exact Y2
 have h4:=V.jQ (H:=hp o nx) (H':=(hp o nx).put (bE o x.ids)) (B:=aq M φ (hp o nx)) (B':=aq M φ ((hp o nx).put (bE o x.ids))) (fun k h h'=>h (h'.imp id (Nh k))) x val (fun id aw=>⟨zf id,rfl,(f5 id).2 ((V.jw x val hv) id aw)⟩) hv
 have h5:=eK f1 (o:=o) x d val (fun id aw=>f3 id aw) hx h4
 have h6:=V.eD (H:=hp o nx) (H':=(hp o nx).put (bE o x.ids)) (B:=aq M φ (hp o nx)) (B':=aq M φ ((hp o nx).put (bE o x.ids))) (fun k h h'=>h (h'.imp id (Nh k))) rest us (fun id aw=>⟨zf id,rfl,(f5 id).2 ((V.eh rest us dU) id aw)⟩) dU
 rw[show(hp o nx).put (bE (hp o nx).o x.ids)=hp (put o (bE o x.ids)) nx from fk]at h5
 rw[fk]at h6
 refine(h.2 M φ w vals SN ⟨val,us,lh,h5,h6⟩).mono ?_
 rintro e w' ⟨aI,o',nx',v,k1,k2,k3⟩
 exact⟨aI,o',nx',v,k1,SO.trans k2,k3⟩
theorem mA{B:Nat->Prop}{φ:Place}{H:Hp}{w:World}:∀ (pre:List V) (x:V) (rest:List V) (vals:List Value),V.aD B φ H w (pre++x::rest) vals↔∃v1 val us,vals=v1++val::us/\V.aD B φ H w pre v1/\V.den B φ H w x val/\V.aD B φ H w rest us
 |[],x,rest,vals=>by
  constructor
  ·rintro⟨u,us,h1,h2,h3⟩;exact⟨[],u,us,h1,rfl,h2,h3⟩
  ·rintro⟨v1,u,us,h1,h0,h2,h3⟩
   have h0:v1=[]:=h0
   subst h0
   exact⟨u,us,h1,h2,h3⟩
 |a::pre,x,rest,vals=>by
  constructor
  ·rintro⟨u,us,h1,h2,h3⟩
   obtain⟨v1,val,us',g1,g2,g3,g4⟩:=(mA pre x rest us).1 h3
   exact⟨u::v1,val,us',by rw[h1,g1];rfl,⟨u,v1,rfl,h2,g2⟩,g3,g4⟩
  ·rintro⟨v1,val,us',g1,⟨u,v2,g5,g6,g7⟩,g3,g4⟩
   subst g5
   exact⟨u,v2++val::us',by rw[g1];rfl,g6,(mA pre x rest _).2 ⟨v2,val,us',rfl,g7,g3,g4⟩⟩
theorem bZ.Wx {P:Program}{g:FuncId}(pre:List V){x:V}{d:D}{rest:List V}{o:Nat->ab}{nx:Nat}{K X:V->(Nat->ab)->Nat->Prop}(hx:dQ o x=some d)
 (h:bZ P g (pre++ .d d::rest) (put o (bE o x.ids)) nx K X):bZ P g (pre++x::rest) o nx K X:=by
 refine⟨h.1,fun M φ w vals hH hd=> ?_⟩
 have hd0:=hd
 obtain⟨v1,val,us,lh,pM,hv,dU⟩:=(mA pre x rest vals.toList).1 hd
 have hu:=fun id aw=>cO x val hv id aw
 obtain⟨f1,f2,f3,f4,f5⟩:=cU (H:=hp o nx) hH x.ids hu
 have fk:(hp o nx).put (bE o x.ids)=hp (put o (bE o x.ids)) nx:=AP (fun y hy=>by
  simp only[bE,List.mem_map]at hy
  obtain⟨id,aw,rfl⟩:=hy
  exact hu id aw)
 have SN:=f1;have SO:=f2
 rw[show bE (hp o nx).o x.ids=bE o x.ids from rfl,fk]at SN SO
 have Nh:∀k,cD φ ((hp o nx).put (bE o x.ids)) k->cD φ (hp o nx) k:=by
  rintro k ⟨id,g1,g2⟩
  by_cases aw:id∈x.ids
  ·have:=f3 id aw
   rw[show((hp o nx).put (bE o x.ids)).o id=_ from this]at g1
   refine⟨id, ?_,g2⟩
   revert g1
   cases(hp o nx).o id<;>simp[ab.fz,ab.live]
  ·have:=f4 id aw
   exact QB
 have zf:∀j,j5 (((hp o nx).put (bE o x.ids)).o j) ((hp o nx).o j):=fun j=>by
  by_cases hm:j∈x.ids
  ·exact Qa
  ·exact Y2
 have h4:=V.jQ (H:=hp o nx) (H':=(hp o nx).put (bE o x.ids)) (B:=aq M φ (hp o nx)) (B':=aq M φ ((hp o nx).put (bE o x.ids))) (fun k h h'=>h (h'.imp id (Nh k))) x val (fun id aw=>⟨zf id,rfl,(f5 id).2 ((V.jw x val hv) id aw)⟩) hv
 have h5:=eK f1 (o:=o) x d val (fun id aw=>f3 id aw) hx h4
 have h6:=V.eD (H:=hp o nx) (H':=(hp o nx).put (bE o x.ids)) (B:=aq M φ (hp o nx)) (B':=aq M φ ((hp o nx).put (bE o x.ids))) (fun k h h'=>h (h'.imp id (Nh k))) rest us (fun id aw=>⟨zf id,rfl,(f5 id).2 ((V.eh rest us dU) id aw)⟩) dU
 have h7:=V.eD (H:=hp o nx) (H':=(hp o nx).put (bE o x.ids)) (B:=aq M φ (hp o nx)) (B':=aq M φ ((hp o nx).put (bE o x.ids))) (fun k h h'=>h (h'.imp id (Nh k))) pre v1 (fun id aw=>⟨zf id,rfl,(f5 id).2 ((V.eh pre v1 pM) id aw)⟩) pM
 rw[show(hp o nx).put (bE (hp o nx).o x.ids)=hp (put o (bE o x.ids)) nx from fk]at h5
 rw[fk]at h6 h7
 refine(h.2 M φ w vals SN ((mA pre (.d d) rest vals.toList).2 ⟨v1,val,us,lh,h7,h5,h6⟩)).mono ?_
 rintro e w' ⟨aI,o',nx',v,k1,k2,k3⟩
 exact⟨aI,o',nx',v,k1,SO.trans k2,k3⟩
end Go.Proofs.YtlhemmpklhhgoaaGreat
set_option maxHeartbeats 8000000
namespace Go.Proofs.YtlhemmpklhhgoaaGreat
def eqE(nx x:Nat):List V:=[.ptr x 0, .ad, .ad, .ad, .ptr nx 0, .ptr (nx+1) 0, .osl (nx+8) 0]
theorem wS{s:aF}{lim:Bool}{b:List (Int×Tm)}{L:List TB}{a c:Tm}(hb:oC s b)(ha:QT s a)(hc:QT s c)(hL:L.length<=100){f:Nat}{e:Int}{b':List (Int×Tm)}(hf:iC lim f a c b=some (e,b'))
 {x m:Nat} {xl:V} (o o1:Nat->ab) (nx:Nat) (gn:Nat->Prop) (hg:Good o nx) (DU:Good o1 nx) (hx:o x= .row [.mp m,xl, .d (.bool lim)]) (hm:o m=dg b) (hl:fY o gn 59 4 (L.map TB.d) xl)
 (uh:∀j,gn j->j<nx/\j≠x/\j≠m/\o1 j= .no) (h1:∀j,j<nx->o1 j= .no\/o j=o1 j) (K X:V->(Nat->ab)->Nat->Prop)
 (aW:e=0->∀E:List TB,b'=b++ah E->∀o' nx',nx+8<=nx'->Good o' nx'->EqH o' x m (nx+7) 0 lim b' (L++E)->(∀j,j<nx->j≠x->j≠m->o' j=o1 j)->K (.bS []) o' nx')
 (oQ:e=5->∀o' nx',nx<=nx'->Good o' nx'->(∀j,j<nx->j≠x->j≠m->o' j=o1 j)->X (.d (.iface 162 (.agg []))) o' nx')
 (zQ:e=3->∀o' nx',nx<=nx'->Good o' nx'->(∀j,j<nx->j≠x->j≠m->o' j=o1 j)->X (.d (.iface 163 (.agg []))) o' nx'):
 bZ Tryz.prog 103 [.ptr x 0, .d a.d, .d c.d] o nx K X:=by
 have lx:x<nx:=hg.lt J1
 have lm:m<nx:=hg.lt FF
 have cy:x≠m:=fun e=>by subst e;rw[hx]at hm;cases hm
 obtain⟨N,hN⟩:=Mp hb ha hc hf
 refine bZ.aG mix RT aH ?_
 rw[Vf]
 refine Jv hx hm ?_
 refine aC (fun i:Nat×List (Tm×Tm)×List TB=>⟨aY (eqE nx x),rF o1 nx x m lim a c (b++ah i.2.2) (L++i.2.2) (i.2.1.reverse.map wQ),nx+9⟩)
  (fun i=>jT lim 1000000000 i.1 i.2.1 (b++ah i.2.2)=some (e,b')/\oC s (b++ah i.2.2)/\∀p∈i.2.1,QT s p.1/\QT s p.2) (fun i=>i.1) (N,[(a,c)],[])
  ⟨by simpa[ah]using hN,by simpa[ah]using hb,fun p hp=>by simp at hp;subst hp;exact⟨ha,hc⟩⟩ ?_ ?_
 ·dsimp only
  have gx: ¬gn x:=fun h=>(uh x h).2.1 rfl
  have gm: ¬gn m:=fun h=>(uh m h).2.2.1 rfl
  refine oE lx lm cy (fun j=>gn j\/j=nx+5) xl (.osl (nx+5) 0) _ DU (fun id h=> ?_) ?_ (.inr ⟨nx+5,0, .inr rfl,rfl,by(repeat(first|rfl|rw[aa]|rw[ae _ _ _ _ (by omega)]))⟩) (fun id ep fW h h'=> ?_) (by(repeat(first|rfl|rw[aa]|rw[ae _ _ _ _ (by omega)]));exact hx) (by(repeat(first|rfl|rw[aa]|rw[ae _ _ _ _ (by omega)]));rw[hm];simp[ah]) (fun j j1 j2 j3=> ?_) ?_
  ·rcases h with h|h
   ·obtain⟨h1,h2,h3,h4⟩:=uh id h
    exact .inr ⟨h4,af,af,h2,h3⟩
   ·exact .inr ⟨DU.fresh _ af,af,af,af,af⟩
  ·rcases hl with h|⟨id,ep,h1,h2,h3⟩
   ·exact .inl (by simpa using h)
   ·have:=(uh id h1).1
    exact .inr ⟨id,ep, .inl h1,h2,by(repeat(first|rfl|rw[aa]|rw[ae _ _ _ _ (by omega)]));simpa using h3⟩
  ·rcases hl with⟨h1,_⟩|⟨Bm,afF,h1,h2,h3⟩
   ·rw[h1]at h;cases h
   ·have:=(uh Bm h1).1
    rw[h2]at h
    cases h
    cases h'
    omega
  ·by_cases e1:j=nx
   ·subst e1;rw[eqS_0 lx lm cy];right;(repeat(first|rfl|rw[aa]|rw[ae _ _ _ _ (by omega)]))
   ·by_cases e2:j=nx+1
    ·subst e2;rw[eqS_1 lx lm cy];right;(repeat(first|rfl|rw[aa]|rw[ae _ _ _ _ (by omega)]))
    ·rw[rO e1 e2 j2 j3 (by omega) (by omega)]
     by_cases e3:j<nx
     ·rcases h1 j e3 with h|h
      ·exact .inl h
      ·right;(repeat(first|rfl|rw[aa]|rw[ae _ _ _ _ (by omega)]));exact h
     ·left;exact DU.fresh j af
  ·unfold eqE
   (repeat(first|exact gI|refine e9 ?_|refine dI rfl ?_|refine dI (mC (oP af)) ?_|refine kH 0 rfl rfl rfl ?_|refine lU rfl PW ?_|refine lV rfl Bv ?_))
   exact HA
 rintro⟨n,st,E⟩ ⟨hM,hA,hS⟩
 dsimp only at hM hA hS|-
 have f0:=eqS_0 (o:=o1) (lim:=lim) (a:=a) (c:=c) (b:=b++ah E) (L:=L++E) (st:=st.reverse.map wQ) lx lm cy
 have f1:=eqS_1 (o:=o1) (lim:=lim) (a:=a) (c:=c) (b:=b++ah E) (L:=L++E) (st:=st.reverse.map wQ) lx lm cy
 have fx:=Mr (o:=o1) (lim:=lim) (a:=a) (c:=c) (b:=b++ah E) (L:=L++E) (st:=st.reverse.map wQ) lx lm cy
 have fm:=Ms (o:=o1) (lim:=lim) (a:=a) (c:=c) (b:=b++ah E) (L:=L++E) (st:=st.reverse.map wQ) lx lm cy
 have f7:=eqS_7 (o:=o1) (lim:=lim) (a:=a) (c:=c) (b:=b++ah E) (L:=L++E) (st:=st.reverse.map wQ) lx lm cy
 have f8:=eqS_8 (o:=o1) (lim:=lim) (a:=a) (c:=c) (b:=b++ah E) (L:=L++E) (st:=st.reverse.map wQ) lx lm cy
 unfold eqE
 cases n with
 |zero=>cases hM
 |succ n=>
 cases st with
 |nil=>
  simp only[jT]at hM
  injection hM with hM
  injection hM with hM1 hM2
  simp only[List.reverse_nil,List.map_nil]at f0 f1 fx fm f7 f8|-
  refine Te f0 f1 fm f7 f8 ?_
  refine aW hM1.symm E hM2.symm _ _ af (Good.mono (jA lx lm cy DU) af) ⟨fx,hM2 ▸ fm,f7⟩ (fun j h1 h2 h3=> ?_)
  exact rO af af h2 h3 af af
 |cons p st=>
 obtain⟨t,u⟩:=p
 have F9:Good o1 nx:=DU
 have hlen:(st.length:Int)+1>0:=af
 have hrv:((t,u)::st).reverse.map wQ=st.reverse.map wQ++[wQ (t,u)]:=aH
 rw[hrv]at f0 f1 fx fm f7 f8|-
 have jZ:st.length<1000000000:=by
  refine Classical.byContradiction fun h=> ?_
  simp only[jT]at hM
  rw[if_pos (by omega)]at hM
  cases hM
 have fD:decide ((0:Int)<((st.length+1:Nat):Int))=true:=by rw[decide_eq_true_eq];omega
 have tQ:((st.length+1:Nat):Int) - 1=(st.length:Nat):=af
 have pn:(st.reverse.map wQ++[wQ (t,u)])[st.length]? =some (wQ (t,u)):=by
  rw[List.getElem?_append_right (by simp)]
  simp
 have aff:(if((st.length:Nat):Int)=0 then some (V.osl (nx+8) 1,[(nx+8,ab.arr 1 106 6 [])],[nx+8])else some (V.osl (nx+8) 1,[(nx+8,ab.arr 1 106 6 (List.take st.length (st.reverse.map wQ++[wQ (t,u)])))],[nx+8]))=some (V.osl (nx+8) 1,[(nx+8,ab.arr 1 106 6 (st.reverse.map wQ))],[nx+8]):=by
  split
  ·have NN:st=[]:=List.eq_nil_of_length_eq_zero af
   subst NN
   rfl
  ·rw[List.take_append_of_le_length (by simp),List.take_of_length_le (by simp)]
 obtain⟨xt,hxt,X6,uxt⟩:=e7 hA (hS (t,u) aH).1
 obtain⟨xu,Kn,qxu,uxu⟩:=e7 hA (hS (t,u) aH).2
 simp+contextual (disch:=first|omega|simp only[go_sem,false_implies]) only[go_sem,wrap64,if_pos,f0,f1,fx,fm,f7,f8,Nat.add_assoc,Nat.left_eq_add,Nat.add_eq_left,Nat.add_left_cancel_iff,List.length_map,List.length_append,List.length_reverse,fD,tQ,pn,aff]
 refine DE fI (Mq hxt Ht) ?_
 refine Te f0 f1 fm f7 f8 ?_
 refine DE fI (Mq Kn Ht) ?_
 refine Te f0 f1 fm f7 f8 ?_
 refine aE (bK (ids:=[x,nx+18,m,nx+40,nx+41]) (nx:=nx+44) fI fI [([],[]),([0],[]),([0],[]),([0],[]),([1],[]),([1],[]),([2],[]),([],[]),([0],[]),([0],[]),([0],[]),([1],[]),([1],[]),([2],[]),([],[3]),([],[4]),([3],[3]),([4],[4])] bD) ?_
 simp only[jT]at hM
 rw[if_neg (by omega),hxt,Kn]at hM
 dsimp only at hM
 have hLE:(L++E).length<=1000:=by
  have h20:=Dv hA.keys fun v hv=>by
   obtain⟨p,hp,rfl⟩:=List.mem_map.1 hv
   exact(hA.ok p hp).1
  rw[List.length_map,List.length_append,ah,List.length_map]at h20
  rw[List.length_append]
  omega
 have I7:∀p∈st,QT s p.1/\QT s p.2:=fun p hp=>hS p (by simp[hp])
 by_cases h1:xt.op=1
 ·rw[if_pos h1]at hM
  have db:(xt.op==1)=true:=by simpa using h1
  by_cases h2:xu.op=1
  ·rw[if_pos h2]at hM
   have eO:(xu.op==1)=true:=by simpa using h2
   by_cases h3:xt.n=xu.n
   ·rw[if_pos h3]at hM
    have j6:(xt.n !=xu.n)=false:=by simp[h3]
    simp+contextual (disch:=first|omega|simp only[go_sem,false_implies]) only[go_sem,wrap64,if_pos,f0,f1,fx,fm,f7,f8,Nat.add_assoc,Nat.left_eq_add,Nat.add_eq_left,Nat.add_left_cancel_iff,kE,db,eO,j6,Bool.and_self]
    refine aj (n,st,E) ⟨hM,hA,I7⟩ (Nat.lt_succ_self n) (oE lx lm cy (fun j=>nx+7<=j) (.osl (nx+7) 0) (.osl (nx+8) 1) _ DU (fun id h=> .inl h) (.inr ⟨nx+7,0,Nat.le_refl _,rfl,by(repeat(first|rfl|rw[aa]|rw[ae _ _ _ _ (by omega)]));exact f7⟩) (.inr ⟨nx+8,1,af,rfl,by(repeat(first|rfl|rw[aa]|rw[ae _ _ _ _ (by omega)]))⟩) (fun id ep fW h h'=>by cases h;cases h') Ns Ht (fun j j1 j2 j3=> ?_) ?_)
    ·right
     (repeat(first|rfl|rw[aa]|rw[ae _ _ _ _ (by omega)]))
     exact BA
    ·(repeat(first|exact gI|refine e9 ?_|refine dI rfl ?_|refine dI (mC (oP af)) ?_|refine kH 0 rfl rfl rfl ?_|refine lU rfl PW ?_|refine lV rfl Bv ?_))
     exact HA
   ·rw[if_neg h3]at hM
    have j6:(xt.n !=xu.n)=true:=by simp[h3]
    obtain⟨rt,et⟩:=X6.eta h1
    obtain⟨ru,eu⟩:=qxu.eta h2
    have Pk:bR (b++ah E) (max xt.n xu.n)=none:=by
     rw[Int.max_def];split
     ·exact uxu h2
     ·exact uxt h1
    simp+contextual (disch:=first|omega|simp only[go_sem,false_implies]) only[go_sem,wrap64,if_pos,f0,f1,fx,fm,f7,f8,Nat.add_assoc,Nat.left_eq_add,Nat.add_eq_left,Nat.add_left_cancel_iff,kE,db,eO,j6,Bool.and_self]
    have em:(if xu.n>xt.n then xu.n else xt.n)=max xt.n xu.n:=by rw[Int.max_def];split<;>split<;>omega
    have en:(if xu.n<xt.n then xu.n else xt.n)=min xt.n xu.n:=by rw[Int.min_def];split<;>split<;>omega
    rw[em,en]
    refine aX (bZ.Wx [.ptr x 0, .d (.i (max xt.n xu.n))] (d:=(Tm.mk 1 (min xt.n xu.n) []).d) (rest:=[]) rfl ?_)
    simp only[V.ids,V.bp,List.append_nil,bE,List.map_nil,K6,List.cons_append,List.nil_append]
    refine Fl (s:=s) (lim:=lim) (b:=b++ah E) (L:=L++E) (n:=max xt.n xu.n) (y:= .mk 1 (min xt.n xu.n) []) hA Pk af (QT.var af) hLE (x:=x) (m:=m) (l:=nx+7) _ _ ?_ ⟨?_, ?_, ?_⟩ _ _ (fun kW o2 n2 k1 k2 k3 k4=> ?_) (fun kW o2 n2 k1 k2 k4=> ?_) (fun kW o2 n2 k1 k2 k4=> ?_)
    ·refine Good.ay (Good.ay (Good.ay (Good.ay (Good.ay (Good.ay (Good.ay (Good.mono (jA lx lm cy DU) af) af rfl) af rfl) af rfl) af rfl) af rfl) af rfl) af rfl
    ·exact Ns
    ·exact Ht
    ·exact JD
    ·rw[kW,if_pos rfl]at hM
     obtain⟨g1,g2,g3⟩:=k3
     refine bI ?_
     refine aj (n,st,E++[⟨max xt.n xu.n, .mk 1 (min xt.n xu.n) []⟩]) ⟨by rw[dP];simpa[ah]using hM,by have:=(oD (lim:=lim) (n:=max xt.n xu.n) (y:= .mk 1 (min xt.n xu.n) []) hA Pk af (QT.var af) (by rw[kW])).1;rw[kW]at this;rw[dP];simpa[ah]using this,I7⟩ (Nat.lt_succ_self n) (oE lx lm cy (fun j=>nx+7<=j) (.osl (nx+7) 1) (.osl (nx+8) 1) _ DU (fun id h=> .inl h) (.inr ⟨nx+7,1,Nat.le_refl _,rfl,by rw[g3,List.append_assoc]⟩) (.inr ⟨nx+8,1,af,rfl,by rw[k4 _ (by omega) (by omega) (by omega) (by omega)];(repeat(first|rfl|rw[aa]|rw[ae _ _ _ _ (by omega)]))⟩) (fun id ep fW h h'=>by cases h;cases h') g1 (by rw[g2,dP];simp[ah]) (fun j j1 j2 j3=> ?_) ?_)
     ·right
      rw[k4 j (by omega) j2 j3 (by omega)]
      (repeat(first|rfl|rw[aa]|rw[ae _ _ _ _ (by omega)]))
      exact BA
     ·(repeat(first|exact gI|refine e9 ?_|refine dI rfl ?_|refine dI (mC (oP af)) ?_|refine kH 0 rfl rfl rfl ?_|refine lU rfl PW ?_|refine lV rfl Bv ?_))
      exact HA
    ·rw[if_neg (by rw[kW];decide)]at hM
     have he:e=5:=by injection hM with hM;rw[hM]at kW;exact kW
     refine bI ?_
     refine oQ he _ _ af k2 (fun j j1 j2 j3=> ?_)
     rw[k4 j (by omega) j2 j3 (by omega)]
     (repeat(first|rfl|rw[aa]|rw[ae _ _ _ _ (by omega)]))
     exact Hw
    ·rw[if_neg (by rw[kW];decide)]at hM
     have he:e=3:=by injection hM with hM;rw[hM]at kW;exact kW
     refine bI ?_
     refine zQ he _ _ af k2 (fun j j1 j2 j3=> ?_)
     rw[k4 j (by omega) j2 j3 (by omega)]
     (repeat(first|rfl|rw[aa]|rw[ae _ _ _ _ (by omega)]))
     exact Hw
  ·rw[if_neg h2]at hM
   have eO:(xu.op==1)=false:=by simpa using h2
   obtain⟨rt,et⟩:=X6.eta h1
   simp+contextual (disch:=first|omega|simp only[go_sem,false_implies]) only[go_sem,wrap64,if_pos,f0,f1,fx,fm,f7,f8,Nat.add_assoc,Nat.left_eq_add,Nat.add_eq_left,Nat.add_left_cancel_iff,kE,db,eO,Bool.and_false]
   refine aX (Fl (s:=s) (lim:=lim) (b:=b++ah E) (L:=L++E) (n:=xt.n) (y:=xu) hA (uxt h1) rt qxu hLE (x:=x) (m:=m) (l:=nx+7) _ _ ?_ ⟨?_, ?_, ?_⟩ _ _ (fun kW o2 n2 k1 k2 k3 k4=> ?_) (fun kW o2 n2 k1 k2 k4=> ?_) (fun kW o2 n2 k1 k2 k4=> ?_))
   ·refine Good.ay (Good.ay (Good.ay (Good.ay (Good.ay (Good.ay (Good.ay (Good.mono (jA lx lm cy DU) af) af rfl) af rfl) af rfl) af rfl) af rfl) af rfl) af rfl
   ·exact Ns
   ·exact Ht
   ·exact JD
   ·rw[kW,if_pos rfl]at hM
    obtain⟨g1,g2,g3⟩:=k3
    refine bI ?_
    refine aj (n,st,E++[⟨xt.n,xu⟩]) ⟨by rw[dP];simpa[ah]using hM,by have:=(oD (lim:=lim) hA (uxt h1) rt qxu (by rw[kW])).1;rw[kW]at this;rw[dP];simpa[ah]using this,I7⟩ (Nat.lt_succ_self n) (oE lx lm cy (fun j=>nx+7<=j) (.osl (nx+7) 1) (.osl (nx+8) 1) _ DU (fun id h=> .inl h) (.inr ⟨nx+7,1,Nat.le_refl _,rfl,by rw[g3,List.append_assoc]⟩) (.inr ⟨nx+8,1,af,rfl,by rw[k4 _ (by omega) (by omega) (by omega) (by omega)];(repeat(first|rfl|rw[aa]|rw[ae _ _ _ _ (by omega)]))⟩) (fun id ep fW h h'=>by cases h;cases h') g1 (by rw[g2,dP];simp[ah]) (fun j j1 j2 j3=> ?_) ?_)
    ·right
     rw[k4 j (by omega) j2 j3 (by omega)]
     (repeat(first|rfl|rw[aa]|rw[ae _ _ _ _ (by omega)]))
     exact BA
    ·(repeat(first|exact gI|refine e9 ?_|refine dI rfl ?_|refine dI (mC (oP af)) ?_|refine kH 0 rfl rfl rfl ?_|refine lU rfl PW ?_|refine lV rfl Bv ?_))
     exact HA
   ·rw[if_neg (by rw[kW];decide)]at hM
    have he:e=5:=by injection hM with hM;rw[hM]at kW;exact kW
    refine bI ?_
    refine oQ he _ _ af k2 (fun j j1 j2 j3=> ?_)
    rw[k4 j (by omega) j2 j3 (by omega)]
    (repeat(first|rfl|rw[aa]|rw[ae _ _ _ _ (by omega)]))
    exact Hw
   ·rw[if_neg (by rw[kW];decide)]at hM
    have he:e=3:=by injection hM with hM;rw[hM]at kW;exact kW
    refine bI ?_
    refine zQ he _ _ af k2 (fun j j1 j2 j3=> ?_)
    rw[k4 j (by omega) j2 j3 (by omega)]
    (repeat(first|rfl|rw[aa]|rw[ae _ _ _ _ (by omega)]))
    exact Hw
 ·rw[if_neg h1]at hM
  have db:(xt.op==1)=false:=by simpa using h1
  by_cases h2:xu.op=1
  ·rw[if_pos h2]at hM
   have eO:(xu.op==1)=true:=by simpa using h2
   obtain⟨ru,eu⟩:=qxu.eta h2
   simp+contextual (disch:=first|omega|simp only[go_sem,false_implies]) only[go_sem,wrap64,if_pos,f0,f1,fx,fm,f7,f8,Nat.add_assoc,Nat.left_eq_add,Nat.add_eq_left,Nat.add_left_cancel_iff,kE,db,eO,Bool.false_and]
   refine aX (Fl (s:=s) (lim:=lim) (b:=b++ah E) (L:=L++E) (n:=xu.n) (y:=xt) hA (uxu h2) ru X6 hLE (x:=x) (m:=m) (l:=nx+7) _ _ ?_ ⟨?_, ?_, ?_⟩ _ _ (fun kW o2 n2 k1 k2 k3 k4=> ?_) (fun kW o2 n2 k1 k2 k4=> ?_) (fun kW o2 n2 k1 k2 k4=> ?_))
   ·refine Good.ay (Good.ay (Good.ay (Good.ay (Good.ay (Good.ay (Good.ay (Good.mono (jA lx lm cy DU) af) af rfl) af rfl) af rfl) af rfl) af rfl) af rfl) af rfl
   ·exact Ns
   ·exact Ht
   ·exact JD
   ·rw[kW,if_pos rfl]at hM
    obtain⟨g1,g2,g3⟩:=k3
    refine bI ?_
    refine aj (n,st,E++[⟨xu.n,xt⟩]) ⟨by rw[dP];simpa[ah]using hM,by have:=(oD (lim:=lim) hA (uxu h2) ru X6 (by rw[kW])).1;rw[kW]at this;rw[dP];simpa[ah]using this,I7⟩ (Nat.lt_succ_self n) (oE lx lm cy (fun j=>nx+7<=j) (.osl (nx+7) 1) (.osl (nx+8) 1) _ DU (fun id h=> .inl h) (.inr ⟨nx+7,1,Nat.le_refl _,rfl,by rw[g3,List.append_assoc]⟩) (.inr ⟨nx+8,1,af,rfl,by rw[k4 _ (by omega) (by omega) (by omega) (by omega)];(repeat(first|rfl|rw[aa]|rw[ae _ _ _ _ (by omega)]))⟩) (fun id ep fW h h'=>by cases h;cases h') g1 (by rw[g2,dP];simp[ah]) (fun j j1 j2 j3=> ?_) ?_)
    ·right
     rw[k4 j (by omega) j2 j3 (by omega)]
     (repeat(first|rfl|rw[aa]|rw[ae _ _ _ _ (by omega)]))
     exact BA
    ·(repeat(first|exact gI|refine e9 ?_|refine dI rfl ?_|refine dI (mC (oP af)) ?_|refine kH 0 rfl rfl rfl ?_|refine lU rfl PW ?_|refine lV rfl Bv ?_))
     exact HA
   ·rw[if_neg (by rw[kW];decide)]at hM
    have he:e=5:=by injection hM with hM;rw[hM]at kW;exact kW
    refine bI ?_
    refine oQ he _ _ af k2 (fun j j1 j2 j3=> ?_)
    rw[k4 j (by omega) j2 j3 (by omega)]
    (repeat(first|rfl|rw[aa]|rw[ae _ _ _ _ (by omega)]))
    exact Hw
   ·rw[if_neg (by rw[kW];decide)]at hM
    have he:e=3:=by injection hM with hM;rw[hM]at kW;exact kW
    refine bI ?_
    refine zQ he _ _ af k2 (fun j j1 j2 j3=> ?_)
    rw[k4 j (by omega) j2 j3 (by omega)]
    (repeat(first|rfl|rw[aa]|rw[ae _ _ _ _ (by omega)]))
    exact Hw
  ·rw[if_neg h2]at hM
   have eO:(xu.op==1)=false:=by simpa using h2
   by_cases h3:xt.op=xu.op/\xt.n=xu.n/\xt.kids.length=xu.kids.length
   ·rw[if_pos h3]at hM
    obtain⟨h3a,h3b,h3c⟩:=h3
    have c1:(xt.op !=xu.op)=false:=by simp[h3a]
    have c2:(xt.n !=xu.n)=false:=by simp[h3b]
    have c3:((xt.kids.length:Int)!=(xu.kids.length:Int))=false:=by simp[h3c]
    have OX:xt.kids.length<=2000:=by have:=my xt.kids;have:=Tm.jR xt;have:=X6.sz;omega
    simp+contextual (disch:=first|omega|simp only[go_sem,false_implies]) only[go_sem,wrap64,if_pos,f0,f1,fx,fm,f7,f8,Nat.add_assoc,Nat.left_eq_add,Nat.add_eq_left,Nat.add_left_cancel_iff,kE,db,eO,Bool.and_self,c1,c2,c3,List.length_map]
    obtain⟨len,o9⟩:∃len,xt.kids.length=len:=⟨_,rfl⟩
    have hlu:xu.kids.length=len:=by rw[<- h3c,o9]
    refine aC (fun j:Nat=>⟨aY [.ptr x 0, .ad, .ad, .ad, .ptr nx 0, .ptr (nx+1) 0, .osl (nx+87) 0, .ad, .ptr (nx+40) 0, .ptr (nx+41) 0, .d (.i ((len:Int) - 1 - (j:Int)))],ay (ay (ay (ay (rF o1 nx x m lim a c (b++ah E) (L++E) []) (nx+8) .no) (nx+40) (.row xt.row)) (nx+41) (.row xu.row)) (nx+87) (.arr 0 106 6 (st.reverse.map wQ++((xt.kids.zip xu.kids).reverse.take j).map wQ)),nx+88⟩)
     (fun j=>j<=len) (fun j=>len - j) 0 (Nat.zero_le _) (Mt lx lm cy (fun id=>id=nx+8) (.osl (nx+8) 1) _ DU (fun id h=> .inr h) (.inr ⟨nx+8,1,rfl,rfl,by(repeat(first|rfl|rw[aa]|rw[ae _ _ _ _ (by omega)]));simp⟩) cF cF (fun j j1 j2 j3 j4=>by(repeat(first|rfl|rw[aa]|rw[ae _ _ _ _ (by omega)]));exact Ww j2) ?_) (fun j hj=> ?_)
    ·(repeat(first|exact gI|refine e9 ?_|refine dI rfl ?_|refine dI (mC (oP af)) ?_|refine kH 0 rfl rfl rfl ?_|refine lU rfl PW ?_|refine lV rfl Bv ?_))
     refine dI (mC af) ?_
     exact rE
    ·replace hj:j<=len:=hj
     have q40:∀l,ay (ay (ay (ay (rF o1 nx x m lim a c (b++ah E) (L++E) []) (nx+8) .no) (nx+40) (.row xt.row)) (nx+41) (.row xu.row)) (nx+87) (.arr 0 106 6 l) (nx+40)= .row xt.row:=fun l=>by(repeat(first|rfl|rw[aa]|rw[ae _ _ _ _ (by omega)]))
     have q41:∀l,ay (ay (ay (ay (rF o1 nx x m lim a c (b++ah E) (L++E) []) (nx+8) .no) (nx+40) (.row xt.row)) (nx+41) (.row xu.row)) (nx+87) (.arr 0 106 6 l) (nx+41)= .row xu.row:=fun l=>by(repeat(first|rfl|rw[aa]|rw[ae _ _ _ _ (by omega)]))
     have hrl:(xt.kids.zip xu.kids).reverse.length=len:=by rw[List.length_reverse,List.length_zip,o9,hlu];omega
     refine gH ?_
     refine ao (fun h4=> ?_) (fun h4=> ?_)
     ·have h4:j<len:=by simp at h4;omega
      obtain⟨i0,hi0⟩:∃i0:Nat,(len:Int) - 1 - (j:Int)=(i0:Int):=⟨len - 1 - j,af⟩
      rw[hi0]
      obtain⟨z1,hz1⟩:=aA (show i0<xt.kids.length from af)
      obtain⟨z2,Wy⟩:=aA (show i0<xu.kids.length from af)
      have hrz:(xt.kids.zip xu.kids).reverse[j]? =some (z1,z2):=by
       rw[List.getElem?_reverse (by rw[List.length_zip];omega),List.length_zip,o9,hlu,show min len len - 1 - j=i0 by omega,List.getElem?_zip_eq_some]
       exact⟨hz1,Wy⟩
      have rL:(xt.kids.zip xu.kids).reverse.take (j+1)=(xt.kids.zip xu.kids).reverse.take j++[(z1,z2)]:=by rw[List.take_add_one,hrz];rfl
      have e0:((xt.kids.zip xu.kids).reverse.take j).length=j:=by rw[List.length_take];omega
      have fE:st.length+j<=140737488355327/\(st.length+j+1)*80<=140737488355328:=af
      simp+contextual (disch:=first|omega|simp only[go_sem,false_implies]) only[go_sem,wrap64,if_pos,Nat.add_assoc,Nat.left_eq_add,Nat.add_eq_left,Nat.add_left_cancel_iff,hz1,Wy,List.length_map,List.length_append,List.length_reverse,e0,fE]
      refine aE (bK (ids:=[nx+40,nx+41,nx+102,nx+87]) (nx:=nx+105) aH aH [([],[]),([0],[]),([0],[]),([],[]),([],[]),([],[]),([1],[]),([1],[]),([],[]),([],[]),([],[]),([],[]),([],[2]),([3,2],[3]),([],[])] bD) ?_
      refine gH ?_
      refine aj (j+1) h4 af (Mt lx lm cy (fun id=>nx+87<=id) (.osl (nx+87) 1) _ DU (fun id h=> .inl h) (.inr ⟨nx+87,1,Nat.le_refl _,rfl,by(repeat(first|rfl|rw[aa]|rw[ae _ _ _ _ (by omega)]));rw[rL,List.map_append,List.append_assoc];rfl⟩) cF cF (fun j j1 j2 j3 j4=>by(repeat(first|rfl|rw[aa]|rw[ae _ _ _ _ (by omega)]))) ?_)
      (repeat(first|exact gI|refine e9 ?_|refine dI rfl ?_|refine dI (mC (oP af)) ?_|refine kH 0 rfl rfl rfl ?_|refine lU rfl PW ?_|refine lV rfl Bv ?_))
      refine dI (mC af) ?_
      exact rE
     ·have h4:j=len:=by simp at h4;omega
      subst h4
      refine gH ?_
      refine aj (n,xt.kids.zip xu.kids++st,E) ⟨hM,hA,fun p hp=> ?_⟩ (Nat.lt_succ_self n) (oE lx lm cy (fun j=>nx+7<=j) (.osl (nx+7) 0) (.osl (nx+87) 0) _ DU (fun id h=> .inl h) (.inr ⟨nx+7,0,Nat.le_refl _,rfl, ?_⟩) (.inr ⟨nx+87,0,af,rfl, ?_⟩) (fun id ep fW h h'=>by cases h;cases h') ?_ ?_ (fun j j1 j2 j3=> ?_) ?_)
      ·rcases List.mem_append.1 hp with hp|hp
       ·exact⟨X6.kY (List.of_mem_zip hp).1,qxu.kY (List.of_mem_zip hp).2⟩
       ·exact I7 p hp
      ·(repeat(first|rfl|rw[aa]|rw[ae _ _ _ _ (by omega)]))
       exact eqS_7 lx lm cy
      ·(repeat(first|rfl|rw[aa]|rw[ae _ _ _ _ (by omega)]))
       rw[List.take_of_length_le (by omega),List.reverse_append,List.map_append]
      ·(repeat(first|rfl|rw[aa]|rw[ae _ _ _ _ (by omega)]))
       exact Mr lx lm cy
      ·(repeat(first|rfl|rw[aa]|rw[ae _ _ _ _ (by omega)]))
       exact Ms lx lm cy
      ·right
       (repeat(first|rfl|rw[aa]|rw[ae _ _ _ _ (by omega)]))
       exact BA
      ·(repeat(first|exact gI|refine e9 ?_|refine dI rfl ?_|refine dI (mC (oP af)) ?_|refine kH 0 rfl rfl rfl ?_|refine lU rfl PW ?_|refine lV rfl Bv ?_))
       exact HA
   ·rw[if_neg h3]at hM
    injection hM with hM
    injection hM with hM1 hM2
    by_cases c1:(xt.op !=xu.op)=true
    ·simp+contextual (disch:=first|omega|simp only[go_sem,false_implies]) only[go_sem,wrap64,if_pos,f0,f1,fx,fm,f7,f8,Nat.add_assoc,Nat.left_eq_add,Nat.add_eq_left,Nat.add_left_cancel_iff,kE,db,eO,Bool.and_self,c1,List.length_map]
     exact zy9
    have c1':(xt.op !=xu.op)=false:=by simpa using c1
    by_cases c2:(xt.n !=xu.n)=true
    ·simp+contextual (disch:=first|omega|simp only[go_sem,false_implies]) only[go_sem,wrap64,if_pos,f0,f1,fx,fm,f7,f8,Nat.add_assoc,Nat.left_eq_add,Nat.add_eq_left,Nat.add_left_cancel_iff,kE,db,eO,Bool.and_self,c1',c2,List.length_map]
     exact zy9
    have c2':(xt.n !=xu.n)=false:=by simpa using c2
    have c3:((xt.kids.length:Int)!=(xu.kids.length:Int))=true:=by
     rw[bne_iff_ne]
     intro h
     exact h3 ⟨by simpa using c1',by simpa using c2',af⟩
    simp+contextual (disch:=first|omega|simp only[go_sem,false_implies]) only[go_sem,wrap64,if_pos,f0,f1,fx,fm,f7,f8,Nat.add_assoc,Nat.left_eq_add,Nat.add_eq_left,Nat.add_left_cancel_iff,kE,db,eO,Bool.and_self,c1',c2',c3,List.length_map]
    exact zy9
end Go.Proofs.YtlhemmpklhhgoaaGreat
