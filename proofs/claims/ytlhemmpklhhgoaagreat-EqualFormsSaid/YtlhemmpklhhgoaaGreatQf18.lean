/-
  A PART. Conditions: none.
-/
import Derived.Test.YtlhemmpklhhgoaaGreatQf17
set_option linter.unusedSimpArgs false
set_option linter.unusedVariables false
set_option maxHeartbeats 8000000
namespace Go.Proofs.YtlhemmpklhhgoaaGreat
theorem Sv{s:az}{lim:Bool}{b:List (Int×Tm)}{l:List TB}{ρ:Int->Nat}{R:Nat}(h:kp s b l ρ R):∀ (z:Nat) (t u:Tm),Vs s t->Vs s u->(aO (ag l) t).sz<=z->aO (ag l) t=aO (ag l) u->∃g,jJ lim g t u b=some (0,b):=by
 intro z
 induction z with
 |zero=>intro t u _ _ hz;have:=Tm.qR (aO (ag l) t);omega
 |succ z ih=>
  intro t u ht hu hz he
  obtain⟨x,a1,a2,a3,a4,_,_⟩:=h.root ht
  obtain⟨y,b1,b2,b3,b4,_,_⟩:=h.root hu
  obtain⟨p1,p2,p3,p4,p5⟩:=vZ h a2 a4
  obtain⟨q1,q2,q3,q4,q5⟩:=vZ h b2 b4
  have Wt:aO (ag l) x=aO (ag l) y:=by rw[a3,b3,he]
  have e1:x.op=y.op:=by rw[<- p1, <- q1,Wt]
  have e2:x.n=y.n:=by rw[<- p2, <- q2,Wt]
  have e3:x.kids.length=y.kids.length:=by rw[<- p3, <- q3,Wt]
  by_cases h1:x.op=1
  ·refine⟨R+3, ?_⟩
   simp only[jJ,c8 a1,c8 b1,if_pos h1,if_pos (e1 ▸ h1:y.op=1),if_pos e2]
  ·have h2: ¬y.op=1:=e1 ▸ h1
   have key:∀ (ks cK:List Tm),(∀k∈ks,k∈x.kids)->(∀k∈cK,k∈y.kids)->ks.map (aO (ag l))=cK.map (aO (ag l))->∃g,lX (jJ lim g) ks cK b=some (0,b):=by
    intro ks
    induction ks with
    |nil=>intro cK _ _ _;exact⟨0,by simp only[lX]⟩
    |cons k ks vC=>
     intro cK m1 m2 hm
     cases cK with
     |nil=>exact⟨0,by simp only[lX]⟩
     |cons k' cK=>
      rw[List.map_cons,List.map_cons]at hm
      injection hm with LX Qg
      have hk:=m1 k aF
      have hkz:(aO (ag l) k).sz<=z:=by
       have h3:aO (ag l) k∈(aO (ag l) x).kids:=by rw[p5 h1];exact List.mem_map.2 ⟨k,hk,rfl⟩
       have h4:=Tm.mW h3
       rw[a3]at h4
       omega
      obtain⟨g,hg⟩:=ih k k' (a2.lu hk) (b2.lu (m2 k' aF)) hkz LX
      obtain⟨g2,hg2⟩:=vC cK (fun y hy=>m1 y jX) (fun y hy=>m2 y jX) Qg
      refine⟨max g g2, ?_⟩
      simp only[lX]
      rw[eQ hg (Nat.le_max_left _ _)]
      exact mo (fun k k' b r hk=>eQ hk (Nat.le_max_right _ _)) hg2
   obtain⟨g,hg⟩:=key x.kids y.kids (fun _ h=>h) (fun _ h=>h) (by rw[<- p5 h1, <- q5 h2,Wt])
   refine⟨max g (R+2)+1, ?_⟩
   simp only[jJ]
   rw[c8 a1,c8 b1]
   simp only[if_neg h1,if_neg h2,if_pos (⟨e1,e2,e3⟩:x.op=y.op/\x.n=y.n/\x.kids.length=y.kids.length)]
   exact mo (fun k k' b r hk=>eQ hk (Nat.le_max_left _ _)) hg
def EqR(s:az)(lim:Bool)(r:List TB×Bool)(e:Int)(b':List (Int×Tm)):Prop:=
 (e=0/\r.2=true/\∃GZ R',kp s b' r.1 GZ R')\/(e=5/\r.2=false)\/(e=3/\lim=true)
theorem Cc{s:az}{lim:Bool}{b:List (Int×Tm)}{l:List TB}{ρ:Int->Nat}{R:Nat}(h:kp s b l ρ R)(hl:dK s l){n:Int}{y:Tm}(hn:bR b n=none)(hy:Vs s y):
 EqR s lim (iP l n (aO (ag l) y), !(cQ (aO (ag l) y)).contains n) (gV lim b n y).1 (gV lim b n y).2:=by
 have hc:(cQ (aO (ag l) y)).contains n=true↔gy n (aO (ag l) y)=true:=by rw[List.contains_iff_mem];exact(cV _).2 _
 have hr:=B4 h hl hn hy
 unfold gV
 by_cases h1:oY b n y
 ·rw[if_pos h1]
  exact .inr (.inl ⟨rfl,by rw[hc.2 (hr.2 h1)];rfl⟩)
 ·rw[if_neg h1]
  split
  ·rename_i h2
   exact .inr (.inr ⟨rfl,h2.1⟩)
  ·refine .inl ⟨rfl, ?_,h.ext hl hn hy fun hf=>h1 (hr.1 hf)⟩
   cases hcc:(cQ (aO (ag l) y)).contains n with
   |false=>rfl
   |true=>exact absurd (hr.1 (hc.1 hcc)) h1
theorem x4{s:az}{lim:Bool}:∀ (f:Nat) (a c:Tm) (l:List TB) (r:List TB×Bool),da f a c l=some r->dK s l->Vs s a->Vs s c->∀ (t u:Tm) (b:List (Int×Tm)) (ρ:Int->Nat) (R:Nat),kp s b l ρ R->Vs s t->Vs s u->aO (ag l) t=aO (ag l) a->aO (ag l) u=aO (ag l) c->
 ∃g e b',jJ lim g t u b=some (e,b')/\EqR s lim r e b'
 |0,_,_,_,_,h,_,_,_,_,_,_,_,_,_,_,_,_,_=>by cases h
 |f+1,a,c,l,r,h,hl,ha,hc,t,u,b,ρ,R,hs,ht,hu,eta,euc=>by
  obtain⟨x,a1,a2,a3,a4,_,_⟩:=hs.root ht
  obtain⟨y,b1,b2,b3,b4,_,_⟩:=hs.root hu
  obtain⟨p1,p2,p3,p4,p5⟩:=vZ hs a2 a4
  obtain⟨q1,q2,q3,q4,q5⟩:=vZ hs b2 b4
  have ex:aO (ag l) a=aO (ag l) x:=by rw[a3,eta]
  have ey:aO (ag l) c=aO (ag l) y:=by rw[b3,euc]
  simp only[da,ex,ey,p1,q1,p2,q2,p3,q3]at h
  split at h
  ·rename_i FR
   injection h with h
   subst h
   rw[ek]at FR
   obtain⟨g,hg⟩:=Sv (lim:=lim) hs _ t u ht hu (Nat.le_refl _) (by rw[<- a3, <- b3,FR])
   exact⟨g,0,b,hg, .inl ⟨rfl,rfl,ρ,R,hs⟩⟩
  ·rename_i fS
   split at h
   ·rename_i Qr
    injection h with h
    subst h
    obtain⟨h1,h2⟩:=Qr
    have Wt:x.n≠y.n:=fun e=>fS (by rw[ek,p4 h1,q4 h2,a2.eta h1,b2.eta h2];rw[e])
    have rx:=a2.range ((iy h1).2 rfl)
    have ry:=b2.range ((iy h2).2 rfl)
    have lmx:bR b (max x.n y.n)=none:=by
     rw[Int.max_def];split
     ·exact b4 h2
     ·exact a4 h1
    have lmn:bR b (min x.n y.n)=none:=by
     rw[Int.min_def];split
     ·exact a4 h1
     ·exact b4 h2
    have hvm:aO (ag l) (.mk 1 (min x.n y.n) [])= .mk 1 (min x.n y.n) []:=by
     rw[dJ];simp[Lv,(hs.vX _).1 lmn]
    have hb:=Cc (lim:=lim) hs hl lmx (Vs.var (s:=s) (v:=min x.n y.n) ad)
    rw[hvm]at hb
    have XL:(cQ (Tm.mk 1 (min x.n y.n) [])).contains (max x.n y.n)=false:=by
     rw[Bool.eq_false_iff,Ne,List.contains_iff_mem,(cV _).2,oU]
     simp
     omega
    rw[XL]at hb
    exact⟨R+3,_,_,by simp only[jJ,c8 a1,c8 b1,if_pos h1,if_pos h2,if_neg Wt],hb⟩
   ·rename_i Qr
    split at h
    ·rename_i h1
     injection h with h
     subst h
     have h2: ¬y.op=1:=fun h2=>Qr ⟨h1,h2⟩
     exact⟨R+3,_,_,by simp only[jJ,c8 a1,c8 b1,if_pos h1,if_neg h2],Cc hs hl (a4 h1) b2⟩
    ·rename_i h1
     split at h
     ·rename_i h2
      injection h with h
      subst h
      exact⟨R+3,_,_,by simp only[jJ,c8 a1,c8 b1,if_neg h1,if_pos h2],Cc hs hl (b4 h2) a2⟩
     ·rename_i h2
      split at h
      ·rename_i h3
       injection h with h
       subst h
       refine⟨R+3,5,b, ?_, .inr (.inl ⟨rfl,rfl⟩)⟩
       simp only[jJ,c8 a1,c8 b1,if_neg h1,if_neg h2]
       rw[if_neg]
       rintro⟨g1,g2,g3⟩
       rcases h3 with h3|h3|h3
       ·exact h3 g1
       ·exact h3 g2
       ·exact h3 g3
      ·rename_i h3
       have j7:x.op=y.op/\x.n=y.n/\x.kids.length=y.kids.length:=⟨Classical.byContradiction fun e=>h3 (Or.inl e),Classical.byContradiction fun e=>h3 (Or.inr (Or.inl e)),Classical.byContradiction fun e=>h3 (Or.inr (Or.inr e))⟩
       have key:∀ (xs ys:List Tm) (l1:List TB) (b:List (Int×Tm)) (ρ:Int->Nat) (R:Nat),(∀k∈xs,Vs s k)->(∀k∈ys,Vs s k)->dK s l1->mm l l1->kp s b l1 ρ R->bH (da f) (xs.map (aO (ag l))) (ys.map (aO (ag l))) l1=some r->
        ∃g e b',lX (jJ lim g) xs ys b=some (e,b')/\EqR s lim r e b':=by
        intro xs
        induction xs with
        |nil=>intro ys l1 b ρ R _ _ qf _ ta h;simp only[List.map_nil,bH]at h;injection h with h;subst h;exact⟨0,0,b,by simp only[lX], .inl ⟨rfl,rfl,ρ,R,ta⟩⟩
        |cons k xs vC=>
         intro ys l1 b ρ R m1 m2 qf he ta h
         cases ys with
         |nil=>simp only[List.map_nil,List.map_cons,bH]at h;injection h with h;subst h;exact⟨0,0,b,by simp only[lX], .inl ⟨rfl,rfl,ρ,R,ta⟩⟩
         |cons k' ys=>
          have vk:=m1 k aF
          have vk':=m2 k' aF
          have vsk:=Vs.sub hl.bd k vk
          have afk:=Vs.sub hl.bd k' vk'
          simp only[List.map_cons,bH]at h
          cases e:da f (aO (ag l) k) (aO (ag l) k') l1 with
          |none=>rw[e]at h;cases h
          |some r1=>
           obtain⟨g,e1,b',g1,g2⟩:=x4 (lim:=lim) f _ _ l1 r1 e qf vsk afk k k' b ρ R ta vk vk' (he.sub vk).symm (he.sub vk').symm
           obtain⟨l2,ok⟩:=r1
           rw[e]at h
           rcases g2 with⟨e0,rfl,ρ2,R2,Im⟩|⟨e0,rfl⟩|⟨e0,hlm⟩
           ·simp only at h
            obtain⟨o1,o2⟩:=gU f _ _ l1 l2 e qf vsk afk
            obtain⟨g',e2,b2,k1,k2⟩:=vC ys l2 b' ρ2 R2 (fun y hy=>m1 y jX) (fun y hy=>m2 y jX) o1 (he.trans hl o2 fun v=>hl.vX) Im h
            refine⟨max g g',e2,b2, ?_,k2⟩
            simp only[lX]
            rw[eQ g1 (Nat.le_max_left _ _)]
            dsimp only
            rw[if_pos e0]
            exact TL
           ·simp only at h
            injection h with h
            subst h
            refine⟨g,e1,b', ?_, .inr (.inl ⟨e0,rfl⟩)⟩
            simp only[lX,g1]
            rw[if_neg (by omega)]
           ·refine⟨g,e1,b', ?_, .inr (.inr ⟨e0,hlm⟩)⟩
            simp only[lX,g1]
            rw[if_neg (by omega)]
       rw[p5 h1,q5 h2]at h
       obtain⟨g,e,b',g1,g2⟩:=key x.kids y.kids l b ρ R (fun k hk=>a2.lu hk) (fun k hk=>b2.lu hk) hl (mm.refl hl) hs h
       refine⟨max g (R+2)+1,e,b', ?_,g2⟩
       simp only[jJ]
       rw[c8 a1,c8 b1]
       simp only[if_neg h1,if_neg h2,if_pos j7]
       exact mo (fun k k' b r hk=>eQ hk (Nat.le_max_left _ _)) g1
theorem wc{s:az}{t:Tm}:bT s t=true↔jP s=true/\(t.sz<=40/\t.lL<=12)/\Vs s t:=by
 unfold bT jQ
 simp only[Bool.and_eq_true,List.all_cons,List.all_nil,Bool.and_true,qS]
 constructor
 ·rintro⟨⟨h1,h2⟩,h3⟩
  rw[pz h2]at h3
  have h4:=Jb h2
  rw[il,Bool.and_eq_true]at h2
  exact⟨h1,h4.2,h2.2,h3⟩
 ·rintro⟨h1,h2,h3,h4⟩
  have h5:il s t=true:=by
   rw[il,Bool.and_eq_true,decide_eq_true_eq,sw]
   exact⟨ad,h3⟩
  exact⟨⟨h1,h5⟩,by rw[pz h5];exact h4⟩
theorem Jn{s:az}{t k:Tm}(h:bT s t=true)(hk:k∈t.kids):bT s k=true:=by
 obtain⟨h0,⟨h1,h2⟩,h3⟩:=wc.1 h
 have hz:=Tm.mW hk
 have hh:=Tm.vO hk
 exact wc.2 ⟨h0,⟨ad,ad⟩,h3.lu hk⟩
theorem Sw{s:az}(hs:jP s=true){v:Int}(h:0<=v/\v<20):bT s (.mk 1 v [])=true:=by
 refine wc.2 ⟨hs,⟨?_, ?_⟩,Vs.var h⟩
 ·rw[Tm.iN];simp[Tm.kids,py]
 ·rw[Tm.iO];simp[Tm.kids,Tm.gH]
structure Inv (s:az) (lim:Bool) (b:List (Int×Tm)):Prop where
 ok:∀p∈b,(0<=p.1/\p.1<20)/\bT s p.2=true
 Su:lim=true->∀p∈b,AE b p.2
theorem G8{s:az}{b:List (Int×Tm)}(hb:∀p∈b,bT s p.2=true):∀ (f:Nat) (t x:Tm),lU f b t=some x->bT s t=true->bT s x=true
 |0,_,_,h,_=>by cases h
 |f+1,t,x,h,ht=>by
  simp only[lU]at h
  split at h
  ·split at h
   ·rename_i y hy;exact G8 hb f y x h (hb _ (cm hy))
   ·exact J9
  ·exact J9
theorem Cd{s:az}{lim:Bool}{b:List (Int×Tm)}(h:Inv s lim b){n:Int}{y:Tm}(hn:0<=n/\n<20)(hy:bT s y=true)(h0:(gV lim b n y).1=0):Inv s lim (gV lim b n y).2/\∃ext,(gV lim b n y).2=b++ext:=by
 unfold gV at h0|-
 split at h0
 ·exact HN
 ·rename_i h1
  rw[if_neg h1]
  split at h0
  ·exact HN
  ·rename_i h2
   rw[if_neg h2]
   refine⟨⟨fun p hp=> ?_,fun hl=> ?_⟩,_,rfl⟩
   ·rcases List.mem_append.1 hp with hp|hp
    ·exact h.ok p hp
    ·simp at hp;subst hp;exact⟨hn,hy⟩
   ·exact Classical.byContradiction fun hc=>h2 ⟨hl,hc⟩
theorem Ce{s:az}{t:Tm}(h:bT s t=true)(h1:t.op=1):(0<=t.n/\t.n<20)/\t= .mk 1 t.n []:=by
 have hv:=(bc h).1
 exact⟨hv.range ((iy h1).2 rfl),hv.eta h1⟩
theorem eq_inv{s:az}{lim:Bool}:∀ (f:Nat) (t u:Tm) (b b':List (Int×Tm)),jJ lim f t u b=some (0,b')->Inv s lim b->bT s t=true->bT s u=true->Inv s lim b'/\∃ext,b'=b++ext
 |0,_,_,_,_,h,_,_,_=>by cases h
 |f+1,t,u,b,b',h,hb,ht,hu=>by
  simp only[jJ]at h
  cases ha:im b t with
  |none=>rw[ha]at h;cases h
  |some x=>
  cases hc:im b u with
  |none=>rw[ha,hc]at h;cases h
  |some y=>
  rw[ha,hc]at h
  dsimp only at h
  obtain⟨ga,Ws⟩:=sJ ha
  obtain⟨gc,zT⟩:=sJ hc
  have hx:=G8 (fun p hp=>(hb.ok p hp).2) ga t x Ws ht
  have hy:=G8 (fun p hp=>(hb.ok p hp).2) gc u y zT hu
  by_cases h1:x.op=1
  ·obtain⟨rx,ex⟩:=Ce hx h1
   rw[if_pos h1]at h
   by_cases h2:y.op=1
   ·obtain⟨ry,ey⟩:=Ce hy h2
    rw[if_pos h2]at h
    by_cases h3:x.n=y.n
    ·exact Ut
    ·rw[if_neg h3]at h
     injection h with h
     have:=Cd hb (n:=max x.n y.n) (y:= .mk 1 (min x.n y.n) []) ad (Sw (wc.1 hx).1 ad) (by rw[h])
     rwa [h]at this
   ·rw[if_neg h2]at h
    injection h with h
    have:=Cd hb rx hy (by rw[h])
    rwa [h]at this
  ·rw[if_neg h1]at h
   by_cases h2:y.op=1
   ·obtain⟨ry,ey⟩:=Ce hy h2
    rw[if_pos h2]at h
    injection h with h
    have:=Cd hb ry hx (by rw[h])
    rwa [h]at this
   ·rw[if_neg h2]at h
    split at h
    ·have key:∀ (ks cK:List Tm) (b:List (Int×Tm)),(∀k∈ks,bT s k=true)->(∀k∈cK,bT s k=true)->Inv s lim b->lX (jJ lim f) ks cK b=some (0,b')->Inv s lim b'/\∃ext,b'=b++ext:=by
      intro ks
      induction ks with
      |nil=>
       exact T6
      |cons k ks ih=>
       intro cK b m1 m2 hb h
       cases cK with
       |nil=>
        exact acj
       |cons k' cK=>
        simp only[lX]at h
        cases he:jJ lim f k k' b with
        |none=>rw[he]at h;cases h
        |some q=>
         obtain⟨e1,b1⟩:=q
         rw[he]at h
         dsimp only at h
         by_cases e0:e1=0
         ·rw[if_pos e0]at h
          subst e0
          obtain⟨g1,x1,g2⟩:=eq_inv f k k' b b1 he hb (m1 k aF) (m2 k' aF)
          exact acs
         ·exact Un
     exact key x.kids y.kids b (fun k hk=>Jn hx hk) (fun k hk=>Jn hy hk) hb h
    ·injection h with h
     injection h with h _
     exact absurd h bF
def y9(b:List (Int×Tm)):List TB:=b.map fun p=>⟨p.1,p.2⟩
theorem Jo(b:List (Int×Tm)):ag (y9 b)=b:=by
 unfold ag y9
 rw[List.map_map]
 exact List.map_id _
theorem ew(l l':List TB):ag (l++l')=ag l++ag l':=List.map_append
theorem Jp{s:b9}(h:bn s){a c:Tm}(ha:bT s.sig a=true)(hc:bT s.sig c=true):∃f e b',jJ true f a c (ag s.binds)=some (e,b')/\((e=0/\∃ext,b'=ag (s.binds++ext)/\jG s.sig (s.binds++ext))\/e=5\/e=3):=by
 obtain⟨l,ρ,R,hS,hl⟩:=jr h.gA.keys h.gA.ok h.gA.Fu
 have va:=(bc ha).1
 have vc:=(bc hc).1
 obtain⟨f,r,hr⟩:=mM _ _ a c l (Nat.le_refl _) (Nat.le_refl _) hl va vc
 obtain⟨g,e,b',h1,h2⟩:=x4 (lim:=true) f a c l r hr hl va vc a c _ ρ R hS va vc rfl rfl
 refine⟨g,e,b',h1, ?_⟩
 rcases h2 with⟨rfl,_,GZ,R',G9⟩|⟨rfl,_⟩|⟨rfl,_⟩
 ·left
  refine⟨rfl, ?_⟩
  obtain⟨hI,ext,hx⟩:=eq_inv g a c _ b' h1 ⟨fun p hp=>by obtain⟨x,hx,rfl⟩:=cz hp;exact h.gA.ok x hx,fun _ p hp=>by obtain⟨x,hx,rfl⟩:=cz hp;exact h.gA.Su x hx⟩ ha hc
  have hb:b'=ag (s.binds++y9 ext):=by rw[ew,Jo,hx]
  have hk:=G9.keys
  rw[hb]at hk hI G9
  refine⟨y9 ext,hb,⟨?_,hk,fun x hx=>hI.ok _ (fe hx),G9.Fu,fun x hx=>hI.Su rfl _ (fe hx)⟩⟩
  have:=EL hk fun v hv=>by
   obtain⟨p,hp,rfl⟩:=List.mem_map.1 hv
   exact(hI.ok p hp).1
  rw[List.length_map]at this
  unfold ag at this
  rwa [List.length_map]at this
 ·exact .inr (.inl rfl)
 ·exact .inr (.inr rfl)
theorem x5{nb nn nb' nn':Int}(h1:nb<=nb')(h2:nn<=nn'):∀ {l:List (Int×Int)} {a:Int×Int},ui nb nn a l=true->ui nb' nn' a l=true
 |[],_,_=>rfl
 |x::l,a,h=>by
  simp only[ui,Bool.and_eq_true,Bool.not_eq_true',Bool.or_eq_false_iff,decide_eq_false_iff_not]at h|-
  obtain⟨⟨⟨⟨g1,g2⟩,g3⟩,g4⟩,g5⟩:=h
  exact⟨⟨⟨⟨g1,ad⟩,g3⟩,ad⟩,x5 h1 h2 g5⟩
theorem Sx{s:b9}(h:bn s){ext:List TB}(hb:jG s.sig (s.binds++ext))(hn:∀n∈s.aD, ¬EV (ag (s.binds++ext)) n):bn ⟨s.sig,s.binds++ext,s.aD,s.marks⟩:=
 ⟨h.sig,h.sI,h.EW,hb,fun n hm=>⟨(h.aD n hm).1,(h.aD n hm).2.1,hn n hm⟩,x5 ir (Int.le_refl _) h.marks⟩
theorem LH{s:b9}(h:bn s){n:Nt}(ha:bT s.sig n.a=true)(hc:bT s.sig n.b=true)(hn: ¬EV (ag s.binds) n)(hl:s.aD.length<12):bn ⟨s.sig,s.binds,s.aD++[n],s.marks⟩:=
 ⟨h.sig,by simp;omega,h.EW,h.gA,fun m hm=>by
   rcases List.mem_append.1 hm with hm|hm
   ·exact h.aD m hm
   ·simp at hm;subst hm;exact⟨ha,hc,hn⟩,x5 (Int.le_refl _) ir h.marks⟩
structure QT (s:az) (t:Tm):Prop where
 vs:Vs s t
 sz:t.sz<=2000
theorem QT.lu {s:az}{t k:Tm}(h:QT s t)(hk:k∈t.kids):QT s k:=⟨h.vs.lu hk,by have:=Tm.mW hk;have:=h.sz;omega⟩
theorem QT.fits {s:az}{t:Tm}(h:QT s t):t.fits:=Tm.fq t (by have:=h.sz;omega)
theorem QT.var {s:az}{v:Int}(h:0<=v/\v<20):QT s (.mk 1 v []):=⟨Vs.var h,by rw[Tm.iN];simp[Tm.kids,py]⟩
theorem QT.eta {s:az}{t:Tm}(h:QT s t)(h1:t.op=1):(0<=t.n/\t.n<20)/\t= .mk 1 t.n []:=⟨h.vs.range ((iy h1).2 rfl),h.vs.eta h1⟩
theorem uj{s:az}{t:Tm}(h:bT s t=true):QT s t:=⟨(bc h).1,by have:=(bc h).2.1;omega⟩
structure rj (s:az) (b:List (Int×Tm)):Prop where
 keys:(b.map (·.1)).Nodup
 ok:∀p∈b,(0<=p.1/\p.1<20)/\QT s p.2
 Fu:ZY b
theorem rj.nil {s:az}:rj s []:=⟨List.nodup_nil,fun _ h=>lA,fun _ _ h=>by cases h⟩
theorem rj.sim {s:az}{b:List (Int×Tm)}(h:rj s b):∃l ρ R,kp s b l ρ R/\dK s l:=OO h.keys (fun p hp=>⟨(h.ok p hp).1,(h.ok p hp).2.vs⟩) h.Fu
theorem afl{P:Tm->Prop}{b:List (Int×Tm)}(hb:∀p∈b,P p.2):∀ (f:Nat) (t x:Tm),lU f b t=some x->P t->P x
 |0,_,_,h,_=>by cases h
 |f+1,t,x,h,ht=>by
  simp only[lU]at h
  split at h
  ·split at h
   ·rename_i y hy;exact afl hb f y x h (hb _ (cm hy))
   ·exact J9
  ·exact J9
theorem iR{s:az}{b:List (Int×Tm)}(h:rj s b){t:Tm}(ht:QT s t):∃x,im b t=some x/\QT s x/\(x.op=1->bR b x.n=none):=by
 obtain⟨l,ρ,R,hS,hl⟩:=h.sim
 obtain⟨x,a1,a2,a3,a4,_⟩:=hS.root ht.vs
 exact⟨x,c8 a1,afl (fun p hp=>(h.ok p hp).2) _ t x a1 ht,a4⟩
theorem EX{s:az}{b:List (Int×Tm)}(h:rj s b){n:Int}{y:Tm}(hn:bR b n=none)(hr:0<=n/\n<20)(hy:QT s y)(hnr: ¬oY b n y):rj s (b++[(n,y)]):=by
 obtain⟨l,ρ,R,hS,hl⟩:=h.sim
 obtain⟨GZ,R',h'⟩:=hS.ext hl hn hy.vs fun hf=>hnr ((B4 hS hl hn hy.vs).1 hf)
 refine⟨h'.keys,fun p hp=> ?_,h'.Fu⟩
 rcases List.mem_append.1 hp with hp|hp
 ·exact h.ok p hp
 ·simp at hp;subst hp;exact⟨hr,hy⟩
theorem pC{s:az}{lim:Bool}{b:List (Int×Tm)}(h:rj s b){n:Int}{y:Tm}(hn:bR b n=none)(hr:0<=n/\n<20)(hy:QT s y)(h0:(gV lim b n y).1=0):rj s (gV lim b n y).2/\∃ext,(gV lim b n y).2=b++ext:=by
 unfold gV at h0|-
 split at h0
 ·exact HN
 ·rename_i h1
  rw[if_neg h1]
  split at h0
  ·exact HN
  ·rename_i h2
   rw[if_neg h2]
   exact⟨EX h hn hr hy h1,_,rfl⟩
theorem x6{s:az}{lim:Bool}:∀ (f:Nat) (t u:Tm) (b b':List (Int×Tm)),jJ lim f t u b=some (0,b')->rj s b->QT s t->QT s u->rj s b'/\∃ext,b'=b++ext
 |0,_,_,_,_,h,_,_,_=>by cases h
 |f+1,t,u,b,b',h,hb,ht,hu=>by
  simp only[jJ]at h
  obtain⟨x,ha,hx,M7⟩:=iR hb ht
  obtain⟨y,hc,hy,hyu⟩:=iR hb hu
  rw[ha,hc]at h
  dsimp only at h
  by_cases h1:x.op=1
  ·obtain⟨rx,ex⟩:=hx.eta h1
   rw[if_pos h1]at h
   by_cases h2:y.op=1
   ·obtain⟨ry,ey⟩:=hy.eta h2
    rw[if_pos h2]at h
    by_cases h3:x.n=y.n
    ·exact Ut
    ·rw[if_neg h3]at h
     injection h with h
     have lmx:bR b (max x.n y.n)=none:=by
      rw[Int.max_def];split
      ·exact hyu h2
      ·exact M7 h1
     have:=pC hb lmx (y:= .mk 1 (min x.n y.n) []) ad (QT.var ad) (by rw[h])
     rwa [h]at this
   ·rw[if_neg h2]at h
    injection h with h
    have:=pC hb (M7 h1) rx hy (by rw[h])
    rwa [h]at this
  ·rw[if_neg h1]at h
   by_cases h2:y.op=1
   ·obtain⟨ry,ey⟩:=hy.eta h2
    rw[if_pos h2]at h
    injection h with h
    have:=pC hb (hyu h2) ry hx (by rw[h])
    rwa [h]at this
   ·rw[if_neg h2]at h
    split at h
    ·have key:∀ (ks cK:List Tm) (b:List (Int×Tm)),(∀k∈ks,QT s k)->(∀k∈cK,QT s k)->rj s b->lX (jJ lim f) ks cK b=some (0,b')->rj s b'/\∃ext,b'=b++ext:=by
      intro ks
      induction ks with
      |nil=>
       exact T6
      |cons k ks ih=>
       intro cK b m1 m2 hb h
       cases cK with
       |nil=>
        exact acj
       |cons k' cK=>
        simp only[lX]at h
        cases he:jJ lim f k k' b with
        |none=>rw[he]at h;cases h
        |some q=>
         obtain⟨e1,b1⟩:=q
         rw[he]at h
         dsimp only at h
         by_cases e0:e1=0
         ·rw[if_pos e0]at h
          subst e0
          obtain⟨g1,x1,g2⟩:=x6 f k k' b b1 he hb (m1 k aF) (m2 k' aF)
          exact acs
         ·exact Un
     exact key x.kids y.kids b (fun k hk=>hx.lu hk) (fun k hk=>hy.lu hk) hb h
    ·injection h with h
     injection h with h _
     exact absurd h bF
theorem afm{s:az}{b:List (Int×Tm)}{l:List TB}{ρ:Int->Nat}{R:Nat}(h:kp s b l ρ R){M:Nat}(hM:∀p∈b,p.2.lL<=M):∀ (r:Nat) (t:Tm),Vs s t->(∀u,gy u t=true->ρ u<r)->(aO (ag l) t).lL<=t.lL+ug b ρ r*M:=by
 intro r
 induction r using Nat.strongRecOn with
 |ind r ihr=>
  refine Tm.eM fun t ih ht hr=> ?_
  by_cases h1:t.op=1
  ·have hv:gy t.n t=true:=(iy h1).2 rfl
   rw[dW ht h1]
   cases hx:bR b t.n with
   |none=>
    rw[show Lv (ag l) t.n= .mk 1 t.n [] by simp[Lv,(h.vX _).1 hx], <- ht.eta h1]
    omega
   |some x=>
    obtain⟨g1,g2,g3⟩:=h.ok _ _ hx
    have h3:=Jh hx (hr _ hv)
    have h4:=ihr _ (hr _ hv) x g1 g3
    have h5:=hM _ (cm hx)
    have h6:(ug b ρ (ρ t.n)+1)*M<=ug b ρ r*M:=Nat.mul_le_mul_right _ h3
    rw[Nat.add_mul,Nat.one_mul]at h6
    rw[g2]
    dsimp only at h5
    omega
  ·rw[eo h1,Tm.iO,Tm.iO t]
   show 1+Tm.gH (t.kids.map (aO (ag l)))<=1+Tm.gH t.kids+ug b ρ r*M
   have:Tm.gH (t.kids.map (aO (ag l)))<=Tm.gH t.kids+ug b ρ r*M:=by
    rw[lO]
    intro k hk
    obtain⟨k,Kh,rfl⟩:=List.mem_map.1 hk
    have h2:=ih k Kh (ht.lu Kh) (fun u hu=>hr u ((qm ht h1).2 ⟨k,Kh,hu⟩))
    have h3:=(lO _ _).1 (Nat.le_refl (Tm.gH t.kids)) k Kh
    omega
   omega
theorem Sz(b:List (Int×Tm))(ρ:Int->Nat)(r:Nat):ug b ρ r<=b.length:=by
 unfold ug
 exact ab3
inductive L5 (b:List (Int×Tm)) (q:Tm):Nat->Tm->Prop where
 |nil:L5 b q 0 q
 |step {d:Nat} {p x k:Tm}:L5 b q d p->im b p=some x->k∈x.kids->L5 b q (d+1) k
theorem SA{b ext:List (Int×Tm)}{v:Int}{x:Tm}(h:bR b v=some x):bR (b++ext) v=some x:=by
 induction b with
 |nil=>cases h
 |cons p b ih=>
  rw[List.cons_append]
  simp only[bR]at h|-
  split at h
  ·rename_i e;rw[if_pos e];exact h
  ·rename_i e;rw[if_neg e];exact ih h
theorem O0{b ext:List (Int×Tm)}:∀ (f:Nat) (t x:Tm),lU f b t=some x->x.op≠1->lU f (b++ext) t=some x
 |0,_,_,h,_=>by cases h
 |f+1,t,x,h,hx=>by
  simp only[lU]at h|-
  by_cases h1:t.op=1
  ·rw[if_pos h1]at h|-
   cases e:bR b t.n with
   |none=>rw[e]at h;injection h with h;subst h;exact absurd h1 hx
   |some y=>
    rw[e]at h
    rw[SA e]
    exact O0 f y x h hx
  ·rw[if_neg h1]at h|-;exact h
theorem L5.qt {s:az}{b:List (Int×Tm)}(hb:rj s b){q:Tm}(hq:QT s q){d:Nat}{k:Tm}(h:L5 b q d k):QT s k:=by
 induction h with
 |nil=>exact hq
 |step h1 h2 h3 ih=>
  obtain⟨x,e,hx,_⟩:=iR hb ih
  rw[e]at h2
  cases h2
  exact hx.lu h3
theorem L5.app {s:az}{b ext:List (Int×Tm)}(hb:rj s b){q:Tm}(hq:QT s q){d:Nat}{k:Tm}(h:L5 b q d k):L5 (b++ext) q d k:=by
 induction h with
 |nil=>exact .nil
 |step h1 h2 h3 ih=>
  rename_i d p x k
  obtain⟨y,e,hy,_⟩:=iR hb (h1.qt hb hq)
  obtain rfl:x=y:=Option.some.inj (h2.symm.trans e)
  have gX:x.op≠1:=fun ho=>by
   rw[(hy.eta ho).2]at h3
   cases h3
  obtain⟨g,hg⟩:=sJ e
  exact .step ih (c8 (O0 g p x hg gX)) h3
theorem L5.le {s:az}{b:List (Int×Tm)}(hb:rj s b){q:Tm}(hq:QT s q){d:Nat}{k:Tm}(h:L5 b q d k):d+1<=42001:=by
 obtain⟨l,ρ,R,hS,hl⟩:=hb.sim
 have h1:(aO (ag l) k).lL+d<=(aO (ag l) q).lL:=by
  induction h with
  |nil=>omega
  |step h1 h2 h3 ih=>
   rename_i d p x k
   obtain⟨y,a1,a2,a3,_⟩:=hS.root (h1.qt hb hq).vs
   obtain rfl:x=y:=Option.some.inj (h2.symm.trans (c8 a1))
   have gX:x.op≠1:=fun ho=>by
    rw[a2.eta ho]at h3
    cases h3
   have h4:aO (ag l) k∈(aO (ag l) x).kids:=by rw[eo gX];exact List.mem_map.2 ⟨k,h3,rfl⟩
   have h5:=Tm.vO h4
   rw[a3]at h5
   omega
 have h2:=afm hS (M:=2000) (fun p hp=>by have:=(hb.ok p hp).2.sz;have:=Tm.AB p.2;omega) (R+1) q hq.vs (fun u _=>by have:=hS.bd u;omega)
 have h3:=Sz b ρ (R+1)
 have h4:b.length<=20:=by
  have:=EL hb.keys fun v hv=>by
   obtain⟨p,hp,rfl⟩:=List.mem_map.1 hv
   exact(hb.ok p hp).1
  rwa [List.length_map]at this
 have h5:ug b ρ (R+1)*2000<=20*2000:=Nat.mul_le_mul_right _ ad
 have h6:=hq.sz
 have h7:=Tm.AB q
 omega
theorem Jq{s:az}{lim:Bool}:∀ (f:Nat) (t u q:Tm) (b:List (Int×Tm)) (d:Nat) (r:Int×List (Int×Tm)),rj s b->QT s q->QT s u->L5 b q d t->jJ lim f t u b=some r->∀F,42001<=d+F->jJ lim F t u b=some r
 |0,_,_,_,_,_,_,_,_,_,_,h,_,_=>by cases h
 |f+1,t,u,q,b,d,r,hb,hq,hu,hp,h,F,hF=>by
  have hd:=hp.le hb hq
  obtain⟨F,rfl⟩:∃k,F=k+1:=⟨F - 1,ad⟩
  have ht:=hp.qt hb hq
  obtain⟨x,ha,hx,M7⟩:=iR hb ht
  obtain⟨y,hc,hy,hyu⟩:=iR hb hu
  simp only[jJ]at h|-
  rw[ha,hc]at h|-
  dsimp only at h|-
  split at h
  ·rename_i h1;rw[if_pos h1];exact h
  ·rename_i h1
   rw[if_neg h1]
   split at h
   ·rename_i h2;rw[if_pos h2];exact h
   ·rename_i h2
    rw[if_neg h2]
    split at h
    ·rename_i h3
     rw[if_pos h3]
     have key:∀ (ks cK:List Tm) (b:List (Int×Tm)),rj s b->(∀k∈ks,L5 b q (d+1) k)->(∀k∈cK,QT s k)->lX (jJ lim f) ks cK b=some r->lX (jJ lim F) ks cK b=some r:=by
      intro ks
      induction ks with
      |nil=>intro cK b _ _ _ h;simpa only[lX]using h
      |cons k ks ih=>
       intro cK b hb m1 m2 h
       cases cK with
       |nil=>simpa only[lX]using h
       |cons k' cK=>
        simp only[lX]at h|-
        cases he:jJ lim f k k' b with
        |none=>rw[he]at h;cases h
        |some w=>
         obtain⟨e1,b1⟩:=w
         rw[he]at h
         rw[Jq f k k' q b (d+1) _ hb hq (m2 k' (by simp)) (m1 k (by simp)) he F (by omega)]
         dsimp only at h|-
         by_cases e0:e1=0
         ·rw[if_pos e0]at h|-
          subst e0
          obtain⟨g1,x1,g2⟩:=x6 f k k' b b1 he hb ((m1 k aF).qt hb hq) (m2 k' aF)
          refine ih cK b1 g1 (fun z hz=> ?_) (fun z hz=>m2 z pX) h
          rw[g2]
          exact(m1 z pX).app hb hq
         ·rw[if_neg e0]at h|-;exact h
     exact key x.kids y.kids b hb (fun k hk=> .step hp ha hk) (fun k hk=>hy.lu hk) h
    ·rename_i h3;rw[if_neg h3];exact h
theorem O4{s:az}{lim:Bool}{b:List (Int×Tm)}(hb:rj s b){t u:Tm}(ht:QT s t)(hu:QT s u){f:Nat}{e:Int}{b':List (Int×Tm)}(h:jJ lim f t u b=some (e,b')):∃m,kX lim 1000000000 m [(t,u)] b=some (e,b'):=by
 have h1:=Jq f t u t b 0 _ hb ht hu .nil h 42001 ad
 refine G7 (W:=2000) (P:=QT s) (I:=rj s) (fun t ht=>⟨?_,fun k hk=>ht.lu hk⟩) (fun b t x hb ht hx=> ?_) (fun f t u b b' h hb ht hu=>(x6 f t u b b' h hb ht hu).1) 42001 t u b e b' h1 hb ht hu [] 1 (e,b') bF ?_
 ·have:=nD t.kids
  have:=Tm.iN t
  have:=ht.sz
  omega
 ·obtain⟨y,e,hy,_⟩:=iR hb ht
  rw[e]at hx
  cases hx
  exact hy
 ·split
  ·rename_i e0;subst e0;rfl
  ·rfl
theorem Z6{b:List (Int×Tm)}{f:Nat}{t x:Tm}(h:lU f b t=some x){o:Nat->aa}{id:Nat}(ho:o id=dk b):Ry Tryz.prog 112 [.mp id, .d t.d] o (.d x.d):=by
 intro nx hg K X hK
 have cD:id<nx:=hg.lt MF
 have y1:id≠nx:=ad
 have y2:∀k,id≠nx+k:=fun k=>ad
 refine bJ.aH mix Oc aF ?_
 rw[RU]
 refine c9 (ae ho (ae y1 y2)) ?_
 refine aC (fun i:Nat×Tm=>⟨aY [.mp id, .ai, .ai, .ptr nx 0, .ptr (nx+1) 0],aw (aw o nx (.row i.2.row)) (nx+1) (.row [.d (.i 0), .d (.i 0), .ao]),nx+2⟩)
  (fun i=>lU i.1 b i.2=some x) (fun i=>i.1) (f,t) h ?_ ?_
 ·exact Us
 rintro⟨f,t⟩ hf
 simp only at hf
 cases f with
 |zero=>cases hf
 |succ f=>
 simp only[lU]at hf
 by_cases h1:t.op=1
 ·have fP:(t.op==1)=true:=by simpa using h1
  rw[if_pos h1]at hf
  cases hl:bR b t.n with
  |none=>
   rw[hl]at hf
   injection hf with hf
   subst hf
   refine c9 (ae fP (ae ho (ae y1 (ae y2 (dS hl))))) ?_
   exact hK _ _ ad dx (fun j hj=>bp)
  |some z=>
   rw[hl]at hf
   obtain⟨j,hj⟩:=gI hl
   refine c9 (ae fP (ae ho (ae y1 (ae y2 hj)))) ?_
   refine aj (f,z) hf iT (bM.bQ _ ad ad dx (fun j hj=> ?_) ?_)
   ·have UH:j<nx+2:=hj
    by_cases e1:j=nx
    ·subst e1;(repeat first|rfl|rw[ab]|rw[af _ _ _ _ (by omega)])
    ·by_cases e2:j=nx+1
     ·exact W2
     ·exact bp
   ·exact dU
 ·have fP:(t.op==1)=false:=by simpa using h1
  rw[if_neg h1]at hf
  injection hf with hf
  subst hf
  refine c9 (ae fP (ae ho (ae y1 y2))) ?_
  exact hK _ _ ad dx (fun j hj=>bp)
theorem EY{P:Program}{g:FuncId}{K:KD}{X:XD}{o:Nat->aa}{nx fr:Nat}{all:List V}{ds:List D}{rd0 rd:List Nat}{rs:List D}{Δ:List (Nat×aa)}(nR:rd.all (fun id=>decide (id<nx))=true)(h:CC P g all rd o (.ret rs) Δ)(hk:K (jM rs) Δ rd):nu P g K X o nx fr rd0 ds all:=by
 unfold nu
 exact .inr (D3 nR h hk)
theorem O5{b:List (Int×Tm)}{t x:Tm}(h:im b t=some x){o:Nat->aa}{id:Nat}(ho:o id=dk b):CC Tryz.prog 112 [.mp id, .d t.d] [id] o (.ret [x.d]) []:=by
 obtain⟨f,hf⟩:=sJ h
 refine CC.Yl (id+1) aF zo (fun i hi j hj=> ?_) (Z6 hf (by simp[Gj,ho]))
 simp at hi
 subst hi
 rw[ho]at hj
 simp[aa.refs]at hj
structure EqH (o:Nat->aa) (x m l:Nat) (ep:Nat) (lim:Bool) (b:List (Int×Tm)) (L:List TB):Prop where
 row:o x= .row [.mp m, .osl l ep, .d (.bool lim)]
 map:o m=dk b
 Vr:o l= .arr ep 59 4 (L.map TB.d)
theorem Ha{s:az}{lim:Bool}{b:List (Int×Tm)}{L:List TB}{n:Int}{y:Tm}(hb:rj s b)(hn:bR b n=none)(hr:0<=n/\n<20)(hy:QT s y)(hL:L.length<=1000){x m l:Nat}(o:Nat->aa)(nx:Nat)(hg:Good o nx)(he:EqH o x m l 0 lim b L)(K X:V->(Nat->aa)->Nat->Prop)
 (a8:(gV lim b n y)=(0,b++[(n,y)])->∀o' nx',nx<=nx'->Good o' nx'->EqH o' x m l 1 lim (b++[(n,y)]) (L++[⟨n,y⟩])->(∀j,j<nx->j≠x->j≠m->j≠l->o' j=o j)->K (.cf []) o' nx')
 (jK:(gV lim b n y).1=5->∀o' nx',nx<=nx'->Good o' nx'->(∀j,j<nx->j≠x->j≠m->j≠l->o' j=o j)->X (.d (.iface 162 (.agg []))) o' nx')
 (Bb:(gV lim b n y).1=3->∀o' nx',nx<=nx'->Good o' nx'->(∀j,j<nx->j≠x->j≠m->j≠l->o' j=o j)->X (.d (.iface 163 (.agg []))) o' nx'):
 bJ Tryz.prog 132 [.ptr x 0, .d (.i n), .d y.d] o nx K X:=by
 obtain⟨hx,hm,hl⟩:=he
 have lx:x<nx:=hg.lt MG
 have lm:m<nx:=hg.lt HD
 have ll:l<nx:=hg.lt (by rw[hl];exact aa.noConfusion)
 have dxm:x≠m:=fun e=>by subst e;rw[hx]at hm;cases hm
 have dxl:x≠l:=fun e=>by subst e;rw[hx]at hl;cases hl
 have dml:m≠l:=fun e=>by subst e;rw[hm]at hl;cases hl
 have y1:x≠nx:=ad
 have y2:∀k,x≠nx+k:=fun k=>ad
 have y3:m≠nx:=ad
 have y4:∀k,m≠nx+k:=fun k=>ad
 have y5:l≠nx:=ad
 have y6:∀k,l≠nx+k:=fun k=>ad
 have HZ:∀p∈b,Vs s p.2:=fun p hp=>(hb.ok p hp).2.vs
 have oZ:∀p∈b,p.2.fits:=fun p hp=>(hb.ok p hp).2.fits
 refine bJ.aH mix VK aF ?_
 rw[Y5]
 obtain⟨is,G5⟩:∃is:Bool,is=true↔oY b n y:=by
  classical
  exact⟨decide (oY b n y),aF⟩
 refine c9 (ae hx (ae hm (ae hl (ae y1 (ae y2 (ae y3 (ae y4 (ae y5 y6)))))))) ?_
 refine bf (Jl HZ oZ n y hy.vs hy.fits G5) rfl ?_
 refine c9 (ae hx (ae hm (ae hl (ae y1 (ae y2 (ae y3 (ae y4 (ae y5 y6)))))))) ?_
 refine aL (bN rfl) ?_
 cases is with
 |true=>
  refine c9 (ae hx (ae hm (ae hl (ae y1 (ae y2 (ae y3 (ae y4 (ae y5 y6)))))))) ?_
  have nT:gV lim b n y=(5,b):=by unfold gV;rw[if_pos (G5.1 rfl)]
  exact jK (by rw[nT]) _ _ ad dx (fun j h1 h2 h3 h4=>bp)
 |false=>
  have hnr: ¬oY b n y:=fun h=>Bool.false_ne_true (G5.2 h)
  have yK:=EX hb hn hr hy hnr
  have e0:L.length<=140737488355327/\(L.length+1)*48<=140737488355328:=ad
  refine c9 (ae hx (ae hm (ae hl (ae y1 (ae y2 (ae y3 (ae y4 (ae y5 (ae y6 (dS hn)))))))))) ?_
  refine aL (bE (ids:=[x,nx,m]) (nx:=nx+15) ir ir [([],[]),([0],[]),([0],[]),([0],[]),([],[]),([1],[]),([2],[2])] bF) ?_
  rw[xV hn]
  refine dQ (ae hx (ae hm (ae hl (ae y1 (ae y2 (ae y3 (ae y4 (ae y5 (ae y6 (ae dxm (ae dxl (ae dml (ae dxm.symm (ae dxl.symm (ae dml.symm e0))))))))))))))) ?_
  refine aL (bE (ids:=[x,nx,nx+23,l]) (nx:=nx+28) ir ir [([],[]),([],[]),([0],[]),([0],[]),([0],[]),([],[]),([1],[]),([],[]),([],[2]),([3,2],[3]),([0],[]),([0],[]),([0,3],[0])] bF) ?_
  cases lim with
  |false=>
   refine c9 (ae hx (ae hm (ae hl (ae y1 (ae y2 (ae y3 (ae y4 (ae y5 (ae y6 (ae dxm (ae dxl (ae dml (ae dxm.symm (ae dxl.symm dml.symm)))))))))))))) ?_
   exact a8 (by unfold gV;rw[if_neg hnr,if_neg (by simp)]) _ _ ad dx ⟨bp,bp,by(repeat first|rfl|rw[ab]|rw[af _ _ _ _ (by omega)]);rw[List.map_append];rfl⟩ (fun j h1 h2 h3 h4=>bp)
  |true=>
   obtain⟨fo,CG⟩:∃fo:Bool,fo=true↔∀p∈b++[(n,y)],AE (b++[(n,y)]) p.2:=by
    classical
    exact⟨decide (∀p∈b++[(n,y)],AE (b++[(n,y)]) p.2),aF⟩
   obtain⟨l',GZ,R',G9,vK⟩:=yK.sim
   refine c9 (ae hx (ae hm (ae hl (ae y1 (ae y2 (ae y3 (ae y4 (ae y5 (ae y6 (ae dxm (ae dxl (ae dml (ae dxm.symm (ae dxl.symm dml.symm)))))))))))))) ?_
   refine ax (AF (b:=b++[(n,y)]) (fun p hp=>(yK.ok p hp).2.fits) (fun p hp=>by obtain⟨r,hr⟩:=MM G9 12 p.2 40 (yK.ok p hp).2.vs;exact⟨_,r,hr⟩) CG) rfl ?_
   cases fo with
   |true=>
    refine gB ?_
    exact a8 (by unfold gV;rw[if_neg hnr,if_neg (fun h=>h.2 (CG.1 rfl))]) _ _ ad dx ⟨bp,bp,by(repeat first|rfl|rw[ab]|rw[af _ _ _ _ (by omega)]);rw[List.map_append];rfl⟩ (fun j h1 h2 h3 h4=>bp)
   |false=>
    refine gB ?_
    exact Bb (by unfold gV;rw[if_neg hnr,if_pos ⟨rfl,fun h=>Bool.false_ne_true (CG.2 h)⟩]) _ _ ad dx (fun j h1 h2 h3 h4=>bp)
section
@[reducible] def sK (p:Tm×Tm):D:= .agg [.i p.1.op, .i p.1.n, .sl (p.1.kids.map Tm.d), .i p.2.op, .i p.2.n, .sl (p.2.kids.map Tm.d)]
def s7(o:Nat->aa)(nx x m:Nat)(lim:Bool)(a c:Tm)(b:List (Int×Tm))(L:List TB)(st:List D):Nat->aa:=
 aw (aw (aw (aw (aw (aw o nx (.row a.row)) (nx+1) (.row c.row)) x (.row [.mp m, .osl (nx+7) 0, .d (.bool lim)])) m (dk b)) (nx+7) (.arr 0 59 4 (L.map TB.d))) (nx+8) (.arr 0 106 6 st)
section
variable {o:Nat->aa}{nx x m:Nat}{lim:Bool}{a c:Tm}{b:List (Int×Tm)}{L:List TB}{st:List D}(lx:x<nx)(lm:m<nx)(cj:x≠m)
include lx lm cj
theorem eqS_0:s7 o nx x m lim a c b L st nx= .row a.row:=JX
theorem eqS_1:s7 o nx x m lim a c b L st (nx+1)= .row c.row:=JX
theorem O6:s7 o nx x m lim a c b L st x= .row [.mp m, .osl (nx+7) 0, .d (.bool lim)]:=JX
theorem O7:s7 o nx x m lim a c b L st m=dk b:=JX
theorem eqS_7:s7 o nx x m lim a c b L st (nx+7)= .arr 0 59 4 (L.map TB.d):=JX
theorem eqS_8:s7 o nx x m lim a c b L st (nx+8)= .arr 0 106 6 st:=JX
omit lx lm cj in
theorem tf{j:Nat}(h0:j≠nx)(h1:j≠nx+1)(h2:j≠x)(h3:j≠m)(h7:j≠nx+7)(h8:j≠nx+8):s7 o nx x m lim a c b L st j=o j:=by unfold s7;(repeat first|rfl|rw[ab]|rw[af _ _ _ _ (by omega)])
omit lx lm cj in
theorem W7{b':List (Int×Tm)}{L':List TB}{st':List D}{j:Nat}(h1:j<nx+7)(h2:j≠x)(h3:j≠m):s7 o nx x m lim a c b L st j=s7 o nx x m lim a c b' L' st' j:=by
 have e:∀b L st,s7 o nx x m lim a c b L st j=aw (aw o nx (.row a.row)) (nx+1) (.row c.row) j:=fun b L st=>by
  unfold s7
  rw[af _ _ _ _ (by omega),af _ _ _ _ (by omega),af _ _ _ _ h3,af _ _ _ _ h2]
 rw[e,e]
omit lx lm cj in
theorem Z7{st':List D}{j:Nat}(h:j≠nx+8):s7 o nx x m lim a c b L st j=s7 o nx x m lim a c b L st' j:=by
 unfold s7
 rw[af _ _ _ _ h,af _ _ _ _ h]
theorem kx(hg:Good o nx):Good (s7 o nx x m lim a c b L st) (nx+9):=by
 have _:=cj
 unfold s7
 refine Good.aw (Good.aw (Good.aw (Good.aw (Good.aw (Good.aw (hg.mono ad) ad rfl) ad rfl) ad ?_) ad rfl) ad rfl) ad rfl
 simp[aa.refs,V.aN,V.refs]
 omega
theorem pD(gone:Nat->Prop)(xl xs:V)(l:List V)(hg:Good o nx)(tT:∀id,gone id->nx+7<=id\/(o id= .no/\id≠nx/\id≠nx+1/\id≠x/\id≠m)){e:Nat->V}{so:Nat->aa}{k:Nat}
 (gl:gw so gone 59 4 (L.map TB.d) xl) (gs:gw so gone 106 6 st xs) (fS:∀id ep gM,xl= .osl id ep->xs= .osl id gM->False) (sx:so x= .row [.mp m,xl, .d (.bool lim)]) (sm:so m=dk b)
 (h:∀j,j<nx+7->j≠x->j≠m->s7 o nx x m lim a c b L st j= .no\/so j=s7 o nx x m lim a c b L st j)
 (he:iL (nx+7) [⟨xl,59,4,L.map TB.d⟩,⟨xs,106,6,st⟩] so gone e l 0):bM nx ⟨e,so,k⟩ ⟨aY l,s7 o nx x m lim a c b L st,nx+9⟩:=by
 have hG:=kx (lim:=lim) (a:=a) (c:=c) (b:=b) (L:=L) (st:=st) lx lm cj hg
 refine bM.see gone _ (nx+7) l rfl ad (fun j hj=> ?_) (fun i g h=> ?_) (fun j hj=>hG.fresh j hj) (fun j h1 h2=> ?_) (fun i j gi gj id ep gM h h' e1 e2=> ?_) he
 ·by_cases e1:j=x
  ·subst e1
   rw[O6 lx lm cj]
   exact ab4
  ·by_cases e2:j=m
   ·subst e2
    rw[O7 lx lm cj]
    exact bB sm (fun r hr=>by simp[aa.refs]at hr)
   ·rcases h j hj e1 e2 with h|h
    ·rw[h];exact lM
    ·refine bB h fun r hr=> ?_
     by_cases e3:j=nx
     ·subst e3;rw[eqS_0 lx lm cj]at hr;simp[aa.refs,V.aN,V.refs]at hr
     ·by_cases e4:j=nx+1
      ·subst e4;rw[eqS_1 lx lm cj]at hr;simp[aa.refs,V.aN,V.refs]at hr
      ·rw[tf e3 e4 e1 e2 (by omega) (by omega)]at hr
       have:=hg.refs j r hr
       omega
 ·match i,h with
  |0,h=>simp at h;subst h;exact⟨eqS_7 lx lm cj,gl⟩
  |1,h=>simp at h;subst h;exact⟨eqS_8 lx lm cj,gs⟩
 ·rcases tT j h1 with h|⟨g1,g2,g3,g4,g5⟩
  ·omega
  ·rw[tf g2 g3 g4 g5 (by omega) (by omega)];exact g1
 ·match i,j,h,h' with
  |0,0,_,_=>rfl
  |1,1,_,_=>rfl
  |0,1,h,h'=>simp at h h';subst h;subst h';exact(fS _ _ _ e1 e2).elim
  |1,0,h,h'=>simp at h h';subst h;subst h';exact(fS _ _ _ e2 e1).elim
end
theorem lQ(o:Nat->aa)(pO:Bool)(a b:Int):th Tryz.prog o 164 pO (.d (.agg [.i a, .i b])) (.d (.agg [.i 1, .i 1]))=some (.d (.bool (a==1&&b==1))):=by
 have h1:b8 Tryz.prog 164=some (.arr 2 30):=aJ
 have h3:b8 Tryz.prog 30=some .int:=aJ
 have h5:du Tryz.prog 30=some false:=aJ
 have h6:rh Tryz.prog 100 164 (.agg [.i a, .i b]) (.agg [.i 1, .i 1])=some (a==1&&b==1):=by
  have h7:Tryz.prog.cellsOf 30=1:=aJ
  simp[rh,h1,h3,h5,h7,C0,UA,jU,Kj]
 obtain⟨n,e,h⟩:∃n e,Tryz.prog.underlying 164=some (.array n e):=⟨2,30,aJ⟩
 have h2:Tryz.prog.eqGuardType Tryz.prog.depth 164=false:=aJ
 unfold th
 rw[h]
 dsimp only
 rw[if_pos h2,h6]
 rfl
section
variable {o:Nat->aa}{nx x m:Nat}{lim:Bool}{a c:Tm}{b:List (Int×Tm)}{L:List TB}{st:List D}(lx:x<nx)(lm:m<nx)(cj:x≠m)
include lx lm cj
theorem O8(gone:Nat->Prop)(xs:V)(l:List V)(hg:Good o nx)(tT:∀id,gone id->nx+87<=id\/id=nx+8){xt xu:Tm}{e:Nat->V}{so:Nat->aa}{k:Nat}
 (gs:gw so gone 106 6 st xs) (h40:so (nx+40)= .row xt.row) (h41:so (nx+41)= .row xu.row)
 (h:∀j,j<nx+40->j≠nx+8->j≠nx+18->True->so j=s7 o nx x m lim a c b L [] j)
 (he:iL (nx+87) [⟨xs,106,6,st⟩] so gone e l 0):bM nx ⟨e,so,k⟩ ⟨aY l,aw (aw (aw (aw (s7 o nx x m lim a c b L []) (nx+8) .no) (nx+40) (.row xt.row)) (nx+41) (.row xu.row)) (nx+87) (.arr 0 106 6 st),nx+87+1⟩:=by
 have hG:=kx (lim:=lim) (a:=a) (c:=c) (b:=b) (L:=L) (st:=[]) lx lm cj hg
 refine bM.sj gone xs (nx+87) l ad (fun j hj=> ?_) (ab _ _ _) gs (fun j hj=> ?_) (fun j h1 h2=> ?_) he
 ·by_cases e1:j=nx+41
  ·subst e1
   exact nC (y:= .row xu.row) h41 bp (bB rfl (fun r hr=>by simp[aa.refs,V.aN,V.refs]at hr))
  ·by_cases e2:j=nx+40
   ·subst e2
    exact nC (y:= .row xt.row) h40 bp (bB rfl (fun r hr=>by simp[aa.refs,V.aN,V.refs]at hr))
   ·by_cases e3:j=nx+8
    ·subst e3
     exact nC (y':= .no) rfl bp lM
    ·by_cases e4:j<nx+9
     ·exact nC (y:=s7 o nx x m lim a c b L [] j) (h j ad e3 ad trivial) bp (bB rfl (fun r hr=>by have:=hG.refs j r hr;omega))
     ·exact nC (y':= .no) rfl (by(repeat first|rfl|rw[ab]|rw[af _ _ _ _ (by omega)]);exact hG.fresh j ad) lM
 ·(repeat first|rfl|rw[ab]|rw[af _ _ _ _ (by omega)])
  exact hG.fresh j ad
 ·rcases tT j h1 with h|h
  ·omega
  ·exact Tz
end
end
theorem bJ.x7 {P:Program}{g:FuncId}{x:V}{d:D}{rest:List V}{o:Nat->aa}{nx:Nat}{K X:V->(Nat->aa)->Nat->Prop}(hx:ef o x=some d)
 (h:bJ P g (.d d::rest) (put o (bK o x.ids)) nx K X):bJ P g (x::rest) o nx K X:=by
 refine⟨h.1,fun M φ w vals hH hd=> ?_⟩
 have hd0:=hd
 obtain⟨val,us,kF,hv,eE⟩:=hd
 have hu:=fun id ay=>c6 x val hv id ay
 obtain⟨f1,f2,f3,f4,f5⟩:=dh (H:=hp o nx) hH x.ids hu
 have ft:(hp o nx).put (bK o x.ids)=hp (put o (bK o x.ids)) nx:=B0 (fun y hy=>by
  simp only[bK,List.mem_map]at hy
  obtain⟨id,ay,rfl⟩:=hy
  exact hu id ay)
 have Wo:=f1;have Wp:=f2
 rw[show bK (hp o nx).o x.ids=bK o x.ids from rfl,ft]at Wo Wp
 have Qn:∀k,cO φ ((hp o nx).put (bK o x.ids)) k->cO φ (hp o nx) k:=by
  rintro k ⟨id,g1,g2⟩
  by_cases ay:id∈x.ids
  ·have:=f3 id ay
   rw[show((hp o nx).put (bK o x.ids)).o id=_ from this]at g1
   refine⟨id, ?_,g2⟩
   revert g1
   cases(hp o nx).o id<;>simp[aa.fz,aa.live]
  ·have:=f4 id ay
   exact Ug
 have AH:∀j,la (((hp o nx).put (bK o x.ids)).o j) ((hp o nx).o j):=fun j=>by
  by_cases hm:j∈x.ids
  ·exact TD
  ·exact Ty
 have h4:=V.kU (H:=hp o nx) (H':=(hp o nx).put (bK o x.ids)) (B:=aq M φ (hp o nx)) (B':=aq M φ ((hp o nx).put (bK o x.ids))) (fun k h h'=>h (h'.imp id (Qn k))) x val (fun id ay=>⟨AH id,rfl,(f5 id).2 ((V.ko x val hv) id ay)⟩) hv
 have h5:=fg f1 (o:=o) x d val (fun id ay=>f3 id ay) hx h4
 have h6:=V.eX (H:=hp o nx) (H':=(hp o nx).put (bK o x.ids)) (B:=aq M φ (hp o nx)) (B':=aq M φ ((hp o nx).put (bK o x.ids))) (fun k h h'=>h (h'.imp id (Qn k))) rest us (fun id ay=>⟨AH id,rfl,(f5 id).2 ((V.eN rest us eE) id ay)⟩) eE
 rw[show(hp o nx).put (bK (hp o nx).o x.ids)=hp (put o (bK o x.ids)) nx from ft]at h5
 rw[ft]at h6
 refine(h.2 M φ w vals Wo ⟨val,us,kF,h5,h6⟩).mono ?_
 rintro e w' ⟨aI,o',nx',v,k1,k2,k3⟩
 exact⟨aI,o',nx',v,k1,Wp.trans k2,k3⟩
theorem nH{B:Nat->Prop}{φ:Place}{H:Hp}{w:World}:∀ (pre:List V) (x:V) (rest:List V) (vals:List Value),V.aG B φ H w (pre++x::rest) vals↔∃v1 val us,vals=v1++val::us/\V.aG B φ H w pre v1/\V.den B φ H w x val/\V.aG B φ H w rest us
 |[],x,rest,vals=>by
  constructor
  ·rintro⟨u,us,h1,h2,h3⟩;exact⟨[],u,us,h1,rfl,h2,h3⟩
  ·rintro⟨v1,u,us,h1,h0,h2,h3⟩
   have h0:v1=[]:=h0
   subst h0
   exact⟨u,us,h1,h2,h3⟩
 |a::pre,x,rest,vals=>by
  constructor
  ·rintro⟨u,us,h1,h2,h3⟩
   obtain⟨v1,val,us',g1,g2,g3,g4⟩:=(nH pre x rest us).1 h3
   exact⟨u::v1,val,us',by rw[h1,g1];rfl,⟨u,v1,rfl,h2,g2⟩,g3,g4⟩
  ·rintro⟨v1,val,us',g1,⟨u,v2,g5,g6,g7⟩,g3,g4⟩
   subst g5
   exact⟨u,v2++val::us',by rw[g1];rfl,g6,(nH pre x rest _).2 ⟨v2,val,us',rfl,g7,g3,g4⟩⟩
theorem bJ.Z8 {P:Program}{g:FuncId}(pre:List V){x:V}{d:D}{rest:List V}{o:Nat->aa}{nx:Nat}{K X:V->(Nat->aa)->Nat->Prop}(hx:ef o x=some d)
 (h:bJ P g (pre++ .d d::rest) (put o (bK o x.ids)) nx K X):bJ P g (pre++x::rest) o nx K X:=by
 refine⟨h.1,fun M φ w vals hH hd=> ?_⟩
 have hd0:=hd
 obtain⟨v1,val,us,kF,qO,hv,eE⟩:=(nH pre x rest vals.toList).1 hd
 have hu:=fun id ay=>c6 x val hv id ay
 obtain⟨f1,f2,f3,f4,f5⟩:=dh (H:=hp o nx) hH x.ids hu
 have ft:(hp o nx).put (bK o x.ids)=hp (put o (bK o x.ids)) nx:=B0 (fun y hy=>by
  simp only[bK,List.mem_map]at hy
  obtain⟨id,ay,rfl⟩:=hy
  exact hu id ay)
 have Wo:=f1;have Wp:=f2
 rw[show bK (hp o nx).o x.ids=bK o x.ids from rfl,ft]at Wo Wp
 have Qn:∀k,cO φ ((hp o nx).put (bK o x.ids)) k->cO φ (hp o nx) k:=by
  rintro k ⟨id,g1,g2⟩
  by_cases ay:id∈x.ids
  ·have:=f3 id ay
   rw[show((hp o nx).put (bK o x.ids)).o id=_ from this]at g1
   refine⟨id, ?_,g2⟩
   revert g1
   cases(hp o nx).o id<;>simp[aa.fz,aa.live]
  ·have:=f4 id ay
   exact Ug
 have AH:∀j,la (((hp o nx).put (bK o x.ids)).o j) ((hp o nx).o j):=fun j=>by
  by_cases hm:j∈x.ids
  ·exact TD
  ·exact Ty
 have h4:=V.kU (H:=hp o nx) (H':=(hp o nx).put (bK o x.ids)) (B:=aq M φ (hp o nx)) (B':=aq M φ ((hp o nx).put (bK o x.ids))) (fun k h h'=>h (h'.imp id (Qn k))) x val (fun id ay=>⟨AH id,rfl,(f5 id).2 ((V.ko x val hv) id ay)⟩) hv
 have h5:=fg f1 (o:=o) x d val (fun id ay=>f3 id ay) hx h4
 have h6:=V.eX (H:=hp o nx) (H':=(hp o nx).put (bK o x.ids)) (B:=aq M φ (hp o nx)) (B':=aq M φ ((hp o nx).put (bK o x.ids))) (fun k h h'=>h (h'.imp id (Qn k))) rest us (fun id ay=>⟨AH id,rfl,(f5 id).2 ((V.eN rest us eE) id ay)⟩) eE
 have h7:=V.eX (H:=hp o nx) (H':=(hp o nx).put (bK o x.ids)) (B:=aq M φ (hp o nx)) (B':=aq M φ ((hp o nx).put (bK o x.ids))) (fun k h h'=>h (h'.imp id (Qn k))) pre v1 (fun id ay=>⟨AH id,rfl,(f5 id).2 ((V.eN pre v1 qO) id ay)⟩) qO
 rw[show(hp o nx).put (bK (hp o nx).o x.ids)=hp (put o (bK o x.ids)) nx from ft]at h5
 rw[ft]at h6 h7
 refine(h.2 M φ w vals Wo ((nH pre (.d d) rest vals.toList).2 ⟨v1,val,us,kF,h7,h5,h6⟩)).mono ?_
 rintro e w' ⟨aI,o',nx',v,k1,k2,k3⟩
 exact⟨aI,o',nx',v,k1,Wp.trans k2,k3⟩
def eqE(nx x:Nat):List V:=[.ptr x 0, .ai, .ai, .ai, .ptr nx 0, .ptr (nx+1) 0, .osl (nx+8) 0]
theorem x8{s:az}{lim:Bool}{b:List (Int×Tm)}{L:List TB}{a c:Tm}(hb:rj s b)(ha:QT s a)(hc:QT s c)(hL:L.length<=100){f:Nat}{e:Int}{b':List (Int×Tm)}(hf:jJ lim f a c b=some (e,b'))
 {x m:Nat} {xl:V} (o o1:Nat->aa) (nx:Nat) (gn:Nat->Prop) (hg:Good o nx) (Fl:Good o1 nx) (hx:o x= .row [.mp m,xl, .d (.bool lim)]) (hm:o m=dk b) (hl:gw o gn 59 4 (L.map TB.d) xl)
 (tT:∀j,gn j->j<nx/\j≠x/\j≠m/\o1 j= .no) (h1:∀j,j<nx->o1 j= .no\/o j=o1 j) (K X:V->(Nat->aa)->Nat->Prop)
 (a8:e=0->∀E:List TB,b'=b++ag E->∀o' nx',nx+8<=nx'->Good o' nx'->EqH o' x m (nx+7) 0 lim b' (L++E)->(∀j,j<nx->j≠x->j≠m->o' j=o1 j)->K (.cf []) o' nx')
 (jK:e=5->∀o' nx',nx<=nx'->Good o' nx'->(∀j,j<nx->j≠x->j≠m->o' j=o1 j)->X (.d (.iface 162 (.agg []))) o' nx')
 (Bb:e=3->∀o' nx',nx<=nx'->Good o' nx'->(∀j,j<nx->j≠x->j≠m->o' j=o1 j)->X (.d (.iface 163 (.agg []))) o' nx'):
 bJ Tryz.prog 103 [.ptr x 0, .d a.d, .d c.d] o nx K X:=by
 have lx:x<nx:=hg.lt MG
 have lm:m<nx:=hg.lt HD
 have cj:x≠m:=fun e=>by subst e;rw[hx]at hm;cases hm
 obtain⟨N,hN⟩:=O4 hb ha hc hf
 refine bJ.aH mix Vx aF ?_
 rw[YS]
 refine c9 (ae hx hm) ?_
 refine aC (fun i:Nat×List (Tm×Tm)×List TB=>⟨aY (eqE nx x),s7 o1 nx x m lim a c (b++ag i.2.2) (L++i.2.2) (i.2.1.reverse.map sK),nx+9⟩)
  (fun i=>kX lim 1000000000 i.1 i.2.1 (b++ag i.2.2)=some (e,b')/\rj s (b++ag i.2.2)/\∀p∈i.2.1,QT s p.1/\QT s p.2) (fun i=>i.1) (N,[(a,c)],[])
  ⟨by simpa[ag]using hN,by simpa[ag]using hb,fun p hp=>by simp at hp;subst hp;exact⟨ha,hc⟩⟩ ?_ ?_
 ·dsimp only
  have gx: ¬gn x:=fun h=>(tT x h).2.1 rfl
  have gm: ¬gn m:=fun h=>(tT m h).2.2.1 rfl
  refine pD lx lm cj (fun j=>gn j\/j=nx+5) xl (.osl (nx+5) 0) _ Fl (fun id h=> ?_) ?_ (.inr ⟨nx+5,0, .inr rfl,rfl,bp⟩) (fun id ep gM h h'=> ?_) (gW hx) (by(repeat first|rfl|rw[ab]|rw[af _ _ _ _ (by omega)]);rw[hm];simp[ag]) (fun j j1 j2 j3=> ?_) ?_
  ·rcases h with h|h
   ·obtain⟨h1,h2,h3,h4⟩:=tT id h
    exact .inr ⟨h4,ad,ad,h2,h3⟩
   ·exact .inr ⟨Fl.fresh _ ad,ad,ad,ad,ad⟩
  ·rcases hl with h|⟨id,ep,h1,h2,h3⟩
   ·exact .inl (by simpa using h)
   ·have:=(tT id h1).1
    exact .inr ⟨id,ep, .inl h1,h2,by(repeat first|rfl|rw[ab]|rw[af _ _ _ _ (by omega)]);simpa using h3⟩
  ·rcases hl with⟨h1,_⟩|⟨CB,aiw,h1,h2,h3⟩
   ·rw[h1]at h;cases h
   ·have:=(tT CB h1).1
    rw[h2]at h
    cases h
    cases h'
    omega
  ·by_cases e1:j=nx
   ·subst e1;rw[eqS_0 lx lm cj];right;(repeat first|rfl|rw[ab]|rw[af _ _ _ _ (by omega)])
   ·by_cases e2:j=nx+1
    ·subst e2;rw[eqS_1 lx lm cj];right;(repeat first|rfl|rw[ab]|rw[af _ _ _ _ (by omega)])
    ·rw[tf e1 e2 j2 j3 (by omega) (by omega)]
     by_cases e3:j<nx
     ·rcases h1 j e3 with h|h
      ·exact .inl h
      ·right;(repeat first|rfl|rw[ab]|rw[af _ _ _ _ (by omega)]);exact h
     ·left;exact Fl.fresh j ad
  ·unfold eqE
   (repeat(first|exact iw|refine cI ?_|refine dm rfl ?_|refine dm (nK (pU ad)) ?_|refine ku 0 rfl rfl rfl ?_|refine iY rfl Tn ?_|refine mU rfl To ?_))
   exact Ke
 rintro⟨n,st,E⟩ ⟨hM,hA,hS⟩
 dsimp only at hM hA hS|-
 have f0:=eqS_0 (o:=o1) (lim:=lim) (a:=a) (c:=c) (b:=b++ag E) (L:=L++E) (st:=st.reverse.map sK) lx lm cj
 have f1:=eqS_1 (o:=o1) (lim:=lim) (a:=a) (c:=c) (b:=b++ag E) (L:=L++E) (st:=st.reverse.map sK) lx lm cj
 have fx:=O6 (o:=o1) (lim:=lim) (a:=a) (c:=c) (b:=b++ag E) (L:=L++E) (st:=st.reverse.map sK) lx lm cj
 have fm:=O7 (o:=o1) (lim:=lim) (a:=a) (c:=c) (b:=b++ag E) (L:=L++E) (st:=st.reverse.map sK) lx lm cj
 have f7:=eqS_7 (o:=o1) (lim:=lim) (a:=a) (c:=c) (b:=b++ag E) (L:=L++E) (st:=st.reverse.map sK) lx lm cj
 have f8:=eqS_8 (o:=o1) (lim:=lim) (a:=a) (c:=c) (b:=b++ag E) (L:=L++E) (st:=st.reverse.map sK) lx lm cj
 unfold eqE
 cases n with
 |zero=>cases hM
 |succ n=>
 cases st with
 |nil=>
  simp only[kX]at hM
  injection hM with hM
  injection hM with hM1 hM2
  simp only[List.reverse_nil,List.map_nil]at f0 f1 fx fm f7 f8|-
  refine c9 (ae f0 (ae f1 (ae fx (ae fm (ae f7 f8))))) ?_
  refine a8 hM1.symm E hM2.symm _ _ ad (Good.mono (kx lx lm cj Fl) ad) ⟨fx,hM2 ▸ fm,f7⟩ (fun j h1 h2 h3=> ?_)
  exact tf ad ad h2 h3 ad ad
 |cons p st=>
 obtain⟨t,u⟩:=p
 have Ic:Good o1 nx:=Fl
 have hlen:(st.length:Int)+1>0:=ad
 have hrv:((t,u)::st).reverse.map sK=st.reverse.map sK++[sK (t,u)]:=aF
 rw[hrv]at f0 f1 fx fm f7 f8|-
 have kC:st.length<1000000000:=by
  refine Classical.byContradiction fun h=> ?_
  simp only[kX]at hM
  rw[if_pos (by omega)]at hM
  cases hM
 have gk:decide ((0:Int)<((st.length+1:Nat):Int))=true:=by rw[decide_eq_true_eq];omega
 have vf:((st.length+1:Nat):Int) - 1=(st.length:Nat):=ad
 have qs:(st.reverse.map sK++[sK (t,u)])[st.length]? =some (sK (t,u)):=by
  rw[List.getElem?_append_right (by simp)]
  simp
 have ahX:(if((st.length:Nat):Int)=0 then some (V.osl (nx+8) 1,[(nx+8,aa.arr 1 106 6 [])],[nx+8])else some (V.osl (nx+8) 1,[(nx+8,aa.arr 1 106 6 (List.take st.length (st.reverse.map sK++[sK (t,u)])))],[nx+8]))=some (V.osl (nx+8) 1,[(nx+8,aa.arr 1 106 6 (st.reverse.map sK))],[nx+8]):=by
  split
  ·have Dc:st=[]:=List.eq_nil_of_length_eq_zero ad
   subst Dc
   rfl
  ·rw[List.take_append_of_le_length (by simp),List.take_of_length_le (by simp)]
 obtain⟨xt,hxt,qxt,uxt⟩:=iR hA (hS (t,u) aF).1
 obtain⟨xu,M7,qxu,uxu⟩:=iR hA (hS (t,u) aF).2
 refine abu (ae f0 (ae f1 (ae fx (ae fm (ae f7 (ae f8 (ae gk (ae vf (ae qs ahX))))))))) ?_
 refine EY ir (O5 hxt (gW fm)) ?_
 refine c9 (ae f0 (ae f1 (ae fx (ae fm (ae f7 f8))))) ?_
 refine EY ir (O5 M7 (gW fm)) ?_
 refine c9 (ae f0 (ae f1 (ae fx (ae fm (ae f7 f8))))) ?_
 refine aL (bE (ids:=[x,nx+18,m,nx+40,nx+41]) (nx:=nx+44) ir ir [([],[]),([0],[]),([0],[]),([0],[]),([1],[]),([1],[]),([2],[]),([],[]),([0],[]),([0],[]),([0],[]),([1],[]),([1],[]),([2],[]),([],[3]),([],[4]),([3],[3]),([4],[4])] bF) ?_
 simp only[kX]at hM
 rw[if_neg (by omega),hxt,M7]at hM
 dsimp only at hM
 have hLE:(L++E).length<=1000:=by
  have h20:=EL hA.keys fun v hv=>by
   obtain⟨p,hp,rfl⟩:=List.mem_map.1 hv
   exact(hA.ok p hp).1
  rw[List.length_map,List.length_append,ag,List.length_map]at h20
  rw[List.length_append]
  omega
 have G9:∀p∈st,QT s p.1/\QT s p.2:=fun p hp=>hS p (by simp[hp])
 by_cases h1:xt.op=1
 ·rw[if_pos h1]at hM
  have fP:(xt.op==1)=true:=by simpa using h1
  by_cases h2:xu.op=1
  ·rw[if_pos h2]at hM
   have l7:(xu.op==1)=true:=by simpa using h2
   by_cases h3:xt.n=xu.n
   ·rw[if_pos h3]at hM
    have j7:(xt.n !=xu.n)=false:=by simp[h3]
    refine abv (ae f0 (ae f1 (ae fx (ae fm (ae f7 (ae f8 (ae fP (ae l7 (ae j7 @lQ))))))))) ?_
    refine aj (n,st,E) ⟨hM,hA,G9⟩ (Nat.lt_succ_self n) (pD lx lm cj (fun j=>nx+7<=j) (.osl (nx+7) 0) (.osl (nx+8) 1) _ Fl (fun id h=> .inl h) (.inr ⟨nx+7,0,Nat.le_refl _,rfl,gW f7⟩) (.inr ⟨nx+8,1,ad,rfl,bp⟩) (fun id ep gM h h'=>by cases h;cases h') (gW fx) (gW fm) (fun j j1 j2 j3=> ?_) ?_)
    ·right
     (repeat first|rfl|rw[ab]|rw[af _ _ _ _ (by omega)])
     exact CP
    ·(repeat(first|exact iw|refine cI ?_|refine dm rfl ?_|refine dm (nK (pU ad)) ?_|refine ku 0 rfl rfl rfl ?_|refine iY rfl Tn ?_|refine mU rfl To ?_))
     exact Ke
   ·rw[if_neg h3]at hM
    have j7:(xt.n !=xu.n)=true:=by simp[h3]
    obtain⟨rt,et⟩:=qxt.eta h1
    obtain⟨ru,eu⟩:=qxu.eta h2
    have lmx:bR (b++ag E) (max xt.n xu.n)=none:=by
     rw[Int.max_def];split
     ·exact uxu h2
     ·exact uxt h1
    refine abv (ae f0 (ae f1 (ae fx (ae fm (ae f7 (ae f8 (ae fP (ae l7 (ae j7 @lQ))))))))) ?_
    have em:(if xu.n>xt.n then xu.n else xt.n)=max xt.n xu.n:=by rw[Int.max_def];split<;>split<;>omega
    have en:(if xu.n<xt.n then xu.n else xt.n)=min xt.n xu.n:=by rw[Int.min_def];split<;>split<;>omega
    rw[em,en]
    refine aT (bJ.Z8 [.ptr x 0, .d (.i (max xt.n xu.n))] (d:=(Tm.mk 1 (min xt.n xu.n) []).d) (rest:=[]) rfl ?_)
    simp only[V.ids,V.bw,List.append_nil,bK,List.map_nil,NL,List.cons_append,List.nil_append]
    refine Ha (s:=s) (lim:=lim) (b:=b++ag E) (L:=L++E) (n:=max xt.n xu.n) (y:= .mk 1 (min xt.n xu.n) []) hA lmx ad (QT.var ad) hLE (x:=x) (m:=m) (l:=nx+7) _ _ ?_ ⟨?_, ?_, ?_⟩ _ _ (fun nT o2 n2 k1 k2 k3 k4=> ?_) (fun nT o2 n2 k1 k2 k4=> ?_) (fun nT o2 n2 k1 k2 k4=> ?_)
    ·refine Good.aw (Good.aw (Good.aw (Good.aw (Good.aw (Good.aw (Good.aw (Good.mono (kx lx lm cj Fl) ad) ad rfl) ad rfl) ad rfl) ad rfl) ad rfl) ad rfl) ad rfl
    ·exact W3
    ·exact W4
    ·exact W5
    ·rw[nT,if_pos rfl]at hM
     obtain⟨g1,g2,g3⟩:=k3
     refine cS ?_
     refine aj (n,st,E++[⟨max xt.n xu.n, .mk 1 (min xt.n xu.n) []⟩]) ⟨by rw[ew];simpa[ag]using hM,by have:=(pC (lim:=lim) (n:=max xt.n xu.n) (y:= .mk 1 (min xt.n xu.n) []) hA lmx ad (QT.var ad) (by rw[nT])).1;rw[nT]at this;rw[ew];simpa[ag]using this,G9⟩ (Nat.lt_succ_self n) (pD lx lm cj (fun j=>nx+7<=j) (.osl (nx+7) 1) (.osl (nx+8) 1) _ Fl (fun id h=> .inl h) (.inr ⟨nx+7,1,Nat.le_refl _,rfl,by rw[g3,List.append_assoc]⟩) (.inr ⟨nx+8,1,ad,rfl,by rw[k4 _ (by omega) (by omega) (by omega) (by omega)];(repeat first|rfl|rw[ab]|rw[af _ _ _ _ (by omega)])⟩) (fun id ep gM h h'=>by cases h;cases h') g1 (by rw[g2,ew];simp[ag]) (fun j j1 j2 j3=> ?_) ?_)
     ·right
      rw[k4 j (by omega) j2 j3 (by omega)]
      (repeat first|rfl|rw[ab]|rw[af _ _ _ _ (by omega)])
      exact CP
     ·(repeat(first|exact iw|refine cI ?_|refine dm rfl ?_|refine dm (nK (pU ad)) ?_|refine ku 0 rfl rfl rfl ?_|refine iY rfl Tn ?_|refine mU rfl To ?_))
      exact Ke
    ·rw[if_neg (by rw[nT];decide)]at hM
     have he:e=5:=by injection hM with hM;rw[hM]at nT;exact nT
     refine cS ?_
     refine jK he _ _ ad k2 (fun j j1 j2 j3=> ?_)
     rw[k4 j (by omega) j2 j3 (by omega)]
     (repeat first|rfl|rw[ab]|rw[af _ _ _ _ (by omega)])
     exact J8
    ·rw[if_neg (by rw[nT];decide)]at hM
     have he:e=3:=by injection hM with hM;rw[hM]at nT;exact nT
     refine cS ?_
     refine Bb he _ _ ad k2 (fun j j1 j2 j3=> ?_)
     rw[k4 j (by omega) j2 j3 (by omega)]
     (repeat first|rfl|rw[ab]|rw[af _ _ _ _ (by omega)])
     exact J8
  ·rw[if_neg h2]at hM
   have l7:(xu.op==1)=false:=by simpa using h2
   obtain⟨rt,et⟩:=qxt.eta h1
   simp+contextual (disch:=first|omega|simp only[go_sem,false_implies]) only[go_sem,wrap64,if_pos,f0,f1,fx,fm,f7,f8,Nat.add_assoc,Nat.left_eq_add,Nat.add_eq_left,Nat.add_left_cancel_iff,lQ,fP,l7,Bool.and_false]
   refine aT (Ha (s:=s) (lim:=lim) (b:=b++ag E) (L:=L++E) (n:=xt.n) (y:=xu) hA (uxt h1) rt qxu hLE (x:=x) (m:=m) (l:=nx+7) _ _ ?_ ⟨?_, ?_, ?_⟩ _ _ (fun nT o2 n2 k1 k2 k3 k4=> ?_) (fun nT o2 n2 k1 k2 k4=> ?_) (fun nT o2 n2 k1 k2 k4=> ?_))
   ·refine Good.aw (Good.aw (Good.aw (Good.aw (Good.aw (Good.aw (Good.aw (Good.mono (kx lx lm cj Fl) ad) ad rfl) ad rfl) ad rfl) ad rfl) ad rfl) ad rfl) ad rfl
   ·exact W3
   ·exact W4
   ·exact W5
   ·rw[nT,if_pos rfl]at hM
    obtain⟨g1,g2,g3⟩:=k3
    refine cS ?_
    refine aj (n,st,E++[⟨xt.n,xu⟩]) ⟨by rw[ew];simpa[ag]using hM,by have:=(pC (lim:=lim) hA (uxt h1) rt qxu (by rw[nT])).1;rw[nT]at this;rw[ew];simpa[ag]using this,G9⟩ (Nat.lt_succ_self n) (pD lx lm cj (fun j=>nx+7<=j) (.osl (nx+7) 1) (.osl (nx+8) 1) _ Fl (fun id h=> .inl h) (.inr ⟨nx+7,1,Nat.le_refl _,rfl,by rw[g3,List.append_assoc]⟩) (.inr ⟨nx+8,1,ad,rfl,by rw[k4 _ (by omega) (by omega) (by omega) (by omega)];(repeat first|rfl|rw[ab]|rw[af _ _ _ _ (by omega)])⟩) (fun id ep gM h h'=>by cases h;cases h') g1 (by rw[g2,ew];simp[ag]) (fun j j1 j2 j3=> ?_) ?_)
    ·right
     rw[k4 j (by omega) j2 j3 (by omega)]
     (repeat first|rfl|rw[ab]|rw[af _ _ _ _ (by omega)])
     exact CP
    ·(repeat(first|exact iw|refine cI ?_|refine dm rfl ?_|refine dm (nK (pU ad)) ?_|refine ku 0 rfl rfl rfl ?_|refine iY rfl Tn ?_|refine mU rfl To ?_))
     exact Ke
   ·rw[if_neg (by rw[nT];decide)]at hM
    have he:e=5:=by injection hM with hM;rw[hM]at nT;exact nT
    refine cS ?_
    refine jK he _ _ ad k2 (fun j j1 j2 j3=> ?_)
    rw[k4 j (by omega) j2 j3 (by omega)]
    (repeat first|rfl|rw[ab]|rw[af _ _ _ _ (by omega)])
    exact J8
   ·rw[if_neg (by rw[nT];decide)]at hM
    have he:e=3:=by injection hM with hM;rw[hM]at nT;exact nT
    refine cS ?_
    refine Bb he _ _ ad k2 (fun j j1 j2 j3=> ?_)
    rw[k4 j (by omega) j2 j3 (by omega)]
    (repeat first|rfl|rw[ab]|rw[af _ _ _ _ (by omega)])
    exact J8
 ·rw[if_neg h1]at hM
  have fP:(xt.op==1)=false:=by simpa using h1
  by_cases h2:xu.op=1
  ·rw[if_pos h2]at hM
   have l7:(xu.op==1)=true:=by simpa using h2
   obtain⟨ru,eu⟩:=qxu.eta h2
   simp+contextual (disch:=first|omega|simp only[go_sem,false_implies]) only[go_sem,wrap64,if_pos,f0,f1,fx,fm,f7,f8,Nat.add_assoc,Nat.left_eq_add,Nat.add_eq_left,Nat.add_left_cancel_iff,lQ,fP,l7,Bool.false_and]
   refine aT (Ha (s:=s) (lim:=lim) (b:=b++ag E) (L:=L++E) (n:=xu.n) (y:=xt) hA (uxu h2) ru qxt hLE (x:=x) (m:=m) (l:=nx+7) _ _ ?_ ⟨?_, ?_, ?_⟩ _ _ (fun nT o2 n2 k1 k2 k3 k4=> ?_) (fun nT o2 n2 k1 k2 k4=> ?_) (fun nT o2 n2 k1 k2 k4=> ?_))
   ·refine Good.aw (Good.aw (Good.aw (Good.aw (Good.aw (Good.aw (Good.aw (Good.mono (kx lx lm cj Fl) ad) ad rfl) ad rfl) ad rfl) ad rfl) ad rfl) ad rfl) ad rfl
   ·exact W3
   ·exact W4
   ·exact W5
   ·rw[nT,if_pos rfl]at hM
    obtain⟨g1,g2,g3⟩:=k3
    refine cS ?_
    refine aj (n,st,E++[⟨xu.n,xt⟩]) ⟨by rw[ew];simpa[ag]using hM,by have:=(pC (lim:=lim) hA (uxu h2) ru qxt (by rw[nT])).1;rw[nT]at this;rw[ew];simpa[ag]using this,G9⟩ (Nat.lt_succ_self n) (pD lx lm cj (fun j=>nx+7<=j) (.osl (nx+7) 1) (.osl (nx+8) 1) _ Fl (fun id h=> .inl h) (.inr ⟨nx+7,1,Nat.le_refl _,rfl,by rw[g3,List.append_assoc]⟩) (.inr ⟨nx+8,1,ad,rfl,by rw[k4 _ (by omega) (by omega) (by omega) (by omega)];(repeat first|rfl|rw[ab]|rw[af _ _ _ _ (by omega)])⟩) (fun id ep gM h h'=>by cases h;cases h') g1 (by rw[g2,ew];simp[ag]) (fun j j1 j2 j3=> ?_) ?_)
    ·right
     rw[k4 j (by omega) j2 j3 (by omega)]
     (repeat first|rfl|rw[ab]|rw[af _ _ _ _ (by omega)])
     exact CP
    ·(repeat(first|exact iw|refine cI ?_|refine dm rfl ?_|refine dm (nK (pU ad)) ?_|refine ku 0 rfl rfl rfl ?_|refine iY rfl Tn ?_|refine mU rfl To ?_))
     exact Ke
   ·rw[if_neg (by rw[nT];decide)]at hM
    have he:e=5:=by injection hM with hM;rw[hM]at nT;exact nT
    refine cS ?_
    refine jK he _ _ ad k2 (fun j j1 j2 j3=> ?_)
    rw[k4 j (by omega) j2 j3 (by omega)]
    (repeat first|rfl|rw[ab]|rw[af _ _ _ _ (by omega)])
    exact J8
   ·rw[if_neg (by rw[nT];decide)]at hM
    have he:e=3:=by injection hM with hM;rw[hM]at nT;exact nT
    refine cS ?_
    refine Bb he _ _ ad k2 (fun j j1 j2 j3=> ?_)
    rw[k4 j (by omega) j2 j3 (by omega)]
    (repeat first|rfl|rw[ab]|rw[af _ _ _ _ (by omega)])
    exact J8
  ·rw[if_neg h2]at hM
   have l7:(xu.op==1)=false:=by simpa using h2
   by_cases h3:xt.op=xu.op/\xt.n=xu.n/\xt.kids.length=xu.kids.length
   ·rw[if_pos h3]at hM
    obtain⟨h3a,h3b,h3c⟩:=h3
    have c1:(xt.op !=xu.op)=false:=by simp[h3a]
    have c2:(xt.n !=xu.n)=false:=by simp[h3b]
    have c3:((xt.kids.length:Int)!=(xu.kids.length:Int))=false:=by simp[h3c]
    have zi:xt.kids.length<=2000:=by have:=nD xt.kids;have:=Tm.iN xt;have:=qxt.sz;omega
    refine Qy (ae f0 (ae f1 (ae fx (ae fm (ae f7 (ae f8 (ae fP (ae l7 (ae c1 (ae c2 (ae c3 @lQ))))))))))) ?_
    obtain⟨len,qd⟩:∃len,xt.kids.length=len:=⟨_,rfl⟩
    have hlu:xu.kids.length=len:=by rw[<- h3c,qd]
    refine aC (fun j:Nat=>⟨aY [.ptr x 0, .ai, .ai, .ai, .ptr nx 0, .ptr (nx+1) 0, .osl (nx+87) 0, .ai, .ptr (nx+40) 0, .ptr (nx+41) 0, .d (.i ((len:Int) - 1 - (j:Int)))],aw (aw (aw (aw (s7 o1 nx x m lim a c (b++ag E) (L++E) []) (nx+8) .no) (nx+40) (.row xt.row)) (nx+41) (.row xu.row)) (nx+87) (.arr 0 106 6 (st.reverse.map sK++((xt.kids.zip xu.kids).reverse.take j).map sK)),nx+88⟩)
     (fun j=>j<=len) (fun j=>len - j) 0 (Nat.zero_le _) (O8 lx lm cj (fun id=>id=nx+8) (.osl (nx+8) 1) _ Fl (fun id h=> .inr h) (.inr ⟨nx+8,1,rfl,rfl,by(repeat first|rfl|rw[ab]|rw[af _ _ _ _ (by omega)]);simp⟩) bp bp (fun j j1 j2 j3 j4=>by(repeat first|rfl|rw[ab]|rw[af _ _ _ _ (by omega)]);exact Z7 j2) ?_) (fun j hj=> ?_)
    ·(repeat(first|exact iw|refine cI ?_|refine dm rfl ?_|refine dm (nK (pU ad)) ?_|refine ku 0 rfl rfl rfl ?_|refine iY rfl Tn ?_|refine mU rfl To ?_))
     refine dm (nK ad) ?_
     exact iV
    ·replace hj:j<=len:=hj
     have q40:∀l,aw (aw (aw (aw (s7 o1 nx x m lim a c (b++ag E) (L++E) []) (nx+8) .no) (nx+40) (.row xt.row)) (nx+41) (.row xu.row)) (nx+87) (.arr 0 106 6 l) (nx+40)= .row xt.row:=fun l=>bp
     have q41:∀l,aw (aw (aw (aw (s7 o1 nx x m lim a c (b++ag E) (L++E) []) (nx+8) .no) (nx+40) (.row xt.row)) (nx+41) (.row xu.row)) (nx+87) (.arr 0 106 6 l) (nx+41)= .row xu.row:=fun l=>bp
     have hrl:(xt.kids.zip xu.kids).reverse.length=len:=by rw[List.length_reverse,List.length_zip,qd,hlu];omega
     refine gB ?_
     refine ak (fun h4=> ?_) (fun h4=> ?_)
     ·have h4:j<len:=by simp at h4;omega
      obtain⟨i0,hi0⟩:∃i0:Nat,(len:Int) - 1 - (j:Int)=(i0:Int):=⟨len - 1 - j,ad⟩
      rw[hi0]
      obtain⟨z1,hz1⟩:=aA (show i0<xt.kids.length from ad)
      obtain⟨z2,L6⟩:=aA (show i0<xu.kids.length from ad)
      have hrz:(xt.kids.zip xu.kids).reverse[j]? =some (z1,z2):=by
       rw[List.getElem?_reverse (by rw[List.length_zip];omega),List.length_zip,qd,hlu,show min len len - 1 - j=i0 by omega,List.getElem?_zip_eq_some]
       exact⟨hz1,L6⟩
      have qW:(xt.kids.zip xu.kids).reverse.take (j+1)=(xt.kids.zip xu.kids).reverse.take j++[(z1,z2)]:=by rw[List.take_add_one,hrz];rfl
      have e0:((xt.kids.zip xu.kids).reverse.take j).length=j:=by rw[List.length_take];omega
      have dR:st.length+j<=140737488355327/\(st.length+j+1)*80<=140737488355328:=ad
      refine abu (ae hz1 (ae L6 (ae e0 dR))) ?_
      refine aL (bE (ids:=[nx+40,nx+41,nx+102,nx+87]) (nx:=nx+105) aF aF [([],[]),([0],[]),([0],[]),([],[]),([],[]),([],[]),([1],[]),([1],[]),([],[]),([],[]),([],[]),([],[]),([],[2]),([3,2],[3]),([],[])] bF) ?_
      refine gB ?_
      refine aj (j+1) h4 ad (O8 lx lm cj (fun id=>nx+87<=id) (.osl (nx+87) 1) _ Fl (fun id h=> .inl h) (.inr ⟨nx+87,1,Nat.le_refl _,rfl,by(repeat first|rfl|rw[ab]|rw[af _ _ _ _ (by omega)]);rw[qW,List.map_append,List.append_assoc];rfl⟩) bp bp (fun j j1 j2 j3 j4=>bp) ?_)
      (repeat(first|exact iw|refine cI ?_|refine dm rfl ?_|refine dm (nK (pU ad)) ?_|refine ku 0 rfl rfl rfl ?_|refine iY rfl Tn ?_|refine mU rfl To ?_))
      refine dm (nK ad) ?_
      exact iV
     ·have h4:j=len:=by simp at h4;omega
      subst h4
      refine gB ?_
      refine aj (n,xt.kids.zip xu.kids++st,E) ⟨hM,hA,fun p hp=> ?_⟩ (Nat.lt_succ_self n) (pD lx lm cj (fun j=>nx+7<=j) (.osl (nx+7) 0) (.osl (nx+87) 0) _ Fl (fun id h=> .inl h) (.inr ⟨nx+7,0,Nat.le_refl _,rfl, ?_⟩) (.inr ⟨nx+87,0,ad,rfl, ?_⟩) (fun id ep gM h h'=>by cases h;cases h') ?_ ?_ (fun j j1 j2 j3=> ?_) ?_)
      ·rcases List.mem_append.1 hp with hp|hp
       ·exact⟨qxt.lu (List.of_mem_zip hp).1,qxu.lu (List.of_mem_zip hp).2⟩
       ·exact G9 p hp
      ·(repeat first|rfl|rw[ab]|rw[af _ _ _ _ (by omega)])
       exact eqS_7 lx lm cj
      ·(repeat first|rfl|rw[ab]|rw[af _ _ _ _ (by omega)])
       rw[List.take_of_length_le (by omega),List.reverse_append,List.map_append]
      ·(repeat first|rfl|rw[ab]|rw[af _ _ _ _ (by omega)])
       exact O6 lx lm cj
      ·(repeat first|rfl|rw[ab]|rw[af _ _ _ _ (by omega)])
       exact O7 lx lm cj
      ·right
       (repeat first|rfl|rw[ab]|rw[af _ _ _ _ (by omega)])
       exact CP
      ·(repeat(first|exact iw|refine cI ?_|refine dm rfl ?_|refine dm (nK (pU ad)) ?_|refine ku 0 rfl rfl rfl ?_|refine iY rfl Tn ?_|refine mU rfl To ?_))
       exact Ke
   ·rw[if_neg h3]at hM
    injection hM with hM
    injection hM with hM1 hM2
    by_cases c1:(xt.op !=xu.op)=true
    ·refine Qy (ae f0 (ae f1 (ae fx (ae fm (ae f7 (ae f8 (ae fP (ae l7 (ae c1 @lQ))))))))) ?_
     exact WV
    have c1':(xt.op !=xu.op)=false:=by simpa using c1
    by_cases c2:(xt.n !=xu.n)=true
    ·refine Qy (ae f0 (ae f1 (ae fx (ae fm (ae f7 (ae f8 (ae fP (ae l7 (ae c1' (ae c2 @lQ)))))))))) ?_
     exact WV
    have c2':(xt.n !=xu.n)=false:=by simpa using c2
    have c3:((xt.kids.length:Int)!=(xu.kids.length:Int))=true:=by
     rw[bne_iff_ne]
     intro h
     exact h3 ⟨by simpa using c1',by simpa using c2',ad⟩
    refine Qy (ae f0 (ae f1 (ae fx (ae fm (ae f7 (ae f8 (ae fP (ae l7 (ae c1' (ae c2' (ae c3 @lQ))))))))))) ?_
    exact WV
end Go.Proofs.YtlhemmpklhhgoaaGreat
