/-
  A PART OF THE PROOF. Conditions: none.
-/
import Derived.Test.YtlhemmpklhhgoaaGreatQs17
set_option linter.unusedSimpArgs false
set_option linter.unusedVariables false
namespace Go.Proofs.YtlhemmpklhhgoaaGreat
theorem Of{s:aD}{lim:Bool}{b:List (Int×Tm)}{l:List TB}{ρ:Int->Nat}{R:Nat}(h:lD s b l ρ R):∀ (z:Nat) (t u:Tm),Vs s t->Vs s u->(aV (ai l) t).sz<=z->aV (ai l) t=aV (ai l) u->∃g,mf lim g t u b=some (0,b):=by
 intro z
 induction z with
 |zero=>intro t u _ _ hz;have:=Tm.pC (aV (ai l) t);omega
 |succ z ih=>
  intro t u ht hu hz he
  obtain⟨x,a1,a2,a3,a4,_,_⟩:=h.root ht
  obtain⟨y,b1,b2,b3,b4,_,_⟩:=h.root hu
  obtain⟨p1,p2,p3,p4,p5⟩:=uk h a2 a4
  obtain⟨q1,q2,q3,q4,q5⟩:=uk h b2 b4
  have WV:aV (ai l) x=aV (ai l) y:=by rw[a3,b3,he]
  have e1:x.op=y.op:=by rw[<- p1, <- q1,WV]
  have e2:x.n=y.n:=by rw[<- p2, <- q2,WV]
  have e3:x.kids.length=y.kids.length:=by rw[<- p3, <- q3,WV]
  by_cases h1:x.op=1
  ·refine⟨R+3, ?_⟩
   simp only[mf,cE a1,cE b1,if_pos h1,if_pos (e1 ▸ h1:y.op=1),if_pos e2]
  ·have h2: ¬y.op=1:=e1 ▸ h1
   have key:∀ (ks c9:List Tm),(∀k∈ks,k∈x.kids)->(∀k∈c9,k∈y.kids)->ks.map (aV (ai l))=c9.map (aV (ai l))->∃g,lH (mf lim g) ks c9 b=some (0,b):=by
    intro ks
    induction ks with
    |nil=>intro c9 _ _ _;exact⟨0,by simp only[lH]⟩
    |cons k ks wY=>
     intro c9 m1 m2 hm
     cases c9 with
     |nil=>exact⟨0,by simp only[lH]⟩
     |cons k' c9=>
      rw[List.map_cons,List.map_cons]at hm
      injection hm with Iy Mf
      have hk:=m1 k aF
      have hkz:(aV (ai l) k).sz<=z:=by
       have h3:aV (ai l) k∈(aV (ai l) x).kids:=by rw[p5 h1];exact List.mem_map.2 ⟨k,hk,rfl⟩
       have h4:=Tm.mI h3
       rw[a3]at h4
       omega
      obtain⟨g,hg⟩:=ih k k' (a2.jV hk) (b2.jV (m2 k' aF)) hkz Iy
      obtain⟨g2,hg2⟩:=wY c9 (fun y hy=>m1 y lJ) (fun y hy=>m2 y lJ) Mf
      refine⟨max g g2, ?_⟩
      simp only[lH]
      rw[iw hg (Nat.le_max_left _ _)]
      exact kU (fun k k' b r hk=>iw hk (Nat.le_max_right _ _)) hg2
   obtain⟨g,hg⟩:=key x.kids y.kids (fun _ h=>h) (fun _ h=>h) (by rw[<- p5 h1, <- q5 h2,WV])
   refine⟨max g (R+2)+1, ?_⟩
   simp only[mf]
   rw[cE a1,cE b1]
   simp only[if_neg h1,if_neg h2,if_pos (⟨e1,e2,e3⟩:x.op=y.op/\x.n=y.n/\x.kids.length=y.kids.length)]
   exact kU (fun k k' b r hk=>iw hk (Nat.le_max_left _ _)) hg
def EqR(s:aD)(lim:Bool)(r:List TB×Bool)(e:Int)(b':List (Int×Tm)):Prop:=
 (e=0/\r.2=true/\∃H9 R',lD s b' r.1 H9 R')\/(e=5/\r.2=false)\/(e=3/\lim=true)
theorem Ab{s:aD}{lim:Bool}{b:List (Int×Tm)}{l:List TB}{ρ:Int->Nat}{R:Nat}(h:lD s b l ρ R)(hl:gf s l){n:Int}{y:Tm}(hn:bN b n=none)(hy:Vs s y):
 EqR s lim (iI l n (aV (ai l) y), !(ct (aV (ai l) y)).contains n) (iq lim b n y).1 (iq lim b n y).2:=by
 have hc:(ct (aV (ai l) y)).contains n=true↔fO n (aV (ai l) y)=true:=by rw[List.contains_iff_mem];exact(cX _).2 _
 have hr:=zX h hl hn hy
 unfold iq
 by_cases h1:nK b n y
 ·rw[if_pos h1]
  exact .inr (.inl ⟨rfl,by rw[hc.2 (hr.2 h1)];rfl⟩)
 ·rw[if_neg h1]
  split
  ·rename_i h2
   exact .inr (.inr ⟨rfl,h2.1⟩)
  ·refine .inl ⟨rfl, ?_,h.ext hl hn hy fun hf=>h1 (hr.1 hf)⟩
   cases hcc:(ct (aV (ai l) y)).contains n with
   |false=>rfl
   |true=>exact absurd (hr.1 (hc.1 hcc)) h1
theorem Ez{s:aD}{lim:Bool}:∀ (f:Nat) (a c:Tm) (l:List TB) (r:List TB×Bool),dh f a c l=some r->gf s l->Vs s a->Vs s c->∀ (t u:Tm) (b:List (Int×Tm)) (ρ:Int->Nat) (R:Nat),lD s b l ρ R->Vs s t->Vs s u->aV (ai l) t=aV (ai l) a->aV (ai l) u=aV (ai l) c->
 ∃g e b',mf lim g t u b=some (e,b')/\EqR s lim r e b'
 |0,_,_,_,_,h,_,_,_,_,_,_,_,_,_,_,_,_,_=>by cases h
 |f+1,a,c,l,r,h,hl,ha,hc,t,u,b,ρ,R,hs,ht,hu,eta,euc=>by
  obtain⟨x,a1,a2,a3,a4,_,_⟩:=hs.root ht
  obtain⟨y,b1,b2,b3,b4,_,_⟩:=hs.root hu
  obtain⟨p1,p2,p3,p4,p5⟩:=uk hs a2 a4
  obtain⟨q1,q2,q3,q4,q5⟩:=uk hs b2 b4
  have ex:aV (ai l) a=aV (ai l) x:=by rw[a3,eta]
  have ey:aV (ai l) c=aV (ai l) y:=by rw[b3,euc]
  simp only[dh,ex,ey,p1,q1,p2,q2,p3,q3]at h
  split at h
  ·rename_i tQ
   injection h with h
   subst h
   rw[fY]at tQ
   obtain⟨g,hg⟩:=Of (lim:=lim) hs _ t u ht hu (Nat.le_refl _) (by rw[<- a3, <- b3,tQ])
   exact⟨g,0,b,hg, .inl ⟨rfl,rfl,ρ,R,hs⟩⟩
  ·rename_i fG
   split at h
   ·rename_i h12
    injection h with h
    subst h
    obtain⟨h1,h2⟩:=h12
    have WV:x.n≠y.n:=fun e=>fG (by rw[fY,p4 h1,q4 h2,a2.eta h1,b2.eta h2];rw[e])
    have rx:=a2.range ((gN h1).2 rfl)
    have ry:=b2.range ((gN h2).2 rfl)
    have WW:bN b (max x.n y.n)=none:=by
     rw[Int.max_def];split
     ·exact b4 h2
     ·exact a4 h1
    have lmn:bN b (min x.n y.n)=none:=by
     rw[Int.min_def];split
     ·exact a4 h1
     ·exact b4 h2
    have hvm:aV (ai l) (.mk 1 (min x.n y.n) [])= .mk 1 (min x.n y.n) []:=by
     rw[jL];simp[Lv,(hs.Av _).1 lmn]
    have hb:=Ab (lim:=lim) hs hl WW (Vs.var (s:=s) (v:=min x.n y.n) af)
    rw[hvm]at hb
    have Zf:(ct (Tm.mk 1 (min x.n y.n) [])).contains (max x.n y.n)=false:=by
     rw[Bool.eq_false_iff,Ne,List.contains_iff_mem,(cX _).2,nH]
     simp
     omega
    rw[Zf]at hb
    exact⟨R+3,_,_,by simp only[mf,cE a1,cE b1,if_pos h1,if_pos h2,if_neg WV],hb⟩
   ·rename_i h12
    split at h
    ·rename_i h1
     injection h with h
     subst h
     have h2: ¬y.op=1:=fun h2=>h12 ⟨h1,h2⟩
     exact⟨R+3,_,_,by simp only[mf,cE a1,cE b1,if_pos h1,if_neg h2],Ab hs hl (a4 h1) b2⟩
    ·rename_i h1
     split at h
     ·rename_i h2
      injection h with h
      subst h
      exact⟨R+3,_,_,by simp only[mf,cE a1,cE b1,if_neg h1,if_pos h2],Ab hs hl (b4 h2) a2⟩
     ·rename_i h2
      split at h
      ·rename_i h3
       injection h with h
       subst h
       refine⟨R+3,5,b, ?_, .inr (.inl ⟨rfl,rfl⟩)⟩
       simp only[mf,cE a1,cE b1,if_neg h1,if_neg h2]
       rw[if_neg]
       rintro⟨g1,g2,g3⟩
       rcases h3 with h3|h3|h3
       ·exact h3 g1
       ·exact h3 g2
       ·exact h3 g3
      ·rename_i h3
       have kW:x.op=y.op/\x.n=y.n/\x.kids.length=y.kids.length:=⟨Classical.byContradiction fun e=>h3 (Or.inl e),Classical.byContradiction fun e=>h3 (Or.inr (Or.inl e)),Classical.byContradiction fun e=>h3 (Or.inr (Or.inr e))⟩
       have key:∀ (xs ys:List Tm) (l1:List TB) (b:List (Int×Tm)) (ρ:Int->Nat) (R:Nat),(∀k∈xs,Vs s k)->(∀k∈ys,Vs s k)->gf s l1->oD l l1->lD s b l1 ρ R->bG (dh f) (xs.map (aV (ai l))) (ys.map (aV (ai l))) l1=some r->
        ∃g e b',lH (mf lim g) xs ys b=some (e,b')/\EqR s lim r e b':=by
        intro xs
        induction xs with
        |nil=>intro ys l1 b ρ R _ _ pO _ nU h;simp only[List.map_nil,bG]at h;injection h with h;subst h;exact⟨0,0,b,by simp only[lH], .inl ⟨rfl,rfl,ρ,R,nU⟩⟩
        |cons k xs wY=>
         intro ys l1 b ρ R m1 m2 pO he nU h
         cases ys with
         |nil=>simp only[List.map_nil,List.map_cons,bG]at h;injection h with h;subst h;exact⟨0,0,b,by simp only[lH], .inl ⟨rfl,rfl,ρ,R,nU⟩⟩
         |cons k' ys=>
          have vk:=m1 k aF
          have vk':=m2 k' aF
          have vsk:=Vs.sub hl.bd k vk
          have acd:=Vs.sub hl.bd k' vk'
          simp only[List.map_cons,bG]at h
          cases e:dh f (aV (ai l) k) (aV (ai l) k') l1 with
          |none=>rw[e]at h;cases h
          |some r1=>
           obtain⟨g,e1,b',g1,g2⟩:=Ez (lim:=lim) f _ _ l1 r1 e pO vsk acd k k' b ρ R nU vk vk' (he.sub vk).symm (he.sub vk').symm
           obtain⟨l2,ok⟩:=r1
           rw[e]at h
           rcases g2 with⟨e0,rfl,ρ2,R2,Ft⟩|⟨e0,rfl⟩|⟨e0,hlm⟩
           ·simp only at h
            obtain⟨o1,o2⟩:=jM f _ _ l1 l2 e pO vsk acd
            obtain⟨g',e2,b2,k1,k2⟩:=wY ys l2 b' ρ2 R2 (fun y hy=>m1 y lJ) (fun y hy=>m2 y lJ) o1 (he.trans hl o2 fun v=>hl.Av) Ft h
            refine⟨max g g',e2,b2, ?_,k2⟩
            simp only[lH]
            rw[iw g1 (Nat.le_max_left _ _)]
            dsimp only
            rw[if_pos e0]
            exact OP
           ·simp only at h
            injection h with h
            subst h
            refine⟨g,e1,b', ?_, .inr (.inl ⟨e0,rfl⟩)⟩
            simp only[lH,g1]
            rw[if_neg (by omega)]
           ·refine⟨g,e1,b', ?_, .inr (.inr ⟨e0,hlm⟩)⟩
            simp only[lH,g1]
            rw[if_neg (by omega)]
       rw[p5 h1,q5 h2]at h
       obtain⟨g,e,b',g1,g2⟩:=key x.kids y.kids l b ρ R (fun k hk=>a2.jV hk) (fun k hk=>b2.jV hk) hl (oD.refl hl) hs h
       refine⟨max g (R+2)+1,e,b', ?_,g2⟩
       simp only[mf]
       rw[cE a1,cE b1]
       simp only[if_neg h1,if_neg h2,if_pos kW]
       exact kU (fun k k' b r hk=>iw hk (Nat.le_max_left _ _)) g1
structure Inv (s:aD) (lim:Bool) (b:List (Int×Tm)):Prop where
 ok:∀p∈b,(0<=p.1/\p.1<20)/\jc s p.2=true
 WU:lim=true->∀p∈b,CE b p.2
theorem fA(l l':List TB):ai (l++l')=ai l++ai l':=List.map_append
structure QT (s:aD) (t:Tm):Prop where
 vs:Vs s t
 sz:t.sz<=2000
theorem QT.jV {s:aD}{t k:Tm}(h:QT s t)(hk:k∈t.kids):QT s k:=⟨h.vs.jV hk,by have:=Tm.mI hk;have:=h.sz;omega⟩
theorem QT.fits {s:aD}{t:Tm}(h:QT s t):t.fits:=Tm.iu t (by have:=h.sz;omega)
theorem QT.var {s:aD}{v:Int}(h:0<=v/\v<20):QT s (.mk 1 v []):=⟨Vs.var h,by rw[Tm.iH];simp[Tm.kids,oB]⟩
theorem QT.eta {s:aD}{t:Tm}(h:QT s t)(h1:t.op=1):(0<=t.n/\t.n<20)/\t= .mk 1 t.n []:=⟨h.vs.range ((gN h1).2 rfl),h.vs.eta h1⟩
theorem Vk{s:aD}{t:Tm}(h:jc s t=true):QT s t:=⟨(dF h).1,by have:=(dF h).2.1;omega⟩
structure rj (s:aD) (b:List (Int×Tm)):Prop where
 keys:(b.map (·.1)).Nodup
 ok:∀p∈b,(0<=p.1/\p.1<20)/\QT s p.2
 N9:U9 b
theorem rj.nil {s:aD}:rj s []:=⟨List.nodup_nil,fun _ h=>(by cases h),fun _ _ h=>by cases h⟩
theorem rj.sim {s:aD}{b:List (Int×Tm)}(h:rj s b):∃l ρ R,lD s b l ρ R/\gf s l:=Lh h.keys (fun p hp=>⟨(h.ok p hp).1,(h.ok p hp).2.vs⟩) h.N9
theorem ace{P:Tm->Prop}{b:List (Int×Tm)}(hb:∀p∈b,P p.2):∀ (f:Nat) (t x:Tm),mj f b t=some x->P t->P x
 |0,_,_,h,_=>by cases h
 |f+1,t,x,h,ht=>by
  simp only[mj]at h
  split at h
  ·split at h
   ·rename_i y hy;exact ace hb f y x h (hb _ (cJ hy))
   ·exact ET
  ·exact ET
theorem gL{s:aD}{b:List (Int×Tm)}(h:rj s b){t:Tm}(ht:QT s t):∃x,gP b t=some x/\QT s x/\(x.op=1->bN b x.n=none):=by
 obtain⟨l,ρ,R,hS,hl⟩:=h.sim
 obtain⟨x,a1,a2,a3,a4,_⟩:=hS.root ht.vs
 exact⟨x,cE a1,ace (fun p hp=>(h.ok p hp).2) _ t x a1 ht,a4⟩
theorem CK{s:aD}{b:List (Int×Tm)}(h:rj s b){n:Int}{y:Tm}(hn:bN b n=none)(hr:0<=n/\n<20)(hy:QT s y)(WX: ¬nK b n y):rj s (b++[(n,y)]):=by
 obtain⟨l,ρ,R,hS,hl⟩:=h.sim
 obtain⟨H9,R',h'⟩:=hS.ext hl hn hy.vs fun hf=>WX ((zX hS hl hn hy.vs).1 hf)
 refine⟨h'.keys,fun p hp=> ?_,h'.N9⟩
 rcases List.mem_append.1 hp with hp|hp
 ·exact h.ok p hp
 ·simp at hp;subst hp;exact⟨hr,hy⟩
theorem oh{s:aD}{lim:Bool}{b:List (Int×Tm)}(h:rj s b){n:Int}{y:Tm}(hn:bN b n=none)(hr:0<=n/\n<20)(hy:QT s y)(h0:(iq lim b n y).1=0):rj s (iq lim b n y).2/\∃ext,(iq lim b n y).2=b++ext:=by
 unfold iq at h0|-
 split at h0
 ·exact absurd h0 aF
 ·rename_i h1
  rw[if_neg h1]
  split at h0
  ·exact absurd h0 aF
  ·rename_i h2
   rw[if_neg h2]
   exact⟨CK h hn hr hy h1,_,rfl⟩
theorem Ac{s:aD}{lim:Bool}:∀ (f:Nat) (t u:Tm) (b b':List (Int×Tm)),mf lim f t u b=some (0,b')->rj s b->QT s t->QT s u->rj s b'/\∃ext,b'=b++ext
 |0,_,_,_,_,h,_,_,_=>by cases h
 |f+1,t,u,b,b',h,hb,ht,hu=>by
  simp only[mf]at h
  obtain⟨x,ha,hx,JD⟩:=gL hb ht
  obtain⟨y,hc,hy,hyu⟩:=gL hb hu
  rw[ha,hc]at h
  dsimp only at h
  by_cases h1:x.op=1
  ·obtain⟨rx,ex⟩:=hx.eta h1
   rw[if_pos h1]at h
   by_cases h2:y.op=1
   ·obtain⟨ry,ey⟩:=hy.eta h2
    rw[if_pos h2]at h
    by_cases h3:x.n=y.n
    ·rw[if_pos h3]at h
     injection h with h
     injection h with _ h
     exact O5
    ·rw[if_neg h3]at h
     injection h with h
     have WW:bN b (max x.n y.n)=none:=by
      rw[Int.max_def];split
      ·exact hyu h2
      ·exact JD h1
     have:=oh hb WW (y:= .mk 1 (min x.n y.n) []) af (QT.var af) (by rw[h])
     rwa [h]at this
   ·rw[if_neg h2]at h
    injection h with h
    have:=oh hb (JD h1) rx hy (by rw[h])
    rwa [h]at this
  ·rw[if_neg h1]at h
   by_cases h2:y.op=1
   ·obtain⟨ry,ey⟩:=hy.eta h2
    rw[if_pos h2]at h
    injection h with h
    have:=oh hb (hyu h2) ry hx (by rw[h])
    rwa [h]at this
   ·rw[if_neg h2]at h
    split at h
    ·have key:∀ (ks c9:List Tm) (b:List (Int×Tm)),(∀k∈ks,QT s k)->(∀k∈c9,QT s k)->rj s b->lH (mf lim f) ks c9 b=some (0,b')->rj s b'/\∃ext,b'=b++ext:=by
      intro ks
      induction ks with
      |nil=>
       intro c9 b _ _ hb h
       exact Po
      |cons k ks ih=>
       intro c9 b m1 m2 hb h
       cases c9 with
       |nil=>
        exact Po
       |cons k' c9=>
        simp only[lH]at h
        cases he:mf lim f k k' b with
        |none=>rw[he]at h;cases h
        |some q=>
         obtain⟨e1,b1⟩:=q
         rw[he]at h
         dsimp only at h
         by_cases e0:e1=0
         ·rw[if_pos e0]at h
          subst e0
          obtain⟨g1,x1,g2⟩:=Ac f k k' b b1 he hb (m1 k aF) (m2 k' aF)
          obtain⟨g3,x2,g4⟩:=ih c9 b1 (fun z hz=>m1 z sJ) (fun z hz=>m2 z sJ) g1 h
          exact⟨g3,x1++x2,by rw[g4,g2,List.append_assoc]⟩
         ·rw[if_neg e0]at h
          injection h with h
          injection h with h _
          exact absurd h e0
     exact key x.kids y.kids b (fun k hk=>hx.jV hk) (fun k hk=>hy.jV hk) hb h
    ·injection h with h
     injection h with h _
     exact absurd h bV
theorem acf{s:aD}{b:List (Int×Tm)}{l:List TB}{ρ:Int->Nat}{R:Nat}(h:lD s b l ρ R){M:Nat}(hM:∀p∈b,p.2.mC<=M):∀ (r:Nat) (t:Tm),Vs s t->(∀u,fO u t=true->ρ u<r)->(aV (ai l) t).mC<=t.mC+ss b ρ r*M:=by
 intro r
 induction r using Nat.strongRecOn with
 |ind r ihr=>
  refine Tm.ei fun t ih ht hr=> ?_
  by_cases h1:t.op=1
  ·have hv:fO t.n t=true:=(gN h1).2 rfl
   rw[e8 ht h1]
   cases hx:bN b t.n with
   |none=>
    rw[show Lv (ai l) t.n= .mk 1 t.n [] by simp[Lv,(h.Av _).1 hx], <- ht.eta h1]
    omega
   |some x=>
    obtain⟨g1,g2,g3⟩:=h.ok _ _ hx
    have h3:=Gj hx (hr _ hv)
    have h4:=ihr _ (hr _ hv) x g1 g3
    have h5:=hM _ (cJ hx)
    have h6:(ss b ρ (ρ t.n)+1)*M<=ss b ρ r*M:=Nat.mul_le_mul_right _ h3
    rw[Nat.add_mul,Nat.one_mul]at h6
    rw[g2]
    dsimp only at h5
    omega
  ·rw[fZ h1,Tm.vQ,Tm.vQ t]
   show 1+Tm.iS (t.kids.map (aV (ai l)))<=1+Tm.iS t.kids+ss b ρ r*M
   have:Tm.iS (t.kids.map (aV (ai l)))<=Tm.iS t.kids+ss b ρ r*M:=by
    rw[n9]
    intro k hk
    obtain⟨k,GS,rfl⟩:=List.mem_map.1 hk
    have h2:=ih k GS (ht.jV GS) (fun u hu=>hr u ((oT ht h1).2 ⟨k,GS,hu⟩))
    have h3:=(n9 _ _).1 (Nat.le_refl (Tm.iS t.kids)) k GS
    omega
   omega
theorem Og(b:List (Int×Tm))(ρ:Int->Nat)(r:Nat):ss b ρ r<=b.length:=by
 unfold ss
 exact XK
inductive IL (b:List (Int×Tm)) (q:Tm):Nat->Tm->Prop where
 |nil:IL b q 0 q
 |step {d:Nat} {p x k:Tm}:IL b q d p->gP b p=some x->k∈x.kids->IL b q (d+1) k
theorem Oh{b ext:List (Int×Tm)}{v:Int}{x:Tm}(h:bN b v=some x):bN (b++ext) v=some x:=by
 induction b with
 |nil=>cases h
 |cons p b ih=>
  rw[List.cons_append]
  simp only[bN]at h|-
  split at h
  ·rename_i e;rw[if_pos e];exact h
  ·rename_i e;rw[if_neg e];exact ih h
theorem Lw{b ext:List (Int×Tm)}:∀ (f:Nat) (t x:Tm),mj f b t=some x->x.op≠1->mj f (b++ext) t=some x
 |0,_,_,h,_=>by cases h
 |f+1,t,x,h,hx=>by
  simp only[mj]at h|-
  by_cases h1:t.op=1
  ·rw[if_pos h1]at h|-
   cases e:bN b t.n with
   |none=>rw[e]at h;injection h with h;subst h;exact absurd h1 hx
   |some y=>
    rw[e]at h
    rw[Oh e]
    exact Lw f y x h hx
  ·rw[if_neg h1]at h|-;exact h
theorem IL.qt {s:aD}{b:List (Int×Tm)}(hb:rj s b){q:Tm}(hq:QT s q){d:Nat}{k:Tm}(h:IL b q d k):QT s k:=by
 induction h with
 |nil=>exact hq
 |step h1 h2 h3 ih=>
  obtain⟨x,e,hx,_⟩:=gL hb ih
  rw[e]at h2
  cases h2
  exact hx.jV h3
theorem IL.app {s:aD}{b ext:List (Int×Tm)}(hb:rj s b){q:Tm}(hq:QT s q){d:Nat}{k:Tm}(h:IL b q d k):IL (b++ext) q d k:=by
 induction h with
 |nil=>exact .nil
 |step h1 h2 h3 ih=>
  rename_i d p x k
  obtain⟨y,e,hy,_⟩:=gL hb (h1.qt hb hq)
  obtain rfl:x=y:=Option.some.inj (h2.symm.trans e)
  have fP:x.op≠1:=fun ho=>by
   rw[(hy.eta ho).2]at h3
   cases h3
  obtain⟨g,hg⟩:=CJ e
  exact .step ih (cE (Lw g p x hg fP)) h3
theorem IL.le {s:aD}{b:List (Int×Tm)}(hb:rj s b){q:Tm}(hq:QT s q){d:Nat}{k:Tm}(h:IL b q d k):d+1<=42001:=by
 obtain⟨l,ρ,R,hS,hl⟩:=hb.sim
 have h1:(aV (ai l) k).mC+d<=(aV (ai l) q).mC:=by
  induction h with
  |nil=>omega
  |step h1 h2 h3 ih=>
   rename_i d p x k
   obtain⟨y,a1,a2,a3,_⟩:=hS.root (h1.qt hb hq).vs
   obtain rfl:x=y:=Option.some.inj (h2.symm.trans (cE a1))
   have fP:x.op≠1:=fun ho=>by
    rw[a2.eta ho]at h3
    cases h3
   have h4:aV (ai l) k∈(aV (ai l) x).kids:=by rw[fZ fP];exact List.mem_map.2 ⟨k,h3,rfl⟩
   have h5:=Tm.zD h4
   rw[a3]at h5
   omega
 have h2:=acf hS (M:=2000) (fun p hp=>by have:=(hb.ok p hp).2.sz;have:=Tm.yn p.2;omega) (R+1) q hq.vs (fun u _=>by have:=hS.bd u;omega)
 have h3:=Og b ρ (R+1)
 have h4:b.length<=20:=by
  have:=Ib hb.keys fun v hv=>by
   obtain⟨p,hp,rfl⟩:=List.mem_map.1 hv
   exact(hb.ok p hp).1
  rwa [List.length_map]at this
 have h5:ss b ρ (R+1)*2000<=20*2000:=Nat.mul_le_mul_right _ af
 have h6:=hq.sz
 have h7:=Tm.yn q
 omega
theorem Gs{s:aD}{lim:Bool}:∀ (f:Nat) (t u q:Tm) (b:List (Int×Tm)) (d:Nat) (r:Int×List (Int×Tm)),rj s b->QT s q->QT s u->IL b q d t->mf lim f t u b=some r->∀F,42001<=d+F->mf lim F t u b=some r
 |0,_,_,_,_,_,_,_,_,_,_,h,_,_=>by cases h
 |f+1,t,u,q,b,d,r,hb,hq,hu,hp,h,F,hF=>by
  have hd:=hp.le hb hq
  obtain⟨F,rfl⟩:∃k,F=k+1:=⟨F - 1,af⟩
  have ht:=hp.qt hb hq
  obtain⟨x,ha,hx,JD⟩:=gL hb ht
  obtain⟨y,hc,hy,hyu⟩:=gL hb hu
  simp only[mf]at h|-
  rw[ha,hc]at h|-
  dsimp only at h|-
  split at h
  ·rename_i h1;rw[if_pos h1];exact h
  ·rename_i h1
   rw[if_neg h1]
   split at h
   ·rename_i h2;rw[if_pos h2];exact h
   ·rename_i h2
    rw[if_neg h2]
    split at h
    ·rename_i h3
     rw[if_pos h3]
     have key:∀ (ks c9:List Tm) (b:List (Int×Tm)),rj s b->(∀k∈ks,IL b q (d+1) k)->(∀k∈c9,QT s k)->lH (mf lim f) ks c9 b=some r->lH (mf lim F) ks c9 b=some r:=by
      intro ks
      induction ks with
      |nil=>intro c9 b _ _ _ h;simpa only[lH]using h
      |cons k ks ih=>
       intro c9 b hb m1 m2 h
       cases c9 with
       |nil=>simpa only[lH]using h
       |cons k' c9=>
        simp only[lH]at h|-
        cases he:mf lim f k k' b with
        |none=>rw[he]at h;cases h
        |some w=>
         obtain⟨e1,b1⟩:=w
         rw[he]at h
         rw[Gs f k k' q b (d+1) _ hb hq (m2 k' (by simp)) (m1 k (by simp)) he F (by omega)]
         dsimp only at h|-
         by_cases e0:e1=0
         ·rw[if_pos e0]at h|-
          subst e0
          obtain⟨g1,x1,g2⟩:=Ac f k k' b b1 he hb ((m1 k aF).qt hb hq) (m2 k' aF)
          refine ih c9 b1 g1 (fun z hz=> ?_) (fun z hz=>m2 z sJ) h
          rw[g2]
          exact(m1 z sJ).app hb hq
         ·rw[if_neg e0]at h|-;exact h
     exact key x.kids y.kids b hb (fun k hk=> .step hp ha hk) (fun k hk=>hy.jV hk) h
    ·rename_i h3;rw[if_neg h3];exact h
theorem Lx{s:aD}{lim:Bool}{b:List (Int×Tm)}(hb:rj s b){t u:Tm}(ht:QT s t)(hu:QT s u){f:Nat}{e:Int}{b':List (Int×Tm)}(h:mf lim f t u b=some (e,b')):∃m,jO lim 1000000000 m [(t,u)] b=some (e,b'):=by
 have h1:=Gs f t u t b 0 _ hb ht hu .nil h 42001 af
 refine Ey (W:=2000) (P:=QT s) (I:=rj s) (fun t ht=>⟨?_,fun k hk=>ht.jV hk⟩) (fun b t x hb ht hx=> ?_) (fun f t u b b' h hb ht hu=>(Ac f t u b b' h hb ht hu).1) 42001 t u b e b' h1 hb ht hu [] 1 (e,b') bV ?_
 ·have:=mc t.kids
  have:=Tm.iH t
  have:=ht.sz
  omega
 ·obtain⟨y,e,hy,_⟩:=gL hb ht
  rw[e]at hx
  cases hx
  exact hy
 ·split
  ·rename_i e0;subst e0;rfl
  ·rfl
end Go.Proofs.YtlhemmpklhhgoaaGreat
set_option maxHeartbeats 4000000
namespace Go.Proofs.YtlhemmpklhhgoaaGreat
def wE(o:Nat->ad)(nx:Nat)(s:iU)(m:ad):Nat->ad:=
 az (az (az (az o nx (.row s.row)) (nx+1) (.row [.aJ, .aJ, .aJ, .aJ, .aJ, .d .fj])) (nx+4) m) (nx+6) (.row (s.row++[.mp (nx+4)]))
theorem kpH_0(o:Nat->ad)(nx:Nat)(s:iU)(m:ad):wE o nx s m nx= .row s.row:=by
 unfold wE;rw[ae _ _ _ _ (by omega),ae _ _ _ _ (by omega),ae _ _ _ _ (by omega),ab]
theorem kpH_1(o:Nat->ad)(nx:Nat)(s:iU)(m:ad):wE o nx s m (nx+1)= .row [.aJ, .aJ, .aJ, .aJ, .aJ, .d .fj]:=by
 unfold wE;rw[ae _ _ _ _ (by omega),ae _ _ _ _ (by omega),ab]
theorem kpH_4(o:Nat->ad)(nx:Nat)(s:iU)(m:ad):wE o nx s m (nx+4)=m:=by
 unfold wE;rw[ae _ _ _ _ (by omega),ab]
theorem kpH_6(o:Nat->ad)(nx:Nat)(s:iU)(m:ad):wE o nx s m (nx+6)= .row (s.row++[.mp (nx+4)]):=by unfold wE;rw[ab]
theorem Ly(o:Nat->ad)(nx:Nat)(s:iU)(m:ad){j:Nat}(h0:j≠nx)(h1:j≠nx+1)(h4:j≠nx+4)(h6:j≠nx+6):wE o nx s m j=o j:=by
 unfold wE;rw[ae _ _ _ _ h6,ae _ _ _ _ h4,ae _ _ _ _ h1,ae _ _ _ _ h0]
theorem Gt(o:Nat->ad)(nx:Nat)(s:iU)(m m':ad)(j:Nat):az (wE o nx s m) (nx+4) m' j=wE o nx s m' j:=by
 by_cases e:j=nx+4
 ·subst e;rw[ab,kpH_4]
 ·rw[ae _ _ _ _ e]
  unfold wE
  by_cases e6:j=nx+6
  ·subst e6;rw[ab,ab]
  ·rw[ae _ _ _ _ e6,ae _ _ _ _ e6,ae _ _ _ _ e,ae _ _ _ _ e]
theorem qQ{o:Nat->ad}{nx:Nat}(hg:Good o nx)(s:iU){m:ad}(hm:m.refs=[]):Good (wE o nx s m) (nx+7):=by
 unfold wE
 refine Good.az (Good.az (Good.az (Good.az (hg.mono af) af rfl) af rfl) af (by rw[hm];rfl)) af pQ
theorem Oi(o:Nat->ad)(nx:Nat)(s:iU)(j:Nat):
 az (az (az (az (az o nx (.row s.row)) (nx+1) (.row [.aJ, .aJ, .aJ, .aJ, .aJ, .d .fj])) (nx+4) (dt [])) (nx+6) (.row [.aJ, .aJ, .aJ, .aJ, .aJ, .d .fj])) (nx+6) (.row (s.row++[.mp (nx+4)])) j=wE o nx s (dt []) j:=by
 unfold wE
 by_cases e:j=nx+6
 ·subst e;rw[ab,ab]
 ·rw[ae _ _ _ _ e,ae _ _ _ _ e,ae _ _ _ _ e]
set_option maxRecDepth 100000 in
theorem Gu(s:iU)(hs:s.Fin)(o:Nat->ad)(nx:Nat)(hg:Good o nx)(K X:V->(Nat->ad)->Nat->Prop)
 (aer:gO s->∀o' nx' id,nx<=nx'->Good o' nx'->(∀j,j<nx->o' j=o j)->o' id= .bU (enc (D.int .i64) (jW (ai s.binds)))->K (.bT [.agg (s.row++[.mp id]), .d (.bool true)]) o' nx')
 (pL: ¬gO s->∀o' nx' id m,nx<=nx'->id<nx'->Good o' nx'->(∀j,j<nx->o' j=o j)->o' id=dt m\/o' id= .bU (enc (D.int .i64) (jW m))->K (.bT [.agg (s.row++[.mp id]), .d (.bool false)]) o' nx'):
 cI Tryz.prog 79 [.d s.d] o nx K X:=by
 refine cI.aI mix aan aF ?_
 rw[c79]
 refine kR ?_
 refine aw (vP s.sig hs.sig) rfl ?_
 have tA:=hs.bl
 have wA:=hs.nl
 have Iw:=hs.ml
 cases h1:np s.sig with
 |false=>
  simp+contextual (disch:=first|omega|simp only[go_sem,false_implies]) only[go_sem,wrap64,if_pos,mD,Nat.add_assoc,Nat.left_eq_add,Nat.add_eq_left,Nat.add_left_cancel_iff,List.length_map]
  refine pL (fun h=> ?_) _ _ (nx+4) [] ?_ ?_ ?_ (fun j hj=> ?_) (.inl ?_)
  rotate_left
  ·omega
  ·omega
  ·exact dI
  ·exact c6
  ·exact c6
  have:=h.sig
  rw[h1]at this;cases this
 |true=>
 by_cases h2:20<s.binds.length
 ·have iy:decide ((s.binds.length:Int)>20)=true:=by simp;omega
  simp+contextual (disch:=first|omega|simp only[go_sem,false_implies]) only[go_sem,wrap64,if_pos,mD,Nat.add_assoc,Nat.left_eq_add,Nat.add_eq_left,Nat.add_left_cancel_iff,List.length_map,iy]
  refine pL (fun h=> ?_) _ _ (nx+4) [] ?_ ?_ ?_ (fun j hj=> ?_) (.inl ?_)
  rotate_left
  ·omega
  ·omega
  ·exact dI
  ·exact c6
  ·exact c6
  have:=h.tp.len
  omega
 have iy:decide ((s.binds.length:Int)>20)=false:=by simp;omega
 by_cases h3:12<s.aR.length
 ·have kW:decide ((s.aR.length:Int)>12)=true:=by simp;omega
  simp+contextual (disch:=first|omega|simp only[go_sem,false_implies]) only[go_sem,wrap64,if_pos,mD,Nat.add_assoc,Nat.left_eq_add,Nat.add_eq_left,Nat.add_left_cancel_iff,List.length_map,iy,kW]
  refine pL (fun h=> ?_) _ _ (nx+4) [] ?_ ?_ ?_ (fun j hj=> ?_) (.inl ?_)
  rotate_left
  ·omega
  ·omega
  ·exact dI
  ·exact c6
  ·exact c6
  have:=h.Ih
  omega
 have kW:decide ((s.aR.length:Int)>12)=false:=by simp;omega
 by_cases h4:8<s.marks.length
 ·have Hd:decide ((s.marks.length:Int)>8)=true:=by simp;omega
  refine W6 iy kW Hd ?_
  refine pL (fun h=> ?_) _ _ (nx+4) [] ?_ ?_ ?_ (fun j hj=> ?_) (.inl ?_)
  rotate_left
  ·omega
  ·omega
  ·exact dI
  ·exact c6
  ·exact c6
  have:=h.Vh
  omega
 have Hd:decide ((s.marks.length:Int)>8)=false:=by simp;omega
 refine W6 iy kW Hd ?_
 have fin:∀ (m:List (Int×Tm)) (M:ad),(M=dt m\/M= .bU (enc (D.int .i64) (jW m)))->∀O n,nx+7<=n->Good O n->(∀j,j<nx+7->j≠nx+1->O j=wE o nx s M j)-> ¬gO s->K (.bT [.agg (s.row++[.mp (nx+4)]), .d (.bool false)]) O n:=fun m M hM O n i1 i2 i3 i4=>
  pL i4 O n (nx+4) m af af i2 (fun j hj=>by rw[i3 j (by omega) (by omega),Ly _ _ _ _ (by omega) (by omega) (by omega) (by omega)]) (by rw[i3 (nx+4) (by omega) (by omega),kpH_4];exact hM)
 refine aB (fun k:Nat=>⟨aX [.aa, .ptr nx 0, .ptr (nx+1) 0, .aa, .ptr (nx+6) 0, .aa, .aa, .aa, .aa, .aa, .aa, .aa, .aa, .aa, .aa, .aa, .aa, .aa, .aa, .aa, .aa, .aa, .aa, .aa, .aa, .aa, .aa, .aa, .aa, .aa, .aa, .aa, .aa, .aa, .aa, .aa, .aa, .aa, .aa, .aa, .aa, .aa, .aa, .d (.sl (s.binds.map TB.d)), .d (.i s.binds.length), .d (.i k)],wE o nx s (dt (ai (s.binds.take k))),nx+7⟩)
  (fun k=>k<=s.binds.length/\((ai (s.binds.take k)).map (·.1)).Nodup/\∀x∈s.binds.take k,(0<=x.var/\x.var<20)/\jc s.sig x.term=true) (fun k=>s.binds.length - k) 0 ⟨Nat.zero_le _,List.nodup_nil,fun x hx=>by simp at hx⟩ (bA.bJ _ (show nx<=nx+7 from af) af (qQ hg s (by rfl)) (fun j hj=> ?_) ?_) (fun k hk=> ?_)
 ·exact Oi o nx s j
 ·exact dp
 obtain⟨hk,wQ,aW⟩:=hk
 have N8:gO s->((ai (s.binds.take (k+1))).map (·.1)).Nodup:=fun h=>h.tp.keys.sublist (((List.take_sublist _ _).map _).map _)
 have hgk:=qQ (m:=dt (ai (s.binds.take k))) hg s rfl
 have hg0:=hg
 clear hg
 have hg:=hgk
 have e0:=kpH_0 o nx s (dt (ai (s.binds.take k)))
 have e1:=kpH_1 o nx s (dt (ai (s.binds.take k)))
 have e4:=kpH_4 o nx s (dt (ai (s.binds.take k)))
 have e6:=kpH_6 o nx s (dt (ai (s.binds.take k)))
 refine GI e0 e1 e4 e6 ?_
 refine ak (fun h5=> ?_) (fun h5=> ?_)
 ·replace h5:k<s.binds.length:=by simp at h5;omega
  obtain⟨x,hx⟩:=ay h5
  have bY:=List.mem_of_getElem? hx
  have q8:=we s.binds hx
  have hnk:∀ (P:Prop),(qO s.sig s.binds->P)->(gO s->P):=fun P h hs=>h hs.tp
  cases hl:bN (ai (s.binds.take k)) x.var with
  |some z=>
   obtain⟨jz,hj⟩:=fw hl
   simp+contextual (disch:=first|omega|simp only[go_sem,false_implies]) only[go_sem,wrap64,if_pos,e0,e1,e4,e6,hx,hj,List.length_map,Nat.add_assoc,Nat.left_eq_add,Nat.add_eq_left,Nat.add_left_cancel_iff]
   refine fin _ _ (.inl rfl) _ _ af dI (fun j j1 j2=>by(repeat(first|rfl|rw[ab]|rw[ae _ _ _ _ (by omega)]))) (fun h=> ?_)
   have h7:=N8 h
   rw[q8,List.map_append,List.nodup_append]at h7
   exact h7.2.2 x.var (List.mem_map.2 ⟨_,cJ hl,rfl⟩) x.var aF rfl
  |none=>
   have Ru:=dn hl
   by_cases h6:x.var<0
   ·have h6':decide (x.var<0)=true:=decide_eq_true h6
    refine RN e0 e1 e4 e6 hx Ru h6' ?_
    refine fin _ _ (.inl rfl) _ _ af dI (fun j j1 j2=>by(repeat(first|rfl|rw[ab]|rw[ae _ _ _ _ (by omega)]))) (fun h=> ?_)
    have:=(h.tp.ok x bY).1
    omega
   have h6':decide (x.var<0)=false:=decide_eq_false h6
   by_cases h7:20<=x.var
   ·have h7':decide (x.var≥20)=true:=decide_eq_true h7
    refine RM e0 e1 e4 e6 hx Ru h6' h7' ?_
    refine fin _ _ (.inl rfl) _ _ af dI (fun j j1 j2=>by(repeat(first|rfl|rw[ab]|rw[ae _ _ _ _ (by omega)]))) (fun h=> ?_)
    have:=(h.tp.ok x bY).1
    omega
   have h7':decide (x.var≥20)=false:=decide_eq_false h7
   refine RM e0 e1 e4 e6 hx Ru h6' h7' ?_
   refine aw (wc s hs.sig (ai (s.binds.take k)) x.term (hs.bt x bY)) rfl ?_
   cases hv:jc s.sig x.term with
   |false=>
    refine GI e0 e1 e4 e6 ?_
    refine fin _ _ (.inl rfl) _ _ af dI (fun j j1 j2=>by(repeat(first|rfl|rw[ab]|rw[ae _ _ _ _ (by omega)]))) (fun h=> ?_)
    have:=(h.tp.ok x bY).2
    rw[hv]at this;cases this
   |true=>
    have has:=vZ (x:=x.term) hl
    refine W7 e0 e1 e4 e6 has ?_
    refine aj (k+1) ⟨h5, ?_,fun y hy=> ?_⟩ af (bA.bJ _ (show nx<=nx+7 from af) af (qQ hg0 s (by rfl)) (fun j hj=> ?_) ?_)
    ·rw[q8,List.map_append,List.nodup_append]
     refine⟨wQ,aF,fun a ha c hc e=> ?_⟩
     simp at hc
     rw[e,hc]at ha
     exact jJ.1 hl ha
    ·rw[List.take_add_one,hx]at hy
     rcases List.mem_append.1 hy with hy|hy
     ·exact aW y hy
     ·simp at hy
      subst hy
      exact⟨af,hv⟩
    ·have hj:j<nx+7:=hj
     rw[q8, <- Gt o nx s (dt (ai (s.binds.take k)))]
     by_cases e:j=nx+4
     ·exact oV
     ·exact c6
    ·exact dp
 ·replace h5:k=s.binds.length:=by simp at h5;omega
  subst h5
  rw[List.take_length]at wQ aW e0 e1 e4 e6|-
  refine C9 e0 e1 e4 e6 ?_
  obtain⟨b,hb⟩:∃b,b=ai s.binds:=⟨_,rfl⟩
  have nL:∀p∈b,p.2.fits:=fun p hp=>by
   rw[hb]at hp
   obtain⟨x,hx,rfl⟩:=eY hp
   exact(hs.bt x hx).fits
  have E6:∀p∈b,Vs s.sig p.2:=fun p hp=>by
   rw[hb]at hp
   obtain⟨x,hx,rfl⟩:=eY hp
   exact(dF (aW x hx).2).1
  rw[<- hb]at wQ|-
  clear hg hgk
  have hg:=qQ (m:= .bU (enc (D.int .i64) (jW b))) hg0 s (by rfl)
  have f0:=kpH_0 o nx s (.bU (enc (D.int .i64) (jW b)))
  have f1:=kpH_1 o nx s (.bU (enc (D.int .i64) (jW b)))
  have f4:=kpH_4 o nx s (.bU (enc (D.int .i64) (jW b)))
  have f6:=kpH_6 o nx s (.bU (enc (D.int .i64) (jW b)))
  clear e0 e1 e4 e6
  refine aB (fun i:List (Int×Tm)×Option (D×D)=>⟨aX [.aa, .ptr nx 0, .ptr (nx+1) 0, .aa, .ptr (nx+6) 0, .aa, .aa, .aa, .aa, .aa, .aa, .aa, .aa, .aa, .aa, .aa, .aa, .aa, .aa, .aa, .aa, .aa, .aa, .aa, .aa, .aa, .aa, .aa, .aa, .aa, .aa, .aa, .aa, .aa, .aa, .aa, .aa, .aa, .aa, .aa, .aa, .aa, .aa, .aa, .aa, .aa, .aa, .aa, .aa, .aa, .aa, .aa, .aa, .aa, .aa, .aa, .aa, .aa, .aa, .aa, .aa, .aa, .aa, .aa, .aa, .aa, .aa, .aa, .aa, .aa, .aa, .aa, .aa, .aa, .aa, .aa, .aa, .aa, .aa, .aa, .aa, .aa, .aa, .aa, .aa, .ptr (nx+10) 0],az (wE o nx s (.bU (enc (D.int .i64) (jW b)))) (nx+10) (.ra (enc (D.int .i64) (jW i.1)) i.2),nx+11⟩)
   (fun i=>(∀p∈i.1,p∈b)/\∀p∈b,p∉i.1-> ¬nK b p.1 p.2) (fun i=>i.1.length) (b,none) ⟨fun _ h=>h,fun p h h'=>absurd h h'⟩ (bA.bJ _ (show nx<=nx+11 from af) af dI (fun j hj=> ?_) ?_) ?_
  ·dsimp only
   by_cases e:j=nx+10
   ·subst e;rw[ab,ab]
   ·rw[ae _ _ _ _ e,ae _ _ _ _ e,Gt]
  ·exact dp
  rintro⟨rest,last⟩ ⟨hr,hd⟩
  dsimp only at hr hd|-
  refine C9 f0 f1 f4 f6 ?_
  refine se (fun h0=> ?_) fun i v x hm=> ?_
  ·subst h0
   have Lz:U9 b:=fun v x hx=>hd (v,x) (cJ hx) aF
   have tE:=uo (by rw[<- hb];exact wQ) aW (by rw[<- hb];exact Lz)
   rw[<- hb]at tE
   obtain⟨l',ρ,R,hS,hl⟩:=tE
   have hle:∀p∈b,∃f r,tl f b p.2 40 12=some r:=fun p hp=>by
    exact Pu
   obtain⟨fo,Au⟩:∃fo:Bool,fo=true↔∀p∈b,CE b p.2:=by
    classical
    exact⟨decide (∀p∈b,CE b p.2),aF⟩
   refine C9 f0 f1 f4 f6 ?_
   refine aw (yr nL hle Au) rfl ?_
   cases fo with
   |false=>
    refine C9 f0 f1 f4 f6 ?_
    refine fin _ _ (.inr rfl) _ _ af dI (fun j j1 j2=>by(repeat(first|rfl|rw[ab]|rw[ae _ _ _ _ (by omega)]))) (fun h=> ?_)
    have:=Au.2 fun p hp=>by
     rw[hb]at hp|-
     obtain⟨x,hx,rfl⟩:=eY hp
     exact h.tp.WU x hx
    cases this
   |true=>
    have SQ:qO s.sig s.binds:=⟨af,by rw[<- hb];exact wQ,aW,by rw[<- hb];exact Lz,fun x hx=>by rw[<- hb];exact Au.1 rfl _ (hb ▸ iV hx)⟩
    refine GI f0 f1 f4 f6 ?_
    refine aB (fun k:Nat=>⟨aX [.aa, .ptr nx 0, .ptr (nx+1) 0, .aa, .ptr (nx+6) 0, .aa, .aa, .aa, .aa, .aa, .aa, .aa, .aa, .aa, .aa, .aa, .aa, .aa, .aa, .aa, .aa, .aa, .aa, .aa, .aa, .aa, .aa, .aa, .aa, .aa, .aa, .aa, .aa, .aa, .aa, .aa, .aa, .aa, .aa, .aa, .aa, .aa, .aa, .aa, .aa, .aa, .aa, .aa, .aa, .aa, .aa, .aa, .aa, .aa, .aa, .aa, .aa, .aa, .aa, .aa, .aa, .aa, .aa, .aa, .aa, .aa, .aa, .aa, .aa, .aa, .aa, .aa, .aa, .aa, .aa, .aa, .aa, .aa, .aa, .aa, .aa, .aa, .aa, .aa, .aa, .aa, .aa, .aa, .aa, .aa, .aa, .aa, .aa, .aa, .aa, .aa, .aa, .aa, .aa, .aa, .aa, .aa, .aa, .d (.sl (s.aR.map Nt.d)), .d (.i s.aR.length), .d (.i k)],wE o nx s (.bU (enc (D.int .i64) (jW b))),nx+7⟩)
     (fun k=>k<=s.aR.length/\∀n∈s.aR.take k,jc s.sig n.a=true/\jc s.sig n.b=true/\ ¬Brk b n) (fun k=>s.aR.length - k) 0 ⟨Nat.zero_le _,fun n hn=>by simp at hn⟩ (bA.bJ _ (show nx<=nx+7 from af) af hg (fun j hj=> ?_) ?_) (fun k hk=> ?_)
    ·have hj:j<nx+7:=hj
     exact c6
    ·exact dp
    obtain⟨hk,Vl⟩:=hk
    refine GI f0 f1 f4 f6 ?_
    refine ak (fun h6=> ?_) (fun h6=> ?_)
    ·replace h6:k<s.aR.length:=by simp at h6;omega
     obtain⟨n,hn⟩:=ay h6
     have tU:=List.mem_of_getElem? hn
     obtain⟨na,nb⟩:=hs.nt n tU
     refine W7 f0 f1 f4 f6 hn ?_
     refine aw (wc s hs.sig b n.a na) rfl ?_
     cases va:jc s.sig n.a with
     |false=>
      refine C9 f0 f1 f4 f6 ?_
      refine fin _ _ (.inr rfl) _ _ af dI (fun j j1 j2=>by(repeat(first|rfl|rw[ab]|rw[ae _ _ _ _ (by omega)]))) (fun h=> ?_)
      have:=(h.aR n tU).1
      rw[va]at this;cases this
     |true=>
      refine C9 f0 f1 f4 f6 ?_
      refine aw (wc s hs.sig b n.b nb) rfl ?_
      cases vb:jc s.sig n.b with
      |false=>
       refine C9 f0 f1 f4 f6 ?_
       refine fin _ _ (.inr rfl) _ _ af dI (fun j j1 j2=>by(repeat(first|rfl|rw[ab]|rw[ae _ _ _ _ (by omega)]))) (fun h=> ?_)
       have:=(h.aR n tU).2.1
       rw[vb]at this;cases this
      |true=>
       obtain⟨a1,a2,a3⟩:=dF va
       obtain⟨b1,b2,b3⟩:=dF vb
       have c8:∀p∈b,CE b p.2:=Au.1 rfl
       have za:=qP hS c8 a1
       have zb:=qP hS c8 b1
       have ua:yp (R+3+3200) b n.a=some (aV (ai l') n.a):=tn hS 3200 n.a a1 af
       have ub:yp (R+3+3200) b n.b=some (aV (ai l') n.b):=tn hS 3200 n.b b1 af
       have hbk:=Gq (n:=n) hS a1 b1
       refine C9 f0 f1 f4 f6 ?_
       refine aw (Ig s nL n na.fits nb.fits ua ub (Tm.iu _ af) (Tm.iu _ af) af af) rfl ?_
       cases tQ:fX (aV (ai l') n.a) (aV (ai l') n.b)with
       |true=>
        refine C9 f0 f1 f4 f6 ?_
        refine fin _ _ (.inr rfl) _ _ af dI (fun j j1 j2=>by(repeat(first|rfl|rw[ab]|rw[ae _ _ _ _ (by omega)]))) (fun h=> ?_)
        exact(h.aR n tU).2.2 (hb ▸ hbk.2 ((fY _ _).1 tQ))
       |false=>
        refine C9 f0 f1 f4 f6 ?_
        refine aj (k+1) ⟨h6,fun y hy=> ?_⟩ af (bA.bJ _ (show nx<=nx+7 from af) af hg (fun j hj=> ?_) ?_)
        ·rw[List.take_add_one,hn]at hy
         rcases List.mem_append.1 hy with hy|hy
         ·exact Vl y hy
         ·simp at hy
          subst hy
          refine⟨va,vb,fun h=> ?_⟩
          rw[(fY _ _).2 (hbk.1 h)]at tQ;cases tQ
        ·have hj:j<nx+7:=hj
         exact c6
        ·exact dp
    ·replace h6:k=s.aR.length:=by simp at h6;omega
     subst h6
     rw[List.take_length]at Vl
     refine GI f0 f1 f4 f6 ?_
     refine aB (fun i:Nat×Int×Int=>⟨aX [.aa, .ptr nx 0, .ptr (nx+1) 0, .aa, .ptr (nx+6) 0, .aa, .aa, .aa, .aa, .aa, .aa, .aa, .aa, .ptr (nx+8) 0, .aa, .aa, .aa, .aa, .aa, .aa, .aa, .aa, .aa, .aa, .aa, .aa, .aa, .aa, .aa, .aa, .aa, .aa, .aa, .aa, .aa, .aa, .aa, .aa, .aa, .aa, .aa, .aa, .aa, .aa, .aa, .aa, .aa, .aa, .aa, .aa, .aa, .aa, .aa, .aa, .aa, .aa, .aa, .aa, .aa, .aa, .aa, .aa, .aa, .aa, .aa, .aa, .aa, .aa, .aa, .aa, .aa, .aa, .aa, .aa, .aa, .aa, .aa, .aa, .aa, .aa, .aa, .aa, .aa, .aa, .aa, .aa, .aa, .aa, .aa, .aa, .aa, .aa, .aa, .aa, .aa, .aa, .aa, .aa, .aa, .aa, .aa, .aa, .aa, .aa, .aa, .aa, .aa, .aa, .aa, .aa, .aa, .aa, .aa, .aa, .aa, .aa, .aa, .aa, .aa, .aa, .aa, .aa, .aa, .aa, .aa, .aa, .aa, .aa, .aa, .d (.sl (s.marks.map mkD)), .d (.i s.marks.length), .d (.i i.1)],az (wE o nx s (.bU (enc (D.int .i64) (jW b)))) (nx+8) (.row [.d (.i i.2.1), .d (.i i.2.2)]),nx+9⟩)
      (fun i=>i.1<=s.marks.length/\w6 s.binds.length s.aR.length i.2 (s.marks.drop i.1)=w6 s.binds.length s.aR.length (0,0) s.marks) (fun i=>s.marks.length - i.1) (0,0,0) ⟨Nat.zero_le _,rfl⟩ (bA.bJ _ (show nx<=nx+9 from af) af dI (fun j hj=>by(repeat(first|rfl|rw[ab]|rw[ae _ _ _ _ (by omega)]))) ?_) ?_
     ·exact dp
     rintro⟨k,l1,l2⟩ ⟨hk,lK⟩
     dsimp only at hk lK|-
     refine GI f0 f1 f4 f6 ?_
     refine ak (fun h7=> ?_) (fun h7=> ?_)
     ·replace h7:k<s.marks.length:=by simp at h7;omega
      obtain⟨⟨m1,m2⟩,hm⟩:=ay h7
      have Lm:s.marks.drop k=(m1,m2)::s.marks.drop (k+1):=by
       obtain⟨i1,i2⟩:=List.getElem?_eq_some_iff.1 hm
       exact I0
      rw[Lm,w6]at lK
      dsimp only at lK
      cases g1:decide (m1<l1)with
      |true=>
       rw[g1]at lK
       simp only[Bool.true_or,Bool.or_true,Bool.not_true,Bool.false_and]at lK
       refine RN f0 f1 f4 f6 hm hm g1 ?_
       exact zw3
      |false=>
      rw[g1]at lK
      cases g2:decide (m1>(s.binds.length:Int))with
      |true=>
       rw[g2]at lK
       simp only[Bool.true_or,Bool.or_true,Bool.not_true,Bool.false_and]at lK
       refine RN f0 f1 f4 f6 hm g1 g2 ?_
       exact zw3
      |false=>
      rw[g2]at lK
      cases g3:decide (m2<l2)with
      |true=>
       rw[g3]at lK
       simp only[Bool.true_or,Bool.or_true,Bool.not_true,Bool.false_and]at lK
       refine RM f0 f1 f4 f6 hm g1 g2 g3 ?_
       exact zw3
      |false=>
      rw[g3]at lK
      cases g4:decide (m2>(s.aR.length:Int))with
      |true=>
       rw[g4]at lK
       simp only[Bool.true_or,Bool.or_true,Bool.not_true,Bool.false_and]at lK
       simp+contextual (disch:=first|omega|simp only[go_sem,false_implies]) only[go_sem,wrap64,if_pos,f0,f1,f4,f6,hm,g1,g2,g3,g4,List.length_map,Nat.add_assoc,Nat.left_eq_add,Nat.add_eq_left,Nat.add_left_cancel_iff]
       exact zw3
      |false=>
      rw[g4]at lK
      simp only[Bool.or_false,Bool.not_false,Bool.true_and]at lK
      simp+contextual (disch:=first|omega|simp only[go_sem,false_implies]) only[go_sem,wrap64,if_pos,f0,f1,f4,f6,hm,g1,g2,g3,g4,List.length_map,Nat.add_assoc,Nat.left_eq_add,Nat.add_eq_left,Nat.add_left_cancel_iff]
      refine aj (k+1,m1,m2) ⟨h7,lK⟩ kC (bA.bJ _ (show nx<=nx+9 from af) af dI (fun j hj=> ?_) ?_)
      ·have hj:j<nx+9:=hj
       by_cases e:j=nx+8
       ·exact oV
       ·exact c6
      ·exact dp
     ·replace h7:k=s.marks.length:=by simp at h7;omega
      subst h7
      rw[List.drop_length]at lK
      refine C9 f0 f1 f4 f6 ?_
      refine aer ⟨h1,af,af,SQ,fun n hn=> ?_,lK.symm⟩ _ _ (nx+4) af dI (fun j hj=> ?_) ?_
      ·rw[<- hb];exact Vl n hn
      ·(repeat(first|rfl|rw[ab]|rw[ae _ _ _ _ (by omega)]));exact Ly _ _ _ _ af af af af
      ·(repeat(first|rfl|rw[ab]|rw[ae _ _ _ _ (by omega)]));rw[f4,hb]
  ·have ox:=List.mem_of_getElem? hm
   have Mh:=hr _ ox
   have uy:=pF hm
   have hlen:(rest.eraseIdx i).length<rest.length:=by
    exact Su
   obtain⟨is,Ex⟩:∃is:Bool,is=true↔nK b v x:=by
    classical
    exact⟨decide (nK b v x),aF⟩
   refine C9 f0 f1 f4 f6 ?_
   refine aw (Gp E6 nL v x (E6 _ Mh) (nL _ Mh) Ex) rfl ?_
   cases is with
   |true=>
    refine C9 f0 f1 f4 f6 ?_
    refine fin _ _ (.inr rfl) _ _ af dI (fun j j1 j2=>by(repeat(first|rfl|rw[ab]|rw[ae _ _ _ _ (by omega)]))) (fun h=> ?_)
    exact h.tp.N9 v x ((jK h.tp.keys).2 (hb ▸ Mh)) (hb ▸ Ex.1 rfl)
   |false=>
    refine C9 f0 f1 f4 f6 ?_
    refine aj (rest.eraseIdx i,some (.int .i64 v,x.d)) ⟨fun p hp=>hr p (uy.mem_iff.1 (List.mem_cons_of_mem _ hp)),fun p hp hpn=> ?_⟩ hlen (bA.bJ _ (show nx<=nx+11 from af) af dI (fun j hj=> ?_) ?_)
    ·by_cases e:p=(v,x)
     ·subst e
      exact fun h=>Bool.false_ne_true (Ex.2 h)
     ·exact hd p hp fun sR=>by
       rcases List.mem_cons.1 (uy.mem_iff.2 sR)with h|h
       ·exact e h
       ·exact hpn h
    ·have hj:j<nx+11:=hj
     by_cases e:j=nx+10
     ·exact oV
     ·exact c6
    ·exact dp
end Go.Proofs.YtlhemmpklhhgoaaGreat
namespace Go.Proofs.YtlhemmpklhhgoaaGreat
structure Srt (s:aD) (l:List TB):Prop where
 srt:l.Pairwise fun x y=>x.var<y.var
 ok:∀x∈l,(0<=x.var/\x.var<20)/\Vs s x.term
structure MS (b:List (Int×Tm)) (l:List TB):Prop where
 keys:(b.map (·.1)).Nodup
 lk:∀v,bN b v=bN (ai l) v
theorem wg:∀ (l:List TB) (n:Int) (t:Tm),∃k,k<=l.length/\(∀x∈l.take k,x.var<n)/\(∀x,l[k]? =some x-> ¬x.var<n)/\mz l n t=l.take k++⟨n,t⟩::l.drop k
 |[],n,t=>⟨0,Nat.zero_le _,aF,aF,by simp[mz]⟩
 |x::l,n,t=>by
  obtain⟨k,h1,h2,h3,h4⟩:=wg l n t
  by_cases hx:x.var<n
  ·refine⟨k+1,by simp;omega, ?_,by simpa using h3, ?_⟩
   ·intro y hy
    simp only[List.take_succ_cons,List.mem_cons]at hy
    rcases hy with rfl|hy
    ·exact hx
    ·exact h2 y hy
   ·simp only[mz,if_pos hx,h4,List.take_succ_cons,List.drop_succ_cons]
    simp
  ·exact⟨0,Nat.zero_le _,aF,by simpa using hx,by simp[mz,if_neg hx]⟩
theorem Vm(l:List TB)(n:Int)(t:Tm)(hl:l.length<=1000000):a8 Tryz.prog 168 [.sl (l.map TB.d), .i n,t.d] (.ret [.sl ((mz l n t).map TB.d)]):=by
 obtain⟨j,j1,j2,j3,j4⟩:=wg l n t
 have tk:∀ (i:Nat) (l:List TB),List.take i (l.map TB.d)=(l.take i).map TB.d:=fun i l=>List.map_take.symm
 have dr:∀ (i:Nat) (l:List TB),List.drop i (l.map TB.d)=(l.drop i).map TB.d:=fun i l=>List.map_drop.symm
 have ap:∀ (a b:List TB),a.map TB.d++[D.agg [.i n, .i t.op, .i t.n, .sl (t.kids.map Tm.d)]]++b.map TB.d=(a++⟨n,t⟩::b).map TB.d:=fun a b=>aF
 rw[j4]
 refine a8.aI mix abf aF ?_
 rw[abe]
 refine bW ?_
 refine aB (fun k:Nat=>⟨aX [.d (.sl (l.map TB.d)), .d (.i n), .aa, .aa, .aa, .ptr 0 0, .aa, .d (.i k)],nB t.row,1⟩)
  (fun k=>k<=j) (fun k=>l.length - k) 0 (Nat.zero_le _) (bA.d1 _ (bX rfl) af rfl ?_) (fun k hk=> ?_)
 ·exact dp
 by_cases hkj:k=j
 ·subst hkj
  by_cases h5:k<l.length
  ·obtain⟨x,hx⟩:=ay h5
   have h6:=j3 x hx
   have pR:(k:Int)<l.length:=af
   refine RJ hx pR h6 tk dr ?_
   refine aN bV ?_
   refine RJ hx pR h6 tk dr ?_
   rw[<- ap]
  ·have pR: ¬ (k:Int)<l.length:=af
   refine RK pR tk dr ?_
   refine aN bV ?_
   refine RK pR tk dr ?_
   rw[<- ap]
 ·have b8:k<l.length:=af
  obtain⟨x,hx⟩:=ay b8
  have pR:(k:Int)<l.length:=af
  have h6:x.var<n:=j2 x (List.mem_of_getElem? (i:=k) (by rw[List.getElem?_take_of_lt (by omega)];exact hx))
  refine uu hx pR h6 ?_
  refine aj (k+1) af af (bA.d1 _ (bX rfl) af rfl ?_)
  exact dp
theorem jP(l:List TB)(hl:l.length<=1000000)(hf:∀x∈l,x.term.fits):a8 Tryz.prog 60 [.sl (l.map TB.d), .sl (l.map TB.d)] (.ret [.bool true]):=by
 refine a8.aI mix aah aF ?_
 rw[c60]
 simp+contextual (disch:=first|omega|simp only[go_sem,false_implies]) only[go_sem,wrap64,if_pos,List.length_map,bne_self_eq_false]
 refine aB (fun k:Nat=>⟨aX [.d (.sl (l.map TB.d)), .d (.sl (l.map TB.d)), .aa, .aa, .aa, .d (.i k)],fun _=> .no,0⟩)
  (fun k=>k<=l.length) (fun k=>l.length - k) 0 (Nat.zero_le _) (bA.d0 _ ?_) (fun k hk=> ?_)
 ·exact dp
 refine sG ?_
 refine ak (fun h2=> ?_) (fun h2=> ?_)
 ·simp at h2
  obtain⟨x,hx⟩:=ay h2
  have xI:=r8 x.term (hf x (List.mem_of_getElem? hx)) x.term (hf x (List.mem_of_getElem? hx))
  rw[pD]at xI
  refine RT hx ?_
  refine aZ xI rfl ?_
  exact Yq
 ·exact pK
mutual
def Tm.gu:Tm->Prop
 | .mk _ _ kids=>kids.length<=1000/\Tm.LA kids
def Tm.LA:List Tm->Prop
 |[]=>True
 |k::l=>k.gu/\Tm.LA l
end
theorem Tm.CL:∀l:List Tm,Tm.LA l↔∀k∈l,k.gu
 |[]=>by simp[Tm.LA]
 |k::l=>by simp[Tm.LA,Tm.CL l]
theorem Tm.fE (t:Tm):t.gu↔t.kids.length<=1000/\∀k∈t.kids,k.gu:=by cases t;simp[Tm.gu,Tm.CL,Tm.kids]
theorem Tm.LB:∀t:Tm,t.sz<=1000->t.gu:=by
 refine Tm.ei fun t ih h=> ?_
 rw[Tm.fE]
 have:=mc t.kids
 have h2:=Tm.iH t
 exact OT
theorem Tm.sv {b:List (Int×Tm)}(hb:∀p∈b,p.2.gu):∀t:Tm,t.gu->(aV b t).gu:=by
 refine Tm.ei fun t ih h=> ?_
 have h':=(Tm.fE t).1 h
 rw[si]
 split
 ·split
  ·rename_i x hx;exact hb _ (cJ hx)
  ·exact h
 ·rw[Tm.fE]
  refine⟨by simp only[Tm.kids,List.length_map];exact h'.1,fun k hk=> ?_⟩
  obtain⟨y,hy,rfl⟩:=List.mem_map.1 hk
  exact ih y hy (h'.2 y hy)
theorem Tm.jQ:∀t:Tm,t.gu->t.fits:=by
 refine Tm.ei fun t ih h=> ?_
 have h':=(Tm.fE t).1 h
 rw[Tm.bK]
 exact⟨af,fun k hk=>ih k hk (h'.2 k hk)⟩
theorem oi{s:aD}:∀t:Tm,Vs s t->t.gu->∀l:List TB,l.length<=100->a8 Tryz.prog 82 [t.d, .sl (l.map TB.d)] (.ret [(aV (ai l) t).d]):=by
 refine Tm.ei fun t ih hv hw l hlen=> ?_
 have hw':=(Tm.fE t).1 hw
 refine a8.aI mix aaq aF ?_
 rw[c82]
 by_cases h1:t.op=1
 ·have eg:(t.op==1)=true:=by simpa using h1
  refine pP eg ?_
  refine aw (U5 l t.n af) rfl ?_
  rcases uh l t.n with⟨f1,f2⟩|⟨k,x,f1,f2,f3⟩
  ·have hs:aV (ai l) t=t:=by rw[si,if_pos h1,f2]
   have f3:decide (0<=findF l t.n)=false:=by simpa using f1
   rw[hs]
   exact Xg eg f3
  ·have hs:aV (ai l) t=x.term:=by rw[si,if_pos h1,f3]
   rw[hs,f1]
   exact Xg eg f2
 ·have eg:(t.op==1)=false:=by simpa using h1
  have h8':(t.op==8)=false:=by simpa using hv.n8
  rw[fZ h1]
  refine rk eg h8' ?_
  refine aB (fun i:Nat=>⟨aX [.aa, .d (.sl (l.map TB.d)), .ptr 0 0, .aa, .ptr 1 0, .aa, .osl 2 0, .d (.i i)],az (az (az (fun _=> .no) 0 (.row t.row)) 1 (.row [.d (.i 0), .d (.i 0), .aJ])) 2 (.arr 0 33 3 (((t.kids.take i).map (aV (ai l))).map Tm.d)),3⟩)
   (fun i=>i<=t.kids.length) (fun i=>t.kids.length - i) 0 (Nat.zero_le _) (bA.ou (ty:=33) (sz:=3) (es:=[]) (fun _=>False) .aJ 2 _ af (lt2 (a7 rfl pQ) (a7 rfl pQ)) (by rw[ab];simp) (.inl ⟨rfl,rfl,bV⟩) (fun j hj=>by(repeat(first|rfl|rw[ab]|rw[ae _ _ _ _ (by omega)]))) (fun _ h=>h.elim) ?_) ?_
  ·exact mE
  rintro k hk
  replace hk:k<=t.kids.length:=hk
  refine sG ?_
  refine ak (fun h2=> ?_) (fun h2=> ?_)
  ·simp at h2
   obtain⟨x,hx⟩:=ay h2
   have bY:=List.mem_of_getElem? hx
   have q8:t.kids.take (k+1)=t.kids.take k++[x]:=by rw[List.take_add_one,hx];rfl
   have e0:(t.kids.take k).length=k:=by rw[List.length_take];omega
   refine GH hx e0 ?_
   refine bD (rs:=[(aV (ai l) x).d]) (ih x bY (hv.jV bY) (hw'.2 x bY) l hlen) ?_
   exact zw1
  ·simp at h2
   have C5:k=t.kids.length:=af
   subst C5
   rw[List.take_length]
   refine sG ?_
   rw[Tm.DY]
theorem Ad{s:aD}{t:Tm}(hv:Vs s t):(ct t).length<=20:=zV (fun n hn=>hv.range (((cX t).2 n).1 hn)) (cX t).1
theorem qR{s:aD}:∀t:Tm,Vs s t->t.gu->a8 Tryz.prog 141 [t.d] (.ret [.sl ((ct t).map .i)]):=by
 refine Tm.ei fun t ih hv ht=> ?_
 have hw':=(Tm.fE t).1 ht
 refine a8.aI mix aa0 aF ?_
 rw[aaZ]
 by_cases h1:t.op=1
 ·refine pP h1 ?_
  rw[qJ,if_pos h1]
  rfl
 ·have eg:(t.op==1)=false:=by simpa using h1
  have b1:(t.op !=8)=true:=by simpa using hv.n8
  refine pP eg ?_
  rw[qJ,if_neg h1]
  refine aB (fun i:Nat×List Int=>⟨aX [.aa, .ptr 0 0, .aa, .d (.sl (i.2.map .i)), .d (.i i.1)],nB t.row,1⟩)
   (fun i=>i.1<=t.kids.length/\ma t.op t.n t.kids 0 []=ma t.op t.n (t.kids.drop i.1) i.1 i.2/\Ej i.2/\∀v∈i.2,0<=v/\v<20) (fun i=>t.kids.length - i.1) (0,[]) ⟨Nat.zero_le _,rfl,List.Pairwise.nil,fun _ h=>by cases h⟩
   (bA.abS (fun _=>False) 1 _ af (lt1 (a7 rfl pQ)) (fun j hj=>ae _ _ _ _ af) (fun _ h=>h.elim) ?_) ?_
  ·try dsimp only
   exact mE
  rintro⟨k,out⟩ ⟨hk,HY,acg,hrg⟩
  simp only at hk HY acg hrg
  refine bW ?_
  refine ak (fun h2=> ?_) (fun h2=> ?_)
  ·simp at h2
   obtain⟨x,hx⟩:=ay h2
   have bY:=List.mem_of_getElem? hx
   have vx:=hv.jV bY
   have hvl:=Ad vx
   have Lm:t.kids.drop k=x::t.kids.drop (k+1):=by
    exact Sv
   have part:∀L:List Int,(∀v∈L,v∈ct x)->Ej (pE t.op t.n k L out)/\∀v∈pE t.op t.n k L out,0<=v/\v<20:=fun L hL=>by
    obtain⟨q1,q2⟩:=od t.op t.n k L out acg
    refine⟨q1,fun v La=> ?_⟩
    rcases(q2 v).1 La with h|h
    ·exact hrg v h
    ·exact vx.range (((cX x).2 v).1 (hL v h.1))
   refine pP hx ?_
   refine bD (ih x bY vx (hw'.2 x bY)) ?_
   refine pP hx ?_
   refine aB (fun j:Nat=>⟨aX [.aa, .ptr 0 0, .aa, .d (.sl ((pE t.op t.n k ((ct x).take j) out).map .i)), .d (.i k), .d (.sl ((ct x).map .i)), .d (.i j)],nB t.row,1⟩)
    (fun j=>j<=(ct x).length) (fun j=>(ct x).length - j) 0 (Nat.zero_le _) (bA.d1 _ (bX rfl) af rfl ?_) (fun j hj=> ?_)
   ·exact dp
   refine bW ?_
   refine ak (fun h3=> ?_) (fun h3=> ?_)
   ·simp at h3
    obtain⟨v,La⟩:=ay h3
    have wz:=part ((ct x).take j) (fun v hv=>List.mem_of_mem_take hv)
    have C5:=zV wz.2 wz.1
    have hc:(t.op !=8||(k:Int)!=1||v !=t.n)=true:=by rw[b1];rfl
    refine rk La b1 ?_
    refine aN bV ?_
    refine pP La ?_
    refine bD (ab7 _ v af) ?_
    refine bW ?_
    refine aj (j+1) h3 af (bA.d1 _ (bX rfl) af rfl ?_)
    rw[H5 La,if_pos hc]
    exact dp
   ·simp at h3
    refine bW ?_
    rw[List.take_of_length_le (by omega)]
    obtain⟨p1,p2⟩:=part (ct x) (fun v hv=>hv)
    refine aj (k+1,pE t.op t.n k (ct x) out) ⟨h2,by rw[HY,Lm];rfl,p1,p2⟩ kC (bA.d1 _ (bX rfl) af rfl ?_)
    exact dp
  ·simp at h2
   refine bW ?_
   rw[HY,List.drop_eq_nil_of_le (by omega)]
   rfl
theorem EA(n low high:Int):a8 Tryz.prog 77 [.i n, .i low, .i high] (.ret [.bool (dJ n low high)]):=by
 refine a8.aI mix ad7 aF ?_
 rw[c77]
 refine cB ?_
 rfl
theorem sw(s:aD)(hs:s.Fits)(t:Tm)(ht:t.fits):a8 Tryz.prog 39 [s.d,t.d] (.ret [.bool (jF s t&&fM t)]):=by
 refine a8.aI mix adO aF ?_
 rw[c39]
 refine bW ?_
 refine aw (US s hs t ht) rfl ?_
 cases h:jF s t with
 |false=>exact pK
 |true=>
  refine bW ?_
  refine aw (NO t ht) rfl ?_
  exact pK
theorem EB{s:aD}(h:np s=true)(t:Tm):jc s t=(jF s t&&fM t):=by
 unfold jc jH
 rw[h]
 simp only[List.all_cons,List.all_nil,Bool.and_true,Bool.true_and,vU]
 cases h1:jF s t with
 |false=>rfl
 |true=>rw[yl h1]
theorem qS(l:List TB)(n:Int)(hl:l.length<=1000000):a8 Tryz.prog 116 [.sl (l.map TB.d), .i n] (.ret [.i (findF l n)]):=by
 refine a8.aI mix aaI aF ?_
 rw[aaH]
 refine bW ?_
 refine aB (fun k:Nat=>⟨aX [.d (.sl (l.map TB.d)), .d (.i n), .aa, .aa, .aa, .d (.i k)],fun _=> .no,0⟩)
  (fun k=>k<=l.length/\∀j x,j<k->l[j]? =some x->x.var≠n) (fun k=>l.length - k) 0 ⟨Nat.zero_le _,fun _ _ h=>absurd h af⟩ (bA.d0 _ ?_) (fun k hk=> ?_)
 ·exact dp
 refine sG ?_
 refine ak (fun h2=> ?_) (fun h2=> ?_)
 ·simp at h2
  obtain⟨x,hx⟩:=ay h2
  refine sF hx ?_
  refine ak (fun h3=> ?_) (fun h3=> ?_)
  ·have kW:x.var=n:=by simpa using h3
   have:findF l n=k:=by
    have:l.findIdx? (·.var==n)=some k:=by
     rw[List.findIdx?_eq_some_iff_getElem]
     obtain⟨C5,e⟩:=List.getElem?_eq_some_iff.1 hx
     refine⟨C5,by rw[e];simpa using kW,fun j hj=> ?_⟩
     have:=hk.2 j _ hj (List.getElem?_eq_getElem af)
     simpa using this
    rw[findF,this]
   rw[this]
   exact pK
  ·have kW:x.var≠n:=by simpa using h3
   refine bW ?_
   refine aj (k+1) ⟨h2,fun j y hj hy=> ?_⟩ af (bA.d0 _ ?_)
   ·by_cases e:j=k
    ·exact OW
    ·exact hk.2 j y af hy
   ·exact dp
 ·simp at h2
  have:findF l n= -1:=by
   have:l.findIdx? (·.var==n)=none:=by
    rw[List.findIdx?_eq_none_iff]
    intro x hx
    obtain⟨j,hj,e⟩:=List.getElem_of_mem hx
    have:=hk.2 j x af (by rw[List.getElem?_eq_getElem hj,e])
    simpa using this
   rw[findF,this]
  rw[this]
  exact pK
theorem Gv(l:List Int)(n:Int)(hl:l.length<=1000000):a8 Tryz.prog 142 [.sl (l.map .i), .i n] (.ret [.bool (l.contains n)]):=by
 refine a8.aI mix aa2 aF ?_
 rw[aa1]
 refine bW ?_
 refine aB (fun k:Nat=>⟨aX [.d (.sl (l.map .i)), .d (.i n), .aa, .aa, .aa, .d (.i k)],fun _=> .no,0⟩)
  (fun k=>k<=l.length/\(l.take k).contains n=false) (fun k=>l.length - k) 0 ⟨Nat.zero_le _,aF⟩ (bA.d0 _ ?_) (fun k hk=> ?_)
 ·exact dp
 refine bW ?_
 refine ak (fun h2=> ?_) (fun h2=> ?_)
 ·simp at h2
  obtain⟨x,hx⟩:=ay h2
  refine pP hx ?_
  refine ak (fun h3=> ?_) (fun h3=> ?_)
  ·refine bW ?_
   have:l.contains n=true:=by
    exact XS
   rw[this]
  ·refine bW ?_
   refine aj (k+1) ⟨h2, ?_⟩ af (bA.d0 _ ?_)
   ·have h4: ¬n=x:=fun e=>by subst e;simp at h3
    have h5:=hk.2
    rw[List.take_add_one,hx]
    rw[Bool.eq_false_iff]at h5|-
    intro hc;apply h5
    rw[List.contains_iff_mem]at hc|-
    rcases List.mem_append.1 hc with hc|hc
    ·exact hc
    ·simp at hc;exact absurd hc h4
   ·exact dp
 ·simp at h2
  refine bW ?_
  have:=hk.2
  rw[List.take_of_length_le (by omega)]at this
  rw[this]
def Rv(o:Nat->ad)(nx:Nat)(l:List Int):Nat->ad:=az o nx (.arr 0 3 1 (l.map D.i))
theorem ilH_0(o:Nat->ad)(nx:Nat)(l:List Int):Rv o nx l nx= .arr 0 3 1 (l.map D.i):=by unfold Rv;rw[ab]
theorem sy(o:Nat->ad)(nx:Nat)(l:List Int){j:Nat}(h:j≠nx):Rv o nx l j=o j:=by unfold Rv;rw[ae _ _ _ _ h]
theorem sA{o:Nat->ad}{nx b:Nat}(S9:Good o nx)(hb:b<=nx){e:Nat->V}{so:Nat->ad}{m:Nat}(L:List V)(l:List Int){x:V}(gone:Nat->Prop)(rV:∀id,gone id->id<nx->o id= .no)
 (gx:eL so gone 3 1 (l.map D.i) x) (sr:∀j,j<nx->so j=o j\/o j= .no) (he:gM nx [⟨x,3,1,l.map D.i⟩] so gone e L 0):bA b ⟨e,so,m⟩ ⟨aX L,Rv o nx l,nx+1⟩:=by
 refine bA.ou gone x nx L hb (fun j hj=> ?_) (ilH_0 o nx l) gx (fun j hj=> ?_) (fun j h1 h2=>by rw[sy _ _ _ (by omega)];exact rV j h1 h2) he
 ·rw[sy _ _ _ (by omega)]
  rcases sr j hj with h|h
  ·exact a7 h (fun r hr=>S9.refs j r hr)
  ·rw[h];exact kx
 ·rw[sy _ _ _ (by omega)]
  exact S9.fresh j af
def IsL(o:Nat->ad)(x:V)(l:List Int):Prop:=(x= .aJ/\l=[])\/∃id ep,x= .osl id ep/\o id= .arr ep 3 1 (l.map D.i)
theorem LC:∀ (more l:List Int),(pG l more).length<=l.length+more.length
 |[],l=>by simp[pG]
 |u::more,l=>by
  have h1:(dS l u).length<=l.length+1:=by
   unfold dS
   split
   ·omega
   ·rw[List.length_append,List.length_singleton];omega
  have h2:=LC more (dS l u)
  show(pG (dS l u) more).length<=_
  rw[List.length_cons];omega
theorem IsL.Rw {o:Nat->ad}{x:V}{l:List Int}(h:IsL o x l):eL o (fun _=>True) 3 1 (l.map D.i) x:=by
 rcases h with⟨rfl,rfl⟩|⟨id,ep,rfl,ho⟩
 ·exact .inl ⟨rfl,rfl,bV⟩
 ·exact .inr ⟨id,ep,trivial,rfl,ho⟩
theorem LD(l more:List Int)(hl:l.length<=100000)(hm:more.length<=100000){x:V}{o:Nat->ad}{nx:Nat}(hg:Good o nx)(hx:IsL o x l){K X:V->(Nat->ad)->Nat->Prop}
 (hK:∀y o' nx',nx<=nx'->Good o' nx'->(∀j,j<nx->(∀ep,x≠ .osl j ep)->o' j=o j)->IsL o' y (pG l more)->K y o' nx'):cI Tryz.prog 140 [x, .d (.sl (more.map D.i))] o nx K X:=by
 refine cI.aI mix aaY aF ?_
 rw[aaX]
 refine kR ?_
 obtain⟨o0,gone,c1,c2,c3,c4,c5⟩:∃ (o0:Nat->ad) (gone:Nat->Prop),Good o0 nx/\(∀j,j<nx->o j=o0 j\/o0 j= .no)/\(∀id,gone id->id<nx->o0 id= .no)/\eL o gone 3 1 (l.map D.i) x/\(∀j,j<nx->(∀ep,x≠ .osl j ep)->o0 j=o j):=by
  rcases hx with⟨rfl,rfl⟩|⟨id,ep,rfl,ho⟩
  ·exact⟨o,fun _=>False,hg,fun j _=> .inl rfl,fun _ h=>h.elim, .inl ⟨rfl,rfl,bV⟩,fun j _ _=>rfl⟩
  ·have au:id<nx:=hg.lt (by rw[ho];exact ad.noConfusion)
   refine⟨az o id .no,(· =id),hg.az au rfl,fun j hj=> ?_,fun j e _=>by rw[e,ab], .inr ⟨id,ep,rfl,rfl,ho⟩,fun j hj fG=> ?_⟩
   ·by_cases e:j=id
    ·subst e;rw[ab];exact .inr rfl
    ·rw[ae _ _ _ _ e];exact .inl rfl
   ·by_cases e:j=id
    ·subst e;exact absurd rfl (fG ep)
    ·rw[ae _ _ _ _ e]
 refine aB (fun k:Nat=>⟨aX [.osl nx 0, .d (.sl (more.map D.i)), .aa, .aa, .aa, .d (.i k)],Rv o0 nx (pG l (more.take k)),nx+1⟩)
  (fun k=>k<=more.length) (fun k=>more.length - k) 0 (Nat.zero_le _) (sA c1 (Nat.le_refl _) _ (pG l []) gone c3 c4 c2 ?_) (fun k hk=> ?_)
 ·exact mE
 replace hk:k<=more.length:=hk
 have q0:=ilH_0 o0 nx (pG l (more.take k))
 have hlen:=LC (more.take k) l
 rw[List.length_take]at hlen
 refine W9 q0 ?_
 refine ak (fun h2=> ?_) (fun h2=> ?_)
 ·replace h2:k<more.length:=by simp at h2;omega
  obtain⟨v,hv⟩:=ay h2
  have q8:pG l (more.take (k+1))=dS (pG l (more.take k)) v:=by unfold pG;rw[List.take_add_one,hv,List.foldl_append];rfl
  simp+contextual (disch:=first|omega|simp only[go_sem,false_implies]) only[go_sem,wrap64,if_pos,q0,hv,List.length_map,Nat.add_assoc,Nat.left_eq_add,Nat.add_eq_left,Nat.add_left_cancel_iff]
  refine aw (Gv (pG l (more.take k)) v af) rfl ?_
  cases hc:(pG l (more.take k)).contains v with
  |true=>
   have e1:dS (pG l (more.take k)) v=pG l (more.take k):=by unfold dS;rw[if_pos hc]
   refine W9 q0 ?_
   refine aj (k+1) h2 af ?_
   rw[q8,e1]
   refine sA c1 (Nat.le_refl _) _ _ (fun id=>nx<=id) (fun id h1 h2=>af) (x:= .osl nx 0) (.inr ⟨nx,0,Nat.le_refl _,rfl,q0⟩) (fun j hj=> .inl (by rw[sy _ _ _ (by omega)])) ?_
   exact mE
  |false=>
   have e1:dS (pG l (more.take k)) v=pG l (more.take k)++[v]:=by unfold dS;rw[if_neg (by rw[hc];exact Bool.false_ne_true)]
   have fL:(pG l (more.take k)).length<=140737488355327/\((pG l (more.take k)).length+1)*8<=140737488355328:=af
   simp+contextual (disch:=first|omega|simp only[go_sem,false_implies]) only[go_sem,wrap64,if_pos,q0,hv,List.length_map,if_pos fL,Nat.add_assoc,Nat.left_eq_add,Nat.add_eq_left,Nat.add_left_cancel_iff]
   refine aj (k+1) h2 af ?_
   rw[q8,e1]
   refine sA c1 (Nat.le_refl _) _ _ (fun id=>nx<=id) (fun id h1 h2=>af) (x:= .osl nx 1) (.inr ⟨nx,1,Nat.le_refl _,rfl,by(repeat(first|rfl|rw[ab]|rw[ae _ _ _ _ (by omega)]));rw[List.map_append];rfl⟩) (fun j hj=> .inl (by(repeat(first|rfl|rw[ab]|rw[ae _ _ _ _ (by omega)]));rw[sy _ _ _ (by omega)])) ?_
   exact mE
 ·replace h2:k=more.length:=by simp at h2;omega
  subst h2
  rw[List.take_length]at q0|-
  refine GJ q0 ?_
  refine hK _ _ _ ?_ ?_ (fun j hj fG=> ?_) (.inr ⟨nx,0,rfl,q0⟩)
  ·omega
  ·unfold Rv;exact(c1.mono af).az af rfl
  ·rw[sy _ _ _ (by omega)];exact c5 j hj fG
theorem N7.done {s:aD}{b:List (Int×Tm)}{t:Tm}{all:List Int}(h:N7 s b t all.length all)(n:Int):n∈all↔nK b n t:=by
 refine⟨fun hn=>h.snd n hn,fun hr=> ?_⟩
 have key:∀x,nK b n x->(∀v,fO v x=true->v∈all)->n∈all:=by
  intro x hr
  induction hr with
  |here h1=>exact fun hs=>hs _ h1
  |step h1 h2 _ ih=>
   intro hs
   refine ih fun u hu=> ?_
   obtain⟨j,hj⟩:=List.mem_iff_getElem?.1 (hs _ h1)
   exact h.cl j (List.getElem?_eq_some_iff.1 hj).1 _ _ hj h2 u hu
 exact key t hr h.fst
theorem EC{s:aD}{l:List TB}(hl:l.length<=1000)(hb:∀p∈ai l,Vs s p.2)(hf:∀p∈ai l,p.2.gu)(n:Int)(t:Tm)(ht:Vs s t)(Vg:t.gu){is:Bool}(Ex:is=true↔nK (ai l) n t):
 a8 Tryz.prog 117 [.sl (l.map TB.d),t.d, .i n] (.ret [.bool is]):=by
 have Oj:∀t,Vs s t->(ct t).length<=100000:=fun t ht=>by
  have hv:=cX t
  have:(ct t).length<=20:=Ib (H4 hv.1) fun v h=>ht.range ((hv.2 v).1 h)
  omega
 refine a8.aI mix aaK aF ?_
 rw[aaJ]
 refine bW ?_
 refine bD (qR t ht Vg) ?_
 refine bW ?_
 refine dD (LD [] (ct t) aF (Oj t ht) dI (.inl ⟨rfl,rfl⟩) (fun y o' nx' w1 w2 w3 w4=> ?_))
 refine bW ?_
 refine aB (fun i:Nat×List Int=>⟨aX [.d (.sl (l.map TB.d)), .aa, .d (.i n), .aa, .aa, .aa, .aa, .osl 0 0, .d (.i i.1)],Rv (fun _=> .no) 0 i.2,0+1⟩)
  (fun i=>N7 s (ai l) t i.1 i.2) (fun i=>21 - i.1) (0,pG [] (ct t)) (N7.zero ht) (sA Good.nil (Nat.le_refl _) _ _ (fun _=>True) (fun id _ h=>absurd h af) w4.Rw (fun j hj=>absurd hj af) ?_) ?_
 ·exact mE
 rintro⟨i,all⟩ hI
 dsimp only at hI|-
 have q0:=ilH_0 (fun _=> .no) 0 all
 have h20:=Ib hI.nd hI.rg
 have hle:=hI.le
 refine sF q0 ?_
 refine ak (fun h2=> ?_) (fun h2=> ?_)
 ·replace h2:i<all.length:=by simp at h2;omega
  obtain⟨v,hv⟩:=ay h2
  refine GH q0 hv ?_
  refine aw (qS l v af) rfl ?_
  have iW:=hI.succ hb hv
  rcases uh l v with⟨g1,g2⟩|⟨k,x,g1,g2,g3⟩
  ·have LF:decide (findF l v≥0)=false:=by simp;omega
   have e1:Lg (ai l) all v=all:=by unfold Lg;rw[g2]
   rw[e1]at iW
   refine GH q0 LF ?_
   refine aj (i+1,all) iW kC (sA Good.nil (Nat.le_refl _) _ _ (fun _=>True) (fun id _ h=>absurd h af) (x:= .osl 0 0) (.inr ⟨0,0,trivial,rfl,q0⟩) (fun j hj=>absurd hj af) ?_)
   exact mE
  ·have LF:decide (((k:Nat):Int)≥0)=true:=aF
   have e1:Lg (ai l) all v=pG all (ct x.term):=by unfold Lg;rw[g3]
   rw[e1]at iW
   have bY:=iV (List.mem_of_getElem? g2)
   refine Ax q0 g1 LF g2 ?_
   refine bD (qR x.term (hb _ bY) (hf _ bY)) ?_
   refine sF q0 ?_
   refine dD (LD all (ct x.term) af (Oj _ (hb _ bY)) (Good.az Good.nil af rfl) (.inr ⟨0,0,rfl,q0⟩) (fun y o2 nx2 u1 u2 u3 u4=> ?_))
   refine bW ?_
   refine aj (i+1,pG all (ct x.term)) iW kC (sA Good.nil (Nat.le_refl _) _ _ (fun _=>True) (fun id _ h=>absurd h af) u4.Rw (fun j hj=>absurd hj af) ?_)
   exact mE
 ·replace h2:i=all.length:=by simp at h2;omega
  subst h2
  have:is=all.contains n:=by rw[Bool.eq_iff_iff,Ex,List.contains_iff_mem];exact(hI.done n).symm
  refine sF q0 ?_
  refine aw (Gv all n af) rfl ?_
  rw[this]
  exact pK
def Ol:IC:=NK.snd.snd
theorem ED{l:List TB}{F:Tm->Int->Option Int}{x:Tm}(hx:x.fits){n:Int}{d:Nat}{r:Int}(hn:0<=n/\n<=1000)(hd:d<=1000)(hF:∀k m q,0<=m->F k m=some q-> -1<=q/\q<=m)
 (ih:∀k∈x.kids,∀m q d',d=d'+1->0<=m/\m<=1000->F k m=some q->a8 Tryz.prog 143 [.sl (l.map TB.d),k.d, .i m, .i d'] (.ret [.i q]))
 (h:(match d with|0=>some (-1)|_+1=>Aw F x.kids (n - 1))=some r) {e:Nat->V} {o:Nat->ad} {nx:Nat} (hg:Good o nx) (e0:e 0= .d (.sl (l.map TB.d))) (e2:e 2= .d (.i n)) (e3:e 3= .d (.i d)) (e5:e 5= .ptr 0 0) (ho:o 0= .row x.row) (h1:1<=nx):
 kN Tryz.prog 55 0 false Ol (yX Tryz.prog [.tmp 8] (.ret [.i r])) ⟨e,o,nx⟩:=by
 have IK:=(Tm.bK x).1 hx
 simp only[Ol,NK,IC.snd]
 cases d with
 |zero=>
  cases h
  simp+contextual (disch:=first|omega|simp only[go_sem,false_implies]) only[go_sem,wrap64,if_pos,e0,e2,e3,e5,ho]
 |succ d=>
  dsimp only at h
  have M0:(((d+1:Nat):Int)==0)=false:=by rw[beq_eq_false_iff_ne];omega
  refine GK e0 e2 e3 e5 ho M0 ?_
  refine aB (fun i:Nat×Int=>⟨aX [.d (.sl (l.map TB.d)), .aa, .d (.i i.2), .d (.i (d+1:Nat)), .aa, .ptr 0 0, .aa, .aa, .aa, .aa, .d (.i i.1)],az (fun _=> .no) 0 (.row x.row),1⟩)
   (fun i=>i.1<=x.kids.length/\Aw F (x.kids.drop i.1) i.2=some r/\ -1<=i.2/\i.2<=1000) (fun i=>x.kids.length - i.1) (0,n - 1) ⟨Nat.zero_le _,h,by dsimp only;omega,by dsimp only;omega⟩ (bA.bJ _ af af (Good.az Good.nil af rfl) (fun j hj=> ?_) ?_) ?_
  ·have hj:j<1:=hj
   have:j=0:=af
   subst this
   rw[ab];exact ho
  ·exact nO (by(repeat(first|rfl|rw[ab]|rw[ae _ _ _ _ (by omega)]));exact e0) (fF (nO rfl (nO (by(repeat(first|rfl|rw[ab]|rw[ae _ _ _ _ (by omega)]));exact e3) (fF (EP (by(repeat(first|rfl|rw[ab]|rw[ae _ _ _ _ (by omega)]));exact e5) yB (fF (fF (fF (fF (nO rfl xc))))))))))
  rintro⟨k,m⟩ ⟨hk,hl,Iy,Mf⟩
  simp only at hk hl Iy Mf
  by_cases h2:k<x.kids.length
  ·have iy:decide ((k:Int)<(x.kids.length:Int))=true:=by simp;omega
   obtain⟨y,hy⟩:=ay h2
   have NP:=List.mem_of_getElem? hy
   have Lm:x.kids.drop k=y::x.kids.drop (k+1):=by
    obtain⟨i1,i2⟩:=List.getElem?_eq_some_iff.1 hy
    exact I0
   rw[Lm]at hl
   simp only[Aw]at hl
   by_cases h0:m<0
   ·have yR:decide (m≥0)=false:=by simp;omega
    rw[if_pos h0]at hl
    cases hl
    exact RU hy iy yR
   ·have yR:decide (m≥0)=true:=by simp;omega
    rw[if_neg h0]at hl
    cases e:F y m with
    |none=>rw[e]at hl;cases hl
    |some q=>
    rw[e]at hl
    have hq:=hF y m q af e
    refine uu hy iy yR ?_
    rw[show(((d+1:Nat):Int) - 1)=((d:Nat):Int) by omega]
    refine aw (ih y NP m q d rfl af e) rfl ?_
    refine bW ?_
    refine aj (k+1,q) ⟨h2,hl,by dsimp only;omega,by dsimp only;omega⟩ kC (bA.bJ _ af af (Good.az Good.nil af rfl) (fun j hj=>rfl) ?_)
    exact dp
  ·have iy:decide ((k:Int)<(x.kids.length:Int))=false:=by simp;omega
   have:k=x.kids.length:=af
   subst this
   rw[List.drop_length]at hl
   cases hl
   exact IM iy
theorem wh{l:List TB}(hl:l.length<=1000)(nL:∀p∈ai l,p.2.fits):∀ (f:Nat) (t:Tm) (n:Int) (d:Nat) (r:Int),t.fits->0<=n/\n<=1000->d<=1000->tl f (ai l) t n d=some r->
 a8 Tryz.prog 143 [.sl (l.map TB.d),t.d, .i n, .i d] (.ret [.i r])
 |0,_,_,_,_,_,_,_,h=>by cases h
 |f+1,t,n,d,r,ht,hn,hd,h=>by
  simp only[tl]at h
  cases ha:mj f (ai l) t with
  |none=>rw[ha]at h;cases h
  |some x=>
  rw[ha]at h
  dsimp only at h
  have IK:=qM nL f t x ht ha
  have aes:∀ (d':Nat) (k:Tm) (m q:Int),0<=m->tl f (ai l) k m d'=some q-> -1<=q/\q<=m:=fun d' k m q=>zZ f k m d' q
  have rest:∀ {e:Nat->V} {o:Nat->ad} {nx:Nat},Good o nx->e 0= .d (.sl (l.map TB.d))->e 2= .d (.i n)->e 3= .d (.i d)->e 5= .ptr 0 0->o 0= .row x.row->1<=nx->kN Tryz.prog 55 0 false Ol (yX Tryz.prog [.tmp 8] (.ret [.i r])) ⟨e,o,nx⟩:=by
   intro e o nx hg e0 e2 e3 e5 ho h1
   refine ED (F:=fun k m=>tl f (ai l) k m (d - 1)) IK hn hd (fun k m q h1 h2=>aes _ k m q h1 h2) (fun k hk m q d' he hm hF=> ?_) ?_ hg e0 e2 e3 e5 ho h1
   ·subst he
    exact wh hl nL f k m d' q ((Tm.bK x).1 IK |>.2 k hk) hm af hF
   ·cases d with
    |zero=>exact h
    |succ d=>exact h
  have chain:∀ (g:Nat) (t:Tm),t.fits->mj g (ai l) t=some x->a8 Tryz.prog 143 [.sl (l.map TB.d),t.d, .i n, .i d] (.ret [.i r]):=by
   intro g
   induction g with
   |zero=>intro t _ h;cases h
   |succ g ihg=>
    intro t ht Ix
    simp only[mj]at Ix
    refine a8.aI mix aa3 aF ?_
    rw[NK]
    show kN _ _ _ _ (.seq _ (.seq _ Ol)) _ _
    by_cases h1:t.op=1
    ·have eg:(t.op==1)=true:=by simpa using h1
     rw[if_pos h1]at Ix
     refine pP eg ?_
     refine aw (qS l t.n af) rfl ?_
     rcases uh l t.n with⟨g1,g2⟩|⟨k,y,g1,g2,g3⟩
     ·have LF:decide (findF l t.n≥0)=false:=by simp;omega
      rw[g2]at Ix
      cases Ix
      refine pP LF ?_
      exact rest dI rfl rfl rfl rfl rfl af
     ·have LF:decide (((k:Nat):Int)≥0)=true:=aF
      rw[g3]at Ix
      refine uu g1 LF g2 ?_
      refine aw (ihg y.term (nL _ (iV (List.mem_of_getElem? g2))) Ix) rfl ?_
      exact pK
    ·have eg:(t.op==1)=false:=by simpa using h1
     rw[if_neg h1]at Ix
     cases Ix
     refine pP eg ?_
     exact rest dI rfl rfl rfl rfl rfl af
  exact chain f t ht ha
theorem CM{l:List TB}(hl:l.length<=1000)(nL:∀p∈ai l,p.2.fits)(hle:∀p∈ai l,∃f r,tl f (ai l) p.2 40 12=some r){ok:Bool}(aW:ok=true↔∀x∈l,CE (ai l) x.term):
 a8 Tryz.prog 118 [.sl (l.map TB.d)] (.ret [.bool ok]):=by
 refine a8.aI mix aaM aF ?_
 rw[aaL]
 refine bW ?_
 refine aB (fun k:Nat=>⟨aX [.d (.sl (l.map TB.d)), .aa, .aa, .d (.i k)],fun _=> .no,0⟩)
  (fun k=>k<=l.length/\∀x∈l.take k,CE (ai l) x.term) (fun k=>l.length - k) 0 ⟨Nat.zero_le _,fun x hx=>by simp at hx⟩ (bA.d0 _ ?_) (fun k hk=> ?_)
 ·exact dp
 obtain⟨hk,ho⟩:=hk
 refine sG ?_
 refine ak (fun h2=> ?_) (fun h2=> ?_)
 ·replace h2:k<l.length:=by simp at h2;omega
  obtain⟨x,hx⟩:=ay h2
  have bY:=List.mem_of_getElem? hx
  obtain⟨f,r,hf⟩:=hle _ (iV bY)
  have c8:=Gh hf
  refine sF hx ?_
  refine aw (wh hl nL f x.term 40 12 r (nL _ (iV bY)) af af hf) rfl ?_
  by_cases h0:r<0
  ·have yR:decide (r<0)=true:=decide_eq_true h0
   have:ok=false:=by
    cases ok with
    |false=>rfl
    |true=>have:=c8.1 (aW.1 rfl x bY);omega
   subst this
   exact Db yR
  ·have yR:decide (r<0)=false:=decide_eq_false h0
   refine pP yR ?_
   refine aj (k+1) ⟨h2,fun y hy=> ?_⟩ af (bA.d0 _ ?_)
   ·rw[List.take_add_one,hx]at hy
    rcases List.mem_append.1 hy with hy|hy
    ·exact ho y hy
    ·simp at hy
     subst hy
     exact c8.2 af
   ·exact dp
 ·replace h2:k=l.length:=by simp at h2;omega
  subst h2
  rw[List.take_length]at ho
  have:ok=true:=aW.2 ho
  exact yC
theorem Om{l:List TB}{i:Nat}{x:TB}(hx:l[i]? =some x):findF l x.var<(i:Int)↔x.var∈(ai (l.take i)).map (·.1):=by
 have e:(ai (l.take i)).map (·.1)=(l.take i).map (·.var):=by unfold ai;rw[List.map_map];rfl
 rw[e]
 obtain⟨hi,hxe⟩:=List.getElem?_eq_some_iff.1 hx
 unfold findF
 cases h:l.findIdx? (·.var==x.var)with
 |none=>
  rw[List.findIdx?_eq_none_iff]at h
  have:=h x (List.mem_of_getElem? hx)
  simp at this
 |some k=>
  rw[List.findIdx?_eq_some_iff_getElem]at h
  obtain⟨hk,h1,h2⟩:=h
  dsimp only
  constructor
  ·intro b8
   have b8:k<i:=af
   refine List.mem_map.2 ⟨l[k], ?_,by simpa using h1⟩
   rw[List.mem_iff_getElem?]
   exact⟨k,by rw[List.getElem?_take,if_pos b8,List.getElem?_eq_getElem hk]⟩
  ·intro hm
   obtain⟨y,hy,hyv⟩:=List.mem_map.1 hm
   obtain⟨j,hj⟩:=List.mem_iff_getElem?.1 hy
   rw[List.getElem?_take]at hj
   split at hj
   ·rename_i hji
    obtain⟨hjl,VR⟩:=List.getElem?_eq_some_iff.1 hj
    rcases Nat.lt_or_ge j k with Pv|Pv
    ·have:=h2 j Pv
     rw[VR]at this
     simp[hyv]at this
    ·omega
   ·cases hj
theorem EE(s:aD)(hs:s.Fits)(Ce:np s=true)(l:List TB)(hl:l.length<=1000)(hlf:∀x∈l,x.term.fits){ok:Bool}(aW:ok=true↔qO s l):
 a8 Tryz.prog 76 [s.d, .sl (l.map TB.d)] (.ret [.bool ok]):=by
 have no: ¬qO s l->ok=false:=fun h=>by
  cases ok with
  |false=>rfl
  |true=>exact absurd (aW.1 rfl) h
 refine a8.aI mix ad6 aF ?_
 rw[c76]
 by_cases h20:20<l.length
 ·have Vn:decide ((l.length:Int)>20)=true:=by simp;omega
  have:=no fun h=>by have:=h.len;omega
  subst this
  exact IM Vn
 have Vn:decide ((l.length:Int)>20)=false:=by simp;omega
 refine sF Vn ?_
 refine aB (fun k:Nat=>⟨aX [.aa, .d (.sl (l.map TB.d)), .ptr 0 0, .aa, .aa, .d (.i k)],az (fun _=> .no) 0 (.row [.d (.sl (s.cons.map kO.d)), .d (.sl (s.cL.map kO.d))]),1⟩)
  (fun k=>k<=l.length/\((ai (l.take k)).map (·.1)).Nodup/\∀x∈l.take k,(0<=x.var/\x.var<20)/\jc s x.term=true) (fun k=>l.length - k) 0 ⟨Nat.zero_le _,List.nodup_nil,fun x hx=>by simp at hx⟩ (bA.bJ _ af af dI (fun j hj=>rfl) ?_) (fun k hk=> ?_)
 ·exact dp
 obtain⟨hk,wQ,ho⟩:=hk
 refine sG ?_
 refine ak (fun h2=> ?_) (fun h2=> ?_)
 ·replace h2:k<l.length:=by simp at h2;omega
  obtain⟨x,hx⟩:=ay h2
  have bY:=List.mem_of_getElem? hx
  have q8:=we l hx
  refine sF hx ?_
  refine aZ (EA x.var 0 19) rfl ?_
  have Fe:dJ x.var 0 19=true↔0<=x.var/\x.var<20:=by unfold dJ;simp;omega
  cases h6:dJ x.var 0 19 with
  |false=>
   have:=no fun h=>by
    have:=Fe.2 (h.ok x bY).1
    rw[h6]at this;cases this
   exact Pk
  |true=>
   refine sF hx ?_
   refine aZ (qS l x.var af) rfl ?_
   have b8:=Om hx
   cases h7:decide (findF l x.var<(k:Int))with
   |true=>
    have:=no fun h=>by
     have h8:=b8.1 (of_decide_eq_true h7)
     have h9:=h.keys.sublist (((List.take_sublist (k+1) l).map _).map _)
     have h9:((ai (l.take (k+1))).map (·.1)).Nodup:=h9
     rw[q8,List.map_append,List.nodup_append]at h9
     exact h9.2.2 x.var h8 x.var aF rfl
    subst this
    refine GH hx h7 ?_
    refine aN (bc rfl) ?_
    exact pK
   |false=>
    refine GH hx h7 ?_
    refine aZ (sw s hs x.term (hlf x bY)) rfl ?_
    have hve:=EB Ce x.term
    cases h8:(jF s x.term&&fM x.term)with
    |false=>
     have:=no fun h=>by
      have:=(h.ok x bY).2
      rw[hve,h8]at this;cases this
     exact Pk
    |true=>
     refine sF hx ?_
     refine aN (bc rfl) ?_
     refine bW ?_
     refine aj (k+1) ⟨h2, ?_,fun y hy=> ?_⟩ af (bA.bJ _ af af dI (fun j hj=>rfl) ?_)
     ·rw[q8,List.map_append,List.nodup_append]
      refine⟨wQ,aF,fun a ha c hc e=> ?_⟩
      simp at hc
      rw[e,hc]at ha
      exact of_decide_eq_false h7 (b8.2 ha)
     ·rw[List.take_add_one,hx]at hy
      rcases List.mem_append.1 hy with hy|hy
      ·exact ho y hy
      ·simp at hy
       subst hy
       exact⟨Fe.1 h6,by rw[hve,h8]⟩
     ·exact dp
 ·replace h2:k=l.length:=by simp at h2;omega
  subst h2
  rw[List.take_length]at wQ ho
  have E6:∀p∈ai l,Vs s p.2:=fun p hp=>by
   obtain⟨x,hx,rfl⟩:=eY hp
   exact(dF (ho x hx).2).1
  have nL:∀p∈ai l,p.2.gu:=fun p hp=>by
   obtain⟨x,hx,rfl⟩:=eY hp
   exact Tm.LB _ (by have:=(dF (ho x hx).2).2.1;show x.term.sz<=1000;omega)
  refine bW ?_
  refine aB (fun k:Nat=>⟨aX [.aa, .d (.sl (l.map TB.d)), .aa, .aa, .aa, .aa, .d (.i k)],fun _=> .no,0⟩)
   (fun k=>k<=l.length/\∀x∈l.take k, ¬nK (ai l) x.var x.term) (fun k=>l.length - k) 0 ⟨Nat.zero_le _,fun x hx=>by simp at hx⟩ (bA.d0 _ ?_) (fun k hk=> ?_)
  ·exact dp
  obtain⟨hk,hc⟩:=hk
  refine sG ?_
  refine ak (fun h2=> ?_) (fun h2=> ?_)
  ·replace h2:k<l.length:=by simp at h2;omega
   obtain⟨x,hx⟩:=ay h2
   have bY:=List.mem_of_getElem? hx
   obtain⟨is,Ex⟩:∃is:Bool,is=true↔nK (ai l) x.var x.term:=by
    classical
    exact⟨decide (nK (ai l) x.var x.term),aF⟩
   refine sF hx ?_
   refine aZ (EC hl E6 nL x.var x.term (E6 _ (iV bY)) (nL _ (iV bY)) Ex) rfl ?_
   cases is with
   |true=>
    have:=no fun h=>h.N9 x.var x.term ((jK h.keys).2 (iV bY)) (Ex.1 rfl)
    subst this
    exact MA
   |false=>
    refine bW ?_
    refine aN (bc rfl) ?_
    refine bW ?_
    refine aj (k+1) ⟨h2,fun y hy=> ?_⟩ af (bA.d0 _ ?_)
    ·rw[List.take_add_one,hx]at hy
     rcases List.mem_append.1 hy with hy|hy
     ·exact hc y hy
     ·simp at hy
      subst hy
      exact fun h=>Bool.false_ne_true (Ex.2 h)
    ·exact dp
  ·replace h2:k=l.length:=by simp at h2;omega
   subst h2
   rw[List.take_length]at hc
   have Lz:U9 (ai l):=fun v t ht=>by
    obtain⟨x,hx,e⟩:=eY (cJ ht)
    cases e
    exact hc x hx
   obtain⟨l',ρ,R,hS,IA⟩:=uo wQ ho Lz
   have hle:∀p∈ai l,∃f r,tl f (ai l) p.2 40 12=some r:=fun p hp=>by
    exact Pu
   refine bW ?_
   refine aw (CM (ok:=ok) hl (fun p hp=>Tm.jQ _ (nL p hp)) hle (aW.trans ⟨fun h=>h.WU,fun h=>⟨af,wQ,ho,Lz,h⟩⟩)) rfl ?_
   exact pK
end Go.Proofs.YtlhemmpklhhgoaaGreat
