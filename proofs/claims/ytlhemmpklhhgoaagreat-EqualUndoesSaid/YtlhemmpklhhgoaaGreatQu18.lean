/-
  A PART OF THE PROOF. Conditions: none.
-/
import Derived.Test.YtlhemmpklhhgoaaGreatQu17
set_option linter.unusedSimpArgs false
set_option linter.unusedVariables false
namespace Go.Proofs.YtlhemmpklhhgoaaGreat
theorem Pj{s:aB}{lim:Bool}{b:List (Int×Tm)}{l:List TB}{ρ:Int->Nat}{R:Nat}(h:lC s b l ρ R):∀ (z:Nat) (t u:Tm),Vs s t->Vs s u->(aZ (ai l) t).sz<=z->aZ (ai l) t=aZ (ai l) u->∃g,jd lim g t u b=some (0,b):=by
 intro z
 induction z with
 |zero=>intro t u _ _ hz;have:=Tm.su (aZ (ai l) t);omega
 |succ z ih=>
  intro t u ht hu hz he
  obtain⟨x,a1,a2,a3,a4,_,_⟩:=h.root ht
  obtain⟨y,b1,b2,b3,b4,_,_⟩:=h.root hu
  obtain⟨p1,p2,p3,p4,p5⟩:=uf h a2 a4
  obtain⟨q1,q2,q3,q4,q5⟩:=uf h b2 b4
  have Yc:aZ (ai l) x=aZ (ai l) y:=by rw[a3,b3,he]
  have e1:x.op=y.op:=by rw[<- p1, <- q1,Yc]
  have e2:x.n=y.n:=by rw[<- p2, <- q2,Yc]
  have e3:x.kids.length=y.kids.length:=by rw[<- p3, <- q3,Yc]
  by_cases h1:x.op=1
  ·refine⟨R+3, ?_⟩
   simp only[jd,cR a1,cR b1,if_pos h1,if_pos (e1 ▸ h1:y.op=1),if_pos e2]
  ·have h2: ¬y.op=1:=e1 ▸ h1
   have key:∀ (ks dx:List Tm),(∀k∈ks,k∈x.kids)->(∀k∈dx,k∈y.kids)->ks.map (aZ (ai l))=dx.map (aZ (ai l))->∃g,lN (jd lim g) ks dx b=some (0,b):=by
    intro ks
    induction ks with
    |nil=>intro dx _ _ _;exact⟨0,by simp only[lN]⟩
    |cons k ks CZ=>
     intro dx m1 m2 hm
     cases dx with
     |nil=>exact⟨0,by simp only[lN]⟩
     |cons k' dx=>
      rw[List.map_cons,List.map_cons]at hm
      injection hm with Jm Na
      have hk:=m1 k aE
      have hkz:(aZ (ai l) k).sz<=z:=by
       have h3:aZ (ai l) k∈(aZ (ai l) x).kids:=by rw[p5 h1];exact List.mem_map.2 ⟨k,hk,rfl⟩
       have h4:=Tm.mP h3
       rw[a3]at h4
       omega
      obtain⟨g,hg⟩:=ih k k' (a2.mF hk) (b2.mF (m2 k' aE)) hkz Jm
      obtain⟨g2,hg2⟩:=CZ dx (fun y hy=>m1 y kQ) (fun y hy=>m2 y kQ) Na
      refine⟨max g g2, ?_⟩
      simp only[lN]
      rw[gR hg (Nat.le_max_left _ _)]
      exact lD (fun k k' b r hk=>gR hk (Nat.le_max_right _ _)) hg2
   obtain⟨g,hg⟩:=key x.kids y.kids (fun _ h=>h) (fun _ h=>h) (by rw[<- p5 h1, <- q5 h2,Yc])
   refine⟨max g (R+2)+1, ?_⟩
   simp only[jd]
   rw[cR a1,cR b1]
   simp only[if_neg h1,if_neg h2,if_pos (⟨e1,e2,e3⟩:x.op=y.op/\x.n=y.n/\x.kids.length=y.kids.length)]
   exact lD (fun k k' b r hk=>gR hk (Nat.le_max_left _ _)) hg
def EqR(s:aB)(lim:Bool)(r:List TB×Bool)(e:Int)(b':List (Int×Tm)):Prop:=
 (e=0/\r.2=true/\∃Nl R',lC s b' r.1 Nl R')\/(e=5/\r.2=false)\/(e=3/\lim=true)
theorem AB{s:aB}{lim:Bool}{b:List (Int×Tm)}{l:List TB}{ρ:Int->Nat}{R:Nat}(h:lC s b l ρ R)(hl:jP s l){n:Int}{y:Tm}(hn:bS b n=none)(hy:Vs s y):
 EqR s lim (jO l n (aZ (ai l) y), !(cX (aZ (ai l) y)).contains n) (fU lim b n y).1 (fU lim b n y).2:=by
 have hc:(cX (aZ (ai l) y)).contains n=true↔gv n (aZ (ai l) y)=true:=by rw[List.contains_iff_mem];exact(dy _).2 _
 have hr:=Au h hl hn hy
 unfold fU
 by_cases h1:nO b n y
 ·rw[if_pos h1]
  exact .inr (.inl ⟨rfl,by rw[hc.2 (hr.2 h1)];rfl⟩)
 ·rw[if_neg h1]
  split
  ·rename_i h2
   exact .inr (.inr ⟨rfl,h2.1⟩)
  ·refine .inl ⟨rfl, ?_,h.ext hl hn hy fun hf=>h1 (hr.1 hf)⟩
   cases hcc:(cX (aZ (ai l) y)).contains n with
   |false=>rfl
   |true=>exact absurd (hr.1 (hc.1 hcc)) h1
theorem E4{s:aB}{lim:Bool}:∀ (f:Nat) (a c:Tm) (l:List TB) (r:List TB×Bool),iM f a c l=some r->jP s l->Vs s a->Vs s c->∀ (t u:Tm) (b:List (Int×Tm)) (ρ:Int->Nat) (R:Nat),lC s b l ρ R->Vs s t->Vs s u->aZ (ai l) t=aZ (ai l) a->aZ (ai l) u=aZ (ai l) c->
 ∃g e b',jd lim g t u b=some (e,b')/\EqR s lim r e b'
 |0,_,_,_,_,h,_,_,_,_,_,_,_,_,_,_,_,_,_=>by cases h
 |f+1,a,c,l,r,h,hl,ha,hc,t,u,b,ρ,R,hs,ht,hu,eta,euc=>by
  obtain⟨x,a1,a2,a3,a4,_,_⟩:=hs.root ht
  obtain⟨y,b1,b2,b3,b4,_,_⟩:=hs.root hu
  obtain⟨p1,p2,p3,p4,p5⟩:=uf hs a2 a4
  obtain⟨q1,q2,q3,q4,q5⟩:=uf hs b2 b4
  have ex:aZ (ai l) a=aZ (ai l) x:=by rw[a3,eta]
  have ey:aZ (ai l) c=aZ (ai l) y:=by rw[b3,euc]
  simp only[iM,ex,ey,p1,q1,p2,q2,p3,q3]at h
  split at h
  ·rename_i FQ
   injection h with h
   subst h
   rw[gu]at FQ
   obtain⟨g,hg⟩:=Pj (lim:=lim) hs _ t u ht hu (Nat.le_refl _) (by rw[<- a3, <- b3,FQ])
   exact⟨g,0,b,hg, .inl ⟨rfl,rfl,ρ,R,hs⟩⟩
  ·rename_i iZ
   split at h
   ·rename_i Np
    injection h with h
    subst h
    obtain⟨h1,h2⟩:=Np
    have Yc:x.n≠y.n:=fun e=>iZ (by rw[gu,p4 h1,q4 h2,a2.eta h1,b2.eta h2];rw[e])
    have rx:=a2.range ((iA h1).2 rfl)
    have ry:=b2.range ((iA h2).2 rfl)
    have Yd:bS b (max x.n y.n)=none:=by
     rw[Int.max_def];split
     ·exact b4 h2
     ·exact a4 h1
    have lmn:bS b (min x.n y.n)=none:=by
     rw[Int.min_def];split
     ·exact a4 h1
     ·exact b4 h2
    have hvm:aZ (ai l) (.mk 1 (min x.n y.n) [])= .mk 1 (min x.n y.n) []:=by
     rw[nN];simp[Lv,(hs.Ar _).1 lmn]
    have hb:=AB (lim:=lim) hs hl Yd (Vs.var (s:=s) (v:=min x.n y.n) af)
    rw[hvm]at hb
    have hnc:(cX (Tm.mk 1 (min x.n y.n) [])).contains (max x.n y.n)=false:=by
     rw[Bool.eq_false_iff,Ne,List.contains_iff_mem,(dy _).2,nK]
     simp
     omega
    rw[hnc]at hb
    exact⟨R+3,_,_,by simp only[jd,cR a1,cR b1,if_pos h1,if_pos h2,if_neg Yc],hb⟩
   ·rename_i Np
    split at h
    ·rename_i h1
     injection h with h
     subst h
     have h2: ¬y.op=1:=fun h2=>Np ⟨h1,h2⟩
     exact⟨R+3,_,_,by simp only[jd,cR a1,cR b1,if_pos h1,if_neg h2],AB hs hl (a4 h1) b2⟩
    ·rename_i h1
     split at h
     ·rename_i h2
      injection h with h
      subst h
      exact⟨R+3,_,_,by simp only[jd,cR a1,cR b1,if_neg h1,if_pos h2],AB hs hl (b4 h2) a2⟩
     ·rename_i h2
      split at h
      ·rename_i h3
       injection h with h
       subst h
       refine⟨R+3,5,b, ?_, .inr (.inl ⟨rfl,rfl⟩)⟩
       simp only[jd,cR a1,cR b1,if_neg h1,if_neg h2]
       rw[if_neg]
       rintro⟨g1,g2,g3⟩
       rcases h3 with h3|h3|h3
       ·exact h3 g1
       ·exact h3 g2
       ·exact h3 g3
      ·rename_i h3
       have mw:x.op=y.op/\x.n=y.n/\x.kids.length=y.kids.length:=⟨Classical.byContradiction fun e=>h3 (Or.inl e),Classical.byContradiction fun e=>h3 (Or.inr (Or.inl e)),Classical.byContradiction fun e=>h3 (Or.inr (Or.inr e))⟩
       have key:∀ (xs ys:List Tm) (l1:List TB) (b:List (Int×Tm)) (ρ:Int->Nat) (R:Nat),(∀k∈xs,Vs s k)->(∀k∈ys,Vs s k)->jP s l1->oG l l1->lC s b l1 ρ R->dM (iM f) (xs.map (aZ (ai l))) (ys.map (aZ (ai l))) l1=some r->
        ∃g e b',lN (jd lim g) xs ys b=some (e,b')/\EqR s lim r e b':=by
        intro xs
        induction xs with
        |nil=>intro ys l1 b ρ R _ _ rz _ rA h;simp only[List.map_nil,dM]at h;injection h with h;subst h;exact⟨0,0,b,by simp only[lN], .inl ⟨rfl,rfl,ρ,R,rA⟩⟩
        |cons k xs CZ=>
         intro ys l1 b ρ R m1 m2 rz he rA h
         cases ys with
         |nil=>simp only[List.map_nil,List.map_cons,dM]at h;injection h with h;subst h;exact⟨0,0,b,by simp only[lN], .inl ⟨rfl,rfl,ρ,R,rA⟩⟩
         |cons k' ys=>
          have vk:=m1 k aE
          have vk':=m2 k' aE
          have vsk:=Vs.sub hl.bd k vk
          have acY:=Vs.sub hl.bd k' vk'
          simp only[List.map_cons,dM]at h
          cases e:iM f (aZ (ai l) k) (aZ (ai l) k') l1 with
          |none=>rw[e]at h;cases h
          |some r1=>
           obtain⟨g,e1,b',g1,g2⟩:=E4 (lim:=lim) f _ _ l1 r1 e rz vsk acY k k' b ρ R rA vk vk' (he.sub vk).symm (he.sub vk').symm
           obtain⟨l2,ok⟩:=r1
           rw[e]at h
           rcases g2 with⟨e0,rfl,ρ2,R2,F7⟩|⟨e0,rfl⟩|⟨e0,hlm⟩
           ·simp only at h
            obtain⟨o1,o2⟩:=As f _ _ l1 l2 e rz vsk acY
            obtain⟨g',e2,b2,k1,k2⟩:=CZ ys l2 b' ρ2 R2 (fun y hy=>m1 y kQ) (fun y hy=>m2 y kQ) o1 (he.trans hl o2 fun v=>hl.Ar) F7 h
            refine⟨max g g',e2,b2, ?_,k2⟩
            simp only[lN]
            rw[gR g1 (Nat.le_max_left _ _)]
            dsimp only
            rw[if_pos e0]
            exact lD (fun k k' b r hk=>gR hk (Nat.le_max_right _ _)) k1
           ·simp only at h
            injection h with h
            subst h
            refine⟨g,e1,b', ?_, .inr (.inl ⟨e0,rfl⟩)⟩
            simp only[lN,g1]
            rw[if_neg (by omega)]
           ·refine⟨g,e1,b', ?_, .inr (.inr ⟨e0,hlm⟩)⟩
            simp only[lN,g1]
            rw[if_neg (by omega)]
       rw[p5 h1,q5 h2]at h
       obtain⟨g,e,b',g1,g2⟩:=key x.kids y.kids l b ρ R (fun k hk=>a2.mF hk) (fun k hk=>b2.mF hk) hl (oG.refl hl) hs h
       refine⟨max g (R+2)+1,e,b', ?_,g2⟩
       simp only[jd]
       rw[cR a1,cR b1]
       simp only[if_neg h1,if_neg h2,if_pos mw]
       exact lD (fun k k' b r hk=>gR hk (Nat.le_max_left _ _)) g1
theorem uk{s:aB}{t:Tm}:bL s t=true↔iU s=true/\(t.sz<=40/\t.ma<=12)/\Vs s t:=by
 unfold bL iW
 simp only[Bool.and_eq_true,List.all_cons,List.all_nil,Bool.and_true,pI]
 constructor
 ·rintro⟨⟨h1,h2⟩,h3⟩
  rw[oi h2]at h3
  have h4:=GU h2
  rw[gr,Bool.and_eq_true]at h2
  exact⟨h1,h4.2,h2.2,h3⟩
 ·rintro⟨h1,h2,h3,h4⟩
  have h5:gr s t=true:=by
   rw[gr,Bool.and_eq_true,decide_eq_true_eq,qS]
   exact⟨af,h3⟩
  exact⟨⟨h1,h5⟩,by rw[oi h5];exact h4⟩
theorem G5{s:aB}{t k:Tm}(h:bL s t=true)(hk:k∈t.kids):bL s k=true:=by
 obtain⟨h0,⟨h1,h2⟩,h3⟩:=uk.1 h
 have hz:=Tm.mP hk
 have hh:=Tm.qG hk
 exact uk.2 ⟨h0,⟨af,af⟩,h3.mF hk⟩
theorem Pk{s:aB}(hs:iU s=true){v:Int}(h:0<=v/\v<20):bL s (.mk 1 v [])=true:=by
 refine uk.2 ⟨hs,⟨?_, ?_⟩,Vs.var h⟩
 ·rw[Tm.jL];simp[Tm.kids,rB]
 ·rw[Tm.pH];simp[Tm.kids,Tm.iH]
structure Inv (s:aB) (lim:Bool) (b:List (Int×Tm)):Prop where
 ok:∀p∈b,(0<=p.1/\p.1<20)/\bL s p.2=true
 Wu:lim=true->∀p∈b,yA b p.2
theorem E5{s:aB}{b:List (Int×Tm)}(hb:∀p∈b,bL s p.2=true):∀ (f:Nat) (t x:Tm),kP f b t=some x->bL s t=true->bL s x=true
 |0,_,_,h,_=>by cases h
 |f+1,t,x,h,ht=>by
  simp only[kP]at h
  split at h
  ·split at h
   ·rename_i y hy;exact E5 hb f y x h (hb _ (cK hy))
   ·exact Hy
  ·exact Hy
theorem AD{s:aB}{lim:Bool}{b:List (Int×Tm)}(h:Inv s lim b){n:Int}{y:Tm}(hn:0<=n/\n<20)(hy:bL s y=true)(h0:(fU lim b n y).1=0):Inv s lim (fU lim b n y).2/\∃ext,(fU lim b n y).2=b++ext:=by
 unfold fU at h0|-
 split at h0
 ·exact FF
 ·rename_i h1
  rw[if_neg h1]
  split at h0
  ·exact FF
  ·rename_i h2
   rw[if_neg h2]
   refine⟨⟨fun p hp=> ?_,fun hl=> ?_⟩,_,rfl⟩
   ·rcases List.mem_append.1 hp with hp|hp
    ·exact h.ok p hp
    ·simp at hp;subst hp;exact⟨hn,hy⟩
   ·exact Classical.byContradiction fun hc=>h2 ⟨hl,hc⟩
theorem AE{s:aB}{t:Tm}(h:bL s t=true)(h1:t.op=1):(0<=t.n/\t.n<20)/\t= .mk 1 t.n []:=by
 have hv:=(cg h).1
 exact⟨hv.range ((iA h1).2 rfl),hv.eta h1⟩
theorem eq_inv{s:aB}{lim:Bool}:∀ (f:Nat) (t u:Tm) (b b':List (Int×Tm)),jd lim f t u b=some (0,b')->Inv s lim b->bL s t=true->bL s u=true->Inv s lim b'/\∃ext,b'=b++ext
 |0,_,_,_,_,h,_,_,_=>by cases h
 |f+1,t,u,b,b',h,hb,ht,hu=>by
  simp only[jd]at h
  cases ha:gw b t with
  |none=>rw[ha]at h;cases h
  |some x=>
  cases hc:gw b u with
  |none=>rw[ha,hc]at h;cases h
  |some y=>
  rw[ha,hc]at h
  dsimp only at h
  obtain⟨ga,SU⟩:=rb ha
  obtain⟨gc,xS⟩:=rb hc
  have hx:=E5 (fun p hp=>(hb.ok p hp).2) ga t x SU ht
  have hy:=E5 (fun p hp=>(hb.ok p hp).2) gc u y xS hu
  by_cases h1:x.op=1
  ·obtain⟨rx,ex⟩:=AE hx h1
   rw[if_pos h1]at h
   by_cases h2:y.op=1
   ·obtain⟨ry,ey⟩:=AE hy h2
    rw[if_pos h2]at h
    by_cases h3:x.n=y.n
    ·exact QL
    ·rw[if_neg h3]at h
     injection h with h
     have:=AD hb (n:=max x.n y.n) (y:= .mk 1 (min x.n y.n) []) af (Pk (uk.1 hx).1 af) (by rw[h])
     rwa [h]at this
   ·rw[if_neg h2]at h
    injection h with h
    have:=AD hb rx hy (by rw[h])
    rwa [h]at this
  ·rw[if_neg h1]at h
   by_cases h2:y.op=1
   ·obtain⟨ry,ey⟩:=AE hy h2
    rw[if_pos h2]at h
    injection h with h
    have:=AD hb ry hx (by rw[h])
    rwa [h]at this
   ·rw[if_neg h2]at h
    split at h
    ·have key:∀ (ks dx:List Tm) (b:List (Int×Tm)),(∀k∈ks,bL s k=true)->(∀k∈dx,bL s k=true)->Inv s lim b->lN (jd lim f) ks dx b=some (0,b')->Inv s lim b'/\∃ext,b'=b++ext:=by
      intro ks
      induction ks with
      |nil=>
       exact ZQ
      |cons k ks ih=>
       intro dx b m1 m2 hb h
       cases dx with
       |nil=>
        exact Zl
       |cons k' dx=>
        simp only[lN]at h
        cases he:jd lim f k k' b with
        |none=>rw[he]at h;cases h
        |some q=>
         obtain⟨e1,b1⟩:=q
         rw[he]at h
         dsimp only at h
         by_cases e0:e1=0
         ·rw[if_pos e0]at h
          subst e0
          obtain⟨g1,x1,g2⟩:=eq_inv f k k' b b1 he hb (m1 k aE) (m2 k' aE)
          exact Zs
         ·exact QG
     exact key x.kids y.kids b (fun k hk=>G5 hx hk) (fun k hk=>G5 hy hk) hb h
    ·injection h with h
     injection h with h _
     exact absurd h bu
def xe(b:List (Int×Tm)):List TB:=b.map fun p=>⟨p.1,p.2⟩
theorem Pl(b:List (Int×Tm)):ai (xe b)=b:=by
 unfold ai xe
 rw[List.map_map]
 exact List.map_id _
theorem eo(l l':List TB):ai (l++l')=ai l++ai l':=List.map_append
theorem G6{s:bW}(h:bp s){a c:Tm}(ha:bL s.sig a=true)(hc:bL s.sig c=true):∃f e b',jd true f a c (ai s.binds)=some (e,b')/\((e=0/\∃ext,b'=ai (s.binds++ext)/\jc s.sig (s.binds++ext))\/e=5\/e=3):=by
 obtain⟨l,ρ,R,hS,hl⟩:=oq h.mG.keys h.mG.ok h.mG.Js
 have va:=(cg ha).1
 have vc:=(cg hc).1
 obtain⟨f,r,hr⟩:=yz _ _ a c l (Nat.le_refl _) (Nat.le_refl _) hl va vc
 obtain⟨g,e,b',h1,h2⟩:=E4 (lim:=true) f a c l r hr hl va vc a c _ ρ R hS va vc rfl rfl
 refine⟨g,e,b',h1, ?_⟩
 rcases h2 with⟨rfl,_,Nl,R',Ml⟩|⟨rfl,_⟩|⟨rfl,_⟩
 ·left
  refine⟨rfl, ?_⟩
  obtain⟨hI,ext,hx⟩:=eq_inv g a c _ b' h1 ⟨fun p hp=>by obtain⟨x,hx,rfl⟩:=fq hp;exact h.mG.ok x hx,fun _ p hp=>by obtain⟨x,hx,rfl⟩:=fq hp;exact h.mG.Wu x hx⟩ ha hc
  have hb:b'=ai (s.binds++xe ext):=by rw[eo,Pl,hx]
  have hk:=Ml.keys
  rw[hb]at hk hI Ml
  refine⟨xe ext,hb,⟨?_,hk,fun x hx=>hI.ok _ (iy hx),Ml.Js,fun x hx=>hI.Wu rfl _ (iy hx)⟩⟩
  have:=C5 hk fun v hv=>by
   obtain⟨p,hp,rfl⟩:=List.mem_map.1 hv
   exact(hI.ok p hp).1
  rw[List.length_map]at this
  unfold ai at this
  rwa [List.length_map]at this
 ·exact .inr (.inl rfl)
 ·exact .inr (.inr rfl)
theorem we{nb nn nb' nn':Int}(h1:nb<=nb')(h2:nn<=nn'):∀ {l:List (Int×Int)} {a:Int×Int},mj nb nn a l=true->mj nb' nn' a l=true
 |[],_,_=>rfl
 |x::l,a,h=>by
  simp only[mj,Bool.and_eq_true,Bool.not_eq_true',Bool.or_eq_false_iff,decide_eq_false_iff_not]at h|-
  obtain⟨⟨⟨⟨g1,g2⟩,g3⟩,g4⟩,g5⟩:=h
  exact⟨⟨⟨⟨g1,af⟩,g3⟩,af⟩,we h1 h2 g5⟩
theorem Pm{s:bW}(h:bp s){ext:List TB}(hb:jc s.sig (s.binds++ext))(hn:∀n∈s.aJ, ¬Dd (ai (s.binds++ext)) n):bp ⟨s.sig,s.binds++ext,s.aJ,s.marks⟩:=
 ⟨h.sig,h.tL,h.xd,hb,fun n hm=>⟨(h.aJ n hm).1,(h.aJ n hm).2.1,hn n hm⟩,we gz (Int.le_refl _) h.marks⟩
theorem I7{s:bW}(h:bp s){n:Nt}(ha:bL s.sig n.a=true)(hc:bL s.sig n.b=true)(hn: ¬Dd (ai s.binds) n)(hl:s.aJ.length<12):bp ⟨s.sig,s.binds,s.aJ++[n],s.marks⟩:=
 ⟨h.sig,by simp;omega,h.xd,h.mG,fun m hm=>by
   rcases List.mem_append.1 hm with hm|hm
   ·exact h.aJ m hm
   ·simp at hm;subst hm;exact⟨ha,hc,hn⟩,we (Int.le_refl _) gz h.marks⟩
structure QT (s:aB) (t:Tm):Prop where
 vs:Vs s t
 sz:t.sz<=2000
theorem QT.mF {s:aB}{t k:Tm}(h:QT s t)(hk:k∈t.kids):QT s k:=⟨h.vs.mF hk,by have:=Tm.mP hk;have:=h.sz;omega⟩
theorem QT.fits {s:aB}{t:Tm}(h:QT s t):t.fits:=Tm.dv t (by have:=h.sz;omega)
theorem QT.var {s:aB}{v:Int}(h:0<=v/\v<20):QT s (.mk 1 v []):=⟨Vs.var h,by rw[Tm.jL];simp[Tm.kids,rB]⟩
theorem QT.eta {s:aB}{t:Tm}(h:QT s t)(h1:t.op=1):(0<=t.n/\t.n<20)/\t= .mk 1 t.n []:=⟨h.vs.range ((iA h1).2 rfl),h.vs.eta h1⟩
theorem wg{s:aB}{t:Tm}(h:bL s t=true):QT s t:=⟨(cg h).1,by have:=(cg h).2.1;omega⟩
structure pU (s:aB) (b:List (Int×Tm)):Prop where
 keys:(b.map (·.1)).Nodup
 ok:∀p∈b,(0<=p.1/\p.1<20)/\QT s p.2
 Js:Wn b
theorem pU.nil {s:aB}:pU s []:=⟨List.nodup_nil,fun _ h=>j5,fun _ _ h=>by cases h⟩
theorem pU.sim {s:aB}{b:List (Int×Tm)}(h:pU s b):∃l ρ R,lC s b l ρ R/\jP s l:=L8 h.keys (fun p hp=>⟨(h.ok p hp).1,(h.ok p hp).2.vs⟩) h.Js
theorem acZ{P:Tm->Prop}{b:List (Int×Tm)}(hb:∀p∈b,P p.2):∀ (f:Nat) (t x:Tm),kP f b t=some x->P t->P x
 |0,_,_,h,_=>by cases h
 |f+1,t,x,h,ht=>by
  simp only[kP]at h
  split at h
  ·split at h
   ·rename_i y hy;exact acZ hb f y x h (hb _ (cK hy))
   ·exact Hy
  ·exact Hy
theorem gS{s:aB}{b:List (Int×Tm)}(h:pU s b){t:Tm}(ht:QT s t):∃x,gw b t=some x/\QT s x/\(x.op=1->bS b x.n=none):=by
 obtain⟨l,ρ,R,hS,hl⟩:=h.sim
 obtain⟨x,a1,a2,a3,a4,_⟩:=hS.root ht.vs
 exact⟨x,cR a1,acZ (fun p hp=>(h.ok p hp).2) _ t x a1 ht,a4⟩
theorem Df{s:aB}{b:List (Int×Tm)}(h:pU s b){n:Int}{y:Tm}(hn:bS b n=none)(hr:0<=n/\n<20)(hy:QT s y)(Ye: ¬nO b n y):pU s (b++[(n,y)]):=by
 obtain⟨l,ρ,R,hS,hl⟩:=h.sim
 obtain⟨Nl,R',h'⟩:=hS.ext hl hn hy.vs fun hf=>Ye ((Au hS hl hn hy.vs).1 hf)
 refine⟨h'.keys,fun p hp=> ?_,h'.Js⟩
 rcases List.mem_append.1 hp with hp|hp
 ·exact h.ok p hp
 ·simp at hp;subst hp;exact⟨hr,hy⟩
theorem ou{s:aB}{lim:Bool}{b:List (Int×Tm)}(h:pU s b){n:Int}{y:Tm}(hn:bS b n=none)(hr:0<=n/\n<20)(hy:QT s y)(h0:(fU lim b n y).1=0):pU s (fU lim b n y).2/\∃ext,(fU lim b n y).2=b++ext:=by
 unfold fU at h0|-
 split at h0
 ·exact FF
 ·rename_i h1
  rw[if_neg h1]
  split at h0
  ·exact FF
  ·rename_i h2
   rw[if_neg h2]
   exact⟨Df h hn hr hy h1,_,rfl⟩
theorem wh{s:aB}{lim:Bool}:∀ (f:Nat) (t u:Tm) (b b':List (Int×Tm)),jd lim f t u b=some (0,b')->pU s b->QT s t->QT s u->pU s b'/\∃ext,b'=b++ext
 |0,_,_,_,_,h,_,_,_=>by cases h
 |f+1,t,u,b,b',h,hb,ht,hu=>by
  simp only[jd]at h
  obtain⟨x,ha,hx,Kp⟩:=gS hb ht
  obtain⟨y,hc,hy,hyu⟩:=gS hb hu
  rw[ha,hc]at h
  dsimp only at h
  by_cases h1:x.op=1
  ·obtain⟨rx,ex⟩:=hx.eta h1
   rw[if_pos h1]at h
   by_cases h2:y.op=1
   ·obtain⟨ry,ey⟩:=hy.eta h2
    rw[if_pos h2]at h
    by_cases h3:x.n=y.n
    ·exact QL
    ·rw[if_neg h3]at h
     injection h with h
     have Yd:bS b (max x.n y.n)=none:=by
      rw[Int.max_def];split
      ·exact hyu h2
      ·exact Kp h1
     have:=ou hb Yd (y:= .mk 1 (min x.n y.n) []) af (QT.var af) (by rw[h])
     rwa [h]at this
   ·rw[if_neg h2]at h
    injection h with h
    have:=ou hb (Kp h1) rx hy (by rw[h])
    rwa [h]at this
  ·rw[if_neg h1]at h
   by_cases h2:y.op=1
   ·obtain⟨ry,ey⟩:=hy.eta h2
    rw[if_pos h2]at h
    injection h with h
    have:=ou hb (hyu h2) ry hx (by rw[h])
    rwa [h]at this
   ·rw[if_neg h2]at h
    split at h
    ·have key:∀ (ks dx:List Tm) (b:List (Int×Tm)),(∀k∈ks,QT s k)->(∀k∈dx,QT s k)->pU s b->lN (jd lim f) ks dx b=some (0,b')->pU s b'/\∃ext,b'=b++ext:=by
      intro ks
      induction ks with
      |nil=>
       exact ZQ
      |cons k ks ih=>
       intro dx b m1 m2 hb h
       cases dx with
       |nil=>
        exact Zl
       |cons k' dx=>
        simp only[lN]at h
        cases he:jd lim f k k' b with
        |none=>rw[he]at h;cases h
        |some q=>
         obtain⟨e1,b1⟩:=q
         rw[he]at h
         dsimp only at h
         by_cases e0:e1=0
         ·rw[if_pos e0]at h
          subst e0
          obtain⟨g1,x1,g2⟩:=wh f k k' b b1 he hb (m1 k aE) (m2 k' aE)
          exact Zs
         ·exact QG
     exact key x.kids y.kids b (fun k hk=>hx.mF hk) (fun k hk=>hy.mF hk) hb h
    ·injection h with h
     injection h with h _
     exact absurd h bu
theorem ac0{s:aB}{b:List (Int×Tm)}{l:List TB}{ρ:Int->Nat}{R:Nat}(h:lC s b l ρ R){M:Nat}(hM:∀p∈b,p.2.ma<=M):∀ (r:Nat) (t:Tm),Vs s t->(∀u,gv u t=true->ρ u<r)->(aZ (ai l) t).ma<=t.ma+sE b ρ r*M:=by
 intro r
 induction r using Nat.strongRecOn with
 |ind r ihr=>
  refine Tm.fj fun t ih ht hr=> ?_
  by_cases h1:t.op=1
  ·have hv:gv t.n t=true:=(iA h1).2 rfl
   rw[jb ht h1]
   cases hx:bS b t.n with
   |none=>
    rw[show Lv (ai l) t.n= .mk 1 t.n [] by simp[Lv,(h.Ar _).1 hx], <- ht.eta h1]
    omega
   |some x=>
    obtain⟨g1,g2,g3⟩:=h.ok _ _ hx
    have h3:=GZ hx (hr _ hv)
    have h4:=ihr _ (hr _ hv) x g1 g3
    have h5:=hM _ (cK hx)
    have h6:(sE b ρ (ρ t.n)+1)*M<=sE b ρ r*M:=Nat.mul_le_mul_right _ h3
    rw[Nat.add_mul,Nat.one_mul]at h6
    rw[g2]
    dsimp only at h5
    omega
  ·rw[jN h1,Tm.pH,Tm.pH t]
   show 1+Tm.iH (t.kids.map (aZ (ai l)))<=1+Tm.iH t.kids+sE b ρ r*M
   have:Tm.iH (t.kids.map (aZ (ai l)))<=Tm.iH t.kids+sE b ρ r*M:=by
    rw[oh]
    intro k hk
    obtain⟨k,HD,rfl⟩:=List.mem_map.1 hk
    have h2:=ih k HD (ht.mF HD) (fun u hu=>hr u ((qW ht h1).2 ⟨k,HD,hu⟩))
    have h3:=(oh _ _).1 (Nat.le_refl (Tm.iH t.kids)) k HD
    omega
   omega
theorem Po(b:List (Int×Tm))(ρ:Int->Nat)(r:Nat):sE b ρ r<=b.length:=by
 unfold sE
 exact Y1
inductive Ju (b:List (Int×Tm)) (q:Tm):Nat->Tm->Prop where
 |nil:Ju b q 0 q
 |step {d:Nat} {p x k:Tm}:Ju b q d p->gw b p=some x->k∈x.kids->Ju b q (d+1) k
theorem Pp{b ext:List (Int×Tm)}{v:Int}{x:Tm}(h:bS b v=some x):bS (b++ext) v=some x:=by
 induction b with
 |nil=>cases h
 |cons p b ih=>
  rw[List.cons_append]
  simp only[bS]at h|-
  split at h
  ·rename_i e;rw[if_pos e];exact h
  ·rename_i e;rw[if_neg e];exact ih h
theorem Mm{b ext:List (Int×Tm)}:∀ (f:Nat) (t x:Tm),kP f b t=some x->x.op≠1->kP f (b++ext) t=some x
 |0,_,_,h,_=>by cases h
 |f+1,t,x,h,hx=>by
  simp only[kP]at h|-
  by_cases h1:t.op=1
  ·rw[if_pos h1]at h|-
   cases e:bS b t.n with
   |none=>rw[e]at h;injection h with h;subst h;exact absurd h1 hx
   |some y=>
    rw[e]at h
    rw[Pp e]
    exact Mm f y x h hx
  ·rw[if_neg h1]at h|-;exact h
theorem Ju.qt {s:aB}{b:List (Int×Tm)}(hb:pU s b){q:Tm}(hq:QT s q){d:Nat}{k:Tm}(h:Ju b q d k):QT s k:=by
 induction h with
 |nil=>exact hq
 |step h1 h2 h3 ih=>
  obtain⟨x,e,hx,_⟩:=gS hb ih
  rw[e]at h2
  cases h2
  exact hx.mF h3
theorem Ju.app {s:aB}{b ext:List (Int×Tm)}(hb:pU s b){q:Tm}(hq:QT s q){d:Nat}{k:Tm}(h:Ju b q d k):Ju (b++ext) q d k:=by
 induction h with
 |nil=>exact .nil
 |step h1 h2 h3 ih=>
  rename_i d p x k
  obtain⟨y,e,hy,_⟩:=gS hb (h1.qt hb hq)
  obtain rfl:x=y:=Option.some.inj (h2.symm.trans e)
  have fV:x.op≠1:=fun ho=>by
   rw[(hy.eta ho).2]at h3
   cases h3
  obtain⟨g,hg⟩:=rb e
  exact .step ih (cR (Mm g p x hg fV)) h3
theorem Ju.le {s:aB}{b:List (Int×Tm)}(hb:pU s b){q:Tm}(hq:QT s q){d:Nat}{k:Tm}(h:Ju b q d k):d+1<=42001:=by
 obtain⟨l,ρ,R,hS,hl⟩:=hb.sim
 have h1:(aZ (ai l) k).ma+d<=(aZ (ai l) q).ma:=by
  induction h with
  |nil=>omega
  |step h1 h2 h3 ih=>
   rename_i d p x k
   obtain⟨y,a1,a2,a3,_⟩:=hS.root (h1.qt hb hq).vs
   obtain rfl:x=y:=Option.some.inj (h2.symm.trans (cR a1))
   have fV:x.op≠1:=fun ho=>by
    rw[a2.eta ho]at h3
    cases h3
   have h4:aZ (ai l) k∈(aZ (ai l) x).kids:=by rw[jN fV];exact List.mem_map.2 ⟨k,h3,rfl⟩
   have h5:=Tm.qG h4
   rw[a3]at h5
   omega
 have h2:=ac0 hS (M:=2000) (fun p hp=>by have:=(hb.ok p hp).2.sz;have:=Tm.yy p.2;omega) (R+1) q hq.vs (fun u _=>by have:=hS.bd u;omega)
 have h3:=Po b ρ (R+1)
 have h4:b.length<=20:=by
  have:=C5 hb.keys fun v hv=>by
   obtain⟨p,hp,rfl⟩:=List.mem_map.1 hv
   exact(hb.ok p hp).1
  rwa [List.length_map]at this
 have h5:sE b ρ (R+1)*2000<=20*2000:=Nat.mul_le_mul_right _ af
 have h6:=hq.sz
 have h7:=Tm.yy q
 omega
theorem G7{s:aB}{lim:Bool}:∀ (f:Nat) (t u q:Tm) (b:List (Int×Tm)) (d:Nat) (r:Int×List (Int×Tm)),pU s b->QT s q->QT s u->Ju b q d t->jd lim f t u b=some r->∀F,42001<=d+F->jd lim F t u b=some r
 |0,_,_,_,_,_,_,_,_,_,_,h,_,_=>by cases h
 |f+1,t,u,q,b,d,r,hb,hq,hu,hp,h,F,hF=>by
  have hd:=hp.le hb hq
  obtain⟨F,rfl⟩:∃k,F=k+1:=⟨F - 1,af⟩
  have ht:=hp.qt hb hq
  obtain⟨x,ha,hx,Kp⟩:=gS hb ht
  obtain⟨y,hc,hy,hyu⟩:=gS hb hu
  simp only[jd]at h|-
  rw[ha,hc]at h|-
  dsimp only at h|-
  split at h
  ·rename_i h1;rw[if_pos h1];exact h
  ·rename_i h1
   rw[if_neg h1]
   split at h
   ·rename_i h2;rw[if_pos h2];exact h
   ·rename_i h2
    rw[if_neg h2]
    split at h
    ·rename_i h3
     rw[if_pos h3]
     have key:∀ (ks dx:List Tm) (b:List (Int×Tm)),pU s b->(∀k∈ks,Ju b q (d+1) k)->(∀k∈dx,QT s k)->lN (jd lim f) ks dx b=some r->lN (jd lim F) ks dx b=some r:=by
      intro ks
      induction ks with
      |nil=>intro dx b _ _ _ h;simpa only[lN]using h
      |cons k ks ih=>
       intro dx b hb m1 m2 h
       cases dx with
       |nil=>simpa only[lN]using h
       |cons k' dx=>
        simp only[lN]at h|-
        cases he:jd lim f k k' b with
        |none=>rw[he]at h;cases h
        |some w=>
         obtain⟨e1,b1⟩:=w
         rw[he]at h
         rw[G7 f k k' q b (d+1) _ hb hq (m2 k' (by simp)) (m1 k (by simp)) he F (by omega)]
         dsimp only at h|-
         by_cases e0:e1=0
         ·rw[if_pos e0]at h|-
          subst e0
          obtain⟨g1,x1,g2⟩:=wh f k k' b b1 he hb ((m1 k aE).qt hb hq) (m2 k' aE)
          refine ih dx b1 g1 (fun z hz=> ?_) (fun z hz=>m2 z sM) h
          rw[g2]
          exact(m1 z sM).app hb hq
         ·rw[if_neg e0]at h|-;exact h
     exact key x.kids y.kids b hb (fun k hk=> .step hp ha hk) (fun k hk=>hy.mF hk) h
    ·rename_i h3;rw[if_neg h3];exact h
theorem Mn{s:aB}{lim:Bool}{b:List (Int×Tm)}(hb:pU s b){t u:Tm}(ht:QT s t)(hu:QT s u){f:Nat}{e:Int}{b':List (Int×Tm)}(h:jd lim f t u b=some (e,b')):∃m,jQ lim 1000000000 m [(t,u)] b=some (e,b'):=by
 have h1:=G7 f t u t b 0 _ hb ht hu .nil h 42001 af
 refine E3 (W:=2000) (P:=QT s) (I:=pU s) (fun t ht=>⟨?_,fun k hk=>ht.mF hk⟩) (fun b t x hb ht hx=> ?_) (fun f t u b b' h hb ht hu=>(wh f t u b b' h hb ht hu).1) 42001 t u b e b' h1 hb ht hu [] 1 (e,b') bu ?_
 ·have:=mi t.kids
  have:=Tm.jL t
  have:=ht.sz
  omega
 ·obtain⟨y,e,hy,_⟩:=gS hb ht
  rw[e]at hx
  cases hx
  exact hy
 ·split
  ·rename_i e0;subst e0;rfl
  ·rfl
end Go.Proofs.YtlhemmpklhhgoaaGreat
set_option maxHeartbeats 4000000
namespace Go.Proofs.YtlhemmpklhhgoaaGreat
theorem Ww{b:List (Int×Tm)}{f:Nat}{t x:Tm}(h:kP f b t=some x){o:Nat->ad}{id:Nat}(ho:o id=dh b):CtO Tryz.prog 112 [.mp id, .d t.d] o (.d x.d):=by
 intro nx hg K X hK
 have ck:id<nx:=hg.lt (by rw[ho];exact ad.noConfusion)
 have y1:id≠nx:=af
 have y2:∀k,id≠nx+k:=fun k=>af
 refine bQ.aH mix LA aE ?_
 rw[OK]
 refine Td ho y1 y2 ?_
 refine aG (fun i:Nat×Tm=>⟨aY [.mp id, .aa, .aa, .ptr nx 0, .ptr (nx+1) 0],ay (ay o nx (.row i.2.row)) (nx+1) (.row [.d (.i 0), .d (.i 0), .aq]),nx+2⟩)
  (fun i=>kP i.1 b i.2=some x) (fun i=>i.1) (f,t) h ?_ ?_
 ·exact Zr
 rintro⟨f,t⟩ hf
 simp only at hf
 cases f with
 |zero=>cases hf
 |succ f=>
 simp only[kP]at hf
 by_cases h1:t.op=1
 ·have iz:(t.op==1)=true:=by simpa using h1
  rw[if_pos h1]at hf
  cases hl:bS b t.n with
  |none=>
   rw[hl]at hf
   injection hf with hf
   subst hf
   simp+contextual (disch:=first|omega|simp only[go_sem,false_implies]) only[go_sem,wrap64,if_pos,iz,ho,y1,y2,Nat.add_assoc,Nat.left_eq_add,Nat.add_eq_left,Nat.add_left_cancel_iff,eB hl]
   exact hK _ _ af dE (fun j hj=>by(repeat(first|rfl|rw[ab]|rw[ae _ _ _ _ (by omega)])))
  |some z=>
   rw[hl]at hf
   obtain⟨j,hj⟩:=fL hl
   refine DH iz ho y1 y2 hj ?_
   refine aj (f,z) hf je (bI.bE _ af af dE (fun j hj=> ?_) ?_)
   ·have Q1:j<nx+2:=hj
    by_cases e1:j=nx
    ·subst e1;(repeat(first|rfl|rw[ab]|rw[ae _ _ _ _ (by omega)]))
    ·by_cases e2:j=nx+1
     ·exact Tp
     ·exact cA
   ·exact dA
 ·have iz:(t.op==1)=false:=by simpa using h1
  rw[if_neg h1]at hf
  injection hf with hf
  subst hf
  refine A4 iz ho y1 y2 ?_
  exact hK _ _ af dE (fun j hj=>by(repeat(first|rfl|rw[ab]|rw[ae _ _ _ _ (by omega)])))
theorem Dg{P:Program}{g:FuncId}{K:KD}{X:XD}{o:Nat->ad}{nx fr:Nat}{all:List V}{ds:List D}{rd0 rd:List Nat}{rs:List D}{Δ:List (Nat×ad)}(mC:rd.all (fun id=>decide (id<nx))=true)(h:AY P g all rd o (.ret rs) Δ)(hk:K (iR rs) Δ rd):l9 P g K X o nx fr rd0 ds all:=by
 unfold l9
 exact .inr (Cl mC h hk)
theorem Mo{b:List (Int×Tm)}{t x:Tm}(h:gw b t=some x){o:Nat->ad}{id:Nat}(ho:o id=dh b):AY Tryz.prog 112 [.mp id, .d t.d] [id] o (.ret [x.d]) []:=by
 obtain⟨f,hf⟩:=rb h
 refine AY.UG (id+1) aE xo (fun i hi j hj=> ?_) (Ww hf (by simp[El,ho]))
 simp at hi
 subst hi
 rw[ho]at hj
 simp[ad.refs]at hj
structure EqH (o:Nat->ad) (x m l:Nat) (ep:Nat) (lim:Bool) (b:List (Int×Tm)) (L:List TB):Prop where
 row:o x= .row [.mp m, .osl l ep, .d (.bool lim)]
 map:o m=dh b
 RM:o l= .arr ep 59 4 (L.map TB.d)
theorem E6{s:aB}{lim:Bool}{b:List (Int×Tm)}{L:List TB}{n:Int}{y:Tm}(hb:pU s b)(hn:bS b n=none)(hr:0<=n/\n<20)(hy:QT s y)(hL:L.length<=1000){x m l:Nat}(o:Nat->ad)(nx:Nat)(hg:Good o nx)(he:EqH o x m l 0 lim b L)(K X:V->(Nat->ad)->Nat->Prop)
 (aV:(fU lim b n y)=(0,b++[(n,y)])->∀o' nx',nx<=nx'->Good o' nx'->EqH o' x m l 1 lim (b++[(n,y)]) (L++[⟨n,y⟩])->(∀j,j<nx->j≠x->j≠m->j≠l->o' j=o j)->K (.bP []) o' nx')
 (oI:(fU lim b n y).1=5->∀o' nx',nx<=nx'->Good o' nx'->(∀j,j<nx->j≠x->j≠m->j≠l->o' j=o j)->X (.d (.iface 162 (.agg []))) o' nx')
 (zf:(fU lim b n y).1=3->∀o' nx',nx<=nx'->Good o' nx'->(∀j,j<nx->j≠x->j≠m->j≠l->o' j=o j)->X (.d (.iface 163 (.agg []))) o' nx'):
 bQ Tryz.prog 132 [.ptr x 0, .d (.i n), .d y.d] o nx K X:=by
 obtain⟨hx,hm,hl⟩:=he
 have lx:x<nx:=hg.lt J1
 have lm:m<nx:=hg.lt Fw
 have ll:l<nx:=hg.lt (by rw[hl];exact ad.noConfusion)
 have Yf:x≠m:=fun e=>by subst e;rw[hx]at hm;cases hm
 have Yg:x≠l:=fun e=>by subst e;rw[hx]at hl;cases hl
 have Yh:m≠l:=fun e=>by subst e;rw[hm]at hl;cases hl
 have y1:x≠nx:=af
 have y2:∀k,x≠nx+k:=fun k=>af
 have y3:m≠nx:=af
 have y4:∀k,m≠nx+k:=fun k=>af
 have y5:l≠nx:=af
 have y6:∀k,l≠nx+k:=fun k=>af
 have FL:∀p∈b,Vs s p.2:=fun p hp=>(hb.ok p hp).2.vs
 have nP:∀p∈b,p.2.fits:=fun p hp=>(hb.ok p hp).2.fits
 refine bQ.aH mix R8 aE ?_
 rw[Vv]
 obtain⟨is,E2⟩:∃is:Bool,is=true↔nO b n y:=by
  classical
  exact⟨decide (nO b n y),aE⟩
 refine Ho hx hm hl y1 y2 y3 y4 y5 y6 ?_
 refine a8 (G4 FL nP n y hy.vs hy.fits E2) rfl ?_
 refine Ho hx hm hl y1 y2 y3 y4 y5 y6 ?_
 refine aO (bB rfl) ?_
 cases is with
 |true=>
  refine Ho hx hm hl y1 y2 y3 y4 y5 y6 ?_
  have mH:fU lim b n y=(5,b):=by unfold fU;rw[if_pos (E2.1 rfl)]
  exact oI (by rw[mH]) _ _ af dE (fun j h1 h2 h3 h4=>by(repeat(first|rfl|rw[ab]|rw[ae _ _ _ _ (by omega)])))
 |false=>
  have Ye: ¬nO b n y:=fun h=>Bool.false_ne_true (E2.2 h)
  have DU:=Df hb hn hr hy Ye
  have e0:L.length<=140737488355327/\(L.length+1)*48<=140737488355328:=af
  simp+contextual (disch:=first|omega|simp only[go_sem,false_implies]) only[go_sem,wrap64,if_pos,hx,hm,hl,y1,y2,y3,y4,y5,y6,Nat.add_assoc,Nat.left_eq_add,Nat.add_eq_left,Nat.add_left_cancel_iff,eB hn]
  refine aO (bz (ids:=[x,nx,m]) (nx:=nx+15) gz gz [([],[]),([0],[]),([0],[]),([0],[]),([],[]),([1],[]),([2],[2])] bu) ?_
  rw[CW hn]
  simp+contextual (disch:=first|omega|simp only[go_sem,false_implies]) only[go_sem,wrap64,if_pos,hx,hm,hl,y1,y2,y3,y4,y5,y6,Yf,Yg,Yh,Yf.symm,Yg.symm,Yh.symm,Nat.add_assoc,Nat.left_eq_add,Nat.add_eq_left,Nat.add_left_cancel_iff,List.length_map,e0]
  refine aO (bz (ids:=[x,nx,nx+23,l]) (nx:=nx+28) gz gz [([],[]),([],[]),([0],[]),([0],[]),([0],[]),([],[]),([1],[]),([],[]),([],[2]),([3,2],[3]),([0],[]),([0],[]),([0,3],[0])] bu) ?_
  cases lim with
  |false=>
   simp+contextual (disch:=first|omega|simp only[go_sem,false_implies]) only[go_sem,wrap64,if_pos,hx,hm,hl,y1,y2,y3,y4,y5,y6,Yf,Yg,Yh,Yf.symm,Yg.symm,Yh.symm,Nat.add_assoc,Nat.left_eq_add,Nat.add_eq_left,Nat.add_left_cancel_iff]
   exact aV (by unfold fU;rw[if_neg Ye,if_neg (by simp)]) _ _ af dE ⟨by(repeat(first|rfl|rw[ab]|rw[ae _ _ _ _ (by omega)])),by(repeat(first|rfl|rw[ab]|rw[ae _ _ _ _ (by omega)])),by(repeat(first|rfl|rw[ab]|rw[ae _ _ _ _ (by omega)]));rw[List.map_append];rfl⟩ (fun j h1 h2 h3 h4=>by(repeat(first|rfl|rw[ab]|rw[ae _ _ _ _ (by omega)])))
  |true=>
   obtain⟨fo,A2⟩:∃fo:Bool,fo=true↔∀p∈b++[(n,y)],yA (b++[(n,y)]) p.2:=by
    classical
    exact⟨decide (∀p∈b++[(n,y)],yA (b++[(n,y)]) p.2),aE⟩
   obtain⟨l',Nl,R',Ml,HZ⟩:=DU.sim
   simp+contextual (disch:=first|omega|simp only[go_sem,false_implies]) only[go_sem,wrap64,if_pos,hx,hm,hl,y1,y2,y3,y4,y5,y6,Yf,Yg,Yh,Yf.symm,Yg.symm,Yh.symm,Nat.add_assoc,Nat.left_eq_add,Nat.add_eq_left,Nat.add_left_cancel_iff]
   refine aw (yC (b:=b++[(n,y)]) (fun p hp=>(DU.ok p hp).2.fits) (fun p hp=>by obtain⟨r,hr⟩:=J5 Ml 12 p.2 40 (DU.ok p hp).2.vs;exact⟨_,r,hr⟩) A2) rfl ?_
   cases fo with
   |true=>
    refine fM ?_
    exact aV (by unfold fU;rw[if_neg Ye,if_neg (fun h=>h.2 (A2.1 rfl))]) _ _ af dE ⟨by(repeat(first|rfl|rw[ab]|rw[ae _ _ _ _ (by omega)])),by(repeat(first|rfl|rw[ab]|rw[ae _ _ _ _ (by omega)])),by(repeat(first|rfl|rw[ab]|rw[ae _ _ _ _ (by omega)]));rw[List.map_append];rfl⟩ (fun j h1 h2 h3 h4=>by(repeat(first|rfl|rw[ab]|rw[ae _ _ _ _ (by omega)])))
   |false=>
    refine fM ?_
    exact zf (by unfold fU;rw[if_neg Ye,if_pos ⟨rfl,fun h=>Bool.false_ne_true (A2.2 h)⟩]) _ _ af dE (fun j h1 h2 h3 h4=>by(repeat(first|rfl|rw[ab]|rw[ae _ _ _ _ (by omega)])))
end Go.Proofs.YtlhemmpklhhgoaaGreat
set_option maxHeartbeats 4000000
namespace Go.Proofs.YtlhemmpklhhgoaaGreat
@[reducible] def wk (p:Tm×Tm):D:= .agg [.i p.1.op, .i p.1.n, .sl (p.1.kids.map Tm.d), .i p.2.op, .i p.2.n, .sl (p.2.kids.map Tm.d)]
def rp(o:Nat->ad)(nx x m:Nat)(lim:Bool)(a c:Tm)(b:List (Int×Tm))(L:List TB)(st:List D):Nat->ad:=
 ay (ay (ay (ay (ay (ay o nx (.row a.row)) (nx+1) (.row c.row)) x (.row [.mp m, .osl (nx+7) 0, .d (.bool lim)])) m (dh b)) (nx+7) (.arr 0 59 4 (L.map TB.d))) (nx+8) (.arr 0 106 6 st)
section
variable {o:Nat->ad}{nx x m:Nat}{lim:Bool}{a c:Tm}{b:List (Int×Tm)}{L:List TB}{st:List D}(lx:x<nx)(lm:m<nx)(cF:x≠m)
include lx lm cF
theorem eqS_0:rp o nx x m lim a c b L st nx= .row a.row:=Hs
theorem eqS_1:rp o nx x m lim a c b L st (nx+1)= .row c.row:=Hs
theorem Mp:rp o nx x m lim a c b L st x= .row [.mp m, .osl (nx+7) 0, .d (.bool lim)]:=Hs
theorem Mq:rp o nx x m lim a c b L st m=dh b:=Hs
theorem eqS_7:rp o nx x m lim a c b L st (nx+7)= .arr 0 59 4 (L.map TB.d):=Hs
theorem eqS_8:rp o nx x m lim a c b L st (nx+8)= .arr 0 106 6 st:=Hs
omit lx lm cF in
theorem rC{j:Nat}(h0:j≠nx)(h1:j≠nx+1)(h2:j≠x)(h3:j≠m)(h7:j≠nx+7)(h8:j≠nx+8):rp o nx x m lim a c b L st j=o j:=by unfold rp;(repeat(first|rfl|rw[ab]|rw[ae _ _ _ _ (by omega)]))
omit lx lm cF in
theorem Ty{b':List (Int×Tm)}{L':List TB}{st':List D}{j:Nat}(h1:j<nx+7)(h2:j≠x)(h3:j≠m):rp o nx x m lim a c b L st j=rp o nx x m lim a c b' L' st' j:=by
 have e:∀b L st,rp o nx x m lim a c b L st j=ay (ay o nx (.row a.row)) (nx+1) (.row c.row) j:=fun b L st=>by
  unfold rp
  rw[ae _ _ _ _ (by omega),ae _ _ _ _ (by omega),ae _ _ _ _ h3,ae _ _ _ _ h2]
 rw[e,e]
omit lx lm cF in
theorem Wx{st':List D}{j:Nat}(h:j≠nx+8):rp o nx x m lim a c b L st j=rp o nx x m lim a c b L st' j:=by
 unfold rp
 rw[ae _ _ _ _ h,ae _ _ _ _ h]
theorem jr(hg:Good o nx):Good (rp o nx x m lim a c b L st) (nx+9):=by
 have _:=cF
 unfold rp
 refine Good.ay (Good.ay (Good.ay (Good.ay (Good.ay (Good.ay (hg.mono af) af rfl) af rfl) af ?_) af rfl) af rfl) af rfl
 simp[ad.refs,V.aK,V.refs]
 omega
theorem ow(gone:Nat->Prop)(xl xs:V)(l:List V)(hg:Good o nx)(si:∀id,gone id->nx+7<=id\/(o id= .no/\id≠nx/\id≠nx+1/\id≠x/\id≠m)){e:Nat->V}{so:Nat->ad}{k:Nat}
 (gl:fE so gone 59 4 (L.map TB.d) xl) (gs:fE so gone 106 6 st xs) (iZ:∀id ep fR,xl= .osl id ep->xs= .osl id fR->False) (sx:so x= .row [.mp m,xl, .d (.bool lim)]) (sm:so m=dh b)
 (h:∀j,j<nx+7->j≠x->j≠m->rp o nx x m lim a c b L st j= .no\/so j=rp o nx x m lim a c b L st j)
 (he:iL (nx+7) [⟨xl,59,4,L.map TB.d⟩,⟨xs,106,6,st⟩] so gone e l 0):bI nx ⟨e,so,k⟩ ⟨aY l,rp o nx x m lim a c b L st,nx+9⟩:=by
 have hG:=jr (lim:=lim) (a:=a) (c:=c) (b:=b) (L:=L) (st:=st) lx lm cF hg
 refine bI.see gone _ (nx+7) l rfl af (fun j hj=> ?_) (fun i g h=> ?_) (fun j hj=>hG.fresh j hj) (fun j h1 h2=> ?_) (fun i j gi gj id ep fR h h' e1 e2=> ?_) he
 ·by_cases e1:j=x
  ·subst e1
   rw[Mp lx lm cF]
   exact Y2
  ·by_cases e2:j=m
   ·subst e2
    rw[Mq lx lm cF]
    exact bX sm (fun r hr=>by simp[ad.refs]at hr)
   ·rcases h j hj e1 e2 with h|h
    ·rw[h];exact me
    ·refine bX h fun r hr=> ?_
     by_cases e3:j=nx
     ·subst e3;rw[eqS_0 lx lm cF]at hr;simp[ad.refs,V.aK,V.refs]at hr
     ·by_cases e4:j=nx+1
      ·subst e4;rw[eqS_1 lx lm cF]at hr;simp[ad.refs,V.aK,V.refs]at hr
      ·rw[rC e3 e4 e1 e2 (by omega) (by omega)]at hr
       have:=hg.refs j r hr
       omega
 ·match i,h with
  |0,h=>simp at h;subst h;exact⟨eqS_7 lx lm cF,gl⟩
  |1,h=>simp at h;subst h;exact⟨eqS_8 lx lm cF,gs⟩
 ·rcases si j h1 with h|⟨g1,g2,g3,g4,g5⟩
  ·omega
  ·rw[rC g2 g3 g4 g5 (by omega) (by omega)];exact g1
 ·match i,j,h,h' with
  |0,0,_,_=>rfl
  |1,1,_,_=>rfl
  |0,1,h,h'=>simp at h h';subst h;subst h';exact(iZ _ _ _ e1 e2).elim
  |1,0,h,h'=>simp at h h';subst h;subst h';exact(iZ _ _ _ e2 e1).elim
end
theorem kx(o:Nat->ad)(mQ:Bool)(a b:Int):rF Tryz.prog o 164 mQ (.d (.agg [.i a, .i b])) (.d (.agg [.i 1, .i 1]))=some (.d (.bool (a==1&&b==1))):=by
 have h1:bK Tryz.prog 164=some (.arr 2 30):=ah
 have h3:bK Tryz.prog 30=some .int:=ah
 have h5:dc Tryz.prog 30=some false:=ah
 have h6:oO Tryz.prog 100 164 (.agg [.i a, .i b]) (.agg [.i 1, .i 1])=some (a==1&&b==1):=by
  have h7:Tryz.prog.cellsOf 30=1:=ah
  simp[oO,h1,h3,h5,h7,Bl,NH,iE,DS]
 obtain⟨n,e,h⟩:∃n e,Tryz.prog.underlying 164=some (.array n e):=⟨2,30,ah⟩
 have h2:Tryz.prog.eqGuardType Tryz.prog.depth 164=false:=ah
 unfold rF
 rw[h]
 dsimp only
 rw[if_pos h2,h6]
 rfl
section
variable {o:Nat->ad}{nx x m:Nat}{lim:Bool}{a c:Tm}{b:List (Int×Tm)}{L:List TB}{st:List D}(lx:x<nx)(lm:m<nx)(cF:x≠m)
include lx lm cF
theorem Mr(gone:Nat->Prop)(xs:V)(l:List V)(hg:Good o nx)(si:∀id,gone id->nx+87<=id\/id=nx+8){xt xu:Tm}{e:Nat->V}{so:Nat->ad}{k:Nat}
 (gs:fE so gone 106 6 st xs) (h40:so (nx+40)= .row xt.row) (h41:so (nx+41)= .row xu.row)
 (h:∀j,j<nx+40->j≠nx+8->j≠nx+18->True->so j=rp o nx x m lim a c b L [] j)
 (he:iL (nx+87) [⟨xs,106,6,st⟩] so gone e l 0):bI nx ⟨e,so,k⟩ ⟨aY l,ay (ay (ay (ay (rp o nx x m lim a c b L []) (nx+8) .no) (nx+40) (.row xt.row)) (nx+41) (.row xu.row)) (nx+87) (.arr 0 106 6 st),nx+87+1⟩:=by
 have hG:=jr (lim:=lim) (a:=a) (c:=c) (b:=b) (L:=L) (st:=[]) lx lm cF hg
 refine bI.w7 gone xs (nx+87) l af (fun j hj=> ?_) (ab _ _ _) gs (fun j hj=> ?_) (fun j h1 h2=> ?_) he
 ·by_cases e1:j=nx+41
  ·subst e1
   exact qV (y:= .row xu.row) h41 cA (bX rfl (fun r hr=>by simp[ad.refs,V.aK,V.refs]at hr))
  ·by_cases e2:j=nx+40
   ·subst e2
    exact qV (y:= .row xt.row) h40 cA (bX rfl (fun r hr=>by simp[ad.refs,V.aK,V.refs]at hr))
   ·by_cases e3:j=nx+8
    ·subst e3
     exact qV (y':= .no) rfl cA me
    ·by_cases e4:j<nx+9
     ·exact qV (y:=rp o nx x m lim a c b L [] j) (h j af e3 af trivial) cA (bX rfl (fun r hr=>by have:=hG.refs j r hr;omega))
     ·exact qV (y':= .no) rfl (by(repeat(first|rfl|rw[ab]|rw[ae _ _ _ _ (by omega)]));exact hG.fresh j af) me
 ·(repeat(first|rfl|rw[ab]|rw[ae _ _ _ _ (by omega)]))
  exact hG.fresh j af
 ·rcases si j h1 with h|h
  ·omega
  ·exact Qa
end
end Go.Proofs.YtlhemmpklhhgoaaGreat
namespace Go.Proofs.YtlhemmpklhhgoaaGreat
theorem bQ.wm {P:Program}{g:FuncId}{x:V}{d:D}{rest:List V}{o:Nat->ad}{nx:Nat}{K X:V->(Nat->ad)->Nat->Prop}(hx:dN o x=some d)
 (h:bQ P g (.d d::rest) (put o (bw o x.ids)) nx K X):bQ P g (x::rest) o nx K X:=by
 refine⟨h.1,fun M φ w vals hH hd=> ?_⟩
 have hd0:=hd
 obtain⟨val,us,kR,hv,dT⟩:=hd
 have hu:=fun id ax=>cO x val hv id ax
 obtain⟨f1,f2,f3,f4,f5⟩:=cW (H:=hp o nx) hH x.ids hu
 have fg:(hp o nx).put (bw o x.ids)=hp (put o (bw o x.ids)) nx:=Aj (fun y hy=>by
  simp only[bw,List.mem_map]at hy
  obtain⟨id,ax,rfl⟩:=hy
  exact hu id ax)
 have SP:=f1;have SQ:=f2
 rw[show bw (hp o nx).o x.ids=bw o x.ids from rfl,fg]at SP SQ
 have Nj:∀k,cG φ ((hp o nx).put (bw o x.ids)) k->cG φ (hp o nx) k:=by
  rintro k ⟨id,g1,g2⟩
  by_cases ax:id∈x.ids
  ·have:=f3 id ax
   rw[show((hp o nx).put (bw o x.ids)).o id=_ from this]at g1
   refine⟨id, ?_,g2⟩
   revert g1
   cases(hp o nx).o id<;>simp[ad.fz,ad.live]
  ·have:=f4 id ax
   exact QB
 have yE:∀j,jU (((hp o nx).put (bw o x.ids)).o j) ((hp o nx).o j):=fun j=>by
  by_cases hm:j∈x.ids
  ·exact Qd
  ·exact PX
 have h4:=V.jK (H:=hp o nx) (H':=(hp o nx).put (bw o x.ids)) (B:=ak M φ (hp o nx)) (B':=ak M φ ((hp o nx).put (bw o x.ids))) (fun k h h'=>h (h'.imp id (Nj k))) x val (fun id ax=>⟨yE id,rfl,(f5 id).2 ((V.jq x val hv) id ax)⟩) hv
 have h5:=eH f1 (o:=o) x d val (fun id ax=>f3 id ax) hx h4
 have h6:=V.eA (H:=hp o nx) (H':=(hp o nx).put (bw o x.ids)) (B:=ak M φ (hp o nx)) (B':=ak M φ ((hp o nx).put (bw o x.ids))) (fun k h h'=>h (h'.imp id (Nj k))) rest us (fun id ax=>⟨yE id,rfl,(f5 id).2 ((V.ed rest us dT) id ax)⟩) dT
 rw[show(hp o nx).put (bw (hp o nx).o x.ids)=hp (put o (bw o x.ids)) nx from fg]at h5
 rw[fg]at h6
 refine(h.2 M φ w vals SP ⟨val,us,kR,h5,h6⟩).mono ?_
 rintro e w' ⟨aF,o',nx',v,k1,k2,k3⟩
 exact⟨aF,o',nx',v,k1,SQ.trans k2,k3⟩
theorem mn{B:Nat->Prop}{φ:Place}{H:Hp}{w:World}:∀ (pre:List V) (x:V) (rest:List V) (vals:List Value),V.aC B φ H w (pre++x::rest) vals↔∃v1 val us,vals=v1++val::us/\V.aC B φ H w pre v1/\V.den B φ H w x val/\V.aC B φ H w rest us
 |[],x,rest,vals=>by
  constructor
  ·rintro⟨u,us,h1,h2,h3⟩;exact⟨[],u,us,h1,rfl,h2,h3⟩
  ·rintro⟨v1,u,us,h1,h0,h2,h3⟩
   have h0:v1=[]:=h0
   subst h0
   exact⟨u,us,h1,h2,h3⟩
 |a::pre,x,rest,vals=>by
  constructor
  ·rintro⟨u,us,h1,h2,h3⟩
   obtain⟨v1,val,us',g1,g2,g3,g4⟩:=(mn pre x rest us).1 h3
   exact⟨u::v1,val,us',by rw[h1,g1];rfl,⟨u,v1,rfl,h2,g2⟩,g3,g4⟩
  ·rintro⟨v1,val,us',g1,⟨u,v2,g5,g6,g7⟩,g3,g4⟩
   subst g5
   exact⟨u,v2++val::us',by rw[g1];rfl,g6,(mn pre x rest _).2 ⟨v2,val,us',rfl,g7,g3,g4⟩⟩
theorem bQ.Wy {P:Program}{g:FuncId}(pre:List V){x:V}{d:D}{rest:List V}{o:Nat->ad}{nx:Nat}{K X:V->(Nat->ad)->Nat->Prop}(hx:dN o x=some d)
 (h:bQ P g (pre++ .d d::rest) (put o (bw o x.ids)) nx K X):bQ P g (pre++x::rest) o nx K X:=by
 refine⟨h.1,fun M φ w vals hH hd=> ?_⟩
 have hd0:=hd
 obtain⟨v1,val,us,kR,pE,hv,dT⟩:=(mn pre x rest vals.toList).1 hd
 have hu:=fun id ax=>cO x val hv id ax
 obtain⟨f1,f2,f3,f4,f5⟩:=cW (H:=hp o nx) hH x.ids hu
 have fg:(hp o nx).put (bw o x.ids)=hp (put o (bw o x.ids)) nx:=Aj (fun y hy=>by
  simp only[bw,List.mem_map]at hy
  obtain⟨id,ax,rfl⟩:=hy
  exact hu id ax)
 have SP:=f1;have SQ:=f2
 rw[show bw (hp o nx).o x.ids=bw o x.ids from rfl,fg]at SP SQ
 have Nj:∀k,cG φ ((hp o nx).put (bw o x.ids)) k->cG φ (hp o nx) k:=by
  rintro k ⟨id,g1,g2⟩
  by_cases ax:id∈x.ids
  ·have:=f3 id ax
   rw[show((hp o nx).put (bw o x.ids)).o id=_ from this]at g1
   refine⟨id, ?_,g2⟩
   revert g1
   cases(hp o nx).o id<;>simp[ad.fz,ad.live]
  ·have:=f4 id ax
   exact QB
 have yE:∀j,jU (((hp o nx).put (bw o x.ids)).o j) ((hp o nx).o j):=fun j=>by
  by_cases hm:j∈x.ids
  ·exact Qd
  ·exact PX
 have h4:=V.jK (H:=hp o nx) (H':=(hp o nx).put (bw o x.ids)) (B:=ak M φ (hp o nx)) (B':=ak M φ ((hp o nx).put (bw o x.ids))) (fun k h h'=>h (h'.imp id (Nj k))) x val (fun id ax=>⟨yE id,rfl,(f5 id).2 ((V.jq x val hv) id ax)⟩) hv
 have h5:=eH f1 (o:=o) x d val (fun id ax=>f3 id ax) hx h4
 have h6:=V.eA (H:=hp o nx) (H':=(hp o nx).put (bw o x.ids)) (B:=ak M φ (hp o nx)) (B':=ak M φ ((hp o nx).put (bw o x.ids))) (fun k h h'=>h (h'.imp id (Nj k))) rest us (fun id ax=>⟨yE id,rfl,(f5 id).2 ((V.ed rest us dT) id ax)⟩) dT
 have h7:=V.eA (H:=hp o nx) (H':=(hp o nx).put (bw o x.ids)) (B:=ak M φ (hp o nx)) (B':=ak M φ ((hp o nx).put (bw o x.ids))) (fun k h h'=>h (h'.imp id (Nj k))) pre v1 (fun id ax=>⟨yE id,rfl,(f5 id).2 ((V.ed pre v1 pE) id ax)⟩) pE
 rw[show(hp o nx).put (bw (hp o nx).o x.ids)=hp (put o (bw o x.ids)) nx from fg]at h5
 rw[fg]at h6 h7
 refine(h.2 M φ w vals SP ((mn pre (.d d) rest vals.toList).2 ⟨v1,val,us,kR,h7,h5,h6⟩)).mono ?_
 rintro e w' ⟨aF,o',nx',v,k1,k2,k3⟩
 exact⟨aF,o',nx',v,k1,SQ.trans k2,k3⟩
end Go.Proofs.YtlhemmpklhhgoaaGreat
set_option maxHeartbeats 8000000
namespace Go.Proofs.YtlhemmpklhhgoaaGreat
def eqE(nx x:Nat):List V:=[.ptr x 0, .aa, .aa, .aa, .ptr nx 0, .ptr (nx+1) 0, .osl (nx+8) 0]
theorem wo{s:aB}{lim:Bool}{b:List (Int×Tm)}{L:List TB}{a c:Tm}(hb:pU s b)(ha:QT s a)(hc:QT s c)(hL:L.length<=100){f:Nat}{e:Int}{b':List (Int×Tm)}(hf:jd lim f a c b=some (e,b'))
 {x m:Nat} {xl:V} (o o1:Nat->ad) (nx:Nat) (gn:Nat->Prop) (hg:Good o nx) (Dz:Good o1 nx) (hx:o x= .row [.mp m,xl, .d (.bool lim)]) (hm:o m=dh b) (hl:fE o gn 59 4 (L.map TB.d) xl)
 (si:∀j,gn j->j<nx/\j≠x/\j≠m/\o1 j= .no) (h1:∀j,j<nx->o1 j= .no\/o j=o1 j) (K X:V->(Nat->ad)->Nat->Prop)
 (aV:e=0->∀E:List TB,b'=b++ai E->∀o' nx',nx+8<=nx'->Good o' nx'->EqH o' x m (nx+7) 0 lim b' (L++E)->(∀j,j<nx->j≠x->j≠m->o' j=o1 j)->K (.bP []) o' nx')
 (oI:e=5->∀o' nx',nx<=nx'->Good o' nx'->(∀j,j<nx->j≠x->j≠m->o' j=o1 j)->X (.d (.iface 162 (.agg []))) o' nx')
 (zf:e=3->∀o' nx',nx<=nx'->Good o' nx'->(∀j,j<nx->j≠x->j≠m->o' j=o1 j)->X (.d (.iface 163 (.agg []))) o' nx'):
 bQ Tryz.prog 103 [.ptr x 0, .d a.d, .d c.d] o nx K X:=by
 have lx:x<nx:=hg.lt J1
 have lm:m<nx:=hg.lt Fw
 have cF:x≠m:=fun e=>by subst e;rw[hx]at hm;cases hm
 obtain⟨N,hN⟩:=Mn hb ha hc hf
 refine bQ.aH mix RS aE ?_
 rw[Vg]
 refine Jy hx hm ?_
 refine aG (fun i:Nat×List (Tm×Tm)×List TB=>⟨aY (eqE nx x),rp o1 nx x m lim a c (b++ai i.2.2) (L++i.2.2) (i.2.1.reverse.map wk),nx+9⟩)
  (fun i=>jQ lim 1000000000 i.1 i.2.1 (b++ai i.2.2)=some (e,b')/\pU s (b++ai i.2.2)/\∀p∈i.2.1,QT s p.1/\QT s p.2) (fun i=>i.1) (N,[(a,c)],[])
  ⟨by simpa[ai]using hN,by simpa[ai]using hb,fun p hp=>by simp at hp;subst hp;exact⟨ha,hc⟩⟩ ?_ ?_
 ·dsimp only
  have gx: ¬gn x:=fun h=>(si x h).2.1 rfl
  have gm: ¬gn m:=fun h=>(si m h).2.2.1 rfl
  refine ow lx lm cF (fun j=>gn j\/j=nx+5) xl (.osl (nx+5) 0) _ Dz (fun id h=> ?_) ?_ (.inr ⟨nx+5,0, .inr rfl,rfl,by(repeat(first|rfl|rw[ab]|rw[ae _ _ _ _ (by omega)]))⟩) (fun id ep fR h h'=> ?_) (by(repeat(first|rfl|rw[ab]|rw[ae _ _ _ _ (by omega)]));exact hx) (by(repeat(first|rfl|rw[ab]|rw[ae _ _ _ _ (by omega)]));rw[hm];simp[ai]) (fun j j1 j2 j3=> ?_) ?_
  ·rcases h with h|h
   ·obtain⟨h1,h2,h3,h4⟩:=si id h
    exact .inr ⟨h4,af,af,h2,h3⟩
   ·exact .inr ⟨Dz.fresh _ af,af,af,af,af⟩
  ·rcases hl with h|⟨id,ep,h1,h2,h3⟩
   ·exact .inl (by simpa using h)
   ·have:=(si id h1).1
    exact .inr ⟨id,ep, .inl h1,h2,by(repeat(first|rfl|rw[ab]|rw[ae _ _ _ _ (by omega)]));simpa using h3⟩
  ·rcases hl with⟨h1,_⟩|⟨AV,afy,h1,h2,h3⟩
   ·rw[h1]at h;cases h
   ·have:=(si AV h1).1
    rw[h2]at h
    cases h
    cases h'
    omega
  ·by_cases e1:j=nx
   ·subst e1;rw[eqS_0 lx lm cF];right;(repeat(first|rfl|rw[ab]|rw[ae _ _ _ _ (by omega)]))
   ·by_cases e2:j=nx+1
    ·subst e2;rw[eqS_1 lx lm cF];right;(repeat(first|rfl|rw[ab]|rw[ae _ _ _ _ (by omega)]))
    ·rw[rC e1 e2 j2 j3 (by omega) (by omega)]
     by_cases e3:j<nx
     ·rcases h1 j e3 with h|h
      ·exact .inl h
      ·right;(repeat(first|rfl|rw[ab]|rw[ae _ _ _ _ (by omega)]));exact h
     ·left;exact Dz.fresh j af
  ·unfold eqE
   (repeat(first|exact gB|refine eY ?_|refine dF rfl ?_|refine dF (mo (oH af)) ?_|refine kA 0 rfl rfl rfl ?_|refine lK rfl PV ?_|refine lL rfl A6 ?_))
   exact HB
 rintro⟨n,st,E⟩ ⟨hM,hA,hS⟩
 dsimp only at hM hA hS|-
 have f0:=eqS_0 (o:=o1) (lim:=lim) (a:=a) (c:=c) (b:=b++ai E) (L:=L++E) (st:=st.reverse.map wk) lx lm cF
 have f1:=eqS_1 (o:=o1) (lim:=lim) (a:=a) (c:=c) (b:=b++ai E) (L:=L++E) (st:=st.reverse.map wk) lx lm cF
 have fx:=Mp (o:=o1) (lim:=lim) (a:=a) (c:=c) (b:=b++ai E) (L:=L++E) (st:=st.reverse.map wk) lx lm cF
 have fm:=Mq (o:=o1) (lim:=lim) (a:=a) (c:=c) (b:=b++ai E) (L:=L++E) (st:=st.reverse.map wk) lx lm cF
 have f7:=eqS_7 (o:=o1) (lim:=lim) (a:=a) (c:=c) (b:=b++ai E) (L:=L++E) (st:=st.reverse.map wk) lx lm cF
 have f8:=eqS_8 (o:=o1) (lim:=lim) (a:=a) (c:=c) (b:=b++ai E) (L:=L++E) (st:=st.reverse.map wk) lx lm cF
 unfold eqE
 cases n with
 |zero=>cases hM
 |succ n=>
 cases st with
 |nil=>
  simp only[jQ]at hM
  injection hM with hM
  injection hM with hM1 hM2
  simp only[List.reverse_nil,List.map_nil]at f0 f1 fx fm f7 f8|-
  refine Tc f0 f1 fm f7 f8 ?_
  refine aV hM1.symm E hM2.symm _ _ af (Good.mono (jr lx lm cF Dz) af) ⟨fx,hM2 ▸ fm,f7⟩ (fun j h1 h2 h3=> ?_)
  exact rC af af h2 h3 af af
 |cons p st=>
 obtain⟨t,u⟩:=p
 have Jo:Good o1 nx:=Dz
 have hlen:(st.length:Int)+1>0:=af
 have hrv:((t,u)::st).reverse.map wk=st.reverse.map wk++[wk (t,u)]:=aE
 rw[hrv]at f0 f1 fx fm f7 f8|-
 have jT:st.length<1000000000:=by
  refine Classical.byContradiction fun h=> ?_
  simp only[jQ]at hM
  rw[if_pos (by omega)]at hM
  cases hM
 have fA:decide ((0:Int)<((st.length+1:Nat):Int))=true:=by rw[decide_eq_true_eq];omega
 have tw:((st.length+1:Nat):Int) - 1=(st.length:Nat):=af
 have mK:(st.reverse.map wk++[wk (t,u)])[st.length]? =some (wk (t,u)):=by
  rw[List.getElem?_append_right (by simp)]
  simp
 have afa:(if((st.length:Nat):Int)=0 then some (V.osl (nx+8) 1,[(nx+8,ad.arr 1 106 6 [])],[nx+8])else some (V.osl (nx+8) 1,[(nx+8,ad.arr 1 106 6 (List.take st.length (st.reverse.map wk++[wk (t,u)])))],[nx+8]))=some (V.osl (nx+8) 1,[(nx+8,ad.arr 1 106 6 (st.reverse.map wk))],[nx+8]):=by
  split
  ·have NR:st=[]:=List.eq_nil_of_length_eq_zero af
   subst NR
   rfl
  ·rw[List.take_append_of_le_length (by simp),List.take_of_length_le (by simp)]
 obtain⟨xt,hxt,Yi,uxt⟩:=gS hA (hS (t,u) aE).1
 obtain⟨xu,Kp,qxu,uxu⟩:=gS hA (hS (t,u) aE).2
 simp+contextual (disch:=first|omega|simp only[go_sem,false_implies]) only[go_sem,wrap64,if_pos,f0,f1,fx,fm,f7,f8,Nat.add_assoc,Nat.left_eq_add,Nat.add_eq_left,Nat.add_left_cancel_iff,List.length_map,List.length_append,List.length_reverse,fA,tw,mK,afa]
 refine Dg gz (Mo hxt Hu) ?_
 refine Tc f0 f1 fm f7 f8 ?_
 refine Dg gz (Mo Kp Hu) ?_
 refine Tc f0 f1 fm f7 f8 ?_
 refine aO (bz (ids:=[x,nx+18,m,nx+40,nx+41]) (nx:=nx+44) gz gz [([],[]),([0],[]),([0],[]),([0],[]),([1],[]),([1],[]),([2],[]),([],[]),([0],[]),([0],[]),([0],[]),([1],[]),([1],[]),([2],[]),([],[3]),([],[4]),([3],[3]),([4],[4])] bu) ?_
 simp only[jQ]at hM
 rw[if_neg (by omega),hxt,Kp]at hM
 dsimp only at hM
 have hLE:(L++E).length<=1000:=by
  have Yb:=C5 hA.keys fun v hv=>by
   obtain⟨p,hp,rfl⟩:=List.mem_map.1 hv
   exact(hA.ok p hp).1
  rw[List.length_map,List.length_append,ai,List.length_map]at Yb
  rw[List.length_append]
  omega
 have Ml:∀p∈st,QT s p.1/\QT s p.2:=fun p hp=>hS p (by simp[hp])
 by_cases h1:xt.op=1
 ·rw[if_pos h1]at hM
  have iz:(xt.op==1)=true:=by simpa using h1
  by_cases h2:xu.op=1
  ·rw[if_pos h2]at hM
   have mu:(xu.op==1)=true:=by simpa using h2
   by_cases h3:xt.n=xu.n
   ·rw[if_pos h3]at hM
    have mw:(xt.n !=xu.n)=false:=by simp[h3]
    simp+contextual (disch:=first|omega|simp only[go_sem,false_implies]) only[go_sem,wrap64,if_pos,f0,f1,fx,fm,f7,f8,Nat.add_assoc,Nat.left_eq_add,Nat.add_eq_left,Nat.add_left_cancel_iff,kx,iz,mu,mw,Bool.and_self]
    refine aj (n,st,E) ⟨hM,hA,Ml⟩ (Nat.lt_succ_self n) (ow lx lm cF (fun j=>nx+7<=j) (.osl (nx+7) 0) (.osl (nx+8) 1) _ Dz (fun id h=> .inl h) (.inr ⟨nx+7,0,Nat.le_refl _,rfl,by(repeat(first|rfl|rw[ab]|rw[ae _ _ _ _ (by omega)]));exact f7⟩) (.inr ⟨nx+8,1,af,rfl,by(repeat(first|rfl|rw[ab]|rw[ae _ _ _ _ (by omega)]))⟩) (fun id ep fR h h'=>by cases h;cases h') Nx Hu (fun j j1 j2 j3=> ?_) ?_)
    ·right
     (repeat(first|rfl|rw[ab]|rw[ae _ _ _ _ (by omega)]))
     exact Bd
    ·(repeat(first|exact gB|refine eY ?_|refine dF rfl ?_|refine dF (mo (oH af)) ?_|refine kA 0 rfl rfl rfl ?_|refine lK rfl PV ?_|refine lL rfl A6 ?_))
     exact HB
   ·rw[if_neg h3]at hM
    have mw:(xt.n !=xu.n)=true:=by simp[h3]
    obtain⟨rt,et⟩:=Yi.eta h1
    obtain⟨ru,eu⟩:=qxu.eta h2
    have Yd:bS (b++ai E) (max xt.n xu.n)=none:=by
     rw[Int.max_def];split
     ·exact uxu h2
     ·exact uxt h1
    simp+contextual (disch:=first|omega|simp only[go_sem,false_implies]) only[go_sem,wrap64,if_pos,f0,f1,fx,fm,f7,f8,Nat.add_assoc,Nat.left_eq_add,Nat.add_eq_left,Nat.add_left_cancel_iff,kx,iz,mu,mw,Bool.and_self]
    have em:(if xu.n>xt.n then xu.n else xt.n)=max xt.n xu.n:=by rw[Int.max_def];split<;>split<;>omega
    have en:(if xu.n<xt.n then xu.n else xt.n)=min xt.n xu.n:=by rw[Int.min_def];split<;>split<;>omega
    rw[em,en]
    refine aU (bQ.Wy [.ptr x 0, .d (.i (max xt.n xu.n))] (d:=(Tm.mk 1 (min xt.n xu.n) []).d) (rest:=[]) rfl ?_)
    simp only[V.ids,V.ba,List.append_nil,bw,List.map_nil,K8,List.cons_append,List.nil_append]
    refine E6 (s:=s) (lim:=lim) (b:=b++ai E) (L:=L++E) (n:=max xt.n xu.n) (y:= .mk 1 (min xt.n xu.n) []) hA Yd af (QT.var af) hLE (x:=x) (m:=m) (l:=nx+7) _ _ ?_ ⟨?_, ?_, ?_⟩ _ _ (fun mH o2 n2 k1 k2 k3 k4=> ?_) (fun mH o2 n2 k1 k2 k4=> ?_) (fun mH o2 n2 k1 k2 k4=> ?_)
    ·refine Good.ay (Good.ay (Good.ay (Good.ay (Good.ay (Good.ay (Good.ay (Good.mono (jr lx lm cF Dz) af) af rfl) af rfl) af rfl) af rfl) af rfl) af rfl) af rfl
    ·exact Nx
    ·exact Hu
    ·exact JD
    ·rw[mH,if_pos rfl]at hM
     obtain⟨g1,g2,g3⟩:=k3
     refine cS ?_
     refine aj (n,st,E++[⟨max xt.n xu.n, .mk 1 (min xt.n xu.n) []⟩]) ⟨by rw[eo];simpa[ai]using hM,by have:=(ou (lim:=lim) (n:=max xt.n xu.n) (y:= .mk 1 (min xt.n xu.n) []) hA Yd af (QT.var af) (by rw[mH])).1;rw[mH]at this;rw[eo];simpa[ai]using this,Ml⟩ (Nat.lt_succ_self n) (ow lx lm cF (fun j=>nx+7<=j) (.osl (nx+7) 1) (.osl (nx+8) 1) _ Dz (fun id h=> .inl h) (.inr ⟨nx+7,1,Nat.le_refl _,rfl,by rw[g3,List.append_assoc]⟩) (.inr ⟨nx+8,1,af,rfl,by rw[k4 _ (by omega) (by omega) (by omega) (by omega)];(repeat(first|rfl|rw[ab]|rw[ae _ _ _ _ (by omega)]))⟩) (fun id ep fR h h'=>by cases h;cases h') g1 (by rw[g2,eo];simp[ai]) (fun j j1 j2 j3=> ?_) ?_)
     ·right
      rw[k4 j (by omega) j2 j3 (by omega)]
      (repeat(first|rfl|rw[ab]|rw[ae _ _ _ _ (by omega)]))
      exact Bd
     ·(repeat(first|exact gB|refine eY ?_|refine dF rfl ?_|refine dF (mo (oH af)) ?_|refine kA 0 rfl rfl rfl ?_|refine lK rfl PV ?_|refine lL rfl A6 ?_))
      exact HB
    ·rw[if_neg (by rw[mH];decide)]at hM
     have he:e=5:=by injection hM with hM;rw[hM]at mH;exact mH
     refine cS ?_
     refine oI he _ _ af k2 (fun j j1 j2 j3=> ?_)
     rw[k4 j (by omega) j2 j3 (by omega)]
     (repeat(first|rfl|rw[ab]|rw[ae _ _ _ _ (by omega)]))
     exact Hx
    ·rw[if_neg (by rw[mH];decide)]at hM
     have he:e=3:=by injection hM with hM;rw[hM]at mH;exact mH
     refine cS ?_
     refine zf he _ _ af k2 (fun j j1 j2 j3=> ?_)
     rw[k4 j (by omega) j2 j3 (by omega)]
     (repeat(first|rfl|rw[ab]|rw[ae _ _ _ _ (by omega)]))
     exact Hx
  ·rw[if_neg h2]at hM
   have mu:(xu.op==1)=false:=by simpa using h2
   obtain⟨rt,et⟩:=Yi.eta h1
   simp+contextual (disch:=first|omega|simp only[go_sem,false_implies]) only[go_sem,wrap64,if_pos,f0,f1,fx,fm,f7,f8,Nat.add_assoc,Nat.left_eq_add,Nat.add_eq_left,Nat.add_left_cancel_iff,kx,iz,mu,Bool.and_false]
   refine aU (E6 (s:=s) (lim:=lim) (b:=b++ai E) (L:=L++E) (n:=xt.n) (y:=xu) hA (uxt h1) rt qxu hLE (x:=x) (m:=m) (l:=nx+7) _ _ ?_ ⟨?_, ?_, ?_⟩ _ _ (fun mH o2 n2 k1 k2 k3 k4=> ?_) (fun mH o2 n2 k1 k2 k4=> ?_) (fun mH o2 n2 k1 k2 k4=> ?_))
   ·refine Good.ay (Good.ay (Good.ay (Good.ay (Good.ay (Good.ay (Good.ay (Good.mono (jr lx lm cF Dz) af) af rfl) af rfl) af rfl) af rfl) af rfl) af rfl) af rfl
   ·exact Nx
   ·exact Hu
   ·exact JD
   ·rw[mH,if_pos rfl]at hM
    obtain⟨g1,g2,g3⟩:=k3
    refine cS ?_
    refine aj (n,st,E++[⟨xt.n,xu⟩]) ⟨by rw[eo];simpa[ai]using hM,by have:=(ou (lim:=lim) hA (uxt h1) rt qxu (by rw[mH])).1;rw[mH]at this;rw[eo];simpa[ai]using this,Ml⟩ (Nat.lt_succ_self n) (ow lx lm cF (fun j=>nx+7<=j) (.osl (nx+7) 1) (.osl (nx+8) 1) _ Dz (fun id h=> .inl h) (.inr ⟨nx+7,1,Nat.le_refl _,rfl,by rw[g3,List.append_assoc]⟩) (.inr ⟨nx+8,1,af,rfl,by rw[k4 _ (by omega) (by omega) (by omega) (by omega)];(repeat(first|rfl|rw[ab]|rw[ae _ _ _ _ (by omega)]))⟩) (fun id ep fR h h'=>by cases h;cases h') g1 (by rw[g2,eo];simp[ai]) (fun j j1 j2 j3=> ?_) ?_)
    ·right
     rw[k4 j (by omega) j2 j3 (by omega)]
     (repeat(first|rfl|rw[ab]|rw[ae _ _ _ _ (by omega)]))
     exact Bd
    ·(repeat(first|exact gB|refine eY ?_|refine dF rfl ?_|refine dF (mo (oH af)) ?_|refine kA 0 rfl rfl rfl ?_|refine lK rfl PV ?_|refine lL rfl A6 ?_))
     exact HB
   ·rw[if_neg (by rw[mH];decide)]at hM
    have he:e=5:=by injection hM with hM;rw[hM]at mH;exact mH
    refine cS ?_
    refine oI he _ _ af k2 (fun j j1 j2 j3=> ?_)
    rw[k4 j (by omega) j2 j3 (by omega)]
    (repeat(first|rfl|rw[ab]|rw[ae _ _ _ _ (by omega)]))
    exact Hx
   ·rw[if_neg (by rw[mH];decide)]at hM
    have he:e=3:=by injection hM with hM;rw[hM]at mH;exact mH
    refine cS ?_
    refine zf he _ _ af k2 (fun j j1 j2 j3=> ?_)
    rw[k4 j (by omega) j2 j3 (by omega)]
    (repeat(first|rfl|rw[ab]|rw[ae _ _ _ _ (by omega)]))
    exact Hx
 ·rw[if_neg h1]at hM
  have iz:(xt.op==1)=false:=by simpa using h1
  by_cases h2:xu.op=1
  ·rw[if_pos h2]at hM
   have mu:(xu.op==1)=true:=by simpa using h2
   obtain⟨ru,eu⟩:=qxu.eta h2
   simp+contextual (disch:=first|omega|simp only[go_sem,false_implies]) only[go_sem,wrap64,if_pos,f0,f1,fx,fm,f7,f8,Nat.add_assoc,Nat.left_eq_add,Nat.add_eq_left,Nat.add_left_cancel_iff,kx,iz,mu,Bool.false_and]
   refine aU (E6 (s:=s) (lim:=lim) (b:=b++ai E) (L:=L++E) (n:=xu.n) (y:=xt) hA (uxu h2) ru Yi hLE (x:=x) (m:=m) (l:=nx+7) _ _ ?_ ⟨?_, ?_, ?_⟩ _ _ (fun mH o2 n2 k1 k2 k3 k4=> ?_) (fun mH o2 n2 k1 k2 k4=> ?_) (fun mH o2 n2 k1 k2 k4=> ?_))
   ·refine Good.ay (Good.ay (Good.ay (Good.ay (Good.ay (Good.ay (Good.ay (Good.mono (jr lx lm cF Dz) af) af rfl) af rfl) af rfl) af rfl) af rfl) af rfl) af rfl
   ·exact Nx
   ·exact Hu
   ·exact JD
   ·rw[mH,if_pos rfl]at hM
    obtain⟨g1,g2,g3⟩:=k3
    refine cS ?_
    refine aj (n,st,E++[⟨xu.n,xt⟩]) ⟨by rw[eo];simpa[ai]using hM,by have:=(ou (lim:=lim) hA (uxu h2) ru Yi (by rw[mH])).1;rw[mH]at this;rw[eo];simpa[ai]using this,Ml⟩ (Nat.lt_succ_self n) (ow lx lm cF (fun j=>nx+7<=j) (.osl (nx+7) 1) (.osl (nx+8) 1) _ Dz (fun id h=> .inl h) (.inr ⟨nx+7,1,Nat.le_refl _,rfl,by rw[g3,List.append_assoc]⟩) (.inr ⟨nx+8,1,af,rfl,by rw[k4 _ (by omega) (by omega) (by omega) (by omega)];(repeat(first|rfl|rw[ab]|rw[ae _ _ _ _ (by omega)]))⟩) (fun id ep fR h h'=>by cases h;cases h') g1 (by rw[g2,eo];simp[ai]) (fun j j1 j2 j3=> ?_) ?_)
    ·right
     rw[k4 j (by omega) j2 j3 (by omega)]
     (repeat(first|rfl|rw[ab]|rw[ae _ _ _ _ (by omega)]))
     exact Bd
    ·(repeat(first|exact gB|refine eY ?_|refine dF rfl ?_|refine dF (mo (oH af)) ?_|refine kA 0 rfl rfl rfl ?_|refine lK rfl PV ?_|refine lL rfl A6 ?_))
     exact HB
   ·rw[if_neg (by rw[mH];decide)]at hM
    have he:e=5:=by injection hM with hM;rw[hM]at mH;exact mH
    refine cS ?_
    refine oI he _ _ af k2 (fun j j1 j2 j3=> ?_)
    rw[k4 j (by omega) j2 j3 (by omega)]
    (repeat(first|rfl|rw[ab]|rw[ae _ _ _ _ (by omega)]))
    exact Hx
   ·rw[if_neg (by rw[mH];decide)]at hM
    have he:e=3:=by injection hM with hM;rw[hM]at mH;exact mH
    refine cS ?_
    refine zf he _ _ af k2 (fun j j1 j2 j3=> ?_)
    rw[k4 j (by omega) j2 j3 (by omega)]
    (repeat(first|rfl|rw[ab]|rw[ae _ _ _ _ (by omega)]))
    exact Hx
  ·rw[if_neg h2]at hM
   have mu:(xu.op==1)=false:=by simpa using h2
   by_cases h3:xt.op=xu.op/\xt.n=xu.n/\xt.kids.length=xu.kids.length
   ·rw[if_pos h3]at hM
    obtain⟨h3a,h3b,h3c⟩:=h3
    have c1:(xt.op !=xu.op)=false:=by simp[h3a]
    have c2:(xt.n !=xu.n)=false:=by simp[h3b]
    have c3:((xt.kids.length:Int)!=(xu.kids.length:Int))=false:=by simp[h3c]
    have DC:xt.kids.length<=2000:=by have:=mi xt.kids;have:=Tm.jL xt;have:=Yi.sz;omega
    simp+contextual (disch:=first|omega|simp only[go_sem,false_implies]) only[go_sem,wrap64,if_pos,f0,f1,fx,fm,f7,f8,Nat.add_assoc,Nat.left_eq_add,Nat.add_eq_left,Nat.add_left_cancel_iff,kx,iz,mu,Bool.and_self,c1,c2,c3,List.length_map]
    obtain⟨len,oU⟩:∃len,xt.kids.length=len:=⟨_,rfl⟩
    have hlu:xu.kids.length=len:=by rw[<- h3c,oU]
    refine aG (fun j:Nat=>⟨aY [.ptr x 0, .aa, .aa, .aa, .ptr nx 0, .ptr (nx+1) 0, .osl (nx+87) 0, .aa, .ptr (nx+40) 0, .ptr (nx+41) 0, .d (.i ((len:Int) - 1 - (j:Int)))],ay (ay (ay (ay (rp o1 nx x m lim a c (b++ai E) (L++E) []) (nx+8) .no) (nx+40) (.row xt.row)) (nx+41) (.row xu.row)) (nx+87) (.arr 0 106 6 (st.reverse.map wk++((xt.kids.zip xu.kids).reverse.take j).map wk)),nx+88⟩)
     (fun j=>j<=len) (fun j=>len - j) 0 (Nat.zero_le _) (Mr lx lm cF (fun id=>id=nx+8) (.osl (nx+8) 1) _ Dz (fun id h=> .inr h) (.inr ⟨nx+8,1,rfl,rfl,by(repeat(first|rfl|rw[ab]|rw[ae _ _ _ _ (by omega)]));simp⟩) cA cA (fun j j1 j2 j3 j4=>by(repeat(first|rfl|rw[ab]|rw[ae _ _ _ _ (by omega)]));exact Wx j2) ?_) (fun j hj=> ?_)
    ·(repeat(first|exact gB|refine eY ?_|refine dF rfl ?_|refine dF (mo (oH af)) ?_|refine kA 0 rfl rfl rfl ?_|refine lK rfl PV ?_|refine lL rfl A6 ?_))
     refine dF (mo af) ?_
     exact rn
    ·replace hj:j<=len:=hj
     have q40:∀l,ay (ay (ay (ay (rp o1 nx x m lim a c (b++ai E) (L++E) []) (nx+8) .no) (nx+40) (.row xt.row)) (nx+41) (.row xu.row)) (nx+87) (.arr 0 106 6 l) (nx+40)= .row xt.row:=fun l=>by(repeat(first|rfl|rw[ab]|rw[ae _ _ _ _ (by omega)]))
     have q41:∀l,ay (ay (ay (ay (rp o1 nx x m lim a c (b++ai E) (L++E) []) (nx+8) .no) (nx+40) (.row xt.row)) (nx+41) (.row xu.row)) (nx+87) (.arr 0 106 6 l) (nx+41)= .row xu.row:=fun l=>by(repeat(first|rfl|rw[ab]|rw[ae _ _ _ _ (by omega)]))
     have hrl:(xt.kids.zip xu.kids).reverse.length=len:=by rw[List.length_reverse,List.length_zip,oU,hlu];omega
     refine fM ?_
     refine ao (fun h4=> ?_) (fun h4=> ?_)
     ·have h4:j<len:=by simp at h4;omega
      obtain⟨i0,hi0⟩:∃i0:Nat,(len:Int) - 1 - (j:Int)=(i0:Int):=⟨len - 1 - j,af⟩
      rw[hi0]
      obtain⟨z1,hz1⟩:=aD (show i0<xt.kids.length from af)
      obtain⟨z2,Wz⟩:=aD (show i0<xu.kids.length from af)
      have hrz:(xt.kids.zip xu.kids).reverse[j]? =some (z1,z2):=by
       rw[List.getElem?_reverse (by rw[List.length_zip];omega),List.length_zip,oU,hlu,show min len len - 1 - j=i0 by omega,List.getElem?_zip_eq_some]
       exact⟨hz1,Wz⟩
      have uh:(xt.kids.zip xu.kids).reverse.take (j+1)=(xt.kids.zip xu.kids).reverse.take j++[(z1,z2)]:=by rw[List.take_add_one,hrz];rfl
      have e0:((xt.kids.zip xu.kids).reverse.take j).length=j:=by rw[List.length_take];omega
      have fh:st.length+j<=140737488355327/\(st.length+j+1)*80<=140737488355328:=af
      simp+contextual (disch:=first|omega|simp only[go_sem,false_implies]) only[go_sem,wrap64,if_pos,Nat.add_assoc,Nat.left_eq_add,Nat.add_eq_left,Nat.add_left_cancel_iff,hz1,Wz,List.length_map,List.length_append,List.length_reverse,e0,fh]
      refine aO (bz (ids:=[nx+40,nx+41,nx+102,nx+87]) (nx:=nx+105) aE aE [([],[]),([0],[]),([0],[]),([],[]),([],[]),([],[]),([1],[]),([1],[]),([],[]),([],[]),([],[]),([],[]),([],[2]),([3,2],[3]),([],[])] bu) ?_
      refine fM ?_
      refine aj (j+1) h4 af (Mr lx lm cF (fun id=>nx+87<=id) (.osl (nx+87) 1) _ Dz (fun id h=> .inl h) (.inr ⟨nx+87,1,Nat.le_refl _,rfl,by(repeat(first|rfl|rw[ab]|rw[ae _ _ _ _ (by omega)]));rw[uh,List.map_append,List.append_assoc];rfl⟩) cA cA (fun j j1 j2 j3 j4=>by(repeat(first|rfl|rw[ab]|rw[ae _ _ _ _ (by omega)]))) ?_)
      (repeat(first|exact gB|refine eY ?_|refine dF rfl ?_|refine dF (mo (oH af)) ?_|refine kA 0 rfl rfl rfl ?_|refine lK rfl PV ?_|refine lL rfl A6 ?_))
      refine dF (mo af) ?_
      exact rn
     ·have h4:j=len:=by simp at h4;omega
      subst h4
      refine fM ?_
      refine aj (n,xt.kids.zip xu.kids++st,E) ⟨hM,hA,fun p hp=> ?_⟩ (Nat.lt_succ_self n) (ow lx lm cF (fun j=>nx+7<=j) (.osl (nx+7) 0) (.osl (nx+87) 0) _ Dz (fun id h=> .inl h) (.inr ⟨nx+7,0,Nat.le_refl _,rfl, ?_⟩) (.inr ⟨nx+87,0,af,rfl, ?_⟩) (fun id ep fR h h'=>by cases h;cases h') ?_ ?_ (fun j j1 j2 j3=> ?_) ?_)
      ·rcases List.mem_append.1 hp with hp|hp
       ·exact⟨Yi.mF (List.of_mem_zip hp).1,qxu.mF (List.of_mem_zip hp).2⟩
       ·exact Ml p hp
      ·(repeat(first|rfl|rw[ab]|rw[ae _ _ _ _ (by omega)]))
       exact eqS_7 lx lm cF
      ·(repeat(first|rfl|rw[ab]|rw[ae _ _ _ _ (by omega)]))
       rw[List.take_of_length_le (by omega),List.reverse_append,List.map_append]
      ·(repeat(first|rfl|rw[ab]|rw[ae _ _ _ _ (by omega)]))
       exact Mp lx lm cF
      ·(repeat(first|rfl|rw[ab]|rw[ae _ _ _ _ (by omega)]))
       exact Mq lx lm cF
      ·right
       (repeat(first|rfl|rw[ab]|rw[ae _ _ _ _ (by omega)]))
       exact Bd
      ·(repeat(first|exact gB|refine eY ?_|refine dF rfl ?_|refine dF (mo (oH af)) ?_|refine kA 0 rfl rfl rfl ?_|refine lK rfl PV ?_|refine lL rfl A6 ?_))
       exact HB
   ·rw[if_neg h3]at hM
    injection hM with hM
    injection hM with hM1 hM2
    by_cases c1:(xt.op !=xu.op)=true
    ·simp+contextual (disch:=first|omega|simp only[go_sem,false_implies]) only[go_sem,wrap64,if_pos,f0,f1,fx,fm,f7,f8,Nat.add_assoc,Nat.left_eq_add,Nat.add_eq_left,Nat.add_left_cancel_iff,kx,iz,mu,Bool.and_self,c1,List.length_map]
     exact Tj
    have c1':(xt.op !=xu.op)=false:=by simpa using c1
    by_cases c2:(xt.n !=xu.n)=true
    ·simp+contextual (disch:=first|omega|simp only[go_sem,false_implies]) only[go_sem,wrap64,if_pos,f0,f1,fx,fm,f7,f8,Nat.add_assoc,Nat.left_eq_add,Nat.add_eq_left,Nat.add_left_cancel_iff,kx,iz,mu,Bool.and_self,c1',c2,List.length_map]
     exact Tj
    have c2':(xt.n !=xu.n)=false:=by simpa using c2
    have c3:((xt.kids.length:Int)!=(xu.kids.length:Int))=true:=by
     rw[bne_iff_ne]
     intro h
     exact h3 ⟨by simpa using c1',by simpa using c2',af⟩
    simp+contextual (disch:=first|omega|simp only[go_sem,false_implies]) only[go_sem,wrap64,if_pos,f0,f1,fx,fm,f7,f8,Nat.add_assoc,Nat.left_eq_add,Nat.add_eq_left,Nat.add_left_cancel_iff,kx,iz,mu,Bool.and_self,c1',c2',c3,List.length_map]
    exact Tj
end Go.Proofs.YtlhemmpklhhgoaaGreat
