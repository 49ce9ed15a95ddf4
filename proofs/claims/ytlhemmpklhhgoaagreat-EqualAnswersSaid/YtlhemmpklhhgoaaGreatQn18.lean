/-
  A PART OF THE PROOF. Conditions: none.
-/
import Derived.Test.YtlhemmpklhhgoaaGreatQn17
set_option linter.unusedSimpArgs false
set_option linter.unusedVariables false
namespace Go.Proofs.YtlhemmpklhhgoaaGreat
theorem Rg{s:aA}{lim:Bool}{b:List (Int×Tm)}{l:List TB}{ρ:Int->Nat}{R:Nat}(h:kq s b l ρ R):∀ (z:Nat) (t u:Tm),Vs s t->Vs s u->(aS (ah l) t).sz<=z->aS (ah l) t=aS (ah l) u->∃g,iw lim g t u b=some (0,b):=by
 intro z
 induction z with
 |zero=>intro t u _ _ hz;have:=Tm.th (aS (ah l) t);omega
 |succ z ih=>
  intro t u ht hu hz he
  obtain⟨x,a1,a2,a3,a4,_,_⟩:=h.root ht
  obtain⟨y,b1,b2,b3,b4,_,_⟩:=h.root hu
  obtain⟨p1,p2,p3,p4,p5⟩:=oX h a2 a4
  obtain⟨q1,q2,q3,q4,q5⟩:=oX h b2 b4
  have hxy:aS (ah l) x=aS (ah l) y:=by rw[a3,b3,he]
  have e1:x.op=y.op:=by rw[<- p1, <- q1,hxy]
  have e2:x.n=y.n:=by rw[<- p2, <- q2,hxy]
  have e3:x.kids.length=y.kids.length:=by rw[<- p3, <- q3,hxy]
  by_cases h1:x.op=1
  ·refine⟨R+3, ?_⟩
   simp only[iw,cC a1,cC b1,if_pos h1,if_pos (e1 ▸ h1:y.op=1),if_pos e2]
  ·have h2: ¬y.op=1:=e1 ▸ h1
   have key:∀ (ks cE:List Tm),(∀k∈ks,k∈x.kids)->(∀k∈cE,k∈y.kids)->ks.map (aS (ah l))=cE.map (aS (ah l))->∃g,lJ (iw lim g) ks cE b=some (0,b):=by
    intro ks
    induction ks with
    |nil=>intro cE _ _ _;exact⟨0,by simp only[lJ]⟩
    |cons k ks x7=>
     intro cE m1 m2 hm
     cases cE with
     |nil=>exact⟨0,by simp only[lJ]⟩
     |cons k' cE=>
      rw[List.map_cons,List.map_cons]at hm
      injection hm with KQ OZ
      have hk:=m1 k aE
      have hkz:(aS (ah l) k).sz<=z:=by
       have h3:aS (ah l) k∈(aS (ah l) x).kids:=by rw[p5 h1];exact List.mem_map.2 ⟨k,hk,rfl⟩
       have h4:=Tm.mm h3
       rw[a3]at h4
       omega
      obtain⟨g,hg⟩:=ih k k' (a2.kA hk) (b2.kA (m2 k' aE)) hkz KQ
      obtain⟨g2,hg2⟩:=x7 cE (fun y hy=>m1 y lh) (fun y hy=>m2 y lh) OZ
      refine⟨max g g2, ?_⟩
      simp only[lJ]
      rw[fw hg (Nat.le_max_left _ _)]
      exact l8 (fun k k' b r hk=>fw hk (Nat.le_max_right _ _)) hg2
   obtain⟨g,hg⟩:=key x.kids y.kids (fun _ h=>h) (fun _ h=>h) (by rw[<- p5 h1, <- q5 h2,hxy])
   refine⟨max g (R+2)+1, ?_⟩
   simp only[iw]
   rw[cC a1,cC b1]
   simp only[if_neg h1,if_neg h2,if_pos (⟨e1,e2,e3⟩:x.op=y.op/\x.n=y.n/\x.kids.length=y.kids.length)]
   exact l8 (fun k k' b r hk=>fw hk (Nat.le_max_left _ _)) hg
def EqR(s:aA)(lim:Bool)(r:List TB×Bool)(e:Int)(b':List (Int×Tm)):Prop:=
 (e=0/\r.2=true/\∃K4 R',kq s b' r.1 K4 R')\/(e=5/\r.2=false)\/(e=3/\lim=true)
theorem Bu{s:aA}{lim:Bool}{b:List (Int×Tm)}{l:List TB}{ρ:Int->Nat}{R:Nat}(h:kq s b l ρ R)(hl:iE s l){n:Int}{y:Tm}(hn:bS b n=none)(hy:Vs s y):
 EqR s lim (iD l n (aS (ah l) y), !(cM (aS (ah l) y)).contains n) (gB lim b n y).1 (gB lim b n y).2:=by
 have hc:(cM (aS (ah l) y)).contains n=true↔fX n (aS (ah l) y)=true:=by rw[List.contains_iff_mem];exact(cQ _).2 _
 have hr:=Bo h hl hn hy
 unfold gB
 by_cases h1:ox b n y
 ·rw[if_pos h1]
  exact .inr (.inl ⟨rfl,by rw[hc.2 (hr.2 h1)];rfl⟩)
 ·rw[if_neg h1]
  split
  ·rename_i h2
   exact .inr (.inr ⟨rfl,h2.1⟩)
  ·refine .inl ⟨rfl, ?_,h.ext hl hn hy fun hf=>h1 (hr.1 hf)⟩
   cases hcc:(cM (aS (ah l) y)).contains n with
   |false=>rfl
   |true=>exact absurd (hr.1 (hc.1 hcc)) h1
theorem Bv{s:aA}{lim:Bool}:∀ (f:Nat) (a c:Tm) (l:List TB) (r:List TB×Bool),fN f a c l=some r->iE s l->Vs s a->Vs s c->∀ (t u:Tm) (b:List (Int×Tm)) (ρ:Int->Nat) (R:Nat),kq s b l ρ R->Vs s t->Vs s u->aS (ah l) t=aS (ah l) a->aS (ah l) u=aS (ah l) c->
 ∃g e b',iw lim g t u b=some (e,b')/\EqR s lim r e b'
 |0,_,_,_,_,h,_,_,_,_,_,_,_,_,_,_,_,_,_=>by cases h
 |f+1,a,c,l,r,h,hl,ha,hc,t,u,b,ρ,R,hs,ht,hu,eta,euc=>by
  obtain⟨x,a1,a2,a3,a4,_,_⟩:=hs.root ht
  obtain⟨y,b1,b2,b3,b4,_,_⟩:=hs.root hu
  obtain⟨p1,p2,p3,p4,p5⟩:=oX hs a2 a4
  obtain⟨q1,q2,q3,q4,q5⟩:=oX hs b2 b4
  have ex:aS (ah l) a=aS (ah l) x:=by rw[a3,eta]
  have ey:aS (ah l) c=aS (ah l) y:=by rw[b3,euc]
  simp only[fN,ex,ey,p1,q1,p2,q2,p3,q3]at h
  split at h
  ·rename_i E1
   injection h with h
   subst h
   rw[dR]at E1
   obtain⟨g,hg⟩:=Rg (lim:=lim) hs _ t u ht hu (Nat.le_refl _) (by rw[<- a3, <- b3,E1])
   exact⟨g,0,b,hg, .inl ⟨rfl,rfl,ρ,R,hs⟩⟩
  ·rename_i je
   split at h
   ·rename_i Ij
    injection h with h
    subst h
    obtain⟨h1,h2⟩:=Ij
    have hxy:x.n≠y.n:=fun e=>je (by rw[dR,p4 h1,q4 h2,a2.eta h1,b2.eta h2];rw[e])
    have rx:=a2.range ((iC h1).2 rfl)
    have ry:=b2.range ((iC h2).2 rfl)
    have lmx:bS b (max x.n y.n)=none:=by
     rw[Int.max_def];split
     ·exact b4 h2
     ·exact a4 h1
    have lmn:bS b (min x.n y.n)=none:=by
     rw[Int.min_def];split
     ·exact a4 h1
     ·exact b4 h2
    have hvm:aS (ah l) (.mk 1 (min x.n y.n) [])= .mk 1 (min x.n y.n) []:=by
     rw[il];simp[Lv,(hs.x5 _).1 lmn]
    have hb:=Bu (lim:=lim) hs hl lmx (Vs.var (s:=s) (v:=min x.n y.n) af)
    rw[hvm]at hb
    have hnc:(cM (Tm.mk 1 (min x.n y.n) [])).contains (max x.n y.n)=false:=by
     rw[Bool.eq_false_iff,Ne,List.contains_iff_mem,(cQ _).2,oj]
     simp
     omega
    rw[hnc]at hb
    exact⟨R+3,_,_,by simp only[iw,cC a1,cC b1,if_pos h1,if_pos h2,if_neg hxy],hb⟩
   ·rename_i Ij
    split at h
    ·rename_i h1
     injection h with h
     subst h
     have h2: ¬y.op=1:=fun h2=>Ij ⟨h1,h2⟩
     exact⟨R+3,_,_,by simp only[iw,cC a1,cC b1,if_pos h1,if_neg h2],Bu hs hl (a4 h1) b2⟩
    ·rename_i h1
     split at h
     ·rename_i h2
      injection h with h
      subst h
      exact⟨R+3,_,_,by simp only[iw,cC a1,cC b1,if_neg h1,if_pos h2],Bu hs hl (b4 h2) a2⟩
     ·rename_i h2
      split at h
      ·rename_i h3
       injection h with h
       subst h
       refine⟨R+3,5,b, ?_, .inr (.inl ⟨rfl,rfl⟩)⟩
       simp only[iw,cC a1,cC b1,if_neg h1,if_neg h2]
       rw[if_neg]
       rintro⟨g1,g2,g3⟩
       rcases h3 with h3|h3|h3
       ·exact h3 g1
       ·exact h3 g2
       ·exact h3 g3
      ·rename_i h3
       have kK:x.op=y.op/\x.n=y.n/\x.kids.length=y.kids.length:=⟨Classical.byContradiction fun e=>h3 (Or.inl e),Classical.byContradiction fun e=>h3 (Or.inr (Or.inl e)),Classical.byContradiction fun e=>h3 (Or.inr (Or.inr e))⟩
       have key:∀ (xs ys:List Tm) (l1:List TB) (b:List (Int×Tm)) (ρ:Int->Nat) (R:Nat),(∀k∈xs,Vs s k)->(∀k∈ys,Vs s k)->iE s l1->ni l l1->kq s b l1 ρ R->de (fN f) (xs.map (aS (ah l))) (ys.map (aS (ah l))) l1=some r->
        ∃g e b',lJ (iw lim g) xs ys b=some (e,b')/\EqR s lim r e b':=by
        intro xs
        induction xs with
        |nil=>intro ys l1 b ρ R _ _ sv _ sw h;simp only[List.map_nil,de]at h;injection h with h;subst h;exact⟨0,0,b,by simp only[lJ], .inl ⟨rfl,rfl,ρ,R,sw⟩⟩
        |cons k xs x7=>
         intro ys l1 b ρ R m1 m2 sv he sw h
         cases ys with
         |nil=>simp only[List.map_nil,List.map_cons,de]at h;injection h with h;subst h;exact⟨0,0,b,by simp only[lJ], .inl ⟨rfl,rfl,ρ,R,sw⟩⟩
         |cons k' ys=>
          have vk:=m1 k aE
          have vk':=m2 k' aE
          have vsk:=Vs.sub hl.bd k vk
          have aeS:=Vs.sub hl.bd k' vk'
          simp only[List.map_cons,de]at h
          cases e:fN f (aS (ah l) k) (aS (ah l) k') l1 with
          |none=>rw[e]at h;cases h
          |some r1=>
           obtain⟨g,e1,b',g1,g2⟩:=Bv (lim:=lim) f _ _ l1 r1 e sv vsk aeS k k' b ρ R sw vk vk' (he.sub vk).symm (he.sub vk').symm
           obtain⟨l2,ok⟩:=r1
           rw[e]at h
           rcases g2 with⟨e0,rfl,ρ2,R2,Hi⟩|⟨e0,rfl⟩|⟨e0,hlm⟩
           ·simp only at h
            obtain⟨o1,o2⟩:=ow f _ _ l1 l2 e sv vsk aeS
            obtain⟨g',e2,b2,k1,k2⟩:=x7 ys l2 b' ρ2 R2 (fun y hy=>m1 y lh) (fun y hy=>m2 y lh) o1 (he.trans hl o2 fun v=>hl.x5) Hi h
            refine⟨max g g',e2,b2, ?_,k2⟩
            simp only[lJ]
            rw[fw g1 (Nat.le_max_left _ _)]
            dsimp only
            rw[if_pos e0]
            exact l8 (fun k k' b r hk=>fw hk (Nat.le_max_right _ _)) k1
           ·simp only at h
            injection h with h
            subst h
            refine⟨g,e1,b', ?_, .inr (.inl ⟨e0,rfl⟩)⟩
            simp only[lJ,g1]
            rw[if_neg (by omega)]
           ·refine⟨g,e1,b', ?_, .inr (.inr ⟨e0,hlm⟩)⟩
            simp only[lJ,g1]
            rw[if_neg (by omega)]
       rw[p5 h1,q5 h2]at h
       obtain⟨g,e,b',g1,g2⟩:=key x.kids y.kids l b ρ R (fun k hk=>a2.kA hk) (fun k hk=>b2.kA hk) hl (ni.refl hl) hs h
       refine⟨max g (R+2)+1,e,b', ?_,g2⟩
       simp only[iw]
       rw[cC a1,cC b1]
       simp only[if_neg h1,if_neg h2,if_pos kK]
       exact l8 (fun k k' b r hk=>fw hk (Nat.le_max_left _ _)) g1
theorem vg{s:aA}{t:Tm}:bB s t=true↔ju s=true/\(t.sz<=40/\t.mK<=12)/\Vs s t:=by
 unfold bB jw
 simp only[Bool.and_eq_true,List.all_cons,List.all_nil,Bool.and_true,qx]
 constructor
 ·rintro⟨⟨h1,h2⟩,h3⟩
  rw[oS h2]at h3
  have h4:=H5 h2
  rw[gM,Bool.and_eq_true]at h2
  exact⟨h1,h4.2,h2.2,h3⟩
 ·rintro⟨h1,h2,h3,h4⟩
  have h5:gM s t=true:=by
   rw[gM,Bool.and_eq_true,decide_eq_true_eq,rN]
   exact⟨af,h3⟩
  exact⟨⟨h1,h5⟩,by rw[oS h5];exact h4⟩
theorem Ik{s:aA}{t k:Tm}(h:bB s t=true)(hk:k∈t.kids):bB s k=true:=by
 obtain⟨h0,⟨h1,h2⟩,h3⟩:=vg.1 h
 have hz:=Tm.mm hk
 have hh:=Tm.rB hk
 exact vg.2 ⟨h0,⟨af,af⟩,h3.kA hk⟩
theorem Rh{s:aA}(hs:ju s=true){v:Int}(h:0<=v/\v<20):bB s (.mk 1 v [])=true:=by
 refine vg.2 ⟨hs,⟨?_, ?_⟩,Vs.var h⟩
 ·rw[Tm.ko];simp[Tm.kids,sy]
 ·rw[Tm.qw];simp[Tm.kids,Tm.jh]
structure Inv (s:aA) (lim:Bool) (b:List (Int×Tm)):Prop where
 ok:∀p∈b,(0<=p.1/\p.1<20)/\bB s p.2=true
 YJ:lim=true->∀p∈b,zQ b p.2
theorem Gh{s:aA}{b:List (Int×Tm)}(hb:∀p∈b,bB s p.2=true):∀ (f:Nat) (t x:Tm),lI f b t=some x->bB s t=true->bB s x=true
 |0,_,_,h,_=>by cases h
 |f+1,t,x,h,ht=>by
  simp only[lI]at h
  split at h
  ·split at h
   ·rename_i y hy;exact Gh hb f y x h (hb _ (cK hy))
   ·exact Jb
  ·exact Jb
theorem Bw{s:aA}{lim:Bool}{b:List (Int×Tm)}(h:Inv s lim b){n:Int}{y:Tm}(hn:0<=n/\n<20)(hy:bB s y=true)(h0:(gB lim b n y).1=0):Inv s lim (gB lim b n y).2/\∃ext,(gB lim b n y).2=b++ext:=by
 unfold gB at h0|-
 split at h0
 ·exact GS
 ·rename_i h1
  rw[if_neg h1]
  split at h0
  ·exact GS
  ·rename_i h2
   rw[if_neg h2]
   refine⟨⟨fun p hp=> ?_,fun hl=> ?_⟩,_,rfl⟩
   ·rcases List.mem_append.1 hp with hp|hp
    ·exact h.ok p hp
    ·simp at hp;subst hp;exact⟨hn,hy⟩
   ·exact Classical.byContradiction fun hc=>h2 ⟨hl,hc⟩
theorem Bx{s:aA}{t:Tm}(h:bB s t=true)(h1:t.op=1):(0<=t.n/\t.n<20)/\t= .mk 1 t.n []:=by
 have hv:=(bz h).1
 exact⟨hv.range ((iC h1).2 rfl),hv.eta h1⟩
theorem eq_inv{s:aA}{lim:Bool}:∀ (f:Nat) (t u:Tm) (b b':List (Int×Tm)),iw lim f t u b=some (0,b')->Inv s lim b->bB s t=true->bB s u=true->Inv s lim b'/\∃ext,b'=b++ext
 |0,_,_,_,_,h,_,_,_=>by cases h
 |f+1,t,u,b,b',h,hb,ht,hu=>by
  simp only[iw]at h
  cases ha:gN b t with
  |none=>rw[ha]at h;cases h
  |some x=>
  cases hc:gN b u with
  |none=>rw[ha,hc]at h;cases h
  |some y=>
  rw[ha,hc]at h
  dsimp only at h
  obtain⟨ga,U8⟩:=rX ha
  obtain⟨gc,yW⟩:=rX hc
  have hx:=Gh (fun p hp=>(hb.ok p hp).2) ga t x U8 ht
  have hy:=Gh (fun p hp=>(hb.ok p hp).2) gc u y yW hu
  by_cases h1:x.op=1
  ·obtain⟨rx,ex⟩:=Bx hx h1
   rw[if_pos h1]at h
   by_cases h2:y.op=1
   ·obtain⟨ry,ey⟩:=Bx hy h2
    rw[if_pos h2]at h
    by_cases h3:x.n=y.n
    ·exact S7
    ·rw[if_neg h3]at h
     injection h with h
     have:=Bw hb (n:=max x.n y.n) (y:= .mk 1 (min x.n y.n) []) af (Rh (vg.1 hx).1 af) (by rw[h])
     rwa [h]at this
   ·rw[if_neg h2]at h
    injection h with h
    have:=Bw hb rx hy (by rw[h])
    rwa [h]at this
  ·rw[if_neg h1]at h
   by_cases h2:y.op=1
   ·obtain⟨ry,ey⟩:=Bx hy h2
    rw[if_pos h2]at h
    injection h with h
    have:=Bw hb ry hx (by rw[h])
    rwa [h]at this
   ·rw[if_neg h2]at h
    split at h
    ·have key:∀ (ks cE:List Tm) (b:List (Int×Tm)),(∀k∈ks,bB s k=true)->(∀k∈cE,bB s k=true)->Inv s lim b->lJ (iw lim f) ks cE b=some (0,b')->Inv s lim b'/\∃ext,b'=b++ext:=by
      intro ks
      induction ks with
      |nil=>
       exact SO
      |cons k ks ih=>
       intro cE b m1 m2 hb h
       cases cE with
       |nil=>
        exact abg
       |cons k' cE=>
        simp only[lJ]at h
        cases he:iw lim f k k' b with
        |none=>rw[he]at h;cases h
        |some q=>
         obtain⟨e1,b1⟩:=q
         rw[he]at h
         dsimp only at h
         by_cases e0:e1=0
         ·rw[if_pos e0]at h
          subst e0
          obtain⟨g1,x1,g2⟩:=eq_inv f k k' b b1 he hb (m1 k aE) (m2 k' aE)
          exact abp
         ·exact S3
     exact key x.kids y.kids b (fun k hk=>Ik hx hk) (fun k hk=>Ik hy hk) hb h
    ·injection h with h
     injection h with h _
     exact absurd h bC
def x9(b:List (Int×Tm)):List TB:=b.map fun p=>⟨p.1,p.2⟩
theorem Ri(b:List (Int×Tm)):ah (x9 b)=b:=by
 unfold ah x9
 rw[List.map_map]
 exact List.map_id _
theorem dS(l l':List TB):ah (l++l')=ah l++ah l':=List.map_append
theorem vh{s:bU}(h:bw s){a c:Tm}(ha:bB s.sig a=true)(hc:bB s.sig c=true):∃f e b',iw true f a c (ah s.binds)=some (e,b')/\((e=0/\∃ext,b'=ah (s.binds++ext)/\iF s.sig (s.binds++ext))\/e=5\/e=3):=by
 obtain⟨l,ρ,R,hS,hl⟩:=iu h.jk.keys h.jk.ok h.jk.DZ
 have va:=(bz ha).1
 have vc:=(bz hc).1
 obtain⟨f,r,hr⟩:=oY _ _ a c l (Nat.le_refl _) (Nat.le_refl _) hl va vc
 obtain⟨g,e,b',h1,h2⟩:=Bv (lim:=true) f a c l r hr hl va vc a c _ ρ R hS va vc rfl rfl
 refine⟨g,e,b',h1, ?_⟩
 rcases h2 with⟨rfl,_,K4,R',Il⟩|⟨rfl,_⟩|⟨rfl,_⟩
 ·left
  refine⟨rfl, ?_⟩
  obtain⟨hI,ext,hx⟩:=eq_inv g a c _ b' h1 ⟨fun p hp=>by obtain⟨x,hx,rfl⟩:=ez hp;exact h.jk.ok x hx,fun _ p hp=>by obtain⟨x,hx,rfl⟩:=ez hp;exact h.jk.YJ x hx⟩ ha hc
  have hb:b'=ah (s.binds++x9 ext):=by rw[dS,Ri,hx]
  have hk:=Il.keys
  rw[hb]at hk hI Il
  refine⟨x9 ext,hb,⟨?_,hk,fun x hx=>hI.ok _ (ir hx),Il.DZ,fun x hx=>hI.YJ rfl _ (ir hx)⟩⟩
  have:=DY hk fun v hv=>by
   obtain⟨p,hp,rfl⟩:=List.mem_map.1 hv
   exact(hI.ok p hp).1
  rw[List.length_map]at this
  unfold ah at this
  rwa [List.length_map]at this
 ·exact .inr (.inl rfl)
 ·exact .inr (.inr rfl)
theorem xa{nb nn nb' nn':Int}(h1:nb<=nb')(h2:nn<=nn'):∀ {l:List (Int×Int)} {a:Int×Int},mR nb nn a l=true->mR nb' nn' a l=true
 |[],_,_=>rfl
 |x::l,a,h=>by
  simp only[mR,Bool.and_eq_true,Bool.not_eq_true',Bool.or_eq_false_iff,decide_eq_false_iff_not]at h|-
  obtain⟨⟨⟨⟨g1,g2⟩,g3⟩,g4⟩,g5⟩:=h
  exact⟨⟨⟨⟨g1,af⟩,g3⟩,af⟩,xa h1 h2 g5⟩
theorem Im{s:bU}(h:bw s){ext:List TB}(hb:iF s.sig (s.binds++ext))(hn:∀n∈s.aH, ¬oZ (ah (s.binds++ext)) n):bw ⟨s.sig,s.binds++ext,s.aH,s.marks⟩:=
 ⟨h.sig,h.rW,h.D8,hb,fun n hm=>⟨(h.aH n hm).1,(h.aH n hm).2.1,hn n hm⟩,xa gP (Int.le_refl _) h.marks⟩
theorem zU{s:bU}(h:bw s){n:Nt}(ha:bB s.sig n.a=true)(hc:bB s.sig n.b=true)(hn: ¬oZ (ah s.binds) n)(hl:s.aH.length<12):bw ⟨s.sig,s.binds,s.aH++[n],s.marks⟩:=
 ⟨h.sig,by simp;omega,h.D8,h.jk,fun m hm=>by
   rcases List.mem_append.1 hm with hm|hm
   ·exact h.aH m hm
   ·simp at hm;subst hm;exact⟨ha,hc,hn⟩,xa (Int.le_refl _) gP h.marks⟩
structure QT (s:aA) (t:Tm):Prop where
 vs:Vs s t
 sz:t.sz<=2000
theorem QT.kA {s:aA}{t k:Tm}(h:QT s t)(hk:k∈t.kids):QT s k:=⟨h.vs.kA hk,by have:=Tm.mm hk;have:=h.sz;omega⟩
theorem QT.fits {s:aA}{t:Tm}(h:QT s t):t.fits:=Tm.dD t (by have:=h.sz;omega)
theorem QT.var {s:aA}{v:Int}(h:0<=v/\v<20):QT s (.mk 1 v []):=⟨Vs.var h,by rw[Tm.ko];simp[Tm.kids,sy]⟩
theorem QT.eta {s:aA}{t:Tm}(h:QT s t)(h1:t.op=1):(0<=t.n/\t.n<20)/\t= .mk 1 t.n []:=⟨h.vs.range ((iC h1).2 rfl),h.vs.eta h1⟩
theorem xc{s:aA}{t:Tm}(h:bB s t=true):QT s t:=⟨(bz h).1,by have:=(bz h).2.1;omega⟩
structure qJ (s:aA) (b:List (Int×Tm)):Prop where
 keys:(b.map (·.1)).Nodup
 ok:∀p∈b,(0<=p.1/\p.1<20)/\QT s p.2
 DZ:YC b
theorem qJ.nil {s:aA}:qJ s []:=⟨List.nodup_nil,fun _ h=>kJ,fun _ _ h=>by cases h⟩
theorem qJ.sim {s:aA}{b:List (Int×Tm)}(h:qJ s b):∃l ρ R,kq s b l ρ R/\iE s l:=NQ h.keys (fun p hp=>⟨(h.ok p hp).1,(h.ok p hp).2.vs⟩) h.DZ
theorem aeT{P:Tm->Prop}{b:List (Int×Tm)}(hb:∀p∈b,P p.2):∀ (f:Nat) (t x:Tm),lI f b t=some x->P t->P x
 |0,_,_,h,_=>by cases h
 |f+1,t,x,h,ht=>by
  simp only[lI]at h
  split at h
  ·split at h
   ·rename_i y hy;exact aeT hb f y x h (hb _ (cK hy))
   ·exact Jb
  ·exact Jb
theorem iy{s:aA}{b:List (Int×Tm)}(h:qJ s b){t:Tm}(ht:QT s t):∃x,gN b t=some x/\QT s x/\(x.op=1->bS b x.n=none):=by
 obtain⟨l,ρ,R,hS,hl⟩:=h.sim
 obtain⟨x,a1,a2,a3,a4,_⟩:=hS.root ht.vs
 exact⟨x,cC a1,aeT (fun p hp=>(h.ok p hp).2) _ t x a1 ht,a4⟩
theorem Ea{s:aA}{b:List (Int×Tm)}(h:qJ s b){n:Int}{y:Tm}(hn:bS b n=none)(hr:0<=n/\n<20)(hy:QT s y)(hnr: ¬ox b n y):qJ s (b++[(n,y)]):=by
 obtain⟨l,ρ,R,hS,hl⟩:=h.sim
 obtain⟨K4,R',h'⟩:=hS.ext hl hn hy.vs fun hf=>hnr ((Bo hS hl hn hy.vs).1 hf)
 refine⟨h'.keys,fun p hp=> ?_,h'.DZ⟩
 rcases List.mem_append.1 hp with hp|hp
 ·exact h.ok p hp
 ·simp at hp;subst hp;exact⟨hr,hy⟩
theorem o7{s:aA}{lim:Bool}{b:List (Int×Tm)}(h:qJ s b){n:Int}{y:Tm}(hn:bS b n=none)(hr:0<=n/\n<20)(hy:QT s y)(h0:(gB lim b n y).1=0):qJ s (gB lim b n y).2/\∃ext,(gB lim b n y).2=b++ext:=by
 unfold gB at h0|-
 split at h0
 ·exact GS
 ·rename_i h1
  rw[if_neg h1]
  split at h0
  ·exact GS
  ·rename_i h2
   rw[if_neg h2]
   exact⟨Ea h hn hr hy h1,_,rfl⟩
theorem xd{s:aA}{lim:Bool}:∀ (f:Nat) (t u:Tm) (b b':List (Int×Tm)),iw lim f t u b=some (0,b')->qJ s b->QT s t->QT s u->qJ s b'/\∃ext,b'=b++ext
 |0,_,_,_,_,h,_,_,_=>by cases h
 |f+1,t,u,b,b',h,hb,ht,hu=>by
  simp only[iw]at h
  obtain⟨x,ha,hx,L9⟩:=iy hb ht
  obtain⟨y,hc,hy,hyu⟩:=iy hb hu
  rw[ha,hc]at h
  dsimp only at h
  by_cases h1:x.op=1
  ·obtain⟨rx,ex⟩:=hx.eta h1
   rw[if_pos h1]at h
   by_cases h2:y.op=1
   ·obtain⟨ry,ey⟩:=hy.eta h2
    rw[if_pos h2]at h
    by_cases h3:x.n=y.n
    ·exact S7
    ·rw[if_neg h3]at h
     injection h with h
     have lmx:bS b (max x.n y.n)=none:=by
      rw[Int.max_def];split
      ·exact hyu h2
      ·exact L9 h1
     have:=o7 hb lmx (y:= .mk 1 (min x.n y.n) []) af (QT.var af) (by rw[h])
     rwa [h]at this
   ·rw[if_neg h2]at h
    injection h with h
    have:=o7 hb (L9 h1) rx hy (by rw[h])
    rwa [h]at this
  ·rw[if_neg h1]at h
   by_cases h2:y.op=1
   ·obtain⟨ry,ey⟩:=hy.eta h2
    rw[if_pos h2]at h
    injection h with h
    have:=o7 hb (hyu h2) ry hx (by rw[h])
    rwa [h]at this
   ·rw[if_neg h2]at h
    split at h
    ·have key:∀ (ks cE:List Tm) (b:List (Int×Tm)),(∀k∈ks,QT s k)->(∀k∈cE,QT s k)->qJ s b->lJ (iw lim f) ks cE b=some (0,b')->qJ s b'/\∃ext,b'=b++ext:=by
      intro ks
      induction ks with
      |nil=>
       exact SO
      |cons k ks ih=>
       intro cE b m1 m2 hb h
       cases cE with
       |nil=>
        exact abg
       |cons k' cE=>
        simp only[lJ]at h
        cases he:iw lim f k k' b with
        |none=>rw[he]at h;cases h
        |some q=>
         obtain⟨e1,b1⟩:=q
         rw[he]at h
         dsimp only at h
         by_cases e0:e1=0
         ·rw[if_pos e0]at h
          subst e0
          obtain⟨g1,x1,g2⟩:=xd f k k' b b1 he hb (m1 k aE) (m2 k' aE)
          exact abp
         ·exact S3
     exact key x.kids y.kids b (fun k hk=>hx.kA hk) (fun k hk=>hy.kA hk) hb h
    ·injection h with h
     injection h with h _
     exact absurd h bC
theorem aeU{s:aA}{b:List (Int×Tm)}{l:List TB}{ρ:Int->Nat}{R:Nat}(h:kq s b l ρ R){M:Nat}(hM:∀p∈b,p.2.mK<=M):∀ (r:Nat) (t:Tm),Vs s t->(∀u,fX u t=true->ρ u<r)->(aS (ah l) t).mK<=t.mK+tw b ρ r*M:=by
 intro r
 induction r using Nat.strongRecOn with
 |ind r ihr=>
  refine Tm.eN fun t ih ht hr=> ?_
  by_cases h1:t.op=1
  ·have hv:fX t.n t=true:=(iC h1).2 rfl
   rw[dV ht h1]
   cases hx:bS b t.n with
   |none=>
    rw[show Lv (ah l) t.n= .mk 1 t.n [] by simp[Lv,(h.x5 _).1 hx], <- ht.eta h1]
    omega
   |some x=>
    obtain⟨g1,g2,g3⟩:=h.ok _ _ hx
    have h3:=Ib hx (hr _ hv)
    have h4:=ihr _ (hr _ hv) x g1 g3
    have h5:=hM _ (cK hx)
    have h6:(tw b ρ (ρ t.n)+1)*M<=tw b ρ r*M:=Nat.mul_le_mul_right _ h3
    rw[Nat.add_mul,Nat.one_mul]at h6
    rw[g2]
    dsimp only at h5
    omega
  ·rw[fQ h1,Tm.qw,Tm.qw t]
   show 1+Tm.jh (t.kids.map (aS (ah l)))<=1+Tm.jh t.kids+tw b ρ r*M
   have:Tm.jh (t.kids.map (aS (ah l)))<=Tm.jh t.kids+tw b ρ r*M:=by
    rw[oR]
    intro k hk
    obtain⟨k,Jg,rfl⟩:=List.mem_map.1 hk
    have h2:=ih k Jg (ht.kA Jg) (fun u hu=>hr u ((pT ht h1).2 ⟨k,Jg,hu⟩))
    have h3:=(oR _ _).1 (Nat.le_refl (Tm.jh t.kids)) k Jg
    omega
   omega
theorem Rj(b:List (Int×Tm))(ρ:Int->Nat)(r:Nat):tw b ρ r<=b.length:=by
 unfold tw
 exact aaZ
inductive K6 (b:List (Int×Tm)) (q:Tm):Nat->Tm->Prop where
 |nil:K6 b q 0 q
 |step {d:Nat} {p x k:Tm}:K6 b q d p->gN b p=some x->k∈x.kids->K6 b q (d+1) k
theorem Rk{b ext:List (Int×Tm)}{v:Int}{x:Tm}(h:bS b v=some x):bS (b++ext) v=some x:=by
 induction b with
 |nil=>cases h
 |cons p b ih=>
  rw[List.cons_append]
  simp only[bS]at h|-
  split at h
  ·rename_i e;rw[if_pos e];exact h
  ·rename_i e;rw[if_neg e];exact ih h
theorem N3{b ext:List (Int×Tm)}:∀ (f:Nat) (t x:Tm),lI f b t=some x->x.op≠1->lI f (b++ext) t=some x
 |0,_,_,h,_=>by cases h
 |f+1,t,x,h,hx=>by
  simp only[lI]at h|-
  by_cases h1:t.op=1
  ·rw[if_pos h1]at h|-
   cases e:bS b t.n with
   |none=>rw[e]at h;injection h with h;subst h;exact absurd h1 hx
   |some y=>
    rw[e]at h
    rw[Rk e]
    exact N3 f y x h hx
  ·rw[if_neg h1]at h|-;exact h
theorem K6.qt {s:aA}{b:List (Int×Tm)}(hb:qJ s b){q:Tm}(hq:QT s q){d:Nat}{k:Tm}(h:K6 b q d k):QT s k:=by
 induction h with
 |nil=>exact hq
 |step h1 h2 h3 ih=>
  obtain⟨x,e,hx,_⟩:=iy hb ih
  rw[e]at h2
  cases h2
  exact hx.kA h3
theorem K6.app {s:aA}{b ext:List (Int×Tm)}(hb:qJ s b){q:Tm}(hq:QT s q){d:Nat}{k:Tm}(h:K6 b q d k):K6 (b++ext) q d k:=by
 induction h with
 |nil=>exact .nil
 |step h1 h2 h3 ih=>
  rename_i d p x k
  obtain⟨y,e,hy,_⟩:=iy hb (h1.qt hb hq)
  obtain rfl:x=y:=Option.some.inj (h2.symm.trans e)
  have gC:x.op≠1:=fun ho=>by
   rw[(hy.eta ho).2]at h3
   cases h3
  obtain⟨g,hg⟩:=rX e
  exact .step ih (cC (N3 g p x hg gC)) h3
theorem K6.le {s:aA}{b:List (Int×Tm)}(hb:qJ s b){q:Tm}(hq:QT s q){d:Nat}{k:Tm}(h:K6 b q d k):d+1<=42001:=by
 obtain⟨l,ρ,R,hS,hl⟩:=hb.sim
 have h1:(aS (ah l) k).mK+d<=(aS (ah l) q).mK:=by
  induction h with
  |nil=>omega
  |step h1 h2 h3 ih=>
   rename_i d p x k
   obtain⟨y,a1,a2,a3,_⟩:=hS.root (h1.qt hb hq).vs
   obtain rfl:x=y:=Option.some.inj (h2.symm.trans (cC a1))
   have gC:x.op≠1:=fun ho=>by
    rw[a2.eta ho]at h3
    cases h3
   have h4:aS (ah l) k∈(aS (ah l) x).kids:=by rw[fQ gC];exact List.mem_map.2 ⟨k,h3,rfl⟩
   have h5:=Tm.rB h4
   rw[a3]at h5
   omega
 have h2:=aeU hS (M:=2000) (fun p hp=>by have:=(hb.ok p hp).2.sz;have:=Tm.zP p.2;omega) (R+1) q hq.vs (fun u _=>by have:=hS.bd u;omega)
 have h3:=Rj b ρ (R+1)
 have h4:b.length<=20:=by
  have:=DY hb.keys fun v hv=>by
   obtain⟨p,hp,rfl⟩:=List.mem_map.1 hv
   exact(hb.ok p hp).1
  rwa [List.length_map]at this
 have h5:tw b ρ (R+1)*2000<=20*2000:=Nat.mul_le_mul_right _ af
 have h6:=hq.sz
 have h7:=Tm.zP q
 omega
theorem Io{s:aA}{lim:Bool}:∀ (f:Nat) (t u q:Tm) (b:List (Int×Tm)) (d:Nat) (r:Int×List (Int×Tm)),qJ s b->QT s q->QT s u->K6 b q d t->iw lim f t u b=some r->∀F,42001<=d+F->iw lim F t u b=some r
 |0,_,_,_,_,_,_,_,_,_,_,h,_,_=>by cases h
 |f+1,t,u,q,b,d,r,hb,hq,hu,hp,h,F,hF=>by
  have hd:=hp.le hb hq
  obtain⟨F,rfl⟩:∃k,F=k+1:=⟨F - 1,af⟩
  have ht:=hp.qt hb hq
  obtain⟨x,ha,hx,L9⟩:=iy hb ht
  obtain⟨y,hc,hy,hyu⟩:=iy hb hu
  simp only[iw]at h|-
  rw[ha,hc]at h|-
  dsimp only at h|-
  split at h
  ·rename_i h1;rw[if_pos h1];exact h
  ·rename_i h1
   rw[if_neg h1]
   split at h
   ·rename_i h2;rw[if_pos h2];exact h
   ·rename_i h2
    rw[if_neg h2]
    split at h
    ·rename_i h3
     rw[if_pos h3]
     have key:∀ (ks cE:List Tm) (b:List (Int×Tm)),qJ s b->(∀k∈ks,K6 b q (d+1) k)->(∀k∈cE,QT s k)->lJ (iw lim f) ks cE b=some r->lJ (iw lim F) ks cE b=some r:=by
      intro ks
      induction ks with
      |nil=>intro cE b _ _ _ h;simpa only[lJ]using h
      |cons k ks ih=>
       intro cE b hb m1 m2 h
       cases cE with
       |nil=>simpa only[lJ]using h
       |cons k' cE=>
        simp only[lJ]at h|-
        cases he:iw lim f k k' b with
        |none=>rw[he]at h;cases h
        |some w=>
         obtain⟨e1,b1⟩:=w
         rw[he]at h
         rw[Io f k k' q b (d+1) _ hb hq (m2 k' (by simp)) (m1 k (by simp)) he F (by omega)]
         dsimp only at h|-
         by_cases e0:e1=0
         ·rw[if_pos e0]at h|-
          subst e0
          obtain⟨g1,x1,g2⟩:=xd f k k' b b1 he hb ((m1 k aE).qt hb hq) (m2 k' aE)
          refine ih cE b1 g1 (fun z hz=> ?_) (fun z hz=>m2 z pE) h
          rw[g2]
          exact(m1 z pE).app hb hq
         ·rw[if_neg e0]at h|-;exact h
     exact key x.kids y.kids b hb (fun k hk=> .step hp ha hk) (fun k hk=>hy.kA hk) h
    ·rename_i h3;rw[if_neg h3];exact h
theorem N4{s:aA}{lim:Bool}{b:List (Int×Tm)}(hb:qJ s b){t u:Tm}(ht:QT s t)(hu:QT s u){f:Nat}{e:Int}{b':List (Int×Tm)}(h:iw lim f t u b=some (e,b')):∃m,ku lim 1000000000 m [(t,u)] b=some (e,b'):=by
 have h1:=Io f t u t b 0 _ hb ht hu .nil h 42001 af
 refine Gg (W:=2000) (P:=QT s) (I:=qJ s) (fun t ht=>⟨?_,fun k hk=>ht.kA hk⟩) (fun b t x hb ht hx=> ?_) (fun f t u b b' h hb ht hu=>(xd f t u b b' h hb ht hu).1) 42001 t u b e b' h1 hb ht hu [] 1 (e,b') bC ?_
 ·have:=mQ t.kids
  have:=Tm.ko t
  have:=ht.sz
  omega
 ·obtain⟨y,e,hy,_⟩:=iy hb ht
  rw[e]at hx
  cases hx
  exact hy
 ·split
  ·rename_i e0;subst e0;rfl
  ·rfl
end Go.Proofs.YtlhemmpklhhgoaaGreat
set_option maxHeartbeats 4000000
namespace Go.Proofs.YtlhemmpklhhgoaaGreat
theorem YL{b:List (Int×Tm)}{f:Nat}{t x:Tm}(h:lI f b t=some x){o:Nat->ab}{id:Nat}(ho:o id=dv b):CtO Tryz.prog 112 [.mp id, .d t.d] o (.d x.d):=by
 intro nx hg K X hK
 have cu:id<nx:=hg.lt LL
 have y1:id≠nx:=af
 have y2:∀k,id≠nx+k:=fun k=>af
 refine bQ.aG mix Nc aE ?_
 rw[QI]
 refine Vv ho y1 y2 ?_
 refine aD (fun i:Nat×Tm=>⟨aZ [.mp id, .ad, .ad, .ptr nx 0, .ptr (nx+1) 0],ay (ay o nx (.row i.2.row)) (nx+1) (.row [.d (.i 0), .d (.i 0), .aw]),nx+2⟩)
  (fun i=>lI i.1 b i.2=some x) (fun i=>i.1) (f,t) h ?_ ?_
 ·exact abo
 rintro⟨f,t⟩ hf
 simp only at hf
 cases f with
 |zero=>cases hf
 |succ f=>
 simp only[lI]at hf
 by_cases h1:t.op=1
 ·have eW:(t.op==1)=true:=by simpa using h1
  rw[if_pos h1]at hf
  cases hl:bS b t.n with
  |none=>
   rw[hl]at hf
   injection hf with hf
   subst hf
   simp+contextual (disch:=first|omega|simp only[go_sem,false_implies]) only[go_sem,wrap64,if_pos,eW,ho,y1,y2,Nat.add_assoc,Nat.left_eq_add,Nat.add_eq_left,Nat.add_left_cancel_iff,eJ hl]
   exact hK _ _ af dt (fun j hj=>by(repeat(first|rfl|rw[aa]|rw[ae _ _ _ _ (by omega)])))
  |some z=>
   rw[hl]at hf
   obtain⟨j,hj⟩:=gk hl
   refine Ac eW ho y1 y2 hj ?_
   refine aj (f,z) hf lK (bO.cc _ af af dt (fun j hj=> ?_) ?_)
   ·have Tk:j<nx+2:=hj
    by_cases e1:j=nx
    ·subst e1;(repeat(first|rfl|rw[aa]|rw[ae _ _ _ _ (by omega)]))
    ·by_cases e2:j=nx+1
     ·exact VF
     ·exact cg
   ·exact dW
 ·have eW:(t.op==1)=false:=by simpa using h1
  rw[if_neg h1]at hf
  injection hf with hf
  subst hf
  refine BK eW ho y1 y2 ?_
  exact hK _ _ af dt (fun j hj=>by(repeat(first|rfl|rw[aa]|rw[ae _ _ _ _ (by omega)])))
theorem Eb{P:Program}{g:FuncId}{K:KD}{X:XD}{o:Nat->ab}{nx fr:Nat}{all:List V}{ds:List D}{rd0 rd:List Nat}{rs:List D}{Δ:List (Nat×ab)}(m9:rd.all (fun id=>decide (id<nx))=true)(h:BQ P g all rd o (.ret rs) Δ)(hk:K (jq rs) Δ rd):mJ P g K X o nx fr rd0 ds all:=by
 unfold mJ
 exact .inr (De m9 h hk)
theorem N5{b:List (Int×Tm)}{t x:Tm}(h:gN b t=some x){o:Nat->ab}{id:Nat}(ho:o id=dv b):BQ Tryz.prog 112 [.mp id, .d t.d] [id] o (.ret [x.d]) []:=by
 obtain⟨f,hf⟩:=rX h
 refine BQ.WW (id+1) aE yp (fun i hi j hj=> ?_) (YL hf (by simp[Ft,ho]))
 simp at hi
 subst hi
 rw[ho]at hj
 simp[ab.refs]at hj
structure EqH (o:Nat->ab) (x m l:Nat) (ep:Nat) (lim:Bool) (b:List (Int×Tm)) (L:List TB):Prop where
 row:o x= .row [.mp m, .osl l ep, .d (.bool lim)]
 map:o m=dv b
 T7:o l= .arr ep 59 4 (L.map TB.d)
theorem Gi{s:aA}{lim:Bool}{b:List (Int×Tm)}{L:List TB}{n:Int}{y:Tm}(hb:qJ s b)(hn:bS b n=none)(hr:0<=n/\n<20)(hy:QT s y)(hL:L.length<=1000){x m l:Nat}(o:Nat->ab)(nx:Nat)(hg:Good o nx)(he:EqH o x m l 0 lim b L)(K X:V->(Nat->ab)->Nat->Prop)
 (aY:(gB lim b n y)=(0,b++[(n,y)])->∀o' nx',nx<=nx'->Good o' nx'->EqH o' x m l 1 lim (b++[(n,y)]) (L++[⟨n,y⟩])->(∀j,j<nx->j≠x->j≠m->j≠l->o' j=o j)->K (.bW []) o' nx')
 (nk:(gB lim b n y).1=5->∀o' nx',nx<=nx'->Good o' nx'->(∀j,j<nx->j≠x->j≠m->j≠l->o' j=o j)->X (.d (.iface 162 (.agg []))) o' nx')
 (Au:(gB lim b n y).1=3->∀o' nx',nx<=nx'->Good o' nx'->(∀j,j<nx->j≠x->j≠m->j≠l->o' j=o j)->X (.d (.iface 163 (.agg []))) o' nx'):
 bQ Tryz.prog 132 [.ptr x 0, .d (.i n), .d y.d] o nx K X:=by
 obtain⟨hx,hm,hl⟩:=he
 have lx:x<nx:=hg.lt LM
 have lm:m<nx:=hg.lt GI
 have ll:l<nx:=hg.lt (by rw[hl];exact ab.noConfusion)
 have dxm:x≠m:=fun e=>by subst e;rw[hx]at hm;cases hm
 have dxl:x≠l:=fun e=>by subst e;rw[hx]at hl;cases hl
 have dml:m≠l:=fun e=>by subst e;rw[hm]at hl;cases hl
 have y1:x≠nx:=af
 have y2:∀k,x≠nx+k:=fun k=>af
 have y3:m≠nx:=af
 have y4:∀k,m≠nx+k:=fun k=>af
 have y5:l≠nx:=af
 have y6:∀k,l≠nx+k:=fun k=>af
 have G0:∀p∈b,Vs s p.2:=fun p hp=>(hb.ok p hp).2.vs
 have oA:∀p∈b,p.2.fits:=fun p hp=>(hb.ok p hp).2.fits
 refine bQ.aG mix Up aE ?_
 rw[XH]
 obtain⟨is,Gf⟩:∃is:Bool,is=true↔ox b n y:=by
  classical
  exact⟨decide (ox b n y),aE⟩
 refine IV hx hm hl y1 y2 y3 y4 y5 y6 ?_
 refine a7 (Ii G0 oA n y hy.vs hy.fits Gf) rfl ?_
 refine IV hx hm hl y1 y2 y3 y4 y5 y6 ?_
 refine aI (a8 rfl) ?_
 cases is with
 |true=>
  refine IV hx hm hl y1 y2 y3 y4 y5 y6 ?_
  have nj:gB lim b n y=(5,b):=by unfold gB;rw[if_pos (Gf.1 rfl)]
  exact nk (by rw[nj]) _ _ af dt (fun j h1 h2 h3 h4=>by(repeat(first|rfl|rw[aa]|rw[ae _ _ _ _ (by omega)])))
 |false=>
  have hnr: ¬ox b n y:=fun h=>Bool.false_ne_true (Gf.2 h)
  have EY:=Ea hb hn hr hy hnr
  have e0:L.length<=140737488355327/\(L.length+1)*48<=140737488355328:=af
  simp+contextual (disch:=first|omega|simp only[go_sem,false_implies]) only[go_sem,wrap64,if_pos,hx,hm,hl,y1,y2,y3,y4,y5,y6,Nat.add_assoc,Nat.left_eq_add,Nat.add_eq_left,Nat.add_left_cancel_iff,eJ hn]
  refine aI (bu (ids:=[x,nx,m]) (nx:=nx+15) gP gP [([],[]),([0],[]),([0],[]),([0],[]),([],[]),([1],[]),([2],[2])] bC) ?_
  rw[DO hn]
  simp+contextual (disch:=first|omega|simp only[go_sem,false_implies]) only[go_sem,wrap64,if_pos,hx,hm,hl,y1,y2,y3,y4,y5,y6,dxm,dxl,dml,dxm.symm,dxl.symm,dml.symm,Nat.add_assoc,Nat.left_eq_add,Nat.add_eq_left,Nat.add_left_cancel_iff,List.length_map,e0]
  refine aI (bu (ids:=[x,nx,nx+23,l]) (nx:=nx+28) gP gP [([],[]),([],[]),([0],[]),([0],[]),([0],[]),([],[]),([1],[]),([],[]),([],[2]),([3,2],[3]),([0],[]),([0],[]),([0,3],[0])] bC) ?_
  cases lim with
  |false=>
   simp+contextual (disch:=first|omega|simp only[go_sem,false_implies]) only[go_sem,wrap64,if_pos,hx,hm,hl,y1,y2,y3,y4,y5,y6,dxm,dxl,dml,dxm.symm,dxl.symm,dml.symm,Nat.add_assoc,Nat.left_eq_add,Nat.add_eq_left,Nat.add_left_cancel_iff]
   exact aY (by unfold gB;rw[if_neg hnr,if_neg (by simp)]) _ _ af dt ⟨by(repeat(first|rfl|rw[aa]|rw[ae _ _ _ _ (by omega)])),by(repeat(first|rfl|rw[aa]|rw[ae _ _ _ _ (by omega)])),by(repeat(first|rfl|rw[aa]|rw[ae _ _ _ _ (by omega)]));rw[List.map_append];rfl⟩ (fun j h1 h2 h3 h4=>by(repeat(first|rfl|rw[aa]|rw[ae _ _ _ _ (by omega)])))
  |true=>
   obtain⟨fo,BT⟩:∃fo:Bool,fo=true↔∀p∈b++[(n,y)],zQ (b++[(n,y)]) p.2:=by
    classical
    exact⟨decide (∀p∈b++[(n,y)],zQ (b++[(n,y)]) p.2),aE⟩
   obtain⟨l',K4,R',Il,yT⟩:=EY.sim
   simp+contextual (disch:=first|omega|simp only[go_sem,false_implies]) only[go_sem,wrap64,if_pos,hx,hm,hl,y1,y2,y3,y4,y5,y6,dxm,dxl,dml,dxm.symm,dxl.symm,dml.symm,Nat.add_assoc,Nat.left_eq_add,Nat.add_eq_left,Nat.add_left_cancel_iff]
   refine ak (zS (b:=b++[(n,y)]) (fun p hp=>(EY.ok p hp).2.fits) (fun p hp=>by obtain⟨r,hr⟩:=LQ Il 12 p.2 40 (EY.ok p hp).2.vs;exact⟨_,r,hr⟩) BT) rfl ?_
   cases fo with
   |true=>
    refine fZ ?_
    exact aY (by unfold gB;rw[if_neg hnr,if_neg (fun h=>h.2 (BT.1 rfl))]) _ _ af dt ⟨by(repeat(first|rfl|rw[aa]|rw[ae _ _ _ _ (by omega)])),by(repeat(first|rfl|rw[aa]|rw[ae _ _ _ _ (by omega)])),by(repeat(first|rfl|rw[aa]|rw[ae _ _ _ _ (by omega)]));rw[List.map_append];rfl⟩ (fun j h1 h2 h3 h4=>by(repeat(first|rfl|rw[aa]|rw[ae _ _ _ _ (by omega)])))
   |false=>
    refine fZ ?_
    exact Au (by unfold gB;rw[if_neg hnr,if_pos ⟨rfl,fun h=>Bool.false_ne_true (BT.2 h)⟩]) _ _ af dt (fun j h1 h2 h3 h4=>by(repeat(first|rfl|rw[aa]|rw[ae _ _ _ _ (by omega)])))
end Go.Proofs.YtlhemmpklhhgoaaGreat
set_option maxHeartbeats 4000000
namespace Go.Proofs.YtlhemmpklhhgoaaGreat
@[reducible] def xe (p:Tm×Tm):D:= .agg [.i p.1.op, .i p.1.n, .sl (p.1.kids.map Tm.d), .i p.2.op, .i p.2.n, .sl (p.2.kids.map Tm.d)]
def sj(o:Nat->ab)(nx x m:Nat)(lim:Bool)(a c:Tm)(b:List (Int×Tm))(L:List TB)(st:List D):Nat->ab:=
 ay (ay (ay (ay (ay (ay o nx (.row a.row)) (nx+1) (.row c.row)) x (.row [.mp m, .osl (nx+7) 0, .d (.bool lim)])) m (dv b)) (nx+7) (.arr 0 59 4 (L.map TB.d))) (nx+8) (.arr 0 106 6 st)
section
variable {o:Nat->ab}{nx x m:Nat}{lim:Bool}{a c:Tm}{b:List (Int×Tm)}{L:List TB}{st:List D}(lx:x<nx)(lm:m<nx)(ck:x≠m)
include lx lm ck
theorem eqS_0:sj o nx x m lim a c b L st nx= .row a.row:=IX
theorem eqS_1:sj o nx x m lim a c b L st (nx+1)= .row c.row:=IX
theorem N6:sj o nx x m lim a c b L st x= .row [.mp m, .osl (nx+7) 0, .d (.bool lim)]:=IX
theorem N7:sj o nx x m lim a c b L st m=dv b:=IX
theorem eqS_7:sj o nx x m lim a c b L st (nx+7)= .arr 0 59 4 (L.map TB.d):=IX
theorem eqS_8:sj o nx x m lim a c b L st (nx+8)= .arr 0 106 6 st:=IX
omit lx lm ck in
theorem sA{j:Nat}(h0:j≠nx)(h1:j≠nx+1)(h2:j≠x)(h3:j≠m)(h7:j≠nx+7)(h8:j≠nx+8):sj o nx x m lim a c b L st j=o j:=by unfold sj;(repeat(first|rfl|rw[aa]|rw[ae _ _ _ _ (by omega)]))
omit lx lm ck in
theorem VL{b':List (Int×Tm)}{L':List TB}{st':List D}{j:Nat}(h1:j<nx+7)(h2:j≠x)(h3:j≠m):sj o nx x m lim a c b L st j=sj o nx x m lim a c b' L' st' j:=by
 have e:∀b L st,sj o nx x m lim a c b L st j=ay (ay o nx (.row a.row)) (nx+1) (.row c.row) j:=fun b L st=>by
  unfold sj
  rw[ae _ _ _ _ (by omega),ae _ _ _ _ (by omega),ae _ _ _ _ h3,ae _ _ _ _ h2]
 rw[e,e]
omit lx lm ck in
theorem YM{st':List D}{j:Nat}(h:j≠nx+8):sj o nx x m lim a c b L st j=sj o nx x m lim a c b L st' j:=by
 unfold sj
 rw[ae _ _ _ _ h,ae _ _ _ _ h]
theorem jQ(hg:Good o nx):Good (sj o nx x m lim a c b L st) (nx+9):=by
 have _:=ck
 unfold sj
 refine Good.ay (Good.ay (Good.ay (Good.ay (Good.ay (Good.ay (hg.mono af) af rfl) af rfl) af ?_) af rfl) af rfl) af rfl
 simp[ab.refs,V.aL,V.refs]
 omega
theorem o8(gone:Nat->Prop)(xl xs:V)(l:List V)(hg:Good o nx)(ta:∀id,gone id->nx+7<=id\/(o id= .no/\id≠nx/\id≠nx+1/\id≠x/\id≠m)){e:Nat->V}{so:Nat->ab}{k:Nat}
 (gl:fW so gone 59 4 (L.map TB.d) xl) (gs:fW so gone 106 6 st xs) (je:∀id ep gr,xl= .osl id ep->xs= .osl id gr->False) (sx:so x= .row [.mp m,xl, .d (.bool lim)]) (sm:so m=dv b)
 (h:∀j,j<nx+7->j≠x->j≠m->sj o nx x m lim a c b L st j= .no\/so j=sj o nx x m lim a c b L st j)
 (he:iV (nx+7) [⟨xl,59,4,L.map TB.d⟩,⟨xs,106,6,st⟩] so gone e l 0):bO nx ⟨e,so,k⟩ ⟨aZ l,sj o nx x m lim a c b L st,nx+9⟩:=by
 have hG:=jQ (lim:=lim) (a:=a) (c:=c) (b:=b) (L:=L) (st:=st) lx lm ck hg
 refine bO.see gone _ (nx+7) l rfl af (fun j hj=> ?_) (fun i g h=> ?_) (fun j hj=>hG.fresh j hj) (fun j h1 h2=> ?_) (fun i j gi gj id ep gr h h' e1 e2=> ?_) he
 ·by_cases e1:j=x
  ·subst e1
   rw[N6 lx lm ck]
   exact aa0
  ·by_cases e2:j=m
   ·subst e2
    rw[N7 lx lm ck]
    exact bD sm (fun r hr=>by simp[ab.refs]at hr)
   ·rcases h j hj e1 e2 with h|h
    ·rw[h];exact kW
    ·refine bD h fun r hr=> ?_
     by_cases e3:j=nx
     ·subst e3;rw[eqS_0 lx lm ck]at hr;simp[ab.refs,V.aL,V.refs]at hr
     ·by_cases e4:j=nx+1
      ·subst e4;rw[eqS_1 lx lm ck]at hr;simp[ab.refs,V.aL,V.refs]at hr
      ·rw[sA e3 e4 e1 e2 (by omega) (by omega)]at hr
       have:=hg.refs j r hr
       omega
 ·match i,h with
  |0,h=>simp at h;subst h;exact⟨eqS_7 lx lm ck,gl⟩
  |1,h=>simp at h;subst h;exact⟨eqS_8 lx lm ck,gs⟩
 ·rcases ta j h1 with h|⟨g1,g2,g3,g4,g5⟩
  ·omega
  ·rw[sA g2 g3 g4 g5 (by omega) (by omega)];exact g1
 ·match i,j,h,h' with
  |0,0,_,_=>rfl
  |1,1,_,_=>rfl
  |0,1,h,h'=>simp at h h';subst h;subst h';exact(je _ _ _ e1 e2).elim
  |1,0,h,h'=>simp at h h';subst h;subst h';exact(je _ _ _ e2 e1).elim
end
theorem kY(o:Nat->ab)(nu:Bool)(a b:Int):pn Tryz.prog o 164 nu (.d (.agg [.i a, .i b])) (.d (.agg [.i 1, .i 1]))=some (.d (.bool (a==1&&b==1))):=by
 have h1:bP Tryz.prog 164=some (.arr 2 30):=ai
 have h3:bP Tryz.prog 30=some .int:=ai
 have h5:dm Tryz.prog 30=some false:=ai
 have h6:pH Tryz.prog 100 164 (.agg [.i a, .i b]) (.agg [.i 1, .i 1])=some (a==1&&b==1):=by
  have h7:Tryz.prog.cellsOf 30=1:=ai
  simp[pH,h1,h3,h5,h7,Cd,PD,jd,EW]
 obtain⟨n,e,h⟩:∃n e,Tryz.prog.underlying 164=some (.array n e):=⟨2,30,ai⟩
 have h2:Tryz.prog.eqGuardType Tryz.prog.depth 164=false:=ai
 unfold pn
 rw[h]
 dsimp only
 rw[if_pos h2,h6]
 rfl
section
variable {o:Nat->ab}{nx x m:Nat}{lim:Bool}{a c:Tm}{b:List (Int×Tm)}{L:List TB}{st:List D}(lx:x<nx)(lm:m<nx)(ck:x≠m)
include lx lm ck
theorem N8(gone:Nat->Prop)(xs:V)(l:List V)(hg:Good o nx)(ta:∀id,gone id->nx+87<=id\/id=nx+8){xt xu:Tm}{e:Nat->V}{so:Nat->ab}{k:Nat}
 (gs:fW so gone 106 6 st xs) (h40:so (nx+40)= .row xt.row) (h41:so (nx+41)= .row xu.row)
 (h:∀j,j<nx+40->j≠nx+8->j≠nx+18->True->so j=sj o nx x m lim a c b L [] j)
 (he:iV (nx+87) [⟨xs,106,6,st⟩] so gone e l 0):bO nx ⟨e,so,k⟩ ⟨aZ l,ay (ay (ay (ay (sj o nx x m lim a c b L []) (nx+8) .no) (nx+40) (.row xt.row)) (nx+41) (.row xu.row)) (nx+87) (.arr 0 106 6 st),nx+87+1⟩:=by
 have hG:=jQ (lim:=lim) (a:=a) (c:=c) (b:=b) (L:=L) (st:=[]) lx lm ck hg
 refine bO.uK gone xs (nx+87) l af (fun j hj=> ?_) (aa _ _ _) gs (fun j hj=> ?_) (fun j h1 h2=> ?_) he
 ·by_cases e1:j=nx+41
  ·subst e1
   exact mP (y:= .row xu.row) h41 cg (bD rfl (fun r hr=>by simp[ab.refs,V.aL,V.refs]at hr))
  ·by_cases e2:j=nx+40
   ·subst e2
    exact mP (y:= .row xt.row) h40 cg (bD rfl (fun r hr=>by simp[ab.refs,V.aL,V.refs]at hr))
   ·by_cases e3:j=nx+8
    ·subst e3
     exact mP (y':= .no) rfl cg kW
    ·by_cases e4:j<nx+9
     ·exact mP (y:=sj o nx x m lim a c b L [] j) (h j af e3 af trivial) cg (bD rfl (fun r hr=>by have:=hG.refs j r hr;omega))
     ·exact mP (y':= .no) rfl (by(repeat(first|rfl|rw[aa]|rw[ae _ _ _ _ (by omega)]));exact hG.fresh j af) kW
 ·(repeat(first|rfl|rw[aa]|rw[ae _ _ _ _ (by omega)]))
  exact hG.fresh j af
 ·rcases ta j h1 with h|h
  ·omega
  ·exact Sg
end
end Go.Proofs.YtlhemmpklhhgoaaGreat
namespace Go.Proofs.YtlhemmpklhhgoaaGreat
theorem bQ.xf {P:Program}{g:FuncId}{x:V}{d:D}{rest:List V}{o:Nat->ab}{nx:Nat}{K X:V->(Nat->ab)->Nat->Prop}(hx:dM o x=some d)
 (h:bQ P g (.d d::rest) (put o (bG o x.ids)) nx K X):bQ P g (x::rest) o nx K X:=by
 refine⟨h.1,fun M φ w vals hH hd=> ?_⟩
 have hd0:=hd
 obtain⟨val,us,lN,hv,dY⟩:=hd
 have hu:=fun id ax=>cV x val hv id ax
 obtain⟨f1,f2,f3,f4,f5⟩:=cZ (H:=hp o nx) hH x.ids hu
 have fK:(hp o nx).put (bG o x.ids)=hp (put o (bG o x.ids)) nx:=Bm (fun y hy=>by
  simp only[bG,List.mem_map]at hy
  obtain⟨id,ax,rfl⟩:=hy
  exact hu id ax)
 have U4:=f1;have U5:=f2
 rw[show bG (hp o nx).o x.ids=bG o x.ids from rfl,fK]at U4 U5
 have O7:∀k,cL φ ((hp o nx).put (bG o x.ids)) k->cL φ (hp o nx) k:=by
  rintro k ⟨id,g1,g2⟩
  by_cases ax:id∈x.ids
  ·have:=f3 id ax
   rw[show((hp o nx).put (bG o x.ids)).o id=_ from this]at g1
   refine⟨id, ?_,g2⟩
   revert g1
   cases(hp o nx).o id<;>simp[ab.fz,ab.live]
  ·have:=f4 id ax
   exact SX
 have zV:∀j,kC (((hp o nx).put (bG o x.ids)).o j) ((hp o nx).o j):=fun j=>by
  by_cases hm:j∈x.ids
  ·exact Sk
  ·exact Sd
 have h4:=V.kn (H:=hp o nx) (H':=(hp o nx).put (bG o x.ids)) (B:=aq M φ (hp o nx)) (B':=aq M φ ((hp o nx).put (bG o x.ids))) (fun k h h'=>h (h'.imp id (O7 k))) x val (fun id ax=>⟨zV id,rfl,(f5 id).2 ((V.jN x val hv) id ax)⟩) hv
 have h5:=eQ f1 (o:=o) x d val (fun id ax=>f3 id ax) hx h4
 have h6:=V.eI (H:=hp o nx) (H':=(hp o nx).put (bG o x.ids)) (B:=aq M φ (hp o nx)) (B':=aq M φ ((hp o nx).put (bG o x.ids))) (fun k h h'=>h (h'.imp id (O7 k))) rest us (fun id ax=>⟨zV id,rfl,(f5 id).2 ((V.ej rest us dY) id ax)⟩) dY
 rw[show(hp o nx).put (bG (hp o nx).o x.ids)=hp (put o (bG o x.ids)) nx from fK]at h5
 rw[fK]at h6
 refine(h.2 M φ w vals U4 ⟨val,us,lN,h5,h6⟩).mono ?_
 rintro e w' ⟨aJ,o',nx',v,k1,k2,k3⟩
 exact⟨aJ,o',nx',v,k1,U5.trans k2,k3⟩
theorem mT{B:Nat->Prop}{φ:Place}{H:Hp}{w:World}:∀ (pre:List V) (x:V) (rest:List V) (vals:List Value),V.aF B φ H w (pre++x::rest) vals↔∃v1 val us,vals=v1++val::us/\V.aF B φ H w pre v1/\V.den B φ H w x val/\V.aF B φ H w rest us
 |[],x,rest,vals=>by
  constructor
  ·rintro⟨u,us,h1,h2,h3⟩;exact⟨[],u,us,h1,rfl,h2,h3⟩
  ·rintro⟨v1,u,us,h1,h0,h2,h3⟩
   have h0:v1=[]:=h0
   subst h0
   exact⟨u,us,h1,h2,h3⟩
 |a::pre,x,rest,vals=>by
  constructor
  ·rintro⟨u,us,h1,h2,h3⟩
   obtain⟨v1,val,us',g1,g2,g3,g4⟩:=(mT pre x rest us).1 h3
   exact⟨u::v1,val,us',by rw[h1,g1];rfl,⟨u,v1,rfl,h2,g2⟩,g3,g4⟩
  ·rintro⟨v1,val,us',g1,⟨u,v2,g5,g6,g7⟩,g3,g4⟩
   subst g5
   exact⟨u,v2++val::us',by rw[g1];rfl,g6,(mT pre x rest _).2 ⟨v2,val,us',rfl,g7,g3,g4⟩⟩
theorem bQ.YN {P:Program}{g:FuncId}(pre:List V){x:V}{d:D}{rest:List V}{o:Nat->ab}{nx:Nat}{K X:V->(Nat->ab)->Nat->Prop}(hx:dM o x=some d)
 (h:bQ P g (pre++ .d d::rest) (put o (bG o x.ids)) nx K X):bQ P g (pre++x::rest) o nx K X:=by
 refine⟨h.1,fun M φ w vals hH hd=> ?_⟩
 have hd0:=hd
 obtain⟨v1,val,us,lN,qs,hv,dY⟩:=(mT pre x rest vals.toList).1 hd
 have hu:=fun id ax=>cV x val hv id ax
 obtain⟨f1,f2,f3,f4,f5⟩:=cZ (H:=hp o nx) hH x.ids hu
 have fK:(hp o nx).put (bG o x.ids)=hp (put o (bG o x.ids)) nx:=Bm (fun y hy=>by
  simp only[bG,List.mem_map]at hy
  obtain⟨id,ax,rfl⟩:=hy
  exact hu id ax)
 have U4:=f1;have U5:=f2
 rw[show bG (hp o nx).o x.ids=bG o x.ids from rfl,fK]at U4 U5
 have O7:∀k,cL φ ((hp o nx).put (bG o x.ids)) k->cL φ (hp o nx) k:=by
  rintro k ⟨id,g1,g2⟩
  by_cases ax:id∈x.ids
  ·have:=f3 id ax
   rw[show((hp o nx).put (bG o x.ids)).o id=_ from this]at g1
   refine⟨id, ?_,g2⟩
   revert g1
   cases(hp o nx).o id<;>simp[ab.fz,ab.live]
  ·have:=f4 id ax
   exact SX
 have zV:∀j,kC (((hp o nx).put (bG o x.ids)).o j) ((hp o nx).o j):=fun j=>by
  by_cases hm:j∈x.ids
  ·exact Sk
  ·exact Sd
 have h4:=V.kn (H:=hp o nx) (H':=(hp o nx).put (bG o x.ids)) (B:=aq M φ (hp o nx)) (B':=aq M φ ((hp o nx).put (bG o x.ids))) (fun k h h'=>h (h'.imp id (O7 k))) x val (fun id ax=>⟨zV id,rfl,(f5 id).2 ((V.jN x val hv) id ax)⟩) hv
 have h5:=eQ f1 (o:=o) x d val (fun id ax=>f3 id ax) hx h4
 have h6:=V.eI (H:=hp o nx) (H':=(hp o nx).put (bG o x.ids)) (B:=aq M φ (hp o nx)) (B':=aq M φ ((hp o nx).put (bG o x.ids))) (fun k h h'=>h (h'.imp id (O7 k))) rest us (fun id ax=>⟨zV id,rfl,(f5 id).2 ((V.ej rest us dY) id ax)⟩) dY
 have h7:=V.eI (H:=hp o nx) (H':=(hp o nx).put (bG o x.ids)) (B:=aq M φ (hp o nx)) (B':=aq M φ ((hp o nx).put (bG o x.ids))) (fun k h h'=>h (h'.imp id (O7 k))) pre v1 (fun id ax=>⟨zV id,rfl,(f5 id).2 ((V.ej pre v1 qs) id ax)⟩) qs
 rw[show(hp o nx).put (bG (hp o nx).o x.ids)=hp (put o (bG o x.ids)) nx from fK]at h5
 rw[fK]at h6 h7
 refine(h.2 M φ w vals U4 ((mT pre (.d d) rest vals.toList).2 ⟨v1,val,us,lN,h7,h5,h6⟩)).mono ?_
 rintro e w' ⟨aJ,o',nx',v,k1,k2,k3⟩
 exact⟨aJ,o',nx',v,k1,U5.trans k2,k3⟩
end Go.Proofs.YtlhemmpklhhgoaaGreat
set_option maxHeartbeats 8000000
namespace Go.Proofs.YtlhemmpklhhgoaaGreat
def eqE(nx x:Nat):List V:=[.ptr x 0, .ad, .ad, .ad, .ptr nx 0, .ptr (nx+1) 0, .osl (nx+8) 0]
theorem xg{s:aA}{lim:Bool}{b:List (Int×Tm)}{L:List TB}{a c:Tm}(hb:qJ s b)(ha:QT s a)(hc:QT s c)(hL:L.length<=100){f:Nat}{e:Int}{b':List (Int×Tm)}(hf:iw lim f a c b=some (e,b'))
 {x m:Nat} {xl:V} (o o1:Nat->ab) (nx:Nat) (gn:Nat->Prop) (hg:Good o nx) (EE:Good o1 nx) (hx:o x= .row [.mp m,xl, .d (.bool lim)]) (hm:o m=dv b) (hl:fW o gn 59 4 (L.map TB.d) xl)
 (ta:∀j,gn j->j<nx/\j≠x/\j≠m/\o1 j= .no) (h1:∀j,j<nx->o1 j= .no\/o j=o1 j) (K X:V->(Nat->ab)->Nat->Prop)
 (aY:e=0->∀E:List TB,b'=b++ah E->∀o' nx',nx+8<=nx'->Good o' nx'->EqH o' x m (nx+7) 0 lim b' (L++E)->(∀j,j<nx->j≠x->j≠m->o' j=o1 j)->K (.bW []) o' nx')
 (nk:e=5->∀o' nx',nx<=nx'->Good o' nx'->(∀j,j<nx->j≠x->j≠m->o' j=o1 j)->X (.d (.iface 162 (.agg []))) o' nx')
 (Au:e=3->∀o' nx',nx<=nx'->Good o' nx'->(∀j,j<nx->j≠x->j≠m->o' j=o1 j)->X (.d (.iface 163 (.agg []))) o' nx'):
 bQ Tryz.prog 103 [.ptr x 0, .d a.d, .d c.d] o nx K X:=by
 have lx:x<nx:=hg.lt LM
 have lm:m<nx:=hg.lt GI
 have ck:x≠m:=fun e=>by subst e;rw[hx]at hm;cases hm
 obtain⟨N,hN⟩:=N4 hb ha hc hf
 refine bQ.aG mix Uc aE ?_
 rw[Xt]
 refine Ld hx hm ?_
 refine aD (fun i:Nat×List (Tm×Tm)×List TB=>⟨aZ (eqE nx x),sj o1 nx x m lim a c (b++ah i.2.2) (L++i.2.2) (i.2.1.reverse.map xe),nx+9⟩)
  (fun i=>ku lim 1000000000 i.1 i.2.1 (b++ah i.2.2)=some (e,b')/\qJ s (b++ah i.2.2)/\∀p∈i.2.1,QT s p.1/\QT s p.2) (fun i=>i.1) (N,[(a,c)],[])
  ⟨by simpa[ah]using hN,by simpa[ah]using hb,fun p hp=>by simp at hp;subst hp;exact⟨ha,hc⟩⟩ ?_ ?_
 ·dsimp only
  have gx: ¬gn x:=fun h=>(ta x h).2.1 rfl
  have gm: ¬gn m:=fun h=>(ta m h).2.2.1 rfl
  refine o8 lx lm ck (fun j=>gn j\/j=nx+5) xl (.osl (nx+5) 0) _ EE (fun id h=> ?_) ?_ (.inr ⟨nx+5,0, .inr rfl,rfl,by(repeat(first|rfl|rw[aa]|rw[ae _ _ _ _ (by omega)]))⟩) (fun id ep gr h h'=> ?_) (by(repeat(first|rfl|rw[aa]|rw[ae _ _ _ _ (by omega)]));exact hx) (by(repeat(first|rfl|rw[aa]|rw[ae _ _ _ _ (by omega)]));rw[hm];simp[ah]) (fun j j1 j2 j3=> ?_) ?_
  ·rcases h with h|h
   ·obtain⟨h1,h2,h3,h4⟩:=ta id h
    exact .inr ⟨h4,af,af,h2,h3⟩
   ·exact .inr ⟨EE.fresh _ af,af,af,af,af⟩
  ·rcases hl with h|⟨id,ep,h1,h2,h3⟩
   ·exact .inl (by simpa using h)
   ·have:=(ta id h1).1
    exact .inr ⟨id,ep, .inl h1,h2,by(repeat(first|rfl|rw[aa]|rw[ae _ _ _ _ (by omega)]));simpa using h3⟩
  ·rcases hl with⟨h1,_⟩|⟨BO,ahz,h1,h2,h3⟩
   ·rw[h1]at h;cases h
   ·have:=(ta BO h1).1
    rw[h2]at h
    cases h
    cases h'
    omega
  ·by_cases e1:j=nx
   ·subst e1;rw[eqS_0 lx lm ck];right;(repeat(first|rfl|rw[aa]|rw[ae _ _ _ _ (by omega)]))
   ·by_cases e2:j=nx+1
    ·subst e2;rw[eqS_1 lx lm ck];right;(repeat(first|rfl|rw[aa]|rw[ae _ _ _ _ (by omega)]))
    ·rw[sA e1 e2 j2 j3 (by omega) (by omega)]
     by_cases e3:j<nx
     ·rcases h1 j e3 with h|h
      ·exact .inl h
      ·right;(repeat(first|rfl|rw[aa]|rw[ae _ _ _ _ (by omega)]));exact h
     ·left;exact EE.fresh j af
  ·unfold eqE
   (repeat(first|exact gR|refine cD ?_|refine c7 rfl ?_|refine c7 (mW (pB af)) ?_|refine jP 0 rfl rfl rfl ?_|refine iG rfl R3 ?_|refine mh rfl R4 ?_))
   exact Je
 rintro⟨n,st,E⟩ ⟨hM,hA,hS⟩
 dsimp only at hM hA hS|-
 have f0:=eqS_0 (o:=o1) (lim:=lim) (a:=a) (c:=c) (b:=b++ah E) (L:=L++E) (st:=st.reverse.map xe) lx lm ck
 have f1:=eqS_1 (o:=o1) (lim:=lim) (a:=a) (c:=c) (b:=b++ah E) (L:=L++E) (st:=st.reverse.map xe) lx lm ck
 have fx:=N6 (o:=o1) (lim:=lim) (a:=a) (c:=c) (b:=b++ah E) (L:=L++E) (st:=st.reverse.map xe) lx lm ck
 have fm:=N7 (o:=o1) (lim:=lim) (a:=a) (c:=c) (b:=b++ah E) (L:=L++E) (st:=st.reverse.map xe) lx lm ck
 have f7:=eqS_7 (o:=o1) (lim:=lim) (a:=a) (c:=c) (b:=b++ah E) (L:=L++E) (st:=st.reverse.map xe) lx lm ck
 have f8:=eqS_8 (o:=o1) (lim:=lim) (a:=a) (c:=c) (b:=b++ah E) (L:=L++E) (st:=st.reverse.map xe) lx lm ck
 unfold eqE
 cases n with
 |zero=>cases hM
 |succ n=>
 cases st with
 |nil=>
  simp only[ku]at hM
  injection hM with hM
  injection hM with hM1 hM2
  simp only[List.reverse_nil,List.map_nil]at f0 f1 fx fm f7 f8|-
  refine Vu f0 f1 fm f7 f8 ?_
  refine aY hM1.symm E hM2.symm _ _ af (Good.mono (jQ lx lm ck EE) af) ⟨fx,hM2 ▸ fm,f7⟩ (fun j h1 h2 h3=> ?_)
  exact sA af af h2 h3 af af
 |cons p st=>
 obtain⟨t,u⟩:=p
 have KU:Good o1 nx:=EE
 have hlen:(st.length:Int)+1>0:=af
 have hrv:((t,u)::st).reverse.map xe=st.reverse.map xe++[xe (t,u)]:=aE
 rw[hrv]at f0 f1 fx fm f7 f8|-
 have kB:st.length<1000000000:=by
  refine Classical.byContradiction fun h=> ?_
  simp only[ku]at hM
  rw[if_pos (by omega)]at hM
  cases hM
 have fR:decide ((0:Int)<((st.length+1:Nat):Int))=true:=by rw[decide_eq_true_eq];omega
 have uu:((st.length+1:Nat):Int) - 1=(st.length:Nat):=af
 have pY:(st.reverse.map xe++[xe (t,u)])[st.length]? =some (xe (t,u)):=by
  rw[List.getElem?_append_right (by simp)]
  simp
 have ahb:(if((st.length:Nat):Int)=0 then some (V.osl (nx+8) 1,[(nx+8,ab.arr 1 106 6 [])],[nx+8])else some (V.osl (nx+8) 1,[(nx+8,ab.arr 1 106 6 (List.take st.length (st.reverse.map xe++[xe (t,u)])))],[nx+8]))=some (V.osl (nx+8) 1,[(nx+8,ab.arr 1 106 6 (st.reverse.map xe))],[nx+8]):=by
  split
  ·have Jn:st=[]:=List.eq_nil_of_length_eq_zero af
   subst Jn
   rfl
  ·rw[List.take_append_of_le_length (by simp),List.take_of_length_le (by simp)]
 obtain⟨xt,hxt,qxt,uxt⟩:=iy hA (hS (t,u) aE).1
 obtain⟨xu,L9,qxu,uxu⟩:=iy hA (hS (t,u) aE).2
 simp+contextual (disch:=first|omega|simp only[go_sem,false_implies]) only[go_sem,wrap64,if_pos,f0,f1,fx,fm,f7,f8,Nat.add_assoc,Nat.left_eq_add,Nat.add_eq_left,Nat.add_left_cancel_iff,List.length_map,List.length_append,List.length_reverse,fR,uu,pY,ahb]
 refine Eb gP (N5 hxt I5) ?_
 refine Vu f0 f1 fm f7 f8 ?_
 refine Eb gP (N5 L9 I5) ?_
 refine Vu f0 f1 fm f7 f8 ?_
 refine aI (bu (ids:=[x,nx+18,m,nx+40,nx+41]) (nx:=nx+44) gP gP [([],[]),([0],[]),([0],[]),([0],[]),([1],[]),([1],[]),([2],[]),([],[]),([0],[]),([0],[]),([0],[]),([1],[]),([1],[]),([2],[]),([],[3]),([],[4]),([3],[3]),([4],[4])] bC) ?_
 simp only[ku]at hM
 rw[if_neg (by omega),hxt,L9]at hM
 dsimp only at hM
 have hLE:(L++E).length<=1000:=by
  have h20:=DY hA.keys fun v hv=>by
   obtain⟨p,hp,rfl⟩:=List.mem_map.1 hv
   exact(hA.ok p hp).1
  rw[List.length_map,List.length_append,ah,List.length_map]at h20
  rw[List.length_append]
  omega
 have Il:∀p∈st,QT s p.1/\QT s p.2:=fun p hp=>hS p (by simp[hp])
 by_cases h1:xt.op=1
 ·rw[if_pos h1]at hM
  have eW:(xt.op==1)=true:=by simpa using h1
  by_cases h2:xu.op=1
  ·rw[if_pos h2]at hM
   have mY:(xu.op==1)=true:=by simpa using h2
   by_cases h3:xt.n=xu.n
   ·rw[if_pos h3]at hM
    have kK:(xt.n !=xu.n)=false:=by simp[h3]
    simp+contextual (disch:=first|omega|simp only[go_sem,false_implies]) only[go_sem,wrap64,if_pos,f0,f1,fx,fm,f7,f8,Nat.add_assoc,Nat.left_eq_add,Nat.add_eq_left,Nat.add_left_cancel_iff,kY,eW,mY,kK,Bool.and_self]
    refine aj (n,st,E) ⟨hM,hA,Il⟩ (Nat.lt_succ_self n) (o8 lx lm ck (fun j=>nx+7<=j) (.osl (nx+7) 0) (.osl (nx+8) 1) _ EE (fun id h=> .inl h) (.inr ⟨nx+7,0,Nat.le_refl _,rfl,by(repeat(first|rfl|rw[aa]|rw[ae _ _ _ _ (by omega)]));exact f7⟩) (.inr ⟨nx+8,1,af,rfl,by(repeat(first|rfl|rw[aa]|rw[ae _ _ _ _ (by omega)]))⟩) (fun id ep gr h h'=>by cases h;cases h') Pt I5 (fun j j1 j2 j3=> ?_) ?_)
    ·right
     (repeat(first|rfl|rw[aa]|rw[ae _ _ _ _ (by omega)]))
     exact B4
    ·(repeat(first|exact gR|refine cD ?_|refine c7 rfl ?_|refine c7 (mW (pB af)) ?_|refine jP 0 rfl rfl rfl ?_|refine iG rfl R3 ?_|refine mh rfl R4 ?_))
     exact Je
   ·rw[if_neg h3]at hM
    have kK:(xt.n !=xu.n)=true:=by simp[h3]
    obtain⟨rt,et⟩:=qxt.eta h1
    obtain⟨ru,eu⟩:=qxu.eta h2
    have lmx:bS (b++ah E) (max xt.n xu.n)=none:=by
     rw[Int.max_def];split
     ·exact uxu h2
     ·exact uxt h1
    simp+contextual (disch:=first|omega|simp only[go_sem,false_implies]) only[go_sem,wrap64,if_pos,f0,f1,fx,fm,f7,f8,Nat.add_assoc,Nat.left_eq_add,Nat.add_eq_left,Nat.add_left_cancel_iff,kY,eW,mY,kK,Bool.and_self]
    have em:(if xu.n>xt.n then xu.n else xt.n)=max xt.n xu.n:=by rw[Int.max_def];split<;>split<;>omega
    have en:(if xu.n<xt.n then xu.n else xt.n)=min xt.n xu.n:=by rw[Int.min_def];split<;>split<;>omega
    rw[em,en]
    refine aU (bQ.YN [.ptr x 0, .d (.i (max xt.n xu.n))] (d:=(Tm.mk 1 (min xt.n xu.n) []).d) (rest:=[]) rfl ?_)
    simp only[V.ids,V.bg,List.append_nil,bG,List.map_nil,MI,List.cons_append,List.nil_append]
    refine Gi (s:=s) (lim:=lim) (b:=b++ah E) (L:=L++E) (n:=max xt.n xu.n) (y:= .mk 1 (min xt.n xu.n) []) hA lmx af (QT.var af) hLE (x:=x) (m:=m) (l:=nx+7) _ _ ?_ ⟨?_, ?_, ?_⟩ _ _ (fun nj o2 n2 k1 k2 k3 k4=> ?_) (fun nj o2 n2 k1 k2 k4=> ?_) (fun nj o2 n2 k1 k2 k4=> ?_)
    ·refine Good.ay (Good.ay (Good.ay (Good.ay (Good.ay (Good.ay (Good.ay (Good.mono (jQ lx lm ck EE) af) af rfl) af rfl) af rfl) af rfl) af rfl) af rfl) af rfl
    ·exact Pt
    ·exact I5
    ·exact Ll
    ·rw[nj,if_pos rfl]at hM
     obtain⟨g1,g2,g3⟩:=k3
     refine bY ?_
     refine aj (n,st,E++[⟨max xt.n xu.n, .mk 1 (min xt.n xu.n) []⟩]) ⟨by rw[dS];simpa[ah]using hM,by have:=(o7 (lim:=lim) (n:=max xt.n xu.n) (y:= .mk 1 (min xt.n xu.n) []) hA lmx af (QT.var af) (by rw[nj])).1;rw[nj]at this;rw[dS];simpa[ah]using this,Il⟩ (Nat.lt_succ_self n) (o8 lx lm ck (fun j=>nx+7<=j) (.osl (nx+7) 1) (.osl (nx+8) 1) _ EE (fun id h=> .inl h) (.inr ⟨nx+7,1,Nat.le_refl _,rfl,by rw[g3,List.append_assoc]⟩) (.inr ⟨nx+8,1,af,rfl,by rw[k4 _ (by omega) (by omega) (by omega) (by omega)];(repeat(first|rfl|rw[aa]|rw[ae _ _ _ _ (by omega)]))⟩) (fun id ep gr h h'=>by cases h;cases h') g1 (by rw[g2,dS];simp[ah]) (fun j j1 j2 j3=> ?_) ?_)
     ·right
      rw[k4 j (by omega) j2 j3 (by omega)]
      (repeat(first|rfl|rw[aa]|rw[ae _ _ _ _ (by omega)]))
      exact B4
     ·(repeat(first|exact gR|refine cD ?_|refine c7 rfl ?_|refine c7 (mW (pB af)) ?_|refine jP 0 rfl rfl rfl ?_|refine iG rfl R3 ?_|refine mh rfl R4 ?_))
      exact Je
    ·rw[if_neg (by rw[nj];decide)]at hM
     have he:e=5:=by injection hM with hM;rw[hM]at nj;exact nj
     refine bY ?_
     refine nk he _ _ af k2 (fun j j1 j2 j3=> ?_)
     rw[k4 j (by omega) j2 j3 (by omega)]
     (repeat(first|rfl|rw[aa]|rw[ae _ _ _ _ (by omega)]))
     exact Ja
    ·rw[if_neg (by rw[nj];decide)]at hM
     have he:e=3:=by injection hM with hM;rw[hM]at nj;exact nj
     refine bY ?_
     refine Au he _ _ af k2 (fun j j1 j2 j3=> ?_)
     rw[k4 j (by omega) j2 j3 (by omega)]
     (repeat(first|rfl|rw[aa]|rw[ae _ _ _ _ (by omega)]))
     exact Ja
  ·rw[if_neg h2]at hM
   have mY:(xu.op==1)=false:=by simpa using h2
   obtain⟨rt,et⟩:=qxt.eta h1
   simp+contextual (disch:=first|omega|simp only[go_sem,false_implies]) only[go_sem,wrap64,if_pos,f0,f1,fx,fm,f7,f8,Nat.add_assoc,Nat.left_eq_add,Nat.add_eq_left,Nat.add_left_cancel_iff,kY,eW,mY,Bool.and_false]
   refine aU (Gi (s:=s) (lim:=lim) (b:=b++ah E) (L:=L++E) (n:=xt.n) (y:=xu) hA (uxt h1) rt qxu hLE (x:=x) (m:=m) (l:=nx+7) _ _ ?_ ⟨?_, ?_, ?_⟩ _ _ (fun nj o2 n2 k1 k2 k3 k4=> ?_) (fun nj o2 n2 k1 k2 k4=> ?_) (fun nj o2 n2 k1 k2 k4=> ?_))
   ·refine Good.ay (Good.ay (Good.ay (Good.ay (Good.ay (Good.ay (Good.ay (Good.mono (jQ lx lm ck EE) af) af rfl) af rfl) af rfl) af rfl) af rfl) af rfl) af rfl
   ·exact Pt
   ·exact I5
   ·exact Ll
   ·rw[nj,if_pos rfl]at hM
    obtain⟨g1,g2,g3⟩:=k3
    refine bY ?_
    refine aj (n,st,E++[⟨xt.n,xu⟩]) ⟨by rw[dS];simpa[ah]using hM,by have:=(o7 (lim:=lim) hA (uxt h1) rt qxu (by rw[nj])).1;rw[nj]at this;rw[dS];simpa[ah]using this,Il⟩ (Nat.lt_succ_self n) (o8 lx lm ck (fun j=>nx+7<=j) (.osl (nx+7) 1) (.osl (nx+8) 1) _ EE (fun id h=> .inl h) (.inr ⟨nx+7,1,Nat.le_refl _,rfl,by rw[g3,List.append_assoc]⟩) (.inr ⟨nx+8,1,af,rfl,by rw[k4 _ (by omega) (by omega) (by omega) (by omega)];(repeat(first|rfl|rw[aa]|rw[ae _ _ _ _ (by omega)]))⟩) (fun id ep gr h h'=>by cases h;cases h') g1 (by rw[g2,dS];simp[ah]) (fun j j1 j2 j3=> ?_) ?_)
    ·right
     rw[k4 j (by omega) j2 j3 (by omega)]
     (repeat(first|rfl|rw[aa]|rw[ae _ _ _ _ (by omega)]))
     exact B4
    ·(repeat(first|exact gR|refine cD ?_|refine c7 rfl ?_|refine c7 (mW (pB af)) ?_|refine jP 0 rfl rfl rfl ?_|refine iG rfl R3 ?_|refine mh rfl R4 ?_))
     exact Je
   ·rw[if_neg (by rw[nj];decide)]at hM
    have he:e=5:=by injection hM with hM;rw[hM]at nj;exact nj
    refine bY ?_
    refine nk he _ _ af k2 (fun j j1 j2 j3=> ?_)
    rw[k4 j (by omega) j2 j3 (by omega)]
    (repeat(first|rfl|rw[aa]|rw[ae _ _ _ _ (by omega)]))
    exact Ja
   ·rw[if_neg (by rw[nj];decide)]at hM
    have he:e=3:=by injection hM with hM;rw[hM]at nj;exact nj
    refine bY ?_
    refine Au he _ _ af k2 (fun j j1 j2 j3=> ?_)
    rw[k4 j (by omega) j2 j3 (by omega)]
    (repeat(first|rfl|rw[aa]|rw[ae _ _ _ _ (by omega)]))
    exact Ja
 ·rw[if_neg h1]at hM
  have eW:(xt.op==1)=false:=by simpa using h1
  by_cases h2:xu.op=1
  ·rw[if_pos h2]at hM
   have mY:(xu.op==1)=true:=by simpa using h2
   obtain⟨ru,eu⟩:=qxu.eta h2
   simp+contextual (disch:=first|omega|simp only[go_sem,false_implies]) only[go_sem,wrap64,if_pos,f0,f1,fx,fm,f7,f8,Nat.add_assoc,Nat.left_eq_add,Nat.add_eq_left,Nat.add_left_cancel_iff,kY,eW,mY,Bool.false_and]
   refine aU (Gi (s:=s) (lim:=lim) (b:=b++ah E) (L:=L++E) (n:=xu.n) (y:=xt) hA (uxu h2) ru qxt hLE (x:=x) (m:=m) (l:=nx+7) _ _ ?_ ⟨?_, ?_, ?_⟩ _ _ (fun nj o2 n2 k1 k2 k3 k4=> ?_) (fun nj o2 n2 k1 k2 k4=> ?_) (fun nj o2 n2 k1 k2 k4=> ?_))
   ·refine Good.ay (Good.ay (Good.ay (Good.ay (Good.ay (Good.ay (Good.ay (Good.mono (jQ lx lm ck EE) af) af rfl) af rfl) af rfl) af rfl) af rfl) af rfl) af rfl
   ·exact Pt
   ·exact I5
   ·exact Ll
   ·rw[nj,if_pos rfl]at hM
    obtain⟨g1,g2,g3⟩:=k3
    refine bY ?_
    refine aj (n,st,E++[⟨xu.n,xt⟩]) ⟨by rw[dS];simpa[ah]using hM,by have:=(o7 (lim:=lim) hA (uxu h2) ru qxt (by rw[nj])).1;rw[nj]at this;rw[dS];simpa[ah]using this,Il⟩ (Nat.lt_succ_self n) (o8 lx lm ck (fun j=>nx+7<=j) (.osl (nx+7) 1) (.osl (nx+8) 1) _ EE (fun id h=> .inl h) (.inr ⟨nx+7,1,Nat.le_refl _,rfl,by rw[g3,List.append_assoc]⟩) (.inr ⟨nx+8,1,af,rfl,by rw[k4 _ (by omega) (by omega) (by omega) (by omega)];(repeat(first|rfl|rw[aa]|rw[ae _ _ _ _ (by omega)]))⟩) (fun id ep gr h h'=>by cases h;cases h') g1 (by rw[g2,dS];simp[ah]) (fun j j1 j2 j3=> ?_) ?_)
    ·right
     rw[k4 j (by omega) j2 j3 (by omega)]
     (repeat(first|rfl|rw[aa]|rw[ae _ _ _ _ (by omega)]))
     exact B4
    ·(repeat(first|exact gR|refine cD ?_|refine c7 rfl ?_|refine c7 (mW (pB af)) ?_|refine jP 0 rfl rfl rfl ?_|refine iG rfl R3 ?_|refine mh rfl R4 ?_))
     exact Je
   ·rw[if_neg (by rw[nj];decide)]at hM
    have he:e=5:=by injection hM with hM;rw[hM]at nj;exact nj
    refine bY ?_
    refine nk he _ _ af k2 (fun j j1 j2 j3=> ?_)
    rw[k4 j (by omega) j2 j3 (by omega)]
    (repeat(first|rfl|rw[aa]|rw[ae _ _ _ _ (by omega)]))
    exact Ja
   ·rw[if_neg (by rw[nj];decide)]at hM
    have he:e=3:=by injection hM with hM;rw[hM]at nj;exact nj
    refine bY ?_
    refine Au he _ _ af k2 (fun j j1 j2 j3=> ?_)
    rw[k4 j (by omega) j2 j3 (by omega)]
    (repeat(first|rfl|rw[aa]|rw[ae _ _ _ _ (by omega)]))
    exact Ja
  ·rw[if_neg h2]at hM
   have mY:(xu.op==1)=false:=by simpa using h2
   by_cases h3:xt.op=xu.op/\xt.n=xu.n/\xt.kids.length=xu.kids.length
   ·rw[if_pos h3]at hM
    obtain⟨h3a,h3b,h3c⟩:=h3
    have c1:(xt.op !=xu.op)=false:=by simp[h3a]
    have c2:(xt.n !=xu.n)=false:=by simp[h3b]
    have c3:((xt.kids.length:Int)!=(xu.kids.length:Int))=false:=by simp[h3c]
    have Ag:xt.kids.length<=2000:=by have:=mQ xt.kids;have:=Tm.ko xt;have:=qxt.sz;omega
    simp+contextual (disch:=first|omega|simp only[go_sem,false_implies]) only[go_sem,wrap64,if_pos,f0,f1,fx,fm,f7,f8,Nat.add_assoc,Nat.left_eq_add,Nat.add_eq_left,Nat.add_left_cancel_iff,kY,eW,mY,Bool.and_self,c1,c2,c3,List.length_map]
    obtain⟨len,pN⟩:∃len,xt.kids.length=len:=⟨_,rfl⟩
    have hlu:xu.kids.length=len:=by rw[<- h3c,pN]
    refine aD (fun j:Nat=>⟨aZ [.ptr x 0, .ad, .ad, .ad, .ptr nx 0, .ptr (nx+1) 0, .osl (nx+87) 0, .ad, .ptr (nx+40) 0, .ptr (nx+41) 0, .d (.i ((len:Int) - 1 - (j:Int)))],ay (ay (ay (ay (sj o1 nx x m lim a c (b++ah E) (L++E) []) (nx+8) .no) (nx+40) (.row xt.row)) (nx+41) (.row xu.row)) (nx+87) (.arr 0 106 6 (st.reverse.map xe++((xt.kids.zip xu.kids).reverse.take j).map xe)),nx+88⟩)
     (fun j=>j<=len) (fun j=>len - j) 0 (Nat.zero_le _) (N8 lx lm ck (fun id=>id=nx+8) (.osl (nx+8) 1) _ EE (fun id h=> .inr h) (.inr ⟨nx+8,1,rfl,rfl,by(repeat(first|rfl|rw[aa]|rw[ae _ _ _ _ (by omega)]));simp⟩) cg cg (fun j j1 j2 j3 j4=>by(repeat(first|rfl|rw[aa]|rw[ae _ _ _ _ (by omega)]));exact YM j2) ?_) (fun j hj=> ?_)
    ·(repeat(first|exact gR|refine cD ?_|refine c7 rfl ?_|refine c7 (mW (pB af)) ?_|refine jP 0 rfl rfl rfl ?_|refine iG rfl R3 ?_|refine mh rfl R4 ?_))
     refine c7 (mW af) ?_
     exact kG
    ·replace hj:j<=len:=hj
     have q40:∀l,ay (ay (ay (ay (sj o1 nx x m lim a c (b++ah E) (L++E) []) (nx+8) .no) (nx+40) (.row xt.row)) (nx+41) (.row xu.row)) (nx+87) (.arr 0 106 6 l) (nx+40)= .row xt.row:=fun l=>by(repeat(first|rfl|rw[aa]|rw[ae _ _ _ _ (by omega)]))
     have q41:∀l,ay (ay (ay (ay (sj o1 nx x m lim a c (b++ah E) (L++E) []) (nx+8) .no) (nx+40) (.row xt.row)) (nx+41) (.row xu.row)) (nx+87) (.arr 0 106 6 l) (nx+41)= .row xu.row:=fun l=>by(repeat(first|rfl|rw[aa]|rw[ae _ _ _ _ (by omega)]))
     have hrl:(xt.kids.zip xu.kids).reverse.length=len:=by rw[List.length_reverse,List.length_zip,pN,hlu];omega
     refine fZ ?_
     refine ao (fun h4=> ?_) (fun h4=> ?_)
     ·have h4:j<len:=by simp at h4;omega
      obtain⟨i0,hi0⟩:∃i0:Nat,(len:Int) - 1 - (j:Int)=(i0:Int):=⟨len - 1 - j,af⟩
      rw[hi0]
      obtain⟨z1,hz1⟩:=aB (show i0<xt.kids.length from af)
      obtain⟨z2,YO⟩:=aB (show i0<xu.kids.length from af)
      have hrz:(xt.kids.zip xu.kids).reverse[j]? =some (z1,z2):=by
       rw[List.getElem?_reverse (by rw[List.length_zip];omega),List.length_zip,pN,hlu,show min len len - 1 - j=i0 by omega,List.getElem?_zip_eq_some]
       exact⟨hz1,YO⟩
      have oz:(xt.kids.zip xu.kids).reverse.take (j+1)=(xt.kids.zip xu.kids).reverse.take j++[(z1,z2)]:=by rw[List.take_add_one,hrz];rfl
      have e0:((xt.kids.zip xu.kids).reverse.take j).length=j:=by rw[List.length_take];omega
      have eE:st.length+j<=140737488355327/\(st.length+j+1)*80<=140737488355328:=af
      simp+contextual (disch:=first|omega|simp only[go_sem,false_implies]) only[go_sem,wrap64,if_pos,Nat.add_assoc,Nat.left_eq_add,Nat.add_eq_left,Nat.add_left_cancel_iff,hz1,YO,List.length_map,List.length_append,List.length_reverse,e0,eE]
      refine aI (bu (ids:=[nx+40,nx+41,nx+102,nx+87]) (nx:=nx+105) aE aE [([],[]),([0],[]),([0],[]),([],[]),([],[]),([],[]),([1],[]),([1],[]),([],[]),([],[]),([],[]),([],[]),([],[2]),([3,2],[3]),([],[])] bC) ?_
      refine fZ ?_
      refine aj (j+1) h4 af (N8 lx lm ck (fun id=>nx+87<=id) (.osl (nx+87) 1) _ EE (fun id h=> .inl h) (.inr ⟨nx+87,1,Nat.le_refl _,rfl,by(repeat(first|rfl|rw[aa]|rw[ae _ _ _ _ (by omega)]));rw[oz,List.map_append,List.append_assoc];rfl⟩) cg cg (fun j j1 j2 j3 j4=>by(repeat(first|rfl|rw[aa]|rw[ae _ _ _ _ (by omega)]))) ?_)
      (repeat(first|exact gR|refine cD ?_|refine c7 rfl ?_|refine c7 (mW (pB af)) ?_|refine jP 0 rfl rfl rfl ?_|refine iG rfl R3 ?_|refine mh rfl R4 ?_))
      refine c7 (mW af) ?_
      exact kG
     ·have h4:j=len:=by simp at h4;omega
      subst h4
      refine fZ ?_
      refine aj (n,xt.kids.zip xu.kids++st,E) ⟨hM,hA,fun p hp=> ?_⟩ (Nat.lt_succ_self n) (o8 lx lm ck (fun j=>nx+7<=j) (.osl (nx+7) 0) (.osl (nx+87) 0) _ EE (fun id h=> .inl h) (.inr ⟨nx+7,0,Nat.le_refl _,rfl, ?_⟩) (.inr ⟨nx+87,0,af,rfl, ?_⟩) (fun id ep gr h h'=>by cases h;cases h') ?_ ?_ (fun j j1 j2 j3=> ?_) ?_)
      ·rcases List.mem_append.1 hp with hp|hp
       ·exact⟨qxt.kA (List.of_mem_zip hp).1,qxu.kA (List.of_mem_zip hp).2⟩
       ·exact Il p hp
      ·(repeat(first|rfl|rw[aa]|rw[ae _ _ _ _ (by omega)]))
       exact eqS_7 lx lm ck
      ·(repeat(first|rfl|rw[aa]|rw[ae _ _ _ _ (by omega)]))
       rw[List.take_of_length_le (by omega),List.reverse_append,List.map_append]
      ·(repeat(first|rfl|rw[aa]|rw[ae _ _ _ _ (by omega)]))
       exact N6 lx lm ck
      ·(repeat(first|rfl|rw[aa]|rw[ae _ _ _ _ (by omega)]))
       exact N7 lx lm ck
      ·right
       (repeat(first|rfl|rw[aa]|rw[ae _ _ _ _ (by omega)]))
       exact B4
      ·(repeat(first|exact gR|refine cD ?_|refine c7 rfl ?_|refine c7 (mW (pB af)) ?_|refine jP 0 rfl rfl rfl ?_|refine iG rfl R3 ?_|refine mh rfl R4 ?_))
       exact Je
   ·rw[if_neg h3]at hM
    injection hM with hM
    injection hM with hM1 hM2
    by_cases c1:(xt.op !=xu.op)=true
    ·simp+contextual (disch:=first|omega|simp only[go_sem,false_implies]) only[go_sem,wrap64,if_pos,f0,f1,fx,fm,f7,f8,Nat.add_assoc,Nat.left_eq_add,Nat.add_eq_left,Nat.add_left_cancel_iff,kY,eW,mY,Bool.and_self,c1,List.length_map]
     exact VA
    have c1':(xt.op !=xu.op)=false:=by simpa using c1
    by_cases c2:(xt.n !=xu.n)=true
    ·simp+contextual (disch:=first|omega|simp only[go_sem,false_implies]) only[go_sem,wrap64,if_pos,f0,f1,fx,fm,f7,f8,Nat.add_assoc,Nat.left_eq_add,Nat.add_eq_left,Nat.add_left_cancel_iff,kY,eW,mY,Bool.and_self,c1',c2,List.length_map]
     exact VA
    have c2':(xt.n !=xu.n)=false:=by simpa using c2
    have c3:((xt.kids.length:Int)!=(xu.kids.length:Int))=true:=by
     rw[bne_iff_ne]
     intro h
     exact h3 ⟨by simpa using c1',by simpa using c2',af⟩
    simp+contextual (disch:=first|omega|simp only[go_sem,false_implies]) only[go_sem,wrap64,if_pos,f0,f1,fx,fm,f7,f8,Nat.add_assoc,Nat.left_eq_add,Nat.add_eq_left,Nat.add_left_cancel_iff,kY,eW,mY,Bool.and_self,c1',c2',c3,List.length_map]
    exact VA
end Go.Proofs.YtlhemmpklhhgoaaGreat
