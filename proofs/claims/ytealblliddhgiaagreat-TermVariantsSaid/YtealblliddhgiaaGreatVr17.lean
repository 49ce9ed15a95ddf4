/-
  A PART OF THE PROOF. Conditions: none.
-/
import Derived.Test.YtealblliddhgiaaGreatVr16
set_option linter.unusedSimpArgs false
set_option linter.unusedVariables false
namespace Go.Proofs.YtealblliddhgiaaGreat
theorem AO{t a body:Tm}{v:Int}(h8:t.op=8)(hk:t.kids=[a,body]):jL v t=(jL v a||(jL v body&& !(t.n==v))):=by
 rw[lz,hk,h8]
 simp[pU]
theorem LW{v n:Int}:jL v (.mk 1 n [])=(n==v):=rfl
theorem AP{t:Tm}{v:Int}(h1:t.op≠1)(h8:t.op≠8):jL v t=t.kids.any (jL v):=by rw[lz,if_neg h1,BV h8]
theorem HQ(b:List (Int×Tm))(n v:Int):kM (cg b n) v=if v=n then none else kM b v:=by
 induction b with
 |nil=>simp[cg,kM]
 |cons p l ih=>
  unfold cg at ih|-
  rw[List.filter_cons]
  by_cases h:p.1=n
  ·simp only[h,bne_self_eq_false,Bool.false_eq_true,if_false,ih,kM]
   by_cases hv:v=n
   ·simp[hv]
   ·simp[hv];intro e;exact absurd e.symm hv
  ·have h':(p.1!=n)=true:=by simpa using h
   simp only[h',if_true,kM,ih]
   by_cases hv:v=n
   ·subst hv;simp[h]
   ·simp[hv]
theorem QX:∀t:Tm,t.wf->∀v,jL v t=true->v∈rb t:=by
 refine Tm.gN fun t ih hw v h=> ?_
 have ig:=(Tm.gw t).1 hw
 rw[sV]
 have MT:∀k∈t.kids,jL v k=true->v∈tM t.kids:=fun k hk h=>by
  exact sW.2 ⟨k,hk,ih k hk (ig.2.2 k hk) v h⟩
 by_cases h1:t.op=1
 ·rw[lz,if_pos h1]at h
  have:t.n=v:=by simpa using h
  simp[h1,this]
 ·by_cases h8:t.op=8
  ·obtain⟨a,body,hk⟩:=lC (ig.2.1 h8)
   rw[AO h8 hk,Bool.or_eq_true,Bool.and_eq_true]at h
   refine List.mem_append.2 (Or.inr ?_)
   rcases h with h|h
   ·exact MT a (by rw[hk];simp) h
   ·exact MT body (by rw[hk];simp) h.1
  ·rw[AP h1 h8,List.any_eq_true]at h
   obtain⟨k,hk,h⟩:=h
   exact List.mem_append.2 (Or.inr (MT k hk h))
theorem FW{b:List (Int×Tm)}{t:Tm}:ey (dW b t)∉rb t/\∀p∈b,ey (dW b t)≠p.1/\ey (dW b t)∉rb p.2:=by
 obtain⟨m,e,h,_,_⟩:=jN (dW b t)
 rw[e]
 rw[mQ]at h
 refine⟨fun h1=>h (Or.inl h1),fun p hp=>⟨fun e=>h (Or.inr ⟨p,hp,Or.inl e⟩),fun h1=>h (Or.inr ⟨p,hp,Or.inr h1⟩)⟩⟩
theorem HS{t k:Tm}(hk:k∈t.kids){v:Int}(h:v∈rb k):v∈rb t:=by
 rw[sV]
 exact List.mem_append.2 (Or.inr (sW.2 ⟨k,hk,h⟩))
theorem QY{t:Tm}(h:t.op=1\/t.op=8):t.n∈rb t:=by rw[sV,if_pos h];simp
theorem HT{b:List (Int×Tm)}{n:Int}{body:Tm}:lB (cg b n) body n=true↔∃p∈b,p.1≠n/\jL p.1 body=true/\jL n p.2=true:=by
 simp only[lB,cg,List.any_eq_true,List.mem_filter,Bool.and_eq_true,bne_iff_ne,ne_eq,and_assoc]
end Go.Proofs.YtealblliddhgiaaGreat
namespace Go.Proofs.YtealblliddhgiaaGreat
def HU(R:Int->Int->Prop)(x y:Int):Int->Int->Prop:=fun v w=>(v=x/\w=y)\/(v≠x/\w≠y/\R v w)
inductive Al:(Int->Int->Prop)->Tm->Tm->Prop where
 |var {R:Int->Int->Prop} {v w:Int} (h:R v w):Al R (.mk 1 v []) (.mk 1 w [])
 |sY {R:Int->Int->Prop} {n m:Int} {a a' b b':Tm} (ha:Al R a a') (hb:Al (HU R n m) b b'):Al R (.mk 8 n [a,b]) (.mk 8 m [a',b'])
 |node {R:Int->Int->Prop} {op n:Int} {l l':List Tm} (h1:op≠1) (h8:op≠8) (hl:l.length=l'.length) (h:∀ (i:Nat) (k k':Tm),l[i]? =some k->l'[i]? =some k'->Al R k k'):Al R (.mk op n l) (.mk op n l')
theorem Al.mono {R:Int->Int->Prop}{t t':Tm}(h:Al R t t'):∀ {S:Int->Int->Prop},(∀v w,R v w->S v w)->Al S t t':=by
 induction h with
 |var h=>exact fun hs=> .var (hs _ _ h)
 |sY ha hb QZ Q0=>
  exact fun hs=> .sY (QZ hs) (Q0 fun v w h=>h.elim Or.inl fun h=>Or.inr ⟨h.1,h.2.1,hs _ _ h.2.2⟩)
 |node h1 h8 hl h ih=>exact fun hs=> .node h1 h8 hl fun i k k' g g'=>ih i k k' g g' hs
def Q1(R S:Int->Int->Prop):Int->Int->Prop:=fun v w=>∃u,R v u/\S u w
theorem Al.comp {R:Int->Int->Prop}{t t1:Tm}(h:Al R t t1):∀ {S:Int->Int->Prop} {t2:Tm},Al S t1 t2->Al (Q1 R S) t t2:=by
 induction h with
 |var h=>
  intro S t2 h2
  generalize he:Tm.mk 1 _ []=x at h2
  cases h2 with
  |var h3=>injection he with _ e _;subst e;exact .var ⟨_,h,h3⟩
  |sY _ _=>injection he with e;cases e
  |node g1 _ _ _=>injection he with e;exact absurd e.symm g1
 |sY ha hb QZ Q0=>
  intro S t2 h2
  generalize he:Tm.mk 8 _ _=x at h2
  cases h2 with
  |var h3=>injection he with e;cases e
  |sY g1 g2=>
   injection he with _ e1 e2
   injection e2 with e2 e3
   injection e3 with e3 _
   subst e1;subst e2;subst e3
   refine .sY (QZ g1) ((Q0 g2).mono ?_)
   rintro v w ⟨u,(⟨p1,p2⟩|⟨p1,p2,p3⟩),(⟨q1,q2⟩|⟨q1,q2,q3⟩)⟩
   ·exact Or.inl ⟨p1,q2⟩
   ·exact absurd p2 q1
   ·exact absurd q1 p2
   ·exact Or.inr ⟨p1,q2,u,p3,q3⟩
  |node g1 g8 _ _=>injection he with e;exact absurd e.symm g8
 |node h1 h8 hl h ih=>
  intro S t2 h2
  generalize he:Tm.mk _ _ _=x at h2
  cases h2 with
  |var h3=>injection he with e;exact absurd e h1
  |sY _ _=>injection he with e;exact absurd e h8
  |node g1 g8 gl g3=>
   injection he with e1 e2 e3
   subst e1;subst e2;subst e3
   refine .node h1 h8 (hl.trans gl) fun i k k2 hk Yw=> ?_
   have bL:i<_:=(List.getElem?_eq_some_iff.1 hk).1
   have Is:=List.getElem?_eq_getElem (hl ▸ bL)
   exact ih i k _ hk Is (g3 i _ k2 Is Yw)
def j7(b:List (Int×Tm))(v:Int):Int:=match kM b v with|some x=>x.n|none=>v
theorem BW{t:Tm}(hw:t.wf)(h:t.op=1):t= .mk 1 t.n []:=by
 obtain⟨op,n,kids⟩:=t
 rw[Tm.gw]at hw
 simp only[Tm.op,Tm.n,Tm.kids]at h hw|-
 rw[h,hw.1 h]
theorem pY:∀ (f:Nat) (t:Tm) (b:List (Int×Tm)),t.wf->t.cc<=f->(∀p∈b,p.2.op=1/\p.2.kids=[])->Al (fun v w=>jL v t=true/\w=j7 b v) t (bA f b t)
 |0,t,_,_,h,_=>by rw[Tm.dg]at h;omega
 |f+1,t,b,hw,hf,hb=>by
  have ig:=(Tm.gw t).1 hw
  have leaf:∀p∈b,p.2= .mk 1 p.2.n []:=fun p hp=>by
   obtain⟨h1,h2⟩:=hb p hp
   obtain⟨v,op,n,kids⟩:=p
   simp only[Tm.op,Tm.n,Tm.kids]at h1 h2|-
   rw[h1,h2]
  simp only[bA]
  split
  ·rename_i h1
   have ht:=BW hw h1
   have hv:jL t.n t=true:=by rw[lz,if_pos h1];simp
   cases hl:kM b t.n with
   |none=>
    have:=Al.var (R:=fun v w=>jL v t=true/\w=j7 b v) (v:=t.n) (w:=t.n) ⟨hv,by simp[j7,hl]⟩
    rwa [<- ht]at this
   |some x=>
    have hx:=leaf _ (iJ hl)
    simp only at hx
    have:=Al.var (R:=fun v w=>jL v t=true/\w=j7 b v) (v:=t.n) (w:=x.n) ⟨hv,by simp[j7,hl]⟩
    rwa [<- ht, <- hx]at this
  ·rename_i h1
   split
   ·rename_i h8
    obtain⟨a,body,hk⟩:=lC (ig.2.1 h8)
    have ha:a∈t.kids:=by rw[hk];simp
    have j6:body∈t.kids:=by rw[hk];simp
    have g1:=Tm.dc ha
    have g2:=Tm.dc j6
    have lH:∀p∈cg b t.n,p.2.op=1/\p.2.kids=[]:=fun p hp=>hb p (List.mem_filter.1 hp).1
    have ea:=pY f a b (ig.2.2 a ha) (by omega) hb
    have R3:=ig.2.2 body j6
    have Q2:∀u,jL u t=true↔jL u a=true\/(jL u body=true/\t.n≠u):=fun u=>by rw[AO h8 hk,Bool.or_eq_true,Bool.and_eq_true];simp
    have Q3:∀v,j7 (cg b t.n) v=if v=t.n then v else j7 b v:=fun v=>by
     simp only[j7,HQ]
     by_cases e:v=t.n
     ·simp[e]
     ·simp[e]
    have ht:t= .mk 8 t.n [a,body]:=by rw[<- hk, <- h8];exact(Tm.eta t).symm
    have W1:Al (fun v w=>jL v t=true/\w=j7 b v) a (bA f b a):=ea.mono fun v w h=>⟨(Q2 v).2 (Or.inl h.1),h.2⟩
    rw[hk]
    simp only
    split
    ·rename_i hc
     obtain⟨U3,U4⟩:= @FW b t
     generalize ey (dW b t)=m at U3 U4
     have e0:=iK f body [(t.n, .mk 1 m [])] R3 (by omega) (by intro p hp;simp at hp;subst hp;exact⟨rfl,rfl⟩)
     have er:=pY f body [(t.n, .mk 1 m [])] R3 (by omega) (by intro p hp;simp at hp;subst hp;exact⟨rfl,rfl⟩)
     have eb:=pY f (bA f [(t.n, .mk 1 m [])] body) (cg b t.n) e0.2.1 (by rw[e0.1];omega) lH
     have U5:kM b m=none:=by
      rw[mE];intro h;obtain⟨p,hp,e⟩:=List.mem_map.1 h;exact(U4 p hp).1 e.symm
     have mn:m≠t.n:=fun e=>U3 (e ▸ QY (Or.inr h8))
     have hx:Al (HU (fun v w=>jL v t=true/\w=j7 b v) t.n m) body (bA f (cg b t.n) (bA f [(t.n, .mk 1 m [])] body)):=by
      refine(er.comp eb).mono ?_
      rintro v w ⟨u,⟨hv,hu⟩,⟨_,hw⟩⟩
      rw[Q3]at hw
      by_cases e:v=t.n
      ·subst e
       have:u=m:=by rw[hu];simp[j7,kM,Tm.n]
       subst this
       rw[if_neg mn]at hw
       refine Or.inl ⟨rfl, ?_⟩
       rw[hw];simp[j7,U5]
      ·have:u=v:=by rw[hu];simp only[j7,kM];rw[if_neg (fun e2:t.n=v=>e e2.symm)]
       subst this
       rw[if_neg e]at hw
       refine Or.inr ⟨e, ?_,(Q2 u).2 (Or.inr ⟨hv,fun e2=>e e2.symm⟩),hw⟩
       rw[hw]
       intro e2
       unfold j7 at e2
       split at e2
       ·rename_i x hx
        have h3:=leaf _ (iJ hx)
        have h4:=(U4 _ (iJ hx)).2
        simp only at h3 h4
        rw[h3, <- e2]at h4
        exact h4 (QY (t:= .mk 1 x.n []) (Or.inl rfl))
       ·subst e2
        exact U3 (HS j6 (QX body R3 _ hv))
     have:=Al.sY W1 hx
     rw[<- ht]at this
     exact this
    ·rename_i hc
     have eb:=pY f body (cg b t.n) R3 (by omega) lH
     have hx:Al (HU (fun v w=>jL v t=true/\w=j7 b v) t.n t.n) body (bA f (cg b t.n) body):=by
      refine eb.mono fun v w h=> ?_
      obtain⟨hv,hw⟩:=h
      rw[Q3]at hw
      by_cases e:v=t.n
      ·rw[if_pos e]at hw;exact Or.inl ⟨e,by rw[hw,e]⟩
      ·rw[if_neg e]at hw
       refine Or.inr ⟨e,fun e2=> ?_,(Q2 v).2 (Or.inr ⟨hv,fun e2=>e e2.symm⟩),hw⟩
       rw[hw]at e2
       unfold j7 at e2
       split at e2
       ·rename_i x hx
        refine hc (HT.2 ⟨_,iJ hx,e,hv, ?_⟩)
        have:=leaf _ (iJ hx)
        simp only at this|-
        rw[this,LW,e2];simp
       ·exact e e2
     have:=Al.sY W1 hx
     rw[<- ht]at this
     exact this
   ·rename_i h8
    have:Al (fun v w=>jL v t=true/\w=j7 b v) (.mk t.op t.n t.kids) (.mk t.op t.n (t.kids.map (bA f b))):=
     .node h1 h8 (by simp) fun i k k' h h'=>by
      have hk:=List.mem_of_getElem? h
      rw[List.getElem?_map,h]at h'
      injection h' with h'
      subst h'
      exact(pY f k b (ig.2.2 k hk) (by have:=Tm.dc hk;omega) hb).mono fun v w h=>⟨by rw[AP h1 h8,List.any_eq_true];exact⟨k,hk,h.1⟩,h.2⟩
    rw[Tm.eta]at this
    exact this
theorem re(m:List (Int×Int))(a b v:Int):lk (m++[(a,b)]) v=match lk m v with|some k=>some k|none=>if a=v then some b else none:=by
 induction m with
 |nil=>simp[lk]
 |cons p m ih=>
  simp only[List.cons_append,lk]
  split
  ·rfl
  ·exact ih
theorem FX{Fr:Int->Int->Prop}(bu:∀v w v' w',Fr v w->Fr v' w'->(v=v'↔w=w')){R:Int->Int->Prop}{t t':Tm}(h:Al R t t'):∀ {bd yQ fr nS:List (Int×Int)} {nx:Int},
 (∀v w,R v w->lk bd v=lk yQ w/\(lk bd v=none->Fr v w))->(∀v w,Fr v w->lk fr v=lk nS w)->
 (aQ t bd fr nx).1=(aQ t' yQ nS nx).1/\(aQ t bd fr nx).2.2=(aQ t' yQ nS nx).2.2/\∀v w,Fr v w->lk (aQ t bd fr nx).2.1 v=lk (aQ t' yQ nS nx).2.1 w:=by
 induction h with
 |var h=>
  intro bd yQ fr nS nx hr hf
  rename_i R v w
  obtain⟨h1,h2⟩:=hr v w h
  simp only[eB,Tm.op,Tm.n,if_pos]
  rw[<- h1]
  cases hb:lk bd v with
  |some k=>exact⟨rfl,rfl,hf⟩
  |none=>
   have h3:=h2 hb
   rw[<- hf v w h3]
   simp only
   cases hl:lk fr v with
   |some k=>exact⟨rfl,rfl,hf⟩
   |none=>
    refine⟨rfl,rfl,fun a c oP=> ?_⟩
    simp only[re,hf a c oP]
    cases lk nS c with
    |some k=>rfl
    |none=>
     simp only
     by_cases e:v=a
     ·rw[if_pos e,if_pos ((bu _ _ _ _ h3 oP).1 e)]
     ·rw[if_neg e,if_neg fun e2=>e ((bu _ _ _ _ h3 oP).2 e2)]
 |sY ha hb QZ Q0=>
  intro bd yQ fr nS nx hr hf
  rename_i R n m a a' b b'
  simp only[eB (.mk 8 _ _),Tm.op,Tm.n,Tm.kids,aM]
  obtain⟨a1,a2,a3⟩:=QZ (nx:=nx+1) hr hf
  have tD:∀v w,HU R n m v w->lk ((n,nx)::bd) v=lk ((m,nx)::yQ) w/\(lk ((n,nx)::bd) v=none->Fr v w):=by
   rintro v w (⟨rfl,rfl⟩|⟨h1,h2,h3⟩)
   ·simp[lk]
   ·simp only[lk,if_neg (fun e:n=v=>h1 e.symm),if_neg (fun e:m=w=>h2 e.symm)]
    exact hr v w h3
  obtain⟨b1,b2,b3⟩:=Q0 (nx:=(aQ a bd fr (nx+1)).2.2) tD a3
  simp only[Nat.zero_ne_one,if_false,Nat.zero_add,if_true,if_neg (show ¬ ((8:Int)=1) by decide)]
  rw[a1,b1, <- a2,b2]
  exact⟨rfl,rfl,b3⟩
 |node h1 h8 hl h ih=>
  intro bd yQ fr nS nx hr hf
  rename_i R op n l l'
  have DF:∀ (l:List Tm) (bd fr:List (Int×Int)),aQ (.mk op n l) bd fr nx=(.mk op n (aM l bd bd 0 fr nx).1,(aM l bd bd 0 fr nx).2):=fun l bd fr=>by
   rw[eB];exact(if_neg h1).trans (if_neg h8)
  rw[DF,DF]
  have hx:∀ (l l':List Tm),l.length=l'.length->(∀ (i:Nat) (k k':Tm),l[i]? =some k->l'[i]? =some k'->∀ {fr nS:List (Int×Int)} {nx:Int},(∀v w,Fr v w->lk fr v=lk nS w)->
   (aQ k bd fr nx).1=(aQ k' yQ nS nx).1/\(aQ k bd fr nx).2.2=(aQ k' yQ nS nx).2.2/\∀v w,Fr v w->lk (aQ k bd fr nx).2.1 v=lk (aQ k' yQ nS nx).2.1 w)->∀ (i:Nat) (fr nS:List (Int×Int)) (nx:Int),(∀v w,Fr v w->lk fr v=lk nS w)->
   (aM l bd bd i fr nx).1=(aM l' yQ yQ i nS nx).1/\(aM l bd bd i fr nx).2.2=(aM l' yQ yQ i nS nx).2.2/\∀v w,Fr v w->lk (aM l bd bd i fr nx).2.1 v=lk (aM l' yQ yQ i nS nx).2.1 w:=by
   intro l
   induction l with
   |nil=>
    intro l' hl _ i fr nS nx hf
    cases l' with
    |nil=>simp only[aM];exact⟨trivial,trivial,hf⟩
    |cons _ _=>cases hl
   |cons k l oY=>
    intro l' hl hm i fr nS nx hf
    cases l' with
    |nil=>cases hl
    |cons k' l'=>
     obtain⟨a1,a2,a3⟩:=hm 0 k k' rfl rfl (nx:=nx) hf
     obtain⟨b1,b2,b3⟩:=oY l' (by simpa using hl) (fun j x x' h h'=>hm (j+1) x x' (by simpa using h) (by simpa using h')) (i+1) _ _ (aQ k bd fr nx).2.2 a3
     simp only[aM,ite_self]
     rw[a1, <- a2,b1,b2]
     exact⟨rfl,rfl,b3⟩
  obtain⟨a1,a2,a3⟩:=hx l l' hl (fun i k k' g g' _ _ _ hf=>ih i k k' g g' hr hf) 0 fr nS nx hf
  rw[a1,a2]
  exact⟨rfl,rfl,a3⟩
theorem mR:∀ (t:Tm) (bd fr:List (Int×Int)) (nx:Int) (v k:Int),(lk fr v=some k->lk (aQ t bd fr nx).2.1 v=some k)/\(lk (aQ t bd fr nx).2.1 v=some k->lk fr v=some k\/(nx<=k/\k<(aQ t bd fr nx).2.2)):=by
 refine Tm.gN fun t ih bd fr nx v k=> ?_
 have hs:∀ (l:List Tm) (bd inn fr:List (Int×Int)) (i:Nat) (nx:Int),(∀x∈l,x∈t.kids)->(lk fr v=some k->lk (aM l bd inn i fr nx).2.1 v=some k)/\(lk (aM l bd inn i fr nx).2.1 v=some k->lk fr v=some k\/(nx<=k/\k<(aM l bd inn i fr nx).2.2))/\nx<=(aM l bd inn i fr nx).2.2:=by
  intro l
  induction l with
  |nil=>intro bd inn fr i nx _;simp only[aM];exact⟨id,Or.inl,Int.le_refl _⟩
  |cons x l oY=>
   intro bd inn fr i nx hk
   simp only[aM]
   obtain⟨a1,a2⟩:=ih x (hk x (by simp)) (if i=1 then inn else bd) fr nx v k
   have a3:=(cZ x (if i=1 then inn else bd) fr nx).1
   obtain⟨b1,b2,b3⟩:=oY bd inn (aQ x (if i=1 then inn else bd) fr nx).2.1 (i+1) (aQ x (if i=1 then inn else bd) fr nx).2.2 (fun y hy=>hk y (by simp[hy]))
   refine⟨fun h=>b1 (a1 h),fun h=> ?_,by omega⟩
   rcases b2 h with h|⟨h1,h2⟩
   ·rcases a2 h with h|⟨h1,h2⟩
    ·exact Or.inl h
    ·exact Or.inr ⟨h1,by omega⟩
   ·exact Or.inr ⟨by omega,h2⟩
 rw[eB]
 obtain⟨a1,a2,_⟩:=hs t.kids bd bd fr 0 nx (fun _ h=>h)
 obtain⟨b1,b2,_⟩:=hs t.kids bd ((t.n,nx)::bd) fr 0 (nx+1) (fun _ h=>h)
 split
 ·split
  ·exact⟨id,Or.inl⟩
  ·split
   ·exact⟨id,Or.inl⟩
   ·simp only[re]
    cases h:lk fr v with
    |some j=>exact⟨id,Or.inl⟩
    |none=>
     refine⟨fun h=>(by cases h),fun h=> ?_⟩
     simp only at h|-
     by_cases e:t.n=v
     ·rw[if_pos e]at h;injection h with h;right;omega
     ·rw[if_neg e]at h;cases h
 ·split
  ·refine⟨b1,fun h=> ?_⟩
   rcases b2 h with h|⟨h1,h2⟩
   ·exact Or.inl h
   ·exact Or.inr ⟨by omega,h2⟩
  ·exact⟨a1,a2⟩
theorem pb:∀ (l:List Tm) (bd inn fr:List (Int×Int)) (i:Nat) (nx:Int) (v k:Int),(lk fr v=some k->lk (aM l bd inn i fr nx).2.1 v=some k)/\(lk (aM l bd inn i fr nx).2.1 v=some k->lk fr v=some k\/(nx<=k/\k<(aM l bd inn i fr nx).2.2))/\nx<=(aM l bd inn i fr nx).2.2
 |[],_,_,_,_,_,_,_=>by simp only[aM];exact⟨id,Or.inl,Int.le_refl _⟩
 |x::l,bd,inn,fr,i,nx,v,k=>by
  simp only[aM]
  obtain⟨a1,a2⟩:=mR x (if i=1 then inn else bd) fr nx v k
  have a3:=(cZ x (if i=1 then inn else bd) fr nx).1
  obtain⟨b1,b2,b3⟩:=pb l bd inn (aQ x (if i=1 then inn else bd) fr nx).2.1 (i+1) (aQ x (if i=1 then inn else bd) fr nx).2.2 v k
  refine⟨fun h=>b1 (a1 h),fun h=> ?_,by omega⟩
  rcases b2 h with h|⟨h1,h2⟩
  ·rcases a2 h with h|⟨h1,h2⟩
   ·exact Or.inl h
   ·exact Or.inr ⟨h1,by omega⟩
  ·exact Or.inr ⟨by omega,h2⟩
theorem LX:∀ (t:Tm),t.wf->∀ (bd fr AQ:List (Int×Int)) (nx:Int),(∀v k,lk bd v=some k->k<nx)->(∀v k,lk fr v=some k->k<nx)->
 (∀v k,lk (aQ t bd fr nx).2.1 v=some k->lk AQ v=some k)->(∀v k,lk AQ v=some k->lk (aQ t bd fr nx).2.1 v=some k\/(aQ t bd fr nx).2.2<=k)->
 Al (fun v w=>lk bd v=some w\/(lk bd v=none/\lk AQ v=some w)) t (aQ t bd fr nx).1:=by
 refine Tm.gN fun t ih hw bd fr AQ nx j6 cU e1 e2=> ?_
 have ig:=(Tm.gw t).1 hw
 by_cases h1:t.op=1
 ·rw[eB,if_pos h1]at e1 e2|-
  have ht:=BW hw h1
  have U6:∀k,lk bd t.n=some k\/(lk bd t.n=none/\lk AQ t.n=some k)->Al (fun v w=>lk bd v=some w\/(lk bd v=none/\lk AQ v=some w)) t (.mk 1 k []):=fun k h=>by
   have:=Al.var (R:=fun v w=>lk bd v=some w\/(lk bd v=none/\lk AQ v=some w)) (v:=t.n) (w:=k) h
   rwa [<- ht]at this
  cases hb:lk bd t.n with
  |some k=>exact U6 k (Or.inl hb)
  |none=>
   rw[hb]at e1 e2
   simp only at e1 e2|-
   cases hf:lk fr t.n with
   |some k=>rw[hf]at e1;exact U6 k (Or.inr ⟨hb,e1 _ _ hf⟩)
   |none=>
    rw[hf]at e1
    exact U6 nx (Or.inr ⟨hb,e1 _ _ (by rw[re,hf];simp)⟩)
 ·by_cases h8:t.op=8
  ·obtain⟨a,body,hk⟩:=lC (ig.2.1 h8)
   have ha:a∈t.kids:=by rw[hk];simp
   have Q4:body∈t.kids:=by rw[hk];simp
   have ht:t= .mk 8 t.n [a,body]:=by rw[<- hk, <- h8];exact(Tm.eta t).symm
   have DF:aQ t bd fr nx=(.mk 8 nx [(aQ a bd fr (nx+1)).1,(aQ body ((t.n,nx)::bd) (aQ a bd fr (nx+1)).2.1 (aQ a bd fr (nx+1)).2.2).1],(aQ body ((t.n,nx)::bd) (aQ a bd fr (nx+1)).2.1 (aQ a bd fr (nx+1)).2.2).2):=by
    rw[eB,if_neg h1,if_pos h8,hk]
    simp[aM]
   rw[DF]at e1 e2|-
   simp only at e1 e2|-
   have n1:=(cZ a bd fr (nx+1)).1
   have n2:=(cZ body ((t.n,nx)::bd) (aQ a bd fr (nx+1)).2.1 (aQ a bd fr (nx+1)).2.2).1
   have x1:=mR a bd fr (nx+1)
   have x2:=mR body ((t.n,nx)::bd) (aQ a bd fr (nx+1)).2.1 (aQ a bd fr (nx+1)).2.2
   have ea:=ih a ha (ig.2.2 a ha) bd fr AQ (nx+1) (fun v k h=>by have:=j6 v k h;omega) (fun v k h=>by have:=cU v k h;omega)
    (fun v k h=>e1 v k ((x2 v k).1 h)) (fun v k h=>by
     rcases e2 v k h with h|h
     ·rcases(x2 v k).2 h with h|h
      ·exact Or.inl h
      ·exact Or.inr h.1
     ·exact Or.inr (by omega))
   have eb:=ih body Q4 (ig.2.2 body Q4) ((t.n,nx)::bd) (aQ a bd fr (nx+1)).2.1 AQ (aQ a bd fr (nx+1)).2.2 (fun v k h=>by
    simp only[lk]at h
    split at h
    ·injection h with h;omega
    ·have:=j6 v k h;omega) (fun v k h=>by
    rcases(x1 v k).2 h with h|h
    ·have:=cU v k h;omega
    ·exact h.2) e1 e2
   have dP:∀v k,lk AQ v=some k->k≠nx:=fun v k h=>by
    have hx:lk fr v=some k\/nx+1<=k:=by
     rcases e2 v k h with h|h
     ·rcases(x2 v k).2 h with h|h
      ·rcases(x1 v k).2 h with h|h
       ·exact Or.inl h
       ·exact Or.inr h.1
      ·exact Or.inr (by omega)
     ·exact Or.inr (by omega)
    rcases hx with h|h
    ·have:=cU v k h;omega
    ·omega
   rw[ht]
   refine .sY ea (eb.mono fun v w h=> ?_)
   simp only[lk]at h
   by_cases e:t.n=v
   ·simp only[if_pos e,Option.some.injEq,reduceCtorEq,false_and,or_false]at h
    exact Or.inl ⟨e.symm,h.symm⟩
   ·simp only[if_neg e]at h
    refine Or.inr ⟨fun e2=>e e2.symm, ?_,h⟩
    rcases h with h|h
    ·have:=j6 v w h;omega
    ·exact dP v w h.2
  ·have DF:aQ t bd fr nx=(.mk t.op t.n (aM t.kids bd bd 0 fr nx).1,(aM t.kids bd bd 0 fr nx).2):=by rw[eB,if_neg h1,if_neg h8]
   rw[DF]at e1 e2|-
   simp only at e1 e2|-
   have hl:∀ (l:List Tm),(∀k∈l,k∈t.kids)->∀ (i:Nat) (fr:List (Int×Int)) (nx:Int),(∀v k,lk bd v=some k->k<nx)->(∀v k,lk fr v=some k->k<nx)->
    (∀v k,lk (aM l bd bd i fr nx).2.1 v=some k->lk AQ v=some k)->(∀v k,lk AQ v=some k->lk (aM l bd bd i fr nx).2.1 v=some k\/(aM l bd bd i fr nx).2.2<=k)->
    (aM l bd bd i fr nx).1.length=l.length/\∀ (j:Nat) (k k':Tm),l[j]? =some k->(aM l bd bd i fr nx).1[j]? =some k'->Al (fun v w=>lk bd v=some w\/(lk bd v=none/\lk AQ v=some w)) k k':=by
    intro l
    induction l with
    |nil=>intro _ i fr nx _ _ _ _;exact⟨rfl,fun j k k' h=>by simp at h⟩
    |cons x l oY=>
     intro hm i fr nx j6 cU e1 e2
     simp only[aM,ite_self]at e1 e2|-
     have n1:=(cZ x bd fr nx).1
     have x1:=mR x bd fr nx
     have x2:=pb l bd bd (aQ x bd fr nx).2.1 (i+1) (aQ x bd fr nx).2.2
     obtain⟨i1,i2⟩:=oY (fun y hy=>hm y (by simp[hy])) (i+1) (aQ x bd fr nx).2.1 (aQ x bd fr nx).2.2 (fun v k h=>by have:=j6 v k h;omega) (fun v k h=>by
      rcases(x1 v k).2 h with h|h
      ·have:=cU v k h;omega
      ·exact h.2) e1 e2
     have ex:=ih x (hm x (by simp)) (ig.2.2 x (hm x (by simp))) bd fr AQ nx j6 cU (fun v k h=>e1 v k ((x2 v k).1 h)) (fun v k h=>by
      rcases e2 v k h with h|h
      ·rcases(x2 v k).2.1 h with h|h
       ·exact Or.inl h
       ·exact Or.inr h.1
      ·have:=(x2 v k).2.2;exact Or.inr (by omega))
     refine⟨by simp[i1],fun j k k' h h'=> ?_⟩
     cases j with
     |zero=>simp at h h';rw[<- h, <- h'];exact ex
     |succ j=>exact i2 j k k' (by simpa using h) (by simpa using h')
   obtain⟨i1,i2⟩:=hl t.kids (fun _ h=>h) 0 fr nx j6 cU e1 e2
   have:=Al.node (R:=fun v w=>lk bd v=some w\/(lk bd v=none/\lk AQ v=some w)) (n:=t.n) h1 h8 i1.symm i2
   rw[Tm.eta]at this
   exact this
theorem FY:∀ (t:Tm) (bd fr:List (Int×Int)) (nx:Int),(∀v k,lk fr v=some k->k<nx)->(∀v w k,lk fr v=some k->lk fr w=some k->v=w)->
 (∀v w k,lk (aQ t bd fr nx).2.1 v=some k->lk (aQ t bd fr nx).2.1 w=some k->v=w):=by
 refine Tm.gN fun t ih bd fr nx h1 h2=> ?_
 have hs:∀ (l:List Tm) (bd inn fr:List (Int×Int)) (i:Nat) (nx:Int),(∀x∈l,x∈t.kids)->(∀v k,lk fr v=some k->k<nx)->(∀v w k,lk fr v=some k->lk fr w=some k->v=w)->(∀v w k,lk (aM l bd inn i fr nx).2.1 v=some k->lk (aM l bd inn i fr nx).2.1 w=some k->v=w):=by
  intro l
  induction l with
  |nil=>intro bd inn fr i nx _ _ h;exact h
  |cons x l oY=>
   intro bd inn fr i nx hk h1 h2
   simp only[aM]
   have n1:=(cZ x (if i=1 then inn else bd) fr nx).1
   refine oY bd inn _ (i+1) _ (fun y hy=>hk y (by simp[hy])) (fun v k h=> ?_) (ih x (hk x (by simp)) _ fr nx h1 h2)
   rcases(mR x (if i=1 then inn else bd) fr nx v k).2 h with h|h
   ·have:=h1 v k h;omega
   ·exact h.2
 rw[eB]
 split
 ·split
  ·exact h2
  ·split
   ·exact h2
   ·rename_i hn
    simp only[re]
    intro v w k hv hw
    cases e1:lk fr v with
    |some a=>
     rw[e1]at hv
     cases e2:lk fr w with
     |some b=>rw[e2]at hw;exact h2 v w k (e1.trans hv) (e2.trans hw)
     |none=>
      rw[e2]at hw
      simp only at hv hw
      split at hw
      ·injection hv with hv;injection hw with hw;have:=h1 v a e1;omega
      ·cases hw
    |none=>
     rw[e1]at hv
     simp only at hv
     split at hv
     ·rename_i ev
      cases e2:lk fr w with
      |some b=>rw[e2]at hw;injection hv with hv;injection hw with hw;have:=h1 w b e2;omega
      |none=>
       rw[e2]at hw
       simp only at hw
       split at hw
       ·rename_i ew;exact ev.symm.trans ew
       ·cases hw
     ·cases hv
 ·split
  ·exact hs _ _ _ _ _ _ (fun _ h=>h) (fun v k h=>by have:=h1 v k h;omega) h2
  ·exact hs _ _ _ _ _ _ (fun _ h=>h) h1 h2
theorem FZ(t:Tm)(hw:t.wf):(aQ (aQ t [] [] 0).1 [] [] 0).1=(aQ t [] [] 0).1:=by
 have ha:=LX t hw [] [] (aQ t [] [] 0).2.1 0 (fun v k h=>by cases h) (fun v k h=>by cases h) (fun v k h=>h) (fun v k h=>Or.inl h)
 have hv:=FY t [] [] 0 (fun v k h=>by cases h) (fun v w k h=>by cases h)
 refine(FX (Fr:=fun v w=>lk (aQ t [] [] 0).2.1 v=some w) (fun v w v' w' h h'=>⟨fun e=> ?_,fun e=> ?_⟩) ha (fun v w h=>⟨rfl,fun _=> ?_⟩) (fun v w h=>rfl)).1.symm
 ·subst e;rw[h]at h';injection h'
 ·subst e;exact hv v v' w h h'
 ·rcases h with h|h
  ·cases h
  ·exact h.2
theorem HV(t:Tm)(hw:t.wf)(b:List (Int×Tm))(hb:∀p∈b,p.2.op=1/\p.2.kids=[])(hi:∀v w,jL v t=true->jL w t=true->j7 b v=j7 b w->v=w):
 (aQ (bA t.cc b t) [] [] 0).1=(aQ t [] [] 0).1:=by
 have ha:=pY t.cc t b hw (Nat.le_refl _) hb
 refine(FX (Fr:=fun v w=>jL v t=true/\w=j7 b v) (fun v w v' w' h h'=>⟨fun e=> ?_,fun e=> ?_⟩) ha (fun v w h=>⟨rfl,fun _=>h⟩) (fun v w h=>rfl)).1.symm
 ·rw[h.2,h'.2,e]
 ·exact hi v v' h.1 h'.1 (by rw[<- h.2, <- h'.2,e])
end Go.Proofs.YtealblliddhgiaaGreat
namespace Go.Proofs.YtealblliddhgiaaGreat
theorem u3{pr:List (List Nat)}{fp:List (List Nat×List Nat)}(h:((List.range fp.length).all fun j=>(List.range j).all fun i=>((dY pr []).getD j 0).testBit i||((fp.getD i ([],[])).2.isEmpty&&(fp.getD j ([],[])).2.isEmpty))=true):et pr fp=true:=by
 unfold et
 rw[List.all_eq_true]at h|-
 intro j hj
 have h:=h j hj
 rw[List.all_eq_true]at h|-
 intro i hi
 have h:=h i hi
 rw[Bool.or_eq_true]at h|-
 refine h.imp id fun h=> ?_
 simp only[Bool.and_eq_true,List.isEmpty_iff]at h
 rw[h.1,h.2]
 rfl
def IC.snd:IC->IC
 | .seq _ y=>y
 |c=>c
def IC.fst:IC->IC
 | .seq x _=>x
 | .block _ x=>x
 | .loop x=>x
 | .cond _ x _=>x
 |c=>c
@[reducible] def de (m:List (Int×Int)):ae:= .map 3 3 (enc (D.int .i64) (ints m))
@[reducible] def jv (m:List (Int×Int)):ae:= .dZ (enc (D.int .i64) (ints m))
def Yx(o:Nat->ae)(bv:V)(m:List (Int×Int)):Prop:=(bv= .d .cI/\m=[])\/∃b,bv= .mp b/\o b=jv m
structure F0 (o:Nat->ae) (nx cid fid:Nat) (bv:V) (mB bd fr:List (Int×Int)) (n:Int) (sz:Nat):Prop where
 cQ:Good o nx
 hc:o cid= .row [.d (.i n), .mp fid]
 hf:o fid=de fr
 hb:Yx o bv mB
 kb:m6 mB
 lk:∀v,lk mB v=lk bd v
 n0:0<=n
 n1:n+sz<=1000000
def HW(o:Nat->ae)(nx cid fid:Nat)(r:Tm×List (Int×Int)×Int)(K:V->(Nat->ae)->Nat->Prop):Prop:=
 ∀v o' nx',nx<=nx'->Good o' nx'->dz o' v=some r.1.d->(∀id∈v.ids,nx<=id)->(∀j,j<nx->j≠cid->j≠fid->o' j=o j)->o' cid= .row [.d (.i r.2.2), .mp fid]->o' fid=de r.2.1->K v o' nx'
@[go_sem] theorem M3 {P:Program} {kt:TypeId} {k:D} {i:Nat}:findD P kt k [] i=some none:=rfl
def tN(t:Tm):Prop:=∀ (o:Nat->ae) (nx cid fid:Nat) (bv:V) (mB bd fr:List (Int×Int)) (n:Int),F0 o nx cid fid bv mB bd fr n t.sz->∀K X,HW o nx cid fid (aQ t bd fr n) K->
    eI Tryz.prog 110 [.agg [.ptr cid 0,bv], .d t.d] o nx K X
theorem lE{R:List Nat}{o:Nat->ae}{id:Nat}(h:id∈R):zT R o id=o id:=by simp[zT,h]
theorem yR{R:List Nat}{o:Nat->ae}{nx:Nat}(bL:∀id∈R,id<nx)(jB:∀id∈R,∀j∈(o id).refs,j∈R):Good (zT R o) nx:=by
 refine⟨fun id aj=> ?_,fun id r hr=> ?_⟩
 ·have:id∉R:=fun hm=>by have:=bL id hm;omega
  simp[zT,this]
 ·by_cases aj:id∈R
  ·rw[lE aj]at hr;exact bL r (jB id aj r hr)
  ·have:zT R o id= .no:=by simp[zT,aj]
   rw[this]at hr;cases hr
theorem sZ{t:Tm}(h:tN t){o:Nat->ae}{nx cid fid:Nat}{bd fr:List (Int×Int)}{n:Int}(hc:o cid= .row [.d (.i n), .mp fid])(hf:o fid=de fr)(DG:∀v,lk [] v=lk bd v)(n0:0<=n)(n1:n+t.sz<=1000000)(c1:cid<nx)(c2:fid<nx):
 zi Tryz.prog 110 [.agg [.ptr cid 0, .d .cI], .d t.d] [cid,fid] o (.ret [(aQ t bd fr n).1.d]) [(cid, .row [.d (.i (aQ t bd fr n).2.2), .mp fid]),(fid,de (aQ t bd fr n).2.1)]:=by
 have bL:∀id∈[cid,fid],id<nx:=by simp;omega
 have oR:cid≠fid:=fun e=>by rw[e,hf]at hc;cases hc
 have jB:∀id∈[cid,fid],∀j∈(o id).refs,j∈[cid,fid]:=by
  intro id aj j hj
  simp at aj
  rcases aj with rfl|rfl
  ·rw[hc]at hj;simp[ae.refs,V.ag,V.refs]at hj;simp[hj]
  ·rw[hf]at hj;simp[ae.refs]at hj
 refine zi.lg bL (fun id aj=>by simp[V.ag,V.refs]at aj;simp[aj]) jB (by simp) (by simp[ae.refs,V.ag,V.refs]) ?_
 refine h _ _ cid fid _ [] bd fr n ⟨yR bL jB,(lE (by simp:cid∈[cid,fid])).trans hc,(lE (by simp:fid∈[cid,fid])).trans hf, .inl ⟨rfl,rfl⟩,List.nodup_nil,DG,n0,n1⟩ _ _ ?_
 intro v o' nx' g1 g2 g3 g4 g5 g6 g7
 refine⟨fun id aj=> ?_,[v],[(aQ t bd fr n).1.d],rfl,by simp[bU,g3],rfl,fun id aj=> ?_⟩
 ·simp at aj
  rcases aj with rfl|rfl
  ·rw[g6];simp only[mN,sq];rw[ad _ _ _ _ oR,ab]
  ·rw[g7];simp only[mN,sq];rw[ab]
 ·simp[V.a8]at aj
  have:=g4 id aj
  simp;omega
theorem mG{t:Tm}(h:tN t){o:Nat->ae}{nx cid fid b:Nat}{mB bd fr:List (Int×Int)}{n:Int}(hc:o cid= .row [.d (.i n), .mp fid])(hf:o fid=de fr)(hb:o b=de mB\/o b=jv mB)(b1:b≠cid)(b2:b≠fid)(kb:m6 mB)(DG:∀v,lk mB v=lk bd v)(n0:0<=n)(n1:n+t.sz<=1000000)(c1:cid<nx)(c2:fid<nx)(c3:b<nx):
 zi Tryz.prog 110 [.agg [.ptr cid 0, .mp b], .d t.d] [cid,fid,b] o (.ret [(aQ t bd fr n).1.d]) [(cid, .row [.d (.i (aQ t bd fr n).2.2), .mp fid]),(fid,de (aQ t bd fr n).2.1),(b,jv mB)]:=by
 have bL:∀id∈[cid,fid,b],id<nx:=by simp;omega
 have oR:cid≠fid:=fun e=>by rw[e,hf]at hc;cases hc
 have jB:∀id∈[cid,fid,b],∀j∈(o id).refs,j∈[cid,fid,b]:=by
  intro id aj j hj
  simp at aj
  rcases aj with rfl|rfl|rfl
  ·rw[hc]at hj;simp[ae.refs,V.ag,V.refs]at hj;simp[hj]
  ·rw[hf]at hj;simp[ae.refs]at hj
  ·rcases hb with hb|hb<;>(rw[hb]at hj;simp[ae.refs]at hj)
 refine zi.lg bL (by simp[V.ag,V.refs]) jB (by simp) (by simp[ae.refs,V.ag,V.refs]) ?_
 have key:∀O:Nat->ae,O cid=o cid->O fid=o fid->O b=jv mB->Good O nx->eI Tryz.prog 110 [.agg [.ptr cid 0, .mp b], .d t.d] O nx
  (fun v o1 _=>(∀id∈[cid,fid,b],o1 id=put o [(cid, .row [.d (.i (aQ t bd fr n).2.2), .mp fid]),(fid,de (aQ t bd fr n).2.1),(b,jv mB)] id)/\∃vs rs,v=(match vs with|[v]=>v|vs=> .bT vs)/\bU o1 vs=some rs/\R.ret [(aQ t bd fr n).1.d]= .ret rs/\∀id∈V.a8 vs,id∉[cid,fid,b])
  (fun v o1 _=>(∀id∈[cid,fid,b],o1 id=put o [(cid, .row [.d (.i (aQ t bd fr n).2.2), .mp fid]),(fid,de (aQ t bd fr n).2.1),(b,jv mB)] id)/\∃x,dz o1 v=some x/\R.ret [(aQ t bd fr n).1.d]= .bK x/\∀id∈v.ids,id∉[cid,fid,b]):=by
  intro O h1 h2 h3 h4
  refine h _ _ cid fid _ mB bd fr n ⟨h4,by rw[h1];exact hc,by rw[h2];exact hf, .inr ⟨b,rfl,h3⟩,kb,DG,n0,n1⟩ _ _ ?_
  intro v o' nx' g1 g2 g3 g4 g5 g6 g7
  refine⟨fun id aj=> ?_,[v],[(aQ t bd fr n).1.d],rfl,by simp[bU,g3],rfl,fun id aj=> ?_⟩
  ·simp at aj
   simp only[mN,sq]
   rcases aj with rfl|rfl|rfl
   ·rw[g6,ad _ _ _ _ (Ne.symm b1),ad _ _ _ _ oR,ab]
   ·rw[g7,ad _ _ _ _ (Ne.symm b2),ab]
   ·rw[g5 _ c3 b1 b2,h3,ab]
  ·simp[V.a8]at aj
   have:=g4 id aj
   simp;omega
 have JA:=yR bL jB
 rcases hb with hb|hb
 ·have JX:zT [cid,fid,b] o b=de mB:=(lE (by simp)).trans hb
  refine eI.AJ (id:=b) JX c3 (key _ ?_ ?_ (ab _ _ _) ?_)
  ·rw[ad _ _ _ _ (Ne.symm b1),lE (by simp:cid∈[cid,fid,b])]
  ·rw[ad _ _ _ _ (Ne.symm b2),lE (by simp:fid∈[cid,fid,b])]
  ·exact JA.ao c3 rfl
 ·exact key _ (lE (by simp)) (lE (by simp)) ((lE (by simp)).trans hb) JA
end Go.Proofs.YtealblliddhgiaaGreat
