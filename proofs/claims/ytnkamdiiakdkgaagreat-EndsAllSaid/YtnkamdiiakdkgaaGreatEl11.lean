/-
  A PART OF THE PROOF. Conditions: none.
-/
import Derived.Test.YtnkamdiiakdkgaaGreatEl10
set_option linter.unusedSimpArgs false
set_option linter.unusedVariables false
namespace Go.Proofs.YtnkamdiiakdkgaaGreat
def kP(m:List Int):Prop:=m.length=16/\∀x∈m,0<=x/\x<=2
def mg(m:List Int)(i j:Nat):Int:=m.getD (i*4+j) 0
theorem AJ{m:List Int}(h:kP m)(i j:Nat):0<=mg m i j/\mg m i j<=2:=by
 unfold mg
 rw[List.getD_eq_getElem?_getD]
 cases e:m[i*4+j]? with
 |none=>simp
 |some x=>exact h.2 x (List.mem_of_getElem? e)
theorem Hf{m n:List Int}(hm:kP m)(hn:kP n)(h:∀i j,i<4->j<4->(mg m i j≠0↔mg n i j≠0)/\(mg m i j=2↔mg n i j=2)):m=n:=by
 apply List.ext_getElem (by rw[hm.1,hn.1])
 intro p h1 h2
 have e:=h (p/4) (p%4) (by rw[hm.1]at h1;omega) ag
 have a1:=AJ hm (p/4) (p%4)
 have a2:=AJ hn (p/4) (p%4)
 have e1:mg m (p/4) (p%4)=m[p]:=by
  unfold mg;rw[show p/4*4+p%4=p by omega,List.getD_eq_getElem?_getD,List.getElem?_eq_getElem h1];rfl
 have e2:mg n (p/4) (p%4)=n[p]:=by
  unfold mg;rw[show p/4*4+p%4=p by omega,List.getD_eq_getElem?_getD,List.getElem?_eq_getElem h2];rfl
 rw[<- e1, <- e2];omega
theorem mx3(P a b:Int)(h1:0<=P)(h2:P<=2)(h3:0<=a)(h4:a<=2)(h5:0<=b)(h6:b<=2)(h7:a≠0):max (max P a) b≠0/\(max (max P a) b=2↔P=2\/a=2\/b=2)/\0<=max (max P a) b/\max (max P a) b<=2:=ag
theorem uJ{m n:List Int}(hm:kP m)(hn:kP n)(i j:Nat):∀q,(fA m n i j q≠0↔∃k,k<q/\mg m i k≠0/\mg n k j≠0)/\(fA m n i j q=2↔∃k,k<q/\mg m i k≠0/\mg n k j≠0/\(mg m i k=2\/mg n k j=2))/\0<=fA m n i j q/\fA m n i j q<=2
 |0=>by simp[fA]
 |q+1=>by
  obtain⟨i1,i2,i3,i4⟩:=uJ hm hn i j q
  have e:fA m n i j (q+1)=xH m n i j (fA m n i j q) q:=by
   unfold fA;rw[List.range_succ,List.foldl_append];rfl
  have a:=AJ hm i q
  have b:=AJ hn q j
  rw[e]
  unfold xH
  change (((if mg m i q≠0/\mg n q j≠0 then max (max (fA m n i j q) (mg m i q)) (mg n q j)else fA m n i j q)≠0)↔_)/\((if mg m i q≠0/\mg n q j≠0 then max (max (fA m n i j q) (mg m i q)) (mg n q j)else fA m n i j q)=2↔_)/\0<=(if mg m i q≠0/\mg n q j≠0 then max (max (fA m n i j q) (mg m i q)) (mg n q j)else fA m n i j q)/\(if mg m i q≠0/\mg n q j≠0 then max (max (fA m n i j q) (mg m i q)) (mg n q j)else fA m n i j q)<=2
  by_cases h:mg m i q≠0/\mg n q j≠0
  ·rw[if_pos h]
   obtain⟨x1,x2,x3,x4⟩:=mx3 _ _ _ i3 i4 a.1 a.2 b.1 b.2 h.1
   refine⟨⟨fun _=>⟨q,ag,h⟩,fun _=>x1⟩,x2.trans ⟨fun h2=> ?_,fun⟨k,k1,k2,k3,k4⟩=> ?_⟩,x3,x4⟩
   ·rcases h2 with g|g
    ·obtain⟨k,k1,k2⟩:=i2.1 g
     exact⟨k,ag,k2⟩
    ·exact⟨q,ag,h.1,h.2,g⟩
   ·rcases(by omega:k<q\/k=q)with g|g
    ·exact .inl (i2.2 ⟨k,g,k2,k3,k4⟩)
    ·subst g;exact .inr k4
  ·rw[if_neg h]
   refine⟨⟨fun h2=> ?_,fun⟨k,k1,k2⟩=> ?_⟩,⟨fun h2=> ?_,fun⟨k,k1,k2,k3,k4⟩=> ?_⟩,i3,i4⟩
   ·obtain⟨k,k1,k2⟩:=i1.1 h2;exact⟨k,ag,k2⟩
   ·rcases(by omega:k<q\/k=q)with g|g
    ·exact i1.2 ⟨k,g,k2⟩
    ·subst g;exact absurd k2 h
   ·obtain⟨k,k1,k2⟩:=i2.1 h2;exact⟨k,ag,k2⟩
   ·rcases(by omega:k<q\/k=q)with g|g
    ·exact i2.2 ⟨k,g,k2,k3,k4⟩
    ·subst g;exact absurd ⟨k2,k3⟩ h
theorem Mp(m n:List Int){i j:Nat}(hi:i<4)(hj:j<4):mg (c7 m n) i j=fA m n i j 4:=by
 unfold mg c7
 exact aa6
theorem jx{m n:List Int}(hm:kP m)(hn:kP n):kP (c7 m n):=by
 refine⟨by simp[c7],fun x hx=> ?_⟩
 unfold c7 at hx
 obtain⟨p,_,rfl⟩:=List.mem_map.1 hx
 exact(uJ hm hn _ _ 4).2.2
theorem fC{m n:List Int}(hm:kP m)(hn:kP n){i j:Nat}(hi:i<4)(hj:j<4):mg (c7 m n) i j≠0↔∃k,k<4/\mg m i k≠0/\mg n k j≠0:=by
 rw[Mp m n hi hj];exact(uJ hm hn i j 4).1
theorem jf{m n:List Int}(hm:kP m)(hn:kP n){i j:Nat}(hi:i<4)(hj:j<4):mg (c7 m n) i j=2↔∃k,k<4/\mg m i k≠0/\mg n k j≠0/\(mg m i k=2\/mg n k j=2):=by
 rw[Mp m n hi hj];exact(uJ hm hn i j 4).2.1
theorem Hg{m:List Int}{i j:Nat}(h:mg m i j=2):mg m i j≠0:=ag
theorem yV{a b c:List Int}(ha:kP a)(hb:kP b)(hc:kP c):c7 (c7 a b) c=c7 a (c7 b c):=by
 have ZI:=jx ha hb
 have Ot:=jx hb hc
 refine Hf (jx ZI hc) (jx ha Ot) fun i j hi hj=>⟨?_, ?_⟩
 ·rw[fC ZI hc hi hj,fC ha Ot hi hj]
  constructor
  ·rintro⟨k,hk,h1,h2⟩
   obtain⟨l,hl,h3,h4⟩:=(fC ha hb hi hk).1 h1
   exact⟨l,hl,h3,(fC hb hc hl hj).2 ⟨k,hk,h4,h2⟩⟩
  ·rintro⟨l,hl,h3,h1⟩
   obtain⟨k,hk,h4,h2⟩:=(fC hb hc hl hj).1 h1
   exact⟨k,hk,(fC ha hb hi hk).2 ⟨l,hl,h3,h4⟩,h2⟩
 ·rw[jf ZI hc hi hj,jf ha Ot hi hj]
  constructor
  ·rintro⟨k,hk,h1,h2,h5⟩
   rcases h5 with h5|h5
   ·obtain⟨l,hl,h3,h4,h6⟩:=(jf ha hb hi hk).1 h5
    refine⟨l,hl,h3,(fC hb hc hl hj).2 ⟨k,hk,h4,h2⟩, ?_⟩
    rcases h6 with h6|h6
    ·exact .inl h6
    ·exact .inr ((jf hb hc hl hj).2 ⟨k,hk,h4,h2, .inl h6⟩)
   ·obtain⟨l,hl,h3,h4⟩:=(fC ha hb hi hk).1 h1
    exact⟨l,hl,h3,(fC hb hc hl hj).2 ⟨k,hk,h4,h2⟩, .inr ((jf hb hc hl hj).2 ⟨k,hk,h4,h2, .inr h5⟩)⟩
  ·rintro⟨l,hl,h3,h1,h5⟩
   rcases h5 with h5|h5
   ·obtain⟨k,hk,h4,h2⟩:=(fC hb hc hl hj).1 h1
    exact⟨k,hk,(fC ha hb hi hk).2 ⟨l,hl,h3,h4⟩,h2, .inl ((jf ha hb hi hk).2 ⟨l,hl,h3,h4, .inl h5⟩)⟩
   ·obtain⟨k,hk,h4,h2,h6⟩:=(jf hb hc hl hj).1 h5
    refine⟨k,hk,(fC ha hb hi hk).2 ⟨l,hl,h3,h4⟩,h2, ?_⟩
    rcases h6 with h6|h6
    ·exact .inl ((jf ha hb hi hk).2 ⟨l,hl,h3,h4, .inr h6⟩)
    ·exact .inr h6
def qQ:List Int:=[1,0,0,0,0,1,0,0,0,0,1,0,0,0,0,1]
theorem qR:kP qQ:=⟨rfl,bI⟩
theorem AK{i j:Nat}(hi:i<4)(hj:j<4):mg qQ i j=if i=j then 1 else 0:=by
 have:∀i,i<4->∀j,j<4->mg qQ i j=if i=j then 1 else 0:=bI
 exact this i hi j hj
theorem Hh{m:List Int}(hm:kP m):c7 qQ m=m:=by
 refine Hf (jx qR hm) hm fun i j hi hj=>⟨?_, ?_⟩
 ·rw[fC qR hm hi hj]
  constructor
  ·rintro⟨k,hk,h1,h2⟩
   rw[AK hi hk]at h1
   by_cases e:i=k
   ·subst e;exact h2
   ·rw[if_neg e]at h1;exact absurd rfl h1
  ·intro h;exact⟨i,hi,by rw[AK hi hi,if_pos rfl];decide,h⟩
 ·rw[jf qR hm hi hj]
  constructor
  ·rintro⟨k,hk,h1,h2,h3⟩
   rw[AK hi hk]at h1 h3
   by_cases e:i=k
   ·subst e;rw[if_pos rfl]at h3;rcases h3 with h3|h3
    ·cases h3
    ·exact h3
   ·rw[if_neg e]at h1;exact absurd rfl h1
  ·intro h;exact⟨i,hi,by rw[AK hi hi,if_pos rfl];decide,Hg h, .inr h⟩
def kQ(m:List Int):Nat->List Int
 |0=>m
 |k+1=>c7 (kQ m k) m
theorem mo{m:List Int}(hm:kP m):∀k,kP (kQ m k)
 |0=>hm
 |k+1=>jx (mo hm k) hm
theorem sD{m:List Int}(hm:kP m)(a:Nat):∀b,c7 (kQ m a) (kQ m b)=kQ m (a+b+1)
 |0=>rfl
 |b+1=>by
  show c7 (kQ m a) (c7 (kQ m b) m)=c7 (kQ m (a+(b+1))) m
  rw[<- yV (mo hm a) (mo hm b) hm,sD hm a b];rfl
def C9(m:List Int):Prop:=∃k i,i<4/\mg (kQ m k) i i=2
theorem Hi{m:List Int}(hm:kP m)(a:Nat):∀b,kQ (kQ m a) b=kQ m (a+b*(a+1))
 |0=>by simp[kQ]
 |b+1=>by
  show c7 (kQ (kQ m a) b) (kQ m a)=_
  rw[Hi hm a b,sD hm];congr 1
  rw[Nat.add_mul];omega
theorem SY{m:List Int}(hm:kP m){k i:Nat}(hi:i<4)(h:mg (kQ m k) i i=2):∀b,mg (kQ (kQ m k) b) i i=2
 |0=>h
 |b+1=>(jf (mo (mo hm k) b) (mo hm k) hi hi).2 ⟨i,hi,Hg (SY hm hi h b),Hg h, .inr h⟩
theorem Mq{m:List Int}(hm:kP m)(a:Nat):C9 (kQ m a)↔C9 m:=by
 constructor
 ·rintro⟨k,i,hi,h⟩
  rw[Hi hm]at h
  exact⟨_,i,hi,h⟩
 ·rintro⟨k,i,hi,h⟩
  refine⟨k,i,hi, ?_⟩
  rw[Hi hm,show a+k*(a+1)=k+a*(k+1) by rw[Nat.mul_add,Nat.mul_add,Nat.mul_comm];omega, <- Hi hm]
  exact SY hm hi h a
def wR(r:Nat->Nat->Bool):Nat->Nat->Nat->Bool
 |0,i,j=>r i j
 |k+1,i,j=>wR r k i j||(wR r k i k&&wR r k k j)
theorem qS(r:Nat->Nat->Bool):∀k m i j,m<k->wR r k i m=true->wR r k m j=true->wR r k i j=true
 |0,m,i,j,h,_,_=>absurd h (Nat.not_lt_zero _)
 |k+1,m,i,j,h,h1,h2=>by
  have ih:=qS r k
  simp only[wR,Bool.or_eq_true,Bool.and_eq_true]at h1 h2|-
  rcases(by omega:m<k\/m=k)with g|g
  ·rcases h1 with h1|h1<;>rcases h2 with h2|h2
   ·exact .inl (ih m i j g h1 h2)
   ·exact .inr ⟨ih m i k g h1 h2.1,h2.2⟩
   ·exact .inr ⟨h1.1,ih m k j g h1.2 h2⟩
   ·exact .inr ⟨h1.1,h2.2⟩
  ·subst g
   refine .inr ⟨?_, ?_⟩
   ·rcases h1 with h1|h1
    ·exact h1
    ·exact h1.1
   ·rcases h2 with h2|h2
    ·exact h2
    ·exact h2.2
theorem AL(r:Nat->Nat->Bool):∀k i j,r i j=true->wR r k i j=true
 |0,_,_,h=>h
 |k+1,i,j,h=>by simp only[wR,AL r k i j h,Bool.true_or]
theorem Mr(r:Nat->Nat->Bool)(T:Nat->Nat->Prop)(hT:∀i m j,m<4->T i m->T m j->T i j)(hr:∀i j,r i j=true->T i j):∀k,k<=4->∀i j,wR r k i j=true->T i j
 |0,_,i,j,h=>hr i j h
 |k+1,hk,i,j,h=>by
  simp only[wR,Bool.or_eq_true,Bool.and_eq_true]at h
  have ih:=Mr r T hT hr k ag
  rcases h with h|h
  ·exact ih i j h
  ·exact hT i k j ag (ih i k h.1) (ih k j h.2)
def eW(m:List Int)(i j:Nat):Bool:=decide (i<4)&&decide (j<4)&&decide (mg m i j≠0)
theorem dC{m:List Int}{i j:Nat}:eW m i j=true↔i<4/\j<4/\mg m i j≠0:=by simp[eW,and_assoc]
def kR(m:List Int):Bool:=(List.range 4).any fun i=>(List.range 4).any fun j=>decide (mg m i j=2)&&(decide (i=j)||wR (eW m) 4 j i)
theorem oj{m:List Int}:kR m=true↔∃i j,i<4/\j<4/\mg m i j=2/\(i=j\/wR (eW m) 4 j i=true):=by
 simp only[kR,List.any_eq_true,List.mem_range,Bool.and_eq_true,decide_eq_true_eq,Bool.or_eq_true]
 constructor
 ·rintro⟨i,hi,j,hj,h⟩;exact⟨i,j,hi,hj,h⟩
 ·rintro⟨i,j,hi,hj,h⟩;exact⟨i,hi,j,hj,h⟩
def ace(m:List Int)(q:Nat):Prop:=∃k i,k<q/\i<4/\mg (kQ m k) i i=2
theorem Hj{m:List Int}(hm:kP m):∀k i j,i<4->j<4->(mg (kQ m k) i j≠0->wR (eW m) 4 i j=true)/\(mg (kQ m k) i j=2->∃u v,u<4/\v<4/\mg m u v=2/\(i=u\/wR (eW m) 4 i u=true)/\(v=j\/wR (eW m) 4 v j=true))
 |0,i,j,hi,hj=>⟨fun h=>AL _ 4 i j (dC.2 ⟨hi,hj,h⟩),fun h=>⟨i,j,hi,hj,h, .inl rfl, .inl rfl⟩⟩
 |k+1,i,j,hi,hj=>by
  have ih:=Hj hm k
  have hP:=mo hm k
  refine⟨fun h=> ?_,fun h=> ?_⟩
  ·obtain⟨l,hl,h1,h2⟩:=(fC hP hm hi hj).1 h
   exact qS _ 4 l i j hl ((ih i l hi hl).1 h1) (AL _ 4 l j (dC.2 ⟨hl,hj,h2⟩))
  ·obtain⟨l,hl,h1,h2,h3⟩:=(jf hP hm hi hj).1 h
   have w2:=AL _ 4 l j (dC.2 ⟨hl,hj,h2⟩)
   rcases h3 with h3|h3
   ·obtain⟨u,v,hu,hv,g1,g2,g3⟩:=(ih i l hi hl).2 h3
    refine⟨u,v,hu,hv,g1,g2, .inr ?_⟩
    rcases g3 with g3|g3
    ·rw[g3];exact w2
    ·exact qS _ 4 l v j hl g3 w2
   ·exact⟨l,j,hl,hj,h3, .inr ((ih i l hi hl).1 h1), .inl rfl⟩
theorem FC{m:List Int}(hm:kP m)(h:C9 m):kR m=true:=by
 obtain⟨k,i,hi,h⟩:=h
 obtain⟨u,v,hu,hv,h1,h2,h3⟩:=(Hj hm k i i hi hi).2 h
 refine oj.2 ⟨u,v,hu,hv,h1, ?_⟩
 rcases h2 with h2|h2<;>rcases h3 with h3|h3
 ·left;omega
 ·right;rw[<- h2];exact h3
 ·right;rw[h3];exact h2
 ·right;exact qS _ 4 i v u hi h3 h2
theorem afw:∀e1 e2 e3 e4 e5 e6 e7 e8 e9:Bool,
 let p:=e1||e2&&(e6||e7&&e8)||e3&&(e8||e9&&e6)
 let q:=e2||e1&&(e4||e5&&e9)||e3&&(e9||e8&&e4)
 let s:=e3||e1&&(e5||e4&&e7)||e2&&(e7||e6&&e5)
 (p&&e4->q)/\(p&&e5->s)/\(q&&e6->p)/\(q&&e7->s)/\(s&&e8->p)/\(s&&e9->q):=bI
theorem PL(m:List Int)(j p q s:Nat)(bc:∀x,x<4->x=j\/x=p\/x=q\/x=s)(h4:j<4/\p<4/\q<4/\s<4)(hd:j≠p/\j≠q/\j≠s/\p≠q/\p≠s/\q≠s)(i:Nat)(Pw:i≠j)(h:wR (eW m) 4 j i=true)(hm:kP m):
 ∃k,k<3/\mg (kQ m k) j i≠0:=by
 obtain⟨hj,hp,hq,hs⟩:=h4
 obtain⟨d1,d2,d3,d4,d5,d6⟩:=hd
 have c9:=afw (eW m j p) (eW m j q) (eW m j s) (eW m p q) (eW m p s) (eW m q p) (eW m q s) (eW m s p) (eW m s q)
 have s1:∀ {x y},eW m x y=true->mg (kQ m 0) x y≠0:=fun h=>(dC.1 h).2.2
 have s2:∀ {x y z},eW m x y=true->eW m y z=true->mg (kQ m 1) x z≠0:=fun h h'=>(fC hm hm (dC.1 h).1 (dC.1 h').2.1).2 ⟨_,(dC.1 h).2.1,(dC.1 h).2.2,(dC.1 h').2.2⟩
 have s3:∀ {x y z w},eW m x y=true->eW m y z=true->eW m z w=true->mg (kQ m 2) x w≠0:=fun h h' Wc=>(fC (mo hm 1) hm (dC.1 h).1 (dC.1 Wc).2.1).2 ⟨_,(dC.1 Wc).1,s2 h h',(dC.1 Wc).2.2⟩
 generalize eP:(eW m j p||eW m j q&&(eW m q p||eW m q s&&eW m s p)||eW m j s&&(eW m s p||eW m s q&&eW m q p))=P at c9
 generalize eQ:(eW m j q||eW m j p&&(eW m p q||eW m p s&&eW m s q)||eW m j s&&(eW m s q||eW m s p&&eW m p q))=Q at c9
 generalize eS:(eW m j s||eW m j p&&(eW m p s||eW m p q&&eW m q s)||eW m j q&&(eW m q s||eW m q p&&eW m p s))=S at c9
 simp only[Bool.and_eq_true,and_imp]at c9
 obtain⟨c1,c2,c3,c4,c5,c6⟩:=c9
 have bP:eW m j p=true->P=true:=fun h=>by rw[<- eP,h];rfl
 have bQ:eW m j q=true->Q=true:=fun h=>by rw[<- eQ,h];rfl
 have bS:eW m j s=true->S=true:=fun h=>by rw[<- eS,h];rfl
 have key:=Mr (eW m) (fun u v=>(u=j\/(u=p/\P=true)\/(u=q/\Q=true)\/(u=s/\S=true))->(v=j\/(v=p/\P=true)\/(v=q/\Q=true)\/(v=s/\S=true))) (fun _ _ _ _ h1 h2 h3=>h2 (h1 h3)) (fun u v OA hu=>by
  have hv:=(dC.1 OA).2.1
  rcases bc v hv with e|e|e|e<;>rcases hu with g|⟨g,g'⟩|⟨g,g'⟩|⟨g,g'⟩<;>subst e<;>subst g<;>first
   |exact .inl rfl
   |exact .inr (.inl ⟨rfl,g'⟩)
   |exact .inr (.inr (.inl ⟨rfl,g'⟩))
   |exact .inr (.inr (.inr ⟨rfl,g'⟩))
   |exact .inr (.inl ⟨rfl,bP OA⟩)
   |exact .inr (.inr (.inl ⟨rfl,bQ OA⟩))
   |exact .inr (.inr (.inr ⟨rfl,bS OA⟩))
   |exact .inr (.inl ⟨rfl,c3 g' OA⟩)
   |exact .inr (.inl ⟨rfl,c5 g' OA⟩)
   |exact .inr (.inr (.inl ⟨rfl,c1 g' OA⟩))
   |exact .inr (.inr (.inl ⟨rfl,c6 g' OA⟩))
   |exact .inr (.inr (.inr ⟨rfl,c2 g' OA⟩))
   |exact .inr (.inr (.inr ⟨rfl,c4 g' OA⟩))) 4 (Nat.le_refl _) j i h (.inl rfl)
 have fin:∀y z w:Nat,(eW m j y||eW m j z&&(eW m z y||eW m z w&&eW m w y)||eW m j w&&(eW m w y||eW m w z&&eW m z y))=true->∃k,k<3/\mg (kQ m k) j y≠0:=fun y z w h=>by
  simp only[Bool.or_eq_true,Bool.and_eq_true]at h
  rcases h with(h|⟨h,h'|⟨h',Wc⟩⟩)|⟨h,h'|⟨h',Wc⟩⟩
  ·exact⟨0,ag,s1 h⟩
  ·exact⟨1,ag,s2 h h'⟩
  ·exact⟨2,ag,s3 h h' Wc⟩
  ·exact⟨1,ag,s2 h h'⟩
  ·exact⟨2,ag,s3 h h' Wc⟩
 rcases key with g|⟨g,g'⟩|⟨g,g'⟩|⟨g,g'⟩
 ·exact absurd g Pw
 ·rw[g];exact fin p q s (eP.trans g')
 ·rw[g];exact fin q p s (eQ.trans g')
 ·rw[g];exact fin s p q (eS.trans g')
theorem Jx{m:List Int}(hm:kP m)(h:kR m=true):ace m 4:=by
 obtain⟨i,j,hi,hj,h1,h2⟩:=oj.1 h
 by_cases e:i=j
 ·subst e;exact⟨0,i,ag,hi,h1⟩
 rcases h2 with h2|h2
 ·exact absurd h2 e
 have:∃k,k<3/\mg (kQ m k) j i≠0:=by
  rcases(by omega:j=0\/j=1\/j=2\/j=3)with rfl|rfl|rfl|rfl
  ·exact PL m 0 1 2 3 ag ag ag i e h2 hm
  ·exact PL m 1 0 2 3 ag ag ag i e h2 hm
  ·exact PL m 2 0 1 3 ag ag ag i e h2 hm
  ·exact PL m 3 0 1 2 ag ag ag i e h2 hm
 obtain⟨k,hk,h3⟩:=this
 refine⟨k+1,i,ag,hi, ?_⟩
 have:=sD hm 0 k
 rw[show k+1=0+k+1 by omega, <- this]
 exact(jf hm (mo hm k) hi hi).2 ⟨j,hj,Hg h1,h3, .inl h1⟩
theorem tD{m:List Int}(hm:kP m):kR m=true↔C9 m:=⟨fun h=>let⟨k,i,_,hi,h'⟩:=Jx hm h;⟨k,i,hi,h'⟩,FC hm⟩
theorem Hk{m:List Int}(h:c7 m m=m):∀k,kQ m k=m
 |0=>rfl
 |k+1=>by show c7 (kQ m k) m=m;rw[Hk h k,h]
theorem vN{m:List Int}(h:c7 m m=m):C9 m↔∃i,i<4/\mg m i i=2:=
 ⟨fun⟨k,i,hi,h2⟩=>⟨i,hi,by rwa [Hk h k]at h2⟩,fun⟨i,hi,h2⟩=>⟨0,i,hi,h2⟩⟩
theorem hole{α:Type}:∀ (l:List α) (f:Nat->α),(∀k,f k∈l)->∃a b,a<b/\f a=f b
 |[],f,h=>by cases h 0
 |x::l,f,h=>by
  classical
  by_cases hx:∃k,f k=x
  ·obtain⟨k,hk⟩:=hx
   by_cases hy:∃q,f (k+1+q)=x
   ·obtain⟨q,hq⟩:=hy
    exact⟨k,k+1+q,ag,by rw[hk,hq]⟩
   ·obtain⟨a,b,ZI,e⟩:=hole l (fun q=>f (k+1+q)) (fun q=>by
     rcases List.mem_cons.1 (h (k+1+q))with g|g
     ·exact absurd ⟨q,g⟩ hy
     ·exact g)
    exact⟨k+1+a,k+1+b,ag,e⟩
  ·exact hole l f fun k=>by
    rcases List.mem_cons.1 (h k)with g|g
    ·exact absurd ⟨k,g⟩ hx
    ·exact g
theorem Ms{m:List Int}(hm:kP m){a p:Nat}(h:kQ m (a+p)=kQ m a):∀t c,a<=c->kQ m (c+t*p)=kQ m c
 |0,c,_=>aI
 |t+1,c,hc=>by
  have h1:kQ m (c+p)=kQ m c:=by
   rcases Nat.eq_or_lt_of_le hc with g|g
   ·rw[<- g];exact h
   ·have e1:=sD hm (c - a - 1) (a+p)
    have e2:=sD hm (c - a - 1) a
    rw[h,e2]at e1
    rw[show c+p=c - a - 1+(a+p)+1 by omega, <- e1];congr 1;omega
  rw[Nat.add_mul,show c+(t*p+1*p)=(c+p)+t*p by omega,Ms hm h t (c+p) (by omega),h1]
theorem PM{m:List Int}(hm:kP m)(l:List (List Int))(h:∀k,kQ m k∈l):∃k,c7 (kQ m k) (kQ m k)=kQ m k:=by
 obtain⟨a,b,ZI,e⟩:=hole l (kQ m) h
 obtain⟨p,rfl⟩:∃p,b=a+(p+1):=⟨b - a - 1,ag⟩
 have hp:=Ms hm e.symm (a+1) (a*(p+1)+p) (by
  have:a*1<=a*(p+1):=Nat.mul_le_mul_left a ag
  omega)
 refine⟨a*(p+1)+p, ?_⟩
 rw[sD hm]
 rw[<- hp];congr 1
 rw[Nat.add_mul];omega
def Mt(m:List Int)(p n:Nat):List lx:=(List.range' p n).filterMap fun p=>if m.getD p 0≠0 then some ⟨(p/4:Nat),(p%4:Nat),m.getD p 0==2⟩else none
theorem Wd(m:List Int)(q:Nat):mn m q=Mt m 0 q:=by unfold mn Mt;rw[List.range_eq_range']
theorem vO{m:List Int}(hm:kP m):∀ (n p:Nat) (last:Int) (acc:List Int),p+n=16->last<p->acc.length=16->(∀k,k<p->acc[k]? =m[k]?)->(∀k,p<=k->k<16->acc[k]? =some 0)->sC (Mt m p n) last acc=some m
 |0,p,last,acc,h1,h2,h3,h4,h5=>by
  have:acc=m:=List.ext_getElem? fun k=>by
   by_cases hk:k<p
   ·exact h4 k hk
   ·rw[List.getElem?_eq_none (by omega),List.getElem?_eq_none (by have:=hm.1;omega)]
  rw[this];rfl
 |n+1,p,last,acc,h1,h2,h3,h4,h5=>by
  have hl:=hm.1
  have hp:m[p]? =some (m.getD p 0):=by rw[List.getD_eq_getElem?_getD,List.getElem?_eq_getElem (by omega)];rfl
  have hr:0<=m.getD p 0/\m.getD p 0<=2:=hm.2 _ (List.mem_of_getElem? hp)
  unfold Mt
  rw[List.range'_succ,List.filterMap_cons]
  by_cases h0:m.getD p 0≠0
  ·rw[if_pos h0]
   show sC (_::Mt m (p+1) n) last acc=some m
   unfold sC
   have e1:((p/4:Nat):Int)*4+((p%4:Nat):Int)=p:=ag
   rw[if_neg (by dsimp only;omega)]
   have ek:lx.k ⟨(p/4:Nat),(p%4:Nat),m.getD p 0==2⟩=p:=by unfold lx.k;dsimp only;omega
   have ev:lx.v ⟨(p/4:Nat),(p%4:Nat),m.getD p 0==2⟩=m.getD p 0:=by
    unfold lx.v;dsimp only
    split
    ·rename_i h;rw[beq_iff_eq]at h;exact h.symm
    ·rename_i h;rw[beq_iff_eq]at h;omega
   rw[ek,ev]
   refine vO hm n (p+1) _ _ ag kp (by rw[List.length_set];exact h3) (fun k hk=> ?_) (fun k hk hk2=> ?_)
   ·rw[List.getElem?_set]
    split
    ·rename_i e;rw[if_pos (by omega), <- e,hp]
    ·exact h4 k ag
   ·rw[List.getElem?_set,if_neg (by omega)];exact h5 k ag hk2
  ·rw[if_neg h0]
   refine vO hm n (p+1) _ _ ag ag h3 (fun k hk=> ?_) (fun k hk hk2=>h5 k ag hk2)
   by_cases e:k=p
   ·subst e
    rw[hp,h5 k (by omega) (by omega)];congr 1;exact(Decidable.not_not.1 h0).symm
   ·exact h4 k ag
theorem PN{m:List Int}(hm:kP m):sC (mn m 16) (-1) Jv=some m:=by
 rw[Wd]
 refine vO hm 16 0 (-1) Jv ag bI rfl (fun k hk=>absurd hk (Nat.not_lt_zero _)) (fun k _ hk=> ?_)
 have:∀p,p<16->Jv[p]? =some 0:=bI
 exact this k hk
section
def jZ(id:Nat)(K X:V->(Nat->ab)->Nat->Prop)(e:fG)(s:S):Prop:=
 match e with
 | .normal=>∃nf m en p c d st pd,s.o id= .loop nf m en p c d st pd/\K (.d (.bool true)) (ax s.o id (.loop nf m en p c d .ready none)) s.nx
 | .ret=>∃nf m en p c d st pd,s.o id= .loop nf m en p c d st pd/\K (.d (.bool false)) (ax s.o id (.loop nf m en p c d .done (some .ret))) s.nx
 | .exit j=>∃nf m en p c d st pd,s.o id= .loop nf m en p c d st pd/\K (.d (.bool false)) (ax s.o id (.loop nf m en p c d .done (some (.exit j)))) s.nx
 | .bE v=>X v s.o s.nx
def We(P:Program)(n b id:Nat)(eI:IC)(K X:V->(Nat->ab)->Nat->Prop)(e:fG)(s:S):Prop:=
 match e with
 | .normal=>∃nf m en p c d pd,s.o id= .loop nf m en p c d .ready pd/\uH P n b true eI (jZ id K X) ⟨s.env,ax s.o id (.loop nf m en p c d .busy pd),s.nx⟩
 | .bE v=>X v s.o s.nx
 |_=>False
section
variable {P:Program}{M:Nat->Prop}{φ cA:Place}{H0:Hp}{w w0:World}{n:Nat}{s:S}{a:Act}{cx:Cx}
theorem Da{id:Nat}{x:ab}{s:S}(cG:id<s.nx)(j:Nat)(hu:(s.H.put [(id,x)]).us j):j<s.nx:=by
 simp only[dW]at hu
 rcases hu with hu|hu
 ·exact hu
 ·subst hu;exact cG
theorem vP{B:Nat->Prop}{H:Hp}{n:Nat}:∀ (ps:List Nat) (vs:List V) (us:List Value) (env:Nat->V) (tmps:Array Value),tmps.size=n->ps.length=vs.length->V.aB B φ H w vs us->ps.all (fun t=>decide (t<n))=true->(∀i,V.den B φ H w (env i) (tmps.getD i undef))->
 ((ps.zip us).foldl (fun tmps p=>tmps.setIfInBounds p.1 p.2) tmps).size=n/\∀i,V.den B φ H w (nC env ps vs i) (((ps.zip us).foldl (fun tmps p=>tmps.setIfInBounds p.1 p.2) tmps).getD i undef)
 |[],[],us,env,tmps,dO,_,hd,_,he=>by simp only[V.aB]at hd;subst hd;exact⟨dO,he⟩
 |[],v::vs,us,env,tmps,_,h,_,_,_=>by simp at h
 |t::ps,[],us,env,tmps,_,h,_,_,_=>by simp at h
 |t::ps,v::vs,us,env,tmps,dO,hl,hd,hp,he=>by
  obtain⟨u,us,rfl,h1,h2⟩:=hd
  simp only[List.all_cons,Bool.and_eq_true,decide_eq_true_eq]at hp
  simp only[List.zip_cons_cons,List.foldl_cons,nC]
  refine vP ps vs us (ax env t v) (tmps.setIfInBounds t u) (by simp[dO]) (by simpa using hl) h2 hp.2 (fun i=> ?_)
  simp only[aK]
  by_cases hi:i=t
  ·subst hi
   have:(tmps.setIfInBounds i u).getD i undef=u:=by simp[Array.getD,dO,hp.1]
   rw[if_pos rfl,this];exact h1
  ·have:(tmps.setIfInBounds t u).getD i undef=tmps.getD i undef:=by
    exact U1
   rw[if_neg hi,this];exact he i
theorem dI.vK (bd:P.follows .mixedOrders=true){id:Nat}{args:List V}{o:Nat->ab}{nx:Nat}{K X:V->(Nat->ab)->Nat->Prop}{env:List V}{ps:List Nat}{iZ eI:IC}{st:LoopState}{pd:Option kj}
 (ho:o id= .loop P.funcs.size n env ps iZ eI st pd) (cG:id<nx) (xI:ps.all (fun t=>decide (t<n))=true) (hl:args.length=ps.length)
 (h:uH P n nx true iZ (We P n nx id eI K X) ⟨nC (aU env) ps args,o,nx⟩):dI P id args o nx K X:=by
 refine⟨by rw[ho];rfl,fun M φ w vals b hH hd eu=> ?_⟩
 have aW:=hH.ok id
 simp only[aP,hp,ho]at aW
 obtain⟨b',r,h1,h2,h0,h3,h4,h5,h6,h7,h8,h9⟩:=aW
 rw[eu]at h1;simp at h1;subst h1
 have hlen:=V.aA _ _ hd
 have dO:vals.size=r.params.size:=by
  have:r.params.toList.length=ps.length:=by rw[h5]
  simp at hlen this;omega
 let tm:Array Value:=(ps.zip vals.toList).foldl (fun tmps p=>tmps.setIfInBounds p.1 p.2) r.tmps
 have acf:(r.params.zip vals).foldl (fun tmps (p:Tmp×Value)=>tmps.setIfInBounds p.1 p.2) r.tmps=tm:=by
  rw[<- Array.foldl_toList,Array.toList_zip,h5]
 obtain⟨p1,p2⟩:=vP (B:=ao M φ (hp o nx)) (H:=hp o nx) (φ:=φ) (w:=w) ps args vals.toList (aU env) r.tmps h6 hl.symm hd xI h9
 refine⟨r.fn,tm,r.assign,r.body, ?_,fun k=> ?_⟩
 ·simp only[Instr.yield,Sem.run_bind,kM h2,Result.andThen_ok,dO,ne_eq,not_true_eq_false,if_false,Sem.run_pure]
  rw[<- acf]
 ·
   let s0:S:=⟨nC (aU env) ps args,o,nx⟩
   let a0:Act:={tmps:=tm,defers:=[]}
   have iL:b8 M φ (hp o nx) w n ⟨[],true⟩ φ s0 a0 w:=⟨hH,Trans.refl _ _ _,p1,⟨[],rfl,List.nodup_nil,fun _=>rfl,fun r hr=>by cases hr⟩,p2⟩
   have vQ:∀ {aG s' a' w'},b8 M φ (hp o nx) w n ⟨[],true⟩ aG s' a' w'->a'.defers=[]:=by
    intro aG s' a' w' hs
    obtain⟨ms,g1,_,g3,_⟩:=hs.defers
    rw[g3 rfl]at g1;exact g1
   have acg:∀ {aG s' a' w'} {nf m:Nat} {en:List V} {p:List Nat} {c d:IC} {st:LoopState} {pd:Option kj} (st':LoopState) (pd':Option kj),b8 M φ (hp o nx) w n ⟨[],true⟩ aG s' a' w'->s'.o id= .loop nf m en p c d st pd->
    ∃r',w'.heap[b]? =some (.loop r')/\r'.state=st/\r'.pending=pd.map kj.code/\
     b8 M φ (hp o nx) w n ⟨[],true⟩ aG ⟨s'.env,ax s'.o id (.loop nf m en p c d st' pd'),s'.nx⟩ a' {w' with heap:=w'.heap.setIfInBounds b (.loop {r' with state:=st',pending:=pd'.map kj.code})}:=by
    intro aG s' a' w' nf m en p c d st pd st' pd' hs pX
    have Vu:aG id= .pointer (some ⟨b,0,none⟩):=by
     have:=(hs.tr.rel.row id cG (by show(s'.o id).cj=true;rw[pX];rfl)).2
     rw[this];exact eu
    have ach:id<s'.nx:=hs.tr.rel.us id cG
    obtain⟨r',r1,r2,r3,r4,r5⟩:=yB (st':=st') (pd':=pd') hs.heap ach (show s'.H.o id=_ from pX) Vu
    exact⟨r',r1,r2,r3,eJ hs r4 r5 rfl (Da ach)⟩
   have ha:=iw (P:=P) (n:=n) (b:=nx) (rd:=true) bd r.assign _ _ s0 (fun _ _ h=>h) (by rw[h7];exact h)
   refine vy h0 (gM (il (P:=P) (H0:=hp o nx) (b:=nx) (cx:=⟨[],true⟩) (ro:=some b) (fun id hu=>hu) (fun h=>by cases h) r.assign _ s0 φ a0 w ha iL) ?_)
   rintro e a1 w1 ⟨x,s1,iW,hq,yE,hm⟩
   cases e<;>cases x<;>first|(exact hm.elim)|skip
   ·
     obtain⟨nf,m,en,p,c,d,pd1,q1,q2⟩:=hq
     obtain⟨r',r1,r2,r3,Ox⟩:=acg .busy pd1 yE q1
     have Wf:(Instr.beginRound b).run P w1= .ok () {w1 with heap:=w1.heap.setIfInBounds b (.loop {r' with state:= .busy,pending:=pd1.map kj.code})}:=by
      have e1:({r' with state:= .busy}:Loop)={r' with state:= .busy,pending:=pd1.map kj.code}:=by rw[<- r3]
      simp only[Instr.beginRound,Sem.run_bind,kM r1,Result.andThen_ok,jc _ r1,r2,Sem.run_pure,e1]
     refine⟨_,Wf, ?_⟩
     have bC:=Ox.heap.ok id
     simp only[aP,S.H,aK,if_true]at bC
     obtain⟨b2,r2',_,_,_,_,_,_,_,_,_,_⟩:=bC
     have hb:=iw (P:=P) (n:=n) (b:=nx) (rd:=true) bd r.body _ _ _ (fun _ _ h=>h) (by rw[h8];exact q2)
     refine gM (il (P:=P) (H0:=hp o nx) (b:=nx) (cx:=⟨[],true⟩) (ro:=some b) (fun id hu=>hu) (fun h=>by cases h) r.body _ _ iW a1 _ hb Ox) ?_
     rintro e a2 w2 ⟨x,s2,Jc,Y0,G0,Pj⟩
     have fin:∀ {nf m:Nat} {en:List V} {p:List Nat} {c d:IC} {st:LoopState} {pd:Option kj} (jump:Option kj) (t:Bool) (st':LoopState),t=jump.isNone->st'=(if jump.isNone then .ready else .done)->s2.o id= .loop nf m en p c d st pd->K (.d (.bool t)) (ax s2.o id (.loop nf m en p c d st' jump)) s2.nx->
      ∃v w',(Instr.endRound b (jump.map kj.code)).run P w2= .ok v w'/\nn M φ (hp o nx) w K X (.returned v) w':=by
      intro nf m en p c d st pd jump t st' ht iY OB hK
      obtain⟨r3',g1,g2,g3,Y1⟩:=acg st' jump G0 OB
      refine⟨.bool t,_, ?_,Jc,_,_,_,Y1.heap,Y1.tr,by simp only[V.den,D.den],hK⟩
      subst ht;subst iY
      simp only[Instr.endRound,Sem.run_bind,kM g1,Result.andThen_ok,jc _ g1,Sem.run_pure,Option.isNone_map]
     cases e<;>cases x<;>first|(exact Pj.elim)|skip
     ·obtain⟨nf,m,en,p,c,d,st,pd,k1,k2⟩:=Y0
      exact fin none true .ready rfl rfl k1 k2
     ·rename_i j
      subst Pj
      obtain⟨nf,m,en,p,c,d,st,pd,k1,k2⟩:=Y0
      exact fin (some (.exit _)) false .done rfl rfl k1 k2
     ·obtain⟨nf,m,en,p,c,d,st,pd,k1,k2⟩:=Y0
      exact fin (some .ret) false .done rfl rfl k1 k2
     ·obtain⟨val,rfl,k2⟩:=Pj
      exact⟨vQ G0,Jc,_,_,_,G0.heap,G0.tr,val,rfl,k2,Y0⟩
   ·exact hq.elim
   ·exact hq.elim
   ·obtain⟨val,rfl,k2⟩:=hm
    exact⟨vQ yE,iW,_,_,_,yE.heap,yE.tr,val,rfl,k2,hq⟩
end
end
section
def Wg(ops:Array Oper)(t t1:Nat):Prop:=
 (∃o1 o2,ops=#[o1,o2]/\o1.op= .call ⟨.builtin .recover,#[],#[]⟩/\o1.dst=some t/\o1.guard=none/\o2.op= .assign (.tmp t)/\o2.dst=some t1/\o2.guard=none)\/
 (∃o1,ops=#[o1]/\t1=t/\o1.op= .call ⟨.builtin .recover,#[],#[]⟩/\o1.dst=some t/\o1.guard=none)
structure Db (P:Program) (g:FuncId) (n t t1:Nat) (ic:IC):Prop where
 get:∃fn id ops c,P.funcs[g]? =some fn/\(fn.name== "runtime.NumGoroutine")=false/\fn.ntmps=n/\fn.results=#[]/\fn.body=some (.seq (.region id ops false) c)/\
  Wg ops t t1/\t<n/\t1<n/\low n c=ic
structure Hl (P:Program) (f:FuncId) (n:Nat) (iZ eI:IC) (g:FuncId) (t:Nat) (aM:List Operand) (rs:List ResultVar):Prop where
 get:∃fn id o1 o2 a b d,P.funcs[f]? =some fn/\(fn.name== "runtime.NumGoroutine")=false/\fn.ntmps=n/\fn.results.toList=rs/\fn.body=some (.seq a d)/\(d= .seq (.region id #[o1,o2] false) b\/d= .scope (.seq (.region id #[o1,o2] false) b))/\
  o1.op= .makeFunc (.func g) #[] aM.toArray/\o1.dst=some t/\o1.guard=none/\o2.op= .defer ⟨.value (.tmp t),#[],#[]⟩/\o2.dst=none/\o2.guard=none/\t<n/\low n a=iZ/\low n b=eI
def Jy(K:(Nat->ab)->Nat->Prop)(e:fG)(s:S):Prop:=match e with| .normal| .ret=>K s.o s.nx|_=>False
def FE(P:Program)(n t t1:Nat)(ic:IC)(aM:List V)(u:V)(o:Nat->ab)(nx:Nat)(K:(Nat->ab)->Nat->Prop):Prop:=
 aM.length<=n/\uH P n nx true ic (Jy K) ⟨ax (ax (cp aM) t u) t1 u,o,nx⟩
def AM(P:Program)(n t t1:Nat)(ic:IC)(aM:List V)(rs:List ResultVar)(K X:V->(Nat->ab)->Nat->Prop)(e:fG)(s:S):Prop:=
 match e with
 | .normal| .ret=>FE P n t t1 ic aM (.d .fe) s.o s.nx fun o nx=>mi P rs K X .ret ⟨s.env,o,nx⟩
 | .bE v=>FE P n t t1 ic aM v s.o s.nx fun o nx=>mi P rs K X .ret ⟨s.env,o,nx⟩
 | .exit _=>False
def Dc(P:Program)(n t:Nat)(eI:IC)(fi:List Operand)(g:FuncId)(D:List V->fG->S->Prop)(e:fG)(s:S):Prop:=
 match e with
 | .normal=>uH P n s.nx false eI (D (fi.map s.ev)) ⟨ax s.env t (.func (.func g) [] (fi.map s.ev)),s.o,s.nx⟩
 |_=>False
section
variable {P:Program}{M:Nat->Prop}{φ cA:Place}{H H0:Hp}{w w0:World}{n:Nat}{s:S}{a:Act}{cx:Cx}{k:Nat}
theorem Jz(bd:P.follows .mixedOrders=true){g:FuncId}{t t1:Nat}{ic:IC}(hg:Db P g n t t1 ic){aM:List V}{u:V}{o:Nat->ab}{nx:Nat}{K:(Nat->ab)->Nat->Prop}(h:FE P n t t1 ic aM u o nx K)
 {vals:Array Value} {val:Value} {m:FrameMode} (hH:ay M φ (hp o nx) w) (hd:V.aB (ao M φ (hp o nx)) φ (hp o nx) w aM vals.toList) (hv:V.den (ao M φ (hp o nx)) φ (hp o nx) w u val)
 (hm:(m= .returning/\val= .nilIface)\/m= .panicking [{v:=val,recovered:=false}]):
 CallsDIn (dN none) k P g vals m w fun e u' w'=>∃v aG o' nx',e= .returned v/\settle u'= .returning/\ay M aG (hp o' nx') w'/\Trans φ (hp o nx) w aG (hp o' nx') w'/\K o' nx':=by
 obtain⟨fn,id,ops,c,hf,SZ,hnt,Af,qF,Lw,ht,BD,su⟩:=hg.get
 have cG:g<P.funcs.size:=(Array.getElem?_eq_some_iff.1 hf).1
 obtain⟨mX,h⟩:=h
 have hlen:=V.aA _ _ hd
 refine⟨trivial,fun pD cs Mu Si=> ?_⟩
 let b:Frame:={(default:Frame)with fn:=g,kind:= .deferred,roundOf:=none}
 let uK:Array Value:=vals++Array.replicate (fn.ntmps - vals.size) undef
 have afx:uK.size=n:=by simp only[uK,Array.size_append,Array.size_replicate];simp at hlen;omega
 have mh:Frame.enter P g vals .deferred=b.atR {tmps:=uK,defers:=[]} [.code (.seq (.region id ops false) c)]:=by
  simp[Frame.enter,Frame.atR,hf,qF,b,uK]
 obtain⟨m',hm',bC⟩:∃m',settle m'= .returning/\((recoverD (pD::cs)=none/\m'=m/\val= .nilIface)\/recoverD (pD::cs)=some (val,{pD with mode:=m'}::cs)):=by
  rcases hm with⟨rfl,rfl⟩|rfl
  ·exact⟨.returning,rfl, .inl ⟨by simp[recoverD,Mu],rfl,rfl⟩⟩
  ·exact⟨.panicking [{v:=val,recovered:=true}],rfl, .inr (by simp[recoverD,Mu])⟩
 have KA:({pD with mode:=m}:Frame)=pD:=by subst Mu;rfl
 let a1:Act:={tmps:=(uK.setIfInBounds t val).setIfInBounds t1 val,defers:=[]}
 have Px:(Code.region id ops false).wpSIn (dN none) k P (fun e a' cs' w'=>e= .normal/\a'=a1/\cs'={pD with mode:=m'}::cs/\w'=w) {tmps:=uK,defers:=[]} (pD::cs) w:=by
  rcases Lw with⟨o1,o2,rfl,e1,e2,e3,e4,e5,e6⟩|⟨o1,rfl,rfl,e1,e2,e3⟩
  ·refine wpSIn_region ?_
   have hr:List.range (#[o1,o2]:Array Oper).size=[0,1]:=rfl
   have g0:(#[o1,o2]:Array Oper)[0]? =some o1:=rfl
   have g1:(#[o1,o2]:Array Oper)[1]? =some o2:=rfl
   rw[hr]
   have x1:∀ (ρ:Operand->Value) (w:World),(execOp ρ o1).run P w= .ok .recover w:=by
    intro ρ w
    simp[execOp,e1,resolve,invoke,builtin]
   have x2:∀ (ρ:Operand->Value) (w:World),(execOp ρ o2).run P w= .ok (.value (ρ (.tmp t))) w:=by
    intro ρ w
    simp[execOp,e4]
   have last:∀cs',cs'={pD with mode:=m'}::cs->wpOpsSIn (dN none) k P #[o1,o2] (fun e a' cs' w'=>e= .normal/\a'=a1/\cs'={pD with mode:=m'}::cs/\w'=w) [1] (({tmps:=uK,defers:=[]}:Act).put (some t) val) cs' w:=by
    rintro cs' rfl
    have hw:Region.wanted o2 (yielded #[o1,o2] (({tmps:=uK,defers:=[]}:Act).put (some t) val).tmps)=true:=by simp[Region.wanted,e6]
    have du:(({tmps:=uK,defers:=[]}:Act).put (some t) val).eval (.tmp t)=val:=by
     have:t<uK.size:=ag
     simp[Act.put,Act.eval,Array.getD,this]
    simp only[wpOpsSIn,g1,hw,if_true,x2,du,e5]
    refine⟨fun _ _=>trivial, ?_⟩
    simp[a1,Act.put]
   have hw:Region.wanted o1 (yielded #[o1,o2] uK)=true:=by simp[Region.wanted,e3]
   rw[wpOpsSIn,g0]
   refine⟨fun _ _=>trivial, ?_⟩
   simp only[hw,if_true,x1,e2]
   rcases bC with⟨hr,rfl,rfl⟩|hr
   ·simp only[hr]
    exact last _ (by rw[KA])
   ·simp only[hr]
    exact last _ rfl
  ·refine wpSIn_region ?_
   have hr:List.range (#[o1]:Array Oper).size=[0]:=rfl
   have g0:(#[o1]:Array Oper)[0]? =some o1:=rfl
   rw[hr]
   have x1:∀ (ρ:Operand->Value) (w:World),(execOp ρ o1).run P w= .ok .recover w:=by
    intro ρ w
    simp[execOp,e1,resolve,invoke,builtin]
   have same:a1=({tmps:=uK,defers:=[]}:Act).put (some t1) val:=by
    simp only[a1,Act.put]
    congr 1
    apply Array.ext_getElem?
    intro j
    simp only[Array.getElem?_setIfInBounds]
    by_cases hj:t1=j
    ·subst hj;simp
    ·simp[hj]
   have last:∀cs',cs'={pD with mode:=m'}::cs->wpOpsSIn (dN none) k P #[o1] (fun e a' cs' w'=>e= .normal/\a'=a1/\cs'={pD with mode:=m'}::cs/\w'=w) [] (({tmps:=uK,defers:=[]}:Act).put (some t1) val) cs' w:=by
    rintro cs' rfl
    simp only[wpOpsSIn]
    exact⟨trivial,same.symm,trivial,trivial⟩
   have hw:Region.wanted o1 (yielded #[o1] uK)=true:=by simp[Region.wanted,e3]
   rw[wpOpsSIn,g0]
   refine⟨fun _ _=>trivial, ?_⟩
   simp only[hw,if_true,x1,e2]
   rcases bC with⟨hr,rfl,rfl⟩|hr
   ·simp only[hr]
    exact last _ (by rw[KA])
   ·simp only[hr]
    exact last _ rfl
 obtain⟨er,ar,csr,wr,hl,⟨rfl,rfl,rfl,hwr⟩,dg⟩:=Px b [.code c] rfl rfl trivial (fun d hd=>by simp[dN]at hd)
 rw[hwr]at dg
 let s0:S:=⟨ax (ax (cp aM) t u) t1 u,o,nx⟩
 have iL:b8 M φ (hp o nx) w n ⟨[],true⟩ φ s0 a1 w:=by
  refine⟨hH,Trans.refl _ _ _,by simp[a1,afx],⟨[],rfl,List.nodup_nil,fun _=>rfl,fun r hr=>by cases hr⟩,fun i=> ?_⟩
  have ef:=BV (m:=fn.ntmps - vals.size) hd i
  simp only[s0,a1,aK]
  have YW:t<uK.size:=ag
  have afy:t1<uK.size:=ag
  by_cases h1:i=t1
  ·subst h1
   simp only[if_true]
   have:((uK.setIfInBounds t val).setIfInBounds i val).getD i undef=val:=by simp[Array.getD,afy]
   rw[this];exact hv
  ·simp only[h1,if_false]
   have e1:((uK.setIfInBounds t val).setIfInBounds t1 val).getD i undef=(uK.setIfInBounds t val).getD i undef:=by
    exact RY
   rw[e1]
   by_cases h2:i=t
   ·subst h2
    simp only[if_true]
    have:(uK.setIfInBounds i val).getD i undef=val:=by simp[Array.getD,YW]
    rw[this];exact hv
   ·simp only[h2,if_false]
    have e1:(uK.setIfInBounds t val).getD i undef=uK.getD i undef:=by
     simp only[Array.getD_eq_getD_getElem?]
     rw[Array.getElem?_setIfInBounds_ne (Ne.symm h2)]
    rw[e1];exact ef
 have hcw:=iw (P:=P) (n:=n) (b:=nx) (rd:=true) bd c _ _ s0 (fun _ _ h=>h) (by rw[su];exact h)
 obtain⟨e,a',w',⟨x,s',aG,hq,jr,hx⟩,GZ⟩:=il (P:=P) (H0:=hp o nx) (b:=nx) (cx:=⟨[],true⟩) (ro:=none) (fun id hu=>hu) (fun h=>by cases h) c _ s0 φ a1 w hcw iL b [] ({pD with mode:=m'}::cs) rfl cG
 have i0:(lone (b.atR {tmps:=uK,defers:=[]} [.code (.seq (.region id ops false) c)]) (pD::cs) w).fenced P (dN none):=fenced_calm (n:=0) trivial gL rfl
 have S0:StepsIn (Machine.fenced P (dN none)) P (lone (b.atR {tmps:=uK,defers:=[]} [.code (.seq (.region id ops false) c)]) (pD::cs) w) (lone (b.atR a1 [.code c]) ({pD with mode:=m'}::cs) w):= .head i0 stepR_seq dg
 have vQ:a'.defers=[]:=by
  obtain⟨ms,g1,_,g3,_⟩:=jr.defers
  rw[g3 rfl]at g1;exact g1
 have aci:∀tm:Array Value,∃v,(results fn tm).run P w'= .ok v w':=by
  intro tm
  refine⟨_,nu (vals:=[]) ?_⟩
  rw[Af];rfl
 rw[mh]
 obtain⟨v,tY⟩:=aci a'.tmps
 cases e<;>cases x<;>first|(exact hx.elim)|(exact hq.elim)|skip
 ·exact⟨.returned v,m',w',_,⟨v,aG,s'.o,s'.nx,rfl,hm',jr.heap,jr.tr,hq⟩,StepsIn.trans S0 (StepsIn.trans GZ (.one (fenced_calm (n:=0) (fr:=b.atR a' []) trivial gL rfl) (stepR_end rfl))),rfl,rfl,rfl,vQ,fn,hf,tY⟩
 ·obtain⟨todo,hs⟩:=GZ.1 rfl
  exact⟨.returned v,m',w',_,⟨v,aG,s'.o,s'.nx,rfl,hm',jr.heap,jr.tr,hq⟩,StepsIn.trans S0 hs,rfl,rfl,rfl,vQ,fn,hf,tY⟩
theorem Dd{d c:Code}{ro:Option Nat}{Q:Exit->Act->World->Prop}{a:Act}{w:World}(h:d=c\/d= .scope c)(hg:∀l a w, ¬Q (.goto l) a w)(hc:c.ub P ro Q a w):d.ub P ro Q a w:=by
 rcases h with rfl|rfl
 ·exact hc
 ·exact yz hc hg
theorem cH.De (bd:P.follows .mixedOrders=true){f g:FuncId}{iZ eI yW:IC}{t m r r1:Nat}{fi:List Operand}{rs:List ResultVar}(hf:Hl P f n iZ eI g t fi rs)(hg:Db P g m r r1 yW)
 {args:List V} {o:Nat->ab} {nx:Nat} {K X:V->(Nat->ab)->Nat->Prop} (hl:args.length<=n)
 (h:uH P n nx true iZ (Dc P n t eI fi g fun aM=>AM P m r r1 yW aM rs K X) ⟨cp args,o,nx⟩):cH P f args o nx K X:=by
 obtain⟨fn,id,o1,o2,ca,cb,cd,Kz,SZ,hnt,Af,qF,hsc,e1,e2,e3,e4,e5,e6,ht,hla,YT⟩:=hf.get
 obtain⟨gn,_,_,gc,Wh,Wi,_,_,Wj,_⟩:=hg.get
 refine⟨⟨fn,Kz,SZ,by rw[qF];rfl⟩,fun M φ w vals hH hd=> ?_⟩
 have hlen:=V.aA _ _ hd
 let s0:S:=⟨cp args,o,nx⟩
 let a0:Act:={tmps:=vals++Array.replicate (fn.ntmps - vals.size) undef,defers:=[]}
 have iL:b8 M φ (hp o nx) w n ⟨[],true⟩ φ s0 a0 w:=by
  exact abg
 have ha:=iw (P:=P) (n:=n) (b:=nx) (rd:=true) bd ca _ _ s0 (fun _ _ h=>h) (by rw[hla];exact h)
 refine Ct (ro:=none) (k:=0) (nv Kz qF (Ae (gM (il (P:=P) (H0:=hp o nx) (b:=nx) (cx:=⟨[],true⟩) (ro:=none) (fun id hu=>hu) (fun h=>by cases h) ca _ s0 φ a0 w ha iL) ?_)))
 rintro e a1 w1 ⟨x,s1,iW,hq,yE,hm⟩
 cases e<;>cases x<;>first|(exact hm.elim)|(exact hq.elim)|skip
 have vQ:a1.defers=[]:=by
  obtain⟨ms,g1,_,g3,_⟩:=yE.defers
  rw[g3 rfl]at g1;exact g1
 let cv:Array Value:=(fi.map a1.eval).toArray
 let fv:Value:= .func (.func g) #[] cv
 let dd:Deferred:={target:= .fn (.func g) cv,args:=#[]}
 let a2:Act:={tmps:=a1.tmps.setIfInBounds t fv,defers:=[dd]}
 have S1:V.aB (ao M iW s1.H) iW s1.H w1 (fi.map s1.ev) cv.toList:=by
  simpa[cv]using kF (M:=M) (φ:=iW) (H:=s1.H) (w:=w1) s1 a1 yE.env fi
 refine Dd hsc (fun l a w h=> ?_) ?_
 ·exact h.elim
 refine Ae (gM (Q:=fun e a w=>e= .normal/\a=a2/\w=w1) (pw (k:=0) (wpIn_region_list ?_)) ?_)
 ·have y1:Region.wanted o1 (yielded #[o1,o2] a1.tmps)=true:=by simp[Region.wanted,e3]
  have y2:∀tm,Region.wanted o2 (yielded #[o1,o2] tm)=true:=by intro tm;simp[Region.wanted,e6]
  have du:(a1.put (some t) fv).eval (.tmp t)=fv:=by
   have:t<a1.tmps.size:=by rw[yE.size];exact ht
   simp[Act.put,Act.eval,Array.getD,this]
  show wpListIn (dN none) 0 P #[o1,o2] _ [o1,o2] a1 w1
  unfold wpListIn
  rw[if_pos y1]
  have x1:(execOp a1.eval o1).run P w1= .ok (.value fv) w1:=by simp[execOp,e1,fv,cv,Instr.makeFunc]
  refine kK (fun c hc=>by rw[e1]at hc;cases hc) ?_
  rw[x1]
  show wpListIn (dN none) 0 P #[o1,o2] _ [o2] (a1.put o1.dst fv) w1
  rw[e2]
  unfold wpListIn
  rw[if_pos (y2 _)]
  have x2:(execOp (a1.put (some t) fv).eval o2).run P w1= .ok (.defer dd) w1:=by
   simp[execOp,e4,resolve,du,Deferred.ofValue,fv,dd]
  refine⟨fun _ _=>trivial, ?_⟩
  have:(o2.semAt (dN none).round (a1.put (some t) fv).eval)=execOp (a1.put (some t) fv).eval o2:=rfl
  rw[this,x2]
  unfold Oper.uponIn
  simp only[e5,wpListIn,Act.put,vQ,a2,and_self]
 rintro e a w2 ⟨rfl,rfl,rfl⟩
 have BD:t<a1.tmps.size:=by rw[yE.size];exact ht
 let s2:S:=⟨ax s1.env t (.func (.func g) [] (fi.map s1.ev)),s1.o,s1.nx⟩
 have Ox:b8 M iW s1.H w2 n ⟨[dd],false⟩ iW s2 a2 w2:=by
  refine⟨yE.heap,Trans.refl _ _ _,by simp[a2,yE.size],⟨[],rfl,List.nodup_nil,fun _=>rfl,fun r hr=>by cases hr⟩,fun i=> ?_⟩
  simp only[s2,a2,aK]
  by_cases h1:i=t
  ·subst h1
   have:(a1.tmps.setIfInBounds i fv).getD i undef=fv:=by simp[Array.getD,BD]
   simp only[if_true];rw[this]
   exact⟨#[],cv,rfl,rfl,S1⟩
  ·have:(a1.tmps.setIfInBounds t fv).getD i undef=a1.tmps.getD i undef:=by
    exact RY
   simp only[h1,if_false];rw[this]
   exact yE.env i
 have hb:=iw (P:=P) (n:=n) (b:=s1.nx) (rd:=false) bd cb _ _ s2 (fun _ _ h=>h) (by rw[YT];exact hq)
 refine gM (il (P:=P) (H0:=s1.H) (b:=s1.nx) (cx:=⟨[dd],false⟩) (ro:=none) (fun id hu=>hu) (fun _=>rfl) cb _ s2 iW a2 w2 hb Ox) ?_
 rintro e a3 w3 ⟨x,s3,φ3,hq3,G0,xA⟩
 obtain⟨ms,g1,g2,_,g4⟩:=G0.defers
 have hinv:(invoke dd.target dd.args).run P=fun w=> .ok (.enter g cv) w:=by
  funext w
  have:=lI (w:=w) ⟨gn,Wh,Wi,by rw[Wj];rfl⟩ cv
  simpa[dd,invoke]using this
 have last:∀ {w4:World} {tm:Array Value} {u:V} {val:Value} {m0:FrameMode},m0≠ .run->Ah M iW s1.H w2 φ3 s3 a3.tmps w4->V.den (ao M φ3 s3.H) φ3 s3.H w4 u val->
  ((m0= .returning/\val= .nilIface)\/m0= .panicking [{v:=val,recovered:=false}])->
  (FE P m r r1 yW (fi.map s1.ev) u s3.o s3.nx fun o nx=>mi P rs K X .ret ⟨s3.env,o,nx⟩)->
  LeavesInM (dN none) 0 P fn a3.tmps (nn M φ (hp o nx) w K X) [dd] m0 w4:=by
  intro w4 tm u val m0 fg hB O7 hm0 bC
  have Wl:=V.aQ hB.tr _ _ S1
  refine⟨fg, .inr ⟨fun h=>by simp[dN]at h, .func g,cv,g,cv,rfl,by rw[hinv],fun _ _=>trivial,CallsDIn.mono (Jz (k:=0 - 1) bd hg bC (m:=m0) hB.heap Wl O7 hm0) ?_⟩⟩
  rintro e u' w5 ⟨v,φ5,o5,nx5,rfl,afz,k1,k2,k3⟩
  show LeavesInM (dN none) 0 P fn a3.tmps (nn M φ (hp o nx) w K X) [] (settle u') w5
  rw[afz]
  obtain⟨vs,h1,h2⟩:=CA k3
  rw[<- Af]at h1
  have acj:∀i,V.den (ao M φ5 (hp o5 nx5)) φ5 (hp o5 nx5) w5 (s3.env i) (a3.tmps.getD i undef):=fun i=>V.aO k2 _ _ (hB.env i)
  obtain⟨agH,h3,h4⟩:=uG (P:=P) (s:=⟨s3.env,o5,nx5⟩) (a:=a3) k1 acj _ _ h1
  exact⟨_,nu h3,φ5,o5,nx5,_,k1,yE.tr.trans (hB.tr.trans k2),CB h4,h2⟩
 have done:FE P m r r1 yW (fi.map s1.ev) (.d .fe) s3.o s3.nx (fun o nx=>mi P rs K X .ret ⟨s3.env,o,nx⟩)->LeavesInM (dN none) 0 P fn a3.tmps (nn M φ (hp o nx) w K X) a3.defers .returning w3:=by
  intro bC
  rw[g1]
  exact gN (P:=P) (k:=0) (fn:=fn) (R:=nn M φ (hp o nx) w K X) (u:= .returning) aI (ds:=[dd]) (fun w4 hB=>last (tm:=a3.tmps) aI hB (u:= .d .fe) (val:= .nilIface) (by simp[V.den,D.den]) (.inl ⟨rfl,rfl⟩) bC) ms w3 g2 g4 G0.toB
 cases e<;>cases x<;>first|(exact xA.elim)|skip
 ·exact done hq3
 ·exact hq3.elim
 ·exact done hq3
 ·rename_i v
  obtain⟨val,rfl,hd'⟩:=xA
  show LeavesInM (dN none) 0 P fn a3.tmps (nn M φ (hp o nx) w K X) a3.defers _ w3
  rw[g1]
  let ack:Nat->V:=fun i=>match i with|0=>v|i+1=>s3.env i
  have acm:(#[val]++a3.tmps).getD 0 undef=val:=by simp[Array.getD]
  have acn:∀i,(#[val]++a3.tmps).getD (i+1) undef=a3.tmps.getD i undef:=by
   intro i
   simp only[Array.getD_eq_getD_getElem?]
   rw[Array.getElem?_append_right (by simp)]
   simp
  have Vv:Ah M iW s1.H w2 φ3 ⟨ack,s3.o,s3.nx⟩ (#[val]++a3.tmps) w3:=⟨G0.heap,G0.tr,fun i=>by
   cases i with
   |zero=>rw[acm];exact hd'
   |succ i=>rw[acn];exact G0.env i⟩
  have Hn:∀w4,Ah M iW s1.H w2 φ3 ⟨ack,s3.o,s3.nx⟩ (#[val]++a3.tmps) w4->LeavesInM (dN none) 0 P fn a3.tmps (nn M φ (hp o nx) w K X) [dd] (.panicking [{v:=val,recovered:=false}]) w4:=by
   intro w4 hB
   have hv4:=hB.env 0
   rw[acm]at hv4
   refine last (tm:=a3.tmps) aI ⟨hB.heap,hB.tr,fun i=> ?_⟩ hv4 (.inr rfl) hq3
   have hs:=hB.env (i+1)
   rw[acn]at hs
   exact hs
  exact gN (P:=P) (k:=0) (fn:=fn) (R:=nn M φ (hp o nx) w K X) (u:= .panicking [{v:=val,recovered:=false}]) aI (ds:=[dd]) Hn ms w3 g2 g4 Vv
end
end
theorem Ar.Mv {P:Program}{g:FuncId}{ds:List D}{o:Nat->ab}{fr:Nat}{ty:TypeId}{sz:Nat}{es:List D}
 (h:cH P g (ds.map .d) (fun _=> .no) 0 (fun v o1 _=>(∃j ep,v= .osl j ep/\o1 j= .arr ep ty sz es)\/(v= .aZ/\es=[]/\0<sz)) (fun _ _ _=>False)):
 Ar P g (ds.map .d) [] o fr (.osl fr 0) [(fr, .arr 0 ty sz es)]:=by
 refine⟨h.1,fun o' us M φ w vals _ cP hH hd=> ?_⟩
 let cA:Place:=fun _=> .nilFunc
 have tp:∀b, ¬cE cA (hp (fun _=> .no) 0) b:=by rintro b ⟨id,hl,_⟩;simp[hp,ab.live]at hl
 have hM:∀b,ao M φ ⟨o',us⟩ b->b<w.heap.size:=fun b hb=>hb.elim (hH.BB b) fun hl=>(hH.ours b hl).2
 have yk:=(V.cn _ _).1 hd
 refine(h.2 (ao M φ ⟨o',us⟩) cA w vals (lJ cA hM) ((V.cn _ _).2 (D.aQ (w:=w) (w':=w) (B:=ao M φ ⟨o',us⟩) (fun b _ hB=>⟨rfl,fun h=>h.elim hB (tp b)⟩) _ _ yk))).mono ?_
 rintro e w' ⟨iW,o1,n1,v,k1,k2,k3⟩
 have hk:dM (fun _=>False) w w':=⟨k2.keep.os,k2.keep.tape,k2.keep.output,k2.keep.size,fun k hk _=>k2.keep.block k hk (tp k)⟩
 have EW:(⟨o',us⟩:Hp).put [(fr, .arr 0 ty sz es)]=⟨put o' [(fr, .arr 0 ty sz es)],fun id=>us id\/id=fr⟩:=by
  simp only[Hp.put]
  congr 1
  funext id
  simp
 have fin:∀ (val:Value) (xs:List Value),(∀b,dx val=some b->w.heap.size<=b/\b<w'.heap.size)->0<sz->w'.ownsRow 0 ty sz val es.length xs->
  (fQ (ao M (ax φ fr val) ((⟨o',us⟩:Hp).put [(fr, .arr 0 ty sz es)])) w' sz es xs)->
  val.oneCell'=true->
  ∃aG,ay M aG ⟨put o' [(fr, .arr 0 ty sz es)],fun id=>us id\/id=fr⟩ w'/\Trans φ ⟨o',us⟩ w aG ⟨put o' [(fr, .arr 0 ty sz es)],fun id=>us id\/id=fr⟩ w'/\
   ∃Mw,Ending.returned val= .returned Mw/\V.den (ao M aG ⟨put o' [(fr, .arr 0 ty sz es)],fun id=>us id\/id=fr⟩) aG ⟨put o' [(fr, .arr 0 ty sz es)],fun id=>us id\/id=fr⟩ w' (.osl fr 0) Mw:=by
  intro val xs jO dO dz bG PO
  have qE:=iJ hH hk cP (.arr 0 ty sz es) val jO (by
   unfold aP
   rw[show((⟨o',us⟩:Hp).put [(fr, .arr 0 ty sz es)]).o fr= .arr 0 ty sz es by simp]
   refine⟨dO,xs, ?_,bG⟩
   rw[show ax φ fr val fr=val by simp]
   exact dz)
  have S2:=ew (φ:=φ) (H:=⟨o',us⟩) hk cP (.arr 0 ty sz es) val (fun b hb=>(jO b hb).1)
  rw[EW]at qE S2
  refine⟨ax φ fr val,qE,S2,val,rfl,PO, .inr rfl,fun e he=> ?_⟩
  have pW:0=e:=by
   have:(put o' [(fr,ab.arr 0 ty sz es)] fr).b9=some 0:=by simp[put,ab.b9]
   exact aa4
  exact⟨ag,fun _=>aI⟩
 cases e with
 |outgrown=>exact k3.elim
 |panicked ch=>obtain⟨_,_,_,h⟩:=k3;exact h.elim
 |returned val=>
  obtain⟨g1,⟨j,ep,rfl,hj⟩|⟨rfl,rfl,dO⟩⟩:=k3
  ·obtain⟨v0,v1,v2⟩:=g1
   have eY:val=iW j:=(v2 ep (by show(o1 j).b9=some ep;rw[hj];rfl)).2 rfl
   have cN:∀b,dx val=some b->cE iW (hp o1 n1) b:=fun b hb=>⟨j,by show(o1 j).live=true;rw[hj];rfl,by rw[<- eY];exact hb⟩
   have jO:∀b,dx val=some b->w.heap.size<=b/\b<w'.heap.size:=fun b hb=>⟨(k2.grow b (cN b hb)).resolve_left (tp b),(k1.ours b (cN b hb)).2⟩
   have FF:=k1.ok j
   unfold aP at FF
   rw[show(hp o1 n1).o j= .arr ep ty sz es from hj]at FF
   obtain⟨dO,xs,dz,bG⟩:=FF
   have hBs:∀b,ao M (ax φ fr val) ((⟨o',us⟩:Hp).put [(fr, .arr 0 ty sz es)]) b->ao (ao M φ ⟨o',us⟩) iW (hp o1 n1) b:=by
    rintro b (hb|⟨id,hl,hb⟩)
    ·exact .inl (.inl hb)
    ·by_cases e:id=fr
     ·subst e
      simp at hb
      exact .inr (cN b hb)
     ·simp[e]at hl hb
      exact .inl (.inr ⟨id,hl,hb⟩)
   exact fin val xs jO dO (by rw[eY];exact dz) (bG.mono (w:=w') (w':=w') (fun b _ hB=>⟨rfl,fun h=>hB (hBs b h)⟩)) v0
  ·have g1:val= .slice none 0 0:=g1
   subst g1
   exact aaz
theorem Ar.PQ {P:Program}{g:FuncId}{args:List V}{ds:List D}{o:Nat->ab}{fr:Nat}{ty:TypeId}{sz:Nat}{es:List D}
 (eZ:b7 o args=some ds) (m8:D.jR es=true) (h:cH P g (ds.map .d) (fun _=> .no) 0 (fun v o1 _=>(∃j ep,v= .osl j ep/\o1 j= .arr ep ty sz es)\/(v= .aZ/\es=[]/\0<sz)) (fun _ _ _=>False)):
 Ar P g args (V.bg args) o fr (.osl fr 0) [(fr, .arr 0 ty sz es)]:=by
 refine⟨h.1,fun o' us M φ w vals hag cP hH hd=> ?_⟩
 obtain⟨f1,f2,f3,f4,f5⟩:=cO hH (V.bg args) (fun id aq=>(hag id aq).2)
 generalize hHF:(⟨o',us⟩:Hp).put (bT (⟨o',us⟩:Hp).o (V.bg args))=HF at f1 f2 f3
 let cA:Place:=fun _=> .nilFunc
 have tp:∀b, ¬cE cA (hp (fun _=> .no) 0) b:=by rintro b ⟨id,hl,_⟩;simp[hp,ab.live]at hl
 have hM:∀b,ao M φ HF b->b<w.heap.size:=fun b hb=>hb.elim (f1.BB b) fun hl=>(f1.ours b hl).2
 have yk:D.aB (ao M φ HF) w ds vals.toList:=dp f1 args ds _ (fun id aq=>by rw[f3 id aq];show(o' id).fz=(o id).fz;rw[(hag id aq).1]) eZ (V.aQ f2 _ _ hd)
 refine(h.2 (ao M φ HF) cA w vals (lJ cA hM) ((V.cn _ _).2 (D.aQ (w:=w) (w':=w) (B:=ao M φ HF) (fun b _ hB=>⟨rfl,fun h=>h.elim hB (tp b)⟩) _ _ yk))).mono ?_
 rintro e w' ⟨iW,o1,n1,v,k1,k2,k3⟩
 have hk:dM (fun _=>False) w w':=⟨k2.keep.os,k2.keep.tape,k2.keep.output,k2.keep.size,fun k hk _=>k2.keep.block k hk (tp k)⟩
 have EW:(⟨o',us⟩:Hp).put [(fr, .arr 0 ty sz es)]=⟨put o' [(fr, .arr 0 ty sz es)],fun id=>us id\/id=fr⟩:=by
  simp only[Hp.put]
  congr 1
  funext id
  simp
 have fin:∀ (val:Value) (xs:List Value),(∀b,dx val=some b->w.heap.size<=b/\b<w'.heap.size)->0<sz->w'.ownsRow 0 ty sz val es.length xs->
  (fQ (ao M (ax φ fr val) ((⟨o',us⟩:Hp).put [(fr, .arr 0 ty sz es)])) w' sz es xs)->
  val.oneCell'=true->
  ∃aG,ay M aG ⟨put o' [(fr, .arr 0 ty sz es)],fun id=>us id\/id=fr⟩ w'/\Trans φ ⟨o',us⟩ w aG ⟨put o' [(fr, .arr 0 ty sz es)],fun id=>us id\/id=fr⟩ w'/\
   ∃Mw,Ending.returned val= .returned Mw/\V.den (ao M aG ⟨put o' [(fr, .arr 0 ty sz es)],fun id=>us id\/id=fr⟩) aG ⟨put o' [(fr, .arr 0 ty sz es)],fun id=>us id\/id=fr⟩ w' (.osl fr 0) Mw:=by
  intro val xs jO dO dz bG PO
  have qE:=iJ hH hk cP (.arr 0 ty sz es) val jO (by
   unfold aP
   rw[show((⟨o',us⟩:Hp).put [(fr, .arr 0 ty sz es)]).o fr= .arr 0 ty sz es by simp]
   refine⟨dO,xs, ?_,bG⟩
   rw[show ax φ fr val fr=val by simp]
   exact dz)
  have S2:=ew (φ:=φ) (H:=⟨o',us⟩) hk cP (.arr 0 ty sz es) val (fun b hb=>(jO b hb).1)
  rw[EW]at qE S2
  refine⟨ax φ fr val,qE,S2,val,rfl,PO, .inr rfl,fun e he=> ?_⟩
  have pW:0=e:=by
   have:(put o' [(fr,ab.arr 0 ty sz es)] fr).b9=some 0:=by simp[put,ab.b9]
   exact aa4
  exact⟨ag,fun _=>aI⟩
 cases e with
 |outgrown=>exact k3.elim
 |panicked ch=>obtain⟨_,_,_,h⟩:=k3;exact h.elim
 |returned val=>
  obtain⟨g1,⟨j,ep,rfl,hj⟩|⟨rfl,rfl,dO⟩⟩:=k3
  ·obtain⟨v0,v1,v2⟩:=g1
   have eY:val=iW j:=(v2 ep (by show(o1 j).b9=some ep;rw[hj];rfl)).2 rfl
   have cN:∀b,dx val=some b->cE iW (hp o1 n1) b:=fun b hb=>⟨j,by show(o1 j).live=true;rw[hj];rfl,by rw[<- eY];exact hb⟩
   have jO:∀b,dx val=some b->w.heap.size<=b/\b<w'.heap.size:=fun b hb=>⟨(k2.grow b (cN b hb)).resolve_left (tp b),(k1.ours b (cN b hb)).2⟩
   have FF:=k1.ok j
   unfold aP at FF
   rw[show(hp o1 n1).o j= .arr ep ty sz es from hj]at FF
   obtain⟨dO,xs,dz,bG⟩:=FF
   obtain⟨evs,e1,e2,e3⟩:=bG
   exact fin val xs jO dO (by rw[eY];exact dz) ⟨evs,e1,e2,D.mb _ _ m8 e3⟩ v0
  ·have g1:val= .slice none 0 0:=g1
   subst g1
   exact aaz
theorem Ar.PR {P:Program}{g:FuncId}{args:List V}{ds:List D}{o0 o:Nat->ab}{rd:List Nat}{fr:Nat}{v:V}{Δ:List (Nat×ab)}(aq:V.bg args=[])(eZ:b7 o0 args=some ds)
 (h:Ar P g (ds.map .d) rd o fr v Δ):Ar P g args rd o fr v Δ:=
 ⟨h.1,fun o' us M φ w vals h1 h2 hH hd=>h.2 o' us M φ w vals h1 h2 hH ((V.cn _ _).2 (dp hH args ds _ (by rw[aq];intro id h;cases h) eZ hd))⟩
def S3(P:Program)(f:FuncId):Prop:=
 Enters P f/\∀ (w:World) (b:Nat) (es:Array MapEntry) (clock:Nat),w.heap[b]? =some (.map es clock)->
  Calls P f #[.map (some b)] w fun e w'=>e= .returned (.map (some w.heap.size))/\w'=w.alloc (.map es clock)
theorem cH.Wm {P:Program}{f:FuncId}(h:S3 P f){o:Nat->ab}{nx id:Nat}{kt vt:TypeId}{l:List (D×D)}(ho:o id= .map kt vt l){K X:V->(Nat->ab)->Nat->Prop}
 (hK:K (.mp nx) (ax o nx (.map kt vt l)) (nx+1)):cH P f [.mp id] o nx K X:=by
 refine⟨h.1,fun M φ w vals hH hd=> ?_⟩
 have hlen:=V.aA _ _ hd
 obtain⟨v,rfl⟩:∃v,vals=#[v]:=by
  match vals,hlen with
  |⟨[v]⟩,_=>exact⟨v,rfl⟩
 obtain⟨v',tY,O7⟩:=V.dE _ _ 0 (.mp id) hd rfl
 simp only[List.getElem?_cons_zero,Option.some.injEq]at tY
 subst tY
 have aW:=hH.ok id
 have xZ:(hp o nx).o id= .map kt vt l:=ho
 simp only[aP,xZ]at aW
 obtain⟨b,es,clock,e1,e2,e3,e4⟩:=aW
 have hv:v=φ id:=O7.2.2 (by rw[xZ];rfl)
 rw[hv,e1]
 refine(h.2 w b es clock e2).mono fun e w' ⟨he,hw⟩=> ?_
 subst he;subst hw
 have cP: ¬ (hp o nx).us nx:=fun h=>Nat.lt_irrefl _ h
 have EW:(hp o nx).put [(nx, .map kt vt l)]=hp (ax o nx (.map kt vt l)) (nx+1):=by
  simp only[Hp.put,hp]
  congr 1
  funext j
  simp only[List.map_cons,List.map_nil,List.mem_singleton,eq_iff_iff]
  omega
 have hvb:∀c,dx (.map (some w.heap.size))=some c->w.heap.size<=c/\c<(w.alloc (.map es clock)).heap.size:=by
  intro c hc;simp[dx]at hc;subst hc;simp
 have ht:=ew (φ:=φ) (H:=hp o nx) (cC w (.map es clock)) cP (.map kt vt l) (.map (some w.heap.size)) fun c hc=>(hvb c hc).1
 refine⟨ax φ nx (.map (some w.heap.size)),ax o nx (.map kt vt l),nx+1, .mp nx, ?_, ?_, ?_,hK⟩
 ·rw[<- EW]
  refine iJ hH (cC w _) cP _ _ hvb ?_
  unfold aP
  simp only[bD,aK,if_true]
  exact⟨w.heap.size,es,clock,rfl,heap_alloc_new w _,e3,aL.mono (ht.blocks (M:=M)) l _ e4⟩
 ·rw[<- EW];exact ht
 ·rw[<- EW];exact⟨rfl,aI,fun _=>aI⟩
end Go.Proofs.YtnkamdiiakdkgaaGreat
