/-
  A PART OF THE PROOF. Conditions: none.
-/
import Derived.Test.YtnkamdiiakdkgaaGreatEd10
set_option linter.unusedSimpArgs false
set_option linter.unusedVariables false
namespace Go.Proofs.YtnkamdiiakdkgaaGreat
def kM(m:List Int):Prop:=m.length=16/\∀x∈m,0<=x/\x<=2
def mg(m:List Int)(i j:Nat):Int:=m.getD (i*4+j) 0
theorem yL{m:List Int}(h:kM m)(i j:Nat):0<=mg m i j/\mg m i j<=2:=by
 unfold mg
 rw[List.getD_eq_getElem?_getD]
 cases e:m[i*4+j]? with
 |none=>simp
 |some x=>exact h.2 x (List.mem_of_getElem? e)
theorem Fa{m n:List Int}(hm:kM m)(hn:kM n)(h:∀i j,i<4->j<4->(mg m i j≠0↔mg n i j≠0)/\(mg m i j=2↔mg n i j=2)):m=n:=by
 apply List.ext_getElem (by rw[hm.1,hn.1])
 intro p h1 h2
 have e:=h (p/4) (p%4) (by rw[hm.1]at h1;omega) af
 have a1:=yL hm (p/4) (p%4)
 have a2:=yL hn (p/4) (p%4)
 have e1:mg m (p/4) (p%4)=m[p]:=by
  unfold mg;rw[show p/4*4+p%4=p by omega,List.getD_eq_getElem?_getD,List.getElem?_eq_getElem h1];rfl
 have e2:mg n (p/4) (p%4)=n[p]:=by
  unfold mg;rw[show p/4*4+p%4=p by omega,List.getD_eq_getElem?_getD,List.getElem?_eq_getElem h2];rfl
 rw[<- e1, <- e2];omega
theorem mx3(P a b:Int)(h1:0<=P)(h2:P<=2)(h3:0<=a)(h4:a<=2)(h5:0<=b)(h6:b<=2)(h7:a≠0):max (max P a) b≠0/\(max (max P a) b=2↔P=2\/a=2\/b=2)/\0<=max (max P a) b/\max (max P a) b<=2:=af
theorem te{m n:List Int}(hm:kM m)(hn:kM n)(i j:Nat):∀q,(cP m n i j q≠0↔∃k,k<q/\mg m i k≠0/\mg n k j≠0)/\(cP m n i j q=2↔∃k,k<q/\mg m i k≠0/\mg n k j≠0/\(mg m i k=2\/mg n k j=2))/\0<=cP m n i j q/\cP m n i j q<=2
 |0=>by simp[cP]
 |q+1=>by
  obtain⟨i1,i2,i3,i4⟩:=te hm hn i j q
  have e:cP m n i j (q+1)=sQ m n i j (cP m n i j q) q:=by
   exact Sm
  have a:=yL hm i q
  have b:=yL hn q j
  rw[e]
  unfold sQ
  change (((if mg m i q≠0/\mg n q j≠0 then max (max (cP m n i j q) (mg m i q)) (mg n q j)else cP m n i j q)≠0)↔_)/\((if mg m i q≠0/\mg n q j≠0 then max (max (cP m n i j q) (mg m i q)) (mg n q j)else cP m n i j q)=2↔_)/\0<=(if mg m i q≠0/\mg n q j≠0 then max (max (cP m n i j q) (mg m i q)) (mg n q j)else cP m n i j q)/\(if mg m i q≠0/\mg n q j≠0 then max (max (cP m n i j q) (mg m i q)) (mg n q j)else cP m n i j q)<=2
  by_cases h:mg m i q≠0/\mg n q j≠0
  ·rw[if_pos h]
   obtain⟨x1,x2,x3,x4⟩:=mx3 _ _ _ i3 i4 a.1 a.2 b.1 b.2 h.1
   refine⟨⟨fun _=>⟨q,af,h⟩,fun _=>x1⟩,x2.trans ⟨fun h2=> ?_,fun⟨k,k1,k2,k3,k4⟩=> ?_⟩,x3,x4⟩
   ·rcases h2 with g|g
    ·obtain⟨k,k1,k2⟩:=i2.1 g
     exact Et
    ·exact⟨q,af,h.1,h.2,g⟩
   ·rcases(by omega:k<q\/k=q)with g|g
    ·exact .inl (i2.2 ⟨k,g,k2,k3,k4⟩)
    ·subst g;exact .inr k4
  ·rw[if_neg h]
   refine⟨⟨fun h2=> ?_,fun⟨k,k1,k2⟩=> ?_⟩,⟨fun h2=> ?_,fun⟨k,k1,k2,k3,k4⟩=> ?_⟩,i3,i4⟩
   ·obtain⟨k,k1,k2⟩:=i1.1 h2;exact⟨k,af,k2⟩
   ·rcases(by omega:k<q\/k=q)with g|g
    ·exact i1.2 ⟨k,g,k2⟩
    ·subst g;exact absurd k2 h
   ·obtain⟨k,k1,k2⟩:=i2.1 h2;exact⟨k,af,k2⟩
   ·rcases(by omega:k<q\/k=q)with g|g
    ·exact i2.2 ⟨k,g,k2,k3,k4⟩
    ·subst g;exact absurd ⟨k2,k3⟩ h
theorem J8(m n:List Int){i j:Nat}(hi:i<4)(hj:j<4):mg (fT m n) i j=cP m n i j 4:=by
 unfold mg fT
 exact Yq
theorem kp{m n:List Int}(hm:kM m)(hn:kM n):kM (fT m n):=by
 refine⟨by simp[fT],fun x hx=> ?_⟩
 unfold fT at hx
 obtain⟨p,_,rfl⟩:=List.mem_map.1 hx
 exact(te hm hn _ _ 4).2.2
theorem eX{m n:List Int}(hm:kM m)(hn:kM n){i j:Nat}(hi:i<4)(hj:j<4):mg (fT m n) i j≠0↔∃k,k<4/\mg m i k≠0/\mg n k j≠0:=by
 rw[J8 m n hi hj];exact(te hm hn i j 4).1
theorem jG{m n:List Int}(hm:kM m)(hn:kM n){i j:Nat}(hi:i<4)(hj:j<4):mg (fT m n) i j=2↔∃k,k<4/\mg m i k≠0/\mg n k j≠0/\(mg m i k=2\/mg n k j=2):=by
 rw[J8 m n hi hj];exact(te hm hn i j 4).2.1
theorem Qz{m:List Int}{i j:Nat}(h:mg m i j=2):mg m i j≠0:=af
theorem G4{a b c:List Int}(ha:kM a)(hb:kM b)(hc:kM c):fT (fT a b) c=fT a (fT b c):=by
 have hab:=kp ha hb
 have Mc:=kp hb hc
 refine Fa (kp hab hc) (kp ha Mc) fun i j hi hj=>⟨?_, ?_⟩
 ·rw[eX hab hc hi hj,eX ha Mc hi hj]
  constructor
  ·rintro⟨k,hk,h1,h2⟩
   obtain⟨l,hl,h3,h4⟩:=(eX ha hb hi hk).1 h1
   exact⟨l,hl,h3,(eX hb hc hl hj).2 ⟨k,hk,h4,h2⟩⟩
  ·rintro⟨l,hl,h3,h1⟩
   obtain⟨k,hk,h4,h2⟩:=(eX hb hc hl hj).1 h1
   exact⟨k,hk,(eX ha hb hi hk).2 ⟨l,hl,h3,h4⟩,h2⟩
 ·rw[jG hab hc hi hj,jG ha Mc hi hj]
  constructor
  ·rintro⟨k,hk,h1,h2,h5⟩
   rcases h5 with h5|h5
   ·obtain⟨l,hl,h3,h4,h6⟩:=(jG ha hb hi hk).1 h5
    refine⟨l,hl,h3,(eX hb hc hl hj).2 ⟨k,hk,h4,h2⟩, ?_⟩
    rcases h6 with h6|h6
    ·exact .inl h6
    ·exact .inr ((jG hb hc hl hj).2 ⟨k,hk,h4,h2, .inl h6⟩)
   ·obtain⟨l,hl,h3,h4⟩:=(eX ha hb hi hk).1 h1
    exact⟨l,hl,h3,(eX hb hc hl hj).2 ⟨k,hk,h4,h2⟩, .inr ((jG hb hc hl hj).2 ⟨k,hk,h4,h2, .inr h5⟩)⟩
  ·rintro⟨l,hl,h3,h1,h5⟩
   rcases h5 with h5|h5
   ·obtain⟨k,hk,h4,h2⟩:=(eX hb hc hl hj).1 h1
    exact⟨k,hk,(eX ha hb hi hk).2 ⟨l,hl,h3,h4⟩,h2, .inl ((jG ha hb hi hk).2 ⟨l,hl,h3,h4, .inl h5⟩)⟩
   ·obtain⟨k,hk,h4,h2,h6⟩:=(jG hb hc hl hj).1 h5
    refine⟨k,hk,(eX ha hb hi hk).2 ⟨l,hl,h3,h4⟩,h2, ?_⟩
    rcases h6 with h6|h6
    ·exact .inl ((jG ha hb hi hk).2 ⟨l,hl,h3,h4, .inr h6⟩)
    ·exact .inr h6
def se:List Int:=[1,0,0,0,0,1,0,0,0,0,1,0,0,0,0,1]
theorem pW:kM se:=⟨rfl,bF⟩
theorem yM{i j:Nat}(hi:i<4)(hj:j<4):mg se i j=if i=j then 1 else 0:=by
 have:∀i,i<4->∀j,j<4->mg se i j=if i=j then 1 else 0:=bF
 exact this i hi j hj
theorem Nw{m:List Int}(hm:kM m):fT se m=m:=by
 refine Fa (kp pW hm) hm fun i j hi hj=>⟨?_, ?_⟩
 ·rw[eX pW hm hi hj]
  constructor
  ·rintro⟨k,hk,h1,h2⟩
   rw[yM hi hk]at h1
   by_cases e:i=k
   ·subst e;exact h2
   ·rw[if_neg e]at h1;exact absurd rfl h1
  ·intro h;exact⟨i,hi,by rw[yM hi hi,if_pos rfl];decide,h⟩
 ·rw[jG pW hm hi hj]
  constructor
  ·rintro⟨k,hk,h1,h2,h3⟩
   rw[yM hi hk]at h1 h3
   by_cases e:i=k
   ·subst e;rw[if_pos rfl]at h3;rcases h3 with h3|h3
    ·cases h3
    ·exact h3
   ·rw[if_neg e]at h1;exact absurd rfl h1
  ·intro h;exact⟨i,hi,by rw[yM hi hi,if_pos rfl];decide,Qz h, .inr h⟩
def oZ(m:List Int):Nat->List Int
 |0=>m
 |k+1=>fT (oZ m k) m
theorem lS{m:List Int}(hm:kM m):∀k,kM (oZ m k)
 |0=>hm
 |k+1=>kp (lS hm k) hm
theorem J9{m:List Int}(hm:kM m)(a:Nat):∀b,fT (oZ m a) (oZ m b)=oZ m (a+b+1)
 |0=>rfl
 |b+1=>by
  show fT (oZ m a) (fT (oZ m b) m)=fT (oZ m (a+(b+1))) m
  rw[<- G4 (lS hm a) (lS hm b) hm,J9 hm a b];rfl
def ZG(m:List Int):Prop:=∃k i,i<4/\mg (oZ m k) i i=2
def wR(r:Nat->Nat->Bool):Nat->Nat->Nat->Bool
 |0,i,j=>r i j
 |k+1,i,j=>wR r k i j||(wR r k i k&&wR r k k j)
theorem pX(r:Nat->Nat->Bool):∀k m i j,m<k->wR r k i m=true->wR r k m j=true->wR r k i j=true
 |0,m,i,j,h,_,_=>absurd h (Nat.not_lt_zero _)
 |k+1,m,i,j,h,h1,h2=>by
  have ih:=pX r k
  simp only[wR,Bool.or_eq_true,Bool.and_eq_true]at h1 h2|-
  rcases(by omega:m<k\/m=k)with g|g
  ·rcases h1 with h1|h1<;>rcases h2 with h2|h2
   ·exact .inl (ih m i j g h1 h2)
   ·exact .inr ⟨ih m i k g h1 h2.1,h2.2⟩
   ·exact .inr ⟨h1.1,ih m k j g h1.2 h2⟩
   ·exact .inr ⟨h1.1,h2.2⟩
  ·subst g
   refine .inr ⟨?_, ?_⟩
   ·rcases h1 with h1|h1
    ·exact h1
    ·exact h1.1
   ·rcases h2 with h2|h2
    ·exact h2
    ·exact h2.2
theorem yN(r:Nat->Nat->Bool):∀k i j,r i j=true->wR r k i j=true
 |0,_,_,h=>h
 |k+1,i,j,h=>by simp only[wR,yN r k i j h,Bool.true_or]
theorem Ka(r:Nat->Nat->Bool)(T:Nat->Nat->Prop)(hT:∀i m j,m<4->T i m->T m j->T i j)(hr:∀i j,r i j=true->T i j):∀k,k<=4->∀i j,wR r k i j=true->T i j
 |0,_,i,j,h=>hr i j h
 |k+1,hk,i,j,h=>by
  simp only[wR,Bool.or_eq_true,Bool.and_eq_true]at h
  have ih:=Ka r T hT hr k af
  rcases h with h|h
  ·exact ih i j h
  ·exact hT i k j af (ih i k h.1) (ih k j h.2)
def eG(m:List Int)(i j:Nat):Bool:=decide (i<4)&&decide (j<4)&&decide (mg m i j≠0)
theorem dh{m:List Int}{i j:Nat}:eG m i j=true↔i<4/\j<4/\mg m i j≠0:=by simp[eG,and_assoc]
def l6(m:List Int):Bool:=(List.range 4).any fun i=>(List.range 4).any fun j=>decide (mg m i j=2)&&(decide (i=j)||wR (eG m) 4 j i)
theorem nC{m:List Int}:l6 m=true↔∃i j,i<4/\j<4/\mg m i j=2/\(i=j\/wR (eG m) 4 j i=true):=by
 simp only[l6,List.any_eq_true,List.mem_range,Bool.and_eq_true,decide_eq_true_eq,Bool.or_eq_true]
 constructor
 ·rintro⟨i,hi,j,hj,h⟩;exact⟨i,j,hi,hj,h⟩
 ·rintro⟨i,j,hi,hj,h⟩;exact⟨i,hi,j,hj,h⟩
def QA(m:List Int)(q:Nat):Prop:=∃k i,k<q/\i<4/\mg (oZ m k) i i=2
theorem Fb{m:List Int}(hm:kM m):∀k i j,i<4->j<4->(mg (oZ m k) i j≠0->wR (eG m) 4 i j=true)/\(mg (oZ m k) i j=2->∃u v,u<4/\v<4/\mg m u v=2/\(i=u\/wR (eG m) 4 i u=true)/\(v=j\/wR (eG m) 4 v j=true))
 |0,i,j,hi,hj=>⟨fun h=>yN _ 4 i j (dh.2 ⟨hi,hj,h⟩),fun h=>⟨i,j,hi,hj,h, .inl rfl, .inl rfl⟩⟩
 |k+1,i,j,hi,hj=>by
  have ih:=Fb hm k
  have hP:=lS hm k
  refine⟨fun h=> ?_,fun h=> ?_⟩
  ·obtain⟨l,hl,h1,h2⟩:=(eX hP hm hi hj).1 h
   exact pX _ 4 l i j hl ((ih i l hi hl).1 h1) (yN _ 4 l j (dh.2 ⟨hl,hj,h2⟩))
  ·obtain⟨l,hl,h1,h2,h3⟩:=(jG hP hm hi hj).1 h
   have w2:=yN _ 4 l j (dh.2 ⟨hl,hj,h2⟩)
   rcases h3 with h3|h3
   ·obtain⟨u,v,hu,hv,g1,g2,g3⟩:=(ih i l hi hl).2 h3
    refine⟨u,v,hu,hv,g1,g2, .inr ?_⟩
    rcases g3 with g3|g3
    ·rw[g3];exact w2
    ·exact pX _ 4 l v j hl g3 w2
   ·exact⟨l,j,hl,hj,h3, .inr ((ih i l hi hl).1 h1), .inl rfl⟩
theorem DB{m:List Int}(hm:kM m)(h:ZG m):l6 m=true:=by
 obtain⟨k,i,hi,h⟩:=h
 obtain⟨u,v,hu,hv,h1,h2,h3⟩:=(Fb hm k i i hi hi).2 h
 refine nC.2 ⟨u,v,hu,hv,h1, ?_⟩
 rcases h2 with h2|h2<;>rcases h3 with h3|h3
 ·left;omega
 ·right;rw[<- h2];exact h3
 ·right;rw[h3];exact h2
 ·right;exact pX _ 4 i v u hi h3 h2
theorem adh:∀e1 e2 e3 e4 e5 e6 e7 e8 e9:Bool,
 let p:=e1||e2&&(e6||e7&&e8)||e3&&(e8||e9&&e6)
 let q:=e2||e1&&(e4||e5&&e9)||e3&&(e9||e8&&e4)
 let s:=e3||e1&&(e5||e4&&e7)||e2&&(e7||e6&&e5)
 (p&&e4->q)/\(p&&e5->s)/\(q&&e6->p)/\(q&&e7->s)/\(s&&e8->p)/\(s&&e9->q):=bF
theorem Nx(m:List Int)(j p q s:Nat)(a7:∀x,x<4->x=j\/x=p\/x=q\/x=s)(h4:j<4/\p<4/\q<4/\s<4)(hd:j≠p/\j≠q/\j≠s/\p≠q/\p≠s/\q≠s)(i:Nat)(Nd:i≠j)(h:wR (eG m) 4 j i=true)(hm:kM m):
 ∃k,k<3/\mg (oZ m k) j i≠0:=by
 obtain⟨hj,hp,hq,hs⟩:=h4
 obtain⟨d1,d2,d3,d4,d5,d6⟩:=hd
 have c9:=adh (eG m j p) (eG m j q) (eG m j s) (eG m p q) (eG m p s) (eG m q p) (eG m q s) (eG m s p) (eG m s q)
 have s1:∀ {x y},eG m x y=true->mg (oZ m 0) x y≠0:=fun h=>(dh.1 h).2.2
 have s2:∀ {x y z},eG m x y=true->eG m y z=true->mg (oZ m 1) x z≠0:=fun h h'=>(eX hm hm (dh.1 h).1 (dh.1 h').2.1).2 ⟨_,(dh.1 h).2.1,(dh.1 h).2.2,(dh.1 h').2.2⟩
 have s3:∀ {x y z w},eG m x y=true->eG m y z=true->eG m z w=true->mg (oZ m 2) x w≠0:=fun h h' TS=>(eX (lS hm 1) hm (dh.1 h).1 (dh.1 TS).2.1).2 ⟨_,(dh.1 TS).1,s2 h h',(dh.1 TS).2.2⟩
 generalize eP:(eG m j p||eG m j q&&(eG m q p||eG m q s&&eG m s p)||eG m j s&&(eG m s p||eG m s q&&eG m q p))=P at c9
 generalize eQ:(eG m j q||eG m j p&&(eG m p q||eG m p s&&eG m s q)||eG m j s&&(eG m s q||eG m s p&&eG m p q))=Q at c9
 generalize eS:(eG m j s||eG m j p&&(eG m p s||eG m p q&&eG m q s)||eG m j q&&(eG m q s||eG m q p&&eG m p s))=S at c9
 simp only[Bool.and_eq_true,and_imp]at c9
 obtain⟨c1,c2,c3,c4,c5,c6⟩:=c9
 have bP:eG m j p=true->P=true:=fun h=>by rw[<- eP,h];rfl
 have bQ:eG m j q=true->Q=true:=fun h=>by rw[<- eQ,h];rfl
 have bS:eG m j s=true->S=true:=fun h=>by rw[<- eS,h];rfl
 have key:=Ka (eG m) (fun u v=>(u=j\/(u=p/\P=true)\/(u=q/\Q=true)\/(u=s/\S=true))->(v=j\/(v=p/\P=true)\/(v=q/\Q=true)\/(v=s/\S=true))) (fun _ _ _ _ h1 h2 h3=>h2 (h1 h3)) (fun u v Mk hu=>by
  have hv:=(dh.1 Mk).2.1
  rcases a7 v hv with e|e|e|e<;>rcases hu with g|⟨g,g'⟩|⟨g,g'⟩|⟨g,g'⟩<;>subst e<;>subst g<;>first
   |exact .inl rfl
   |exact .inr (.inl ⟨rfl,g'⟩)
   |exact .inr (.inr (.inl ⟨rfl,g'⟩))
   |exact .inr (.inr (.inr ⟨rfl,g'⟩))
   |exact .inr (.inl ⟨rfl,bP Mk⟩)
   |exact .inr (.inr (.inl ⟨rfl,bQ Mk⟩))
   |exact .inr (.inr (.inr ⟨rfl,bS Mk⟩))
   |exact .inr (.inl ⟨rfl,c3 g' Mk⟩)
   |exact .inr (.inl ⟨rfl,c5 g' Mk⟩)
   |exact .inr (.inr (.inl ⟨rfl,c1 g' Mk⟩))
   |exact .inr (.inr (.inl ⟨rfl,c6 g' Mk⟩))
   |exact .inr (.inr (.inr ⟨rfl,c2 g' Mk⟩))
   |exact .inr (.inr (.inr ⟨rfl,c4 g' Mk⟩))) 4 (Nat.le_refl _) j i h (.inl rfl)
 have fin:∀y z w:Nat,(eG m j y||eG m j z&&(eG m z y||eG m z w&&eG m w y)||eG m j w&&(eG m w y||eG m w z&&eG m z y))=true->∃k,k<3/\mg (oZ m k) j y≠0:=fun y z w h=>by
  simp only[Bool.or_eq_true,Bool.and_eq_true]at h
  rcases h with(h|⟨h,h'|⟨h',TS⟩⟩)|⟨h,h'|⟨h',TS⟩⟩
  ·exact⟨0,af,s1 h⟩
  ·exact⟨1,af,s2 h h'⟩
  ·exact⟨2,af,s3 h h' TS⟩
  ·exact⟨1,af,s2 h h'⟩
  ·exact⟨2,af,s3 h h' TS⟩
 rcases key with g|⟨g,g'⟩|⟨g,g'⟩|⟨g,g'⟩
 ·exact absurd g Nd
 ·rw[g];exact fin p q s (eP.trans g')
 ·rw[g];exact fin q p s (eQ.trans g')
 ·rw[g];exact fin s p q (eS.trans g')
theorem G5{m:List Int}(hm:kM m)(h:l6 m=true):QA m 4:=by
 obtain⟨i,j,hi,hj,h1,h2⟩:=nC.1 h
 by_cases e:i=j
 ·subst e;exact⟨0,i,af,hi,h1⟩
 rcases h2 with h2|h2
 ·exact absurd h2 e
 have:∃k,k<3/\mg (oZ m k) j i≠0:=by
  rcases(by omega:j=0\/j=1\/j=2\/j=3)with rfl|rfl|rfl|rfl
  ·exact Nx m 0 1 2 3 af af af i e h2 hm
  ·exact Nx m 1 0 2 3 af af af i e h2 hm
  ·exact Nx m 2 0 1 3 af af af i e h2 hm
  ·exact Nx m 3 0 1 2 af af af i e h2 hm
 obtain⟨k,hk,h3⟩:=this
 refine⟨k+1,i,af,hi, ?_⟩
 have:=J9 hm 0 k
 rw[show k+1=0+k+1 by omega, <- this]
 exact(jG hm (lS hm k) hi hi).2 ⟨j,hj,Qz h1,h3, .inl h1⟩
theorem DC{m:List Int}(hm:kM m):l6 m=true↔QA m 4:=⟨G5 hm,fun⟨k,i,_,hi,h⟩=>DB hm ⟨k,i,hi,h⟩⟩
def Kc(m:List Int)(p n:Nat):List cp:=(List.range' p n).filterMap fun p=>if m.getD p 0≠0 then some ⟨(p/4:Nat),(p%4:Nat),m.getD p 0==2⟩else none
theorem TT(m:List Int)(q:Nat):cL m q=Kc m 0 q:=by unfold cL Kc;rw[List.range_eq_range']
theorem uy{m:List Int}(hm:kM m):∀ (n p:Nat) (last:Int) (acc:List Int),p+n=16->last<p->acc.length=16->(∀k,k<p->acc[k]? =m[k]?)->(∀k,p<=k->k<16->acc[k]? =some 0)->jV (Kc m p n) last acc=some m
 |0,p,last,acc,h1,h2,h3,h4,h5=>by
  have:acc=m:=List.ext_getElem? fun k=>by
   by_cases hk:k<p
   ·exact h4 k hk
   ·rw[List.getElem?_eq_none (by omega),List.getElem?_eq_none (by have:=hm.1;omega)]
  rw[this];rfl
 |n+1,p,last,acc,h1,h2,h3,h4,h5=>by
  have hl:=hm.1
  have hp:m[p]? =some (m.getD p 0):=by rw[List.getD_eq_getElem?_getD,List.getElem?_eq_getElem (by omega)];rfl
  have hr:0<=m.getD p 0/\m.getD p 0<=2:=hm.2 _ (List.mem_of_getElem? hp)
  unfold Kc
  rw[List.range'_succ,List.filterMap_cons]
  by_cases h0:m.getD p 0≠0
  ·rw[if_pos h0]
   show jV (_::Kc m (p+1) n) last acc=some m
   unfold jV
   have e1:((p/4:Nat):Int)*4+((p%4:Nat):Int)=p:=af
   rw[if_neg (by dsimp only;omega)]
   have ek:cp.k ⟨(p/4:Nat),(p%4:Nat),m.getD p 0==2⟩=p:=by unfold cp.k;dsimp only;omega
   have ev:cp.v ⟨(p/4:Nat),(p%4:Nat),m.getD p 0==2⟩=m.getD p 0:=by
    unfold cp.v;dsimp only
    split
    ·rename_i h;rw[beq_iff_eq]at h;exact h.symm
    ·rename_i h;rw[beq_iff_eq]at h;omega
   rw[ek,ev]
   refine uy hm n (p+1) _ _ af jS (by rw[List.length_set];exact h3) (fun k hk=> ?_) (fun k hk hk2=> ?_)
   ·rw[List.getElem?_set]
    split
    ·rename_i e;rw[if_pos (by omega), <- e,hp]
    ·exact h4 k af
   ·rw[List.getElem?_set,if_neg (by omega)];exact h5 k af hk2
  ·rw[if_neg h0]
   refine uy hm n (p+1) _ _ af af h3 (fun k hk=> ?_) (fun k hk hk2=>h5 k af hk2)
   by_cases e:k=p
   ·subst e
    rw[hp,h5 k (by omega) (by omega)];congr 1;exact(Decidable.not_not.1 h0).symm
   ·exact h4 k af
theorem yO{m:List Int}(hm:kM m):jV (cL m 16) (-1) xd=some m:=by
 rw[TT]
 refine uy hm 16 0 (-1) xd af bF rfl (fun k hk=>absurd hk (Nat.not_lt_zero _)) (fun k _ hk=> ?_)
 have:∀p,p<16->xd[p]? =some 0:=bF
 exact this k hk
theorem tf{m n:List Int}(hm:kM m)(hn:kM n):rp (cL m 16) (cL n 16) 16=cL (fT m n) 16:=(J4 (yO hm) (yO hn)).symm
def om(l:List cp):Bool:=l.any fun a=>a.f==a.t&&a.l
theorem Kd(m:List Int):om (cL m 16)=true↔∃i,i<4/\mg m i i=2:=by
 unfold om cL
 simp only[List.any_eq_true,List.mem_filterMap,List.mem_range,Bool.and_eq_true,beq_iff_eq]
 constructor
 ·rintro⟨a,⟨p,hp,h1⟩,h2,h3⟩
  split at h1
  ·obtain rfl:=Option.some.inj h1
   dsimp only at h2 h3
   rw[beq_iff_eq]at h3
   refine⟨p/4,af, ?_⟩
   unfold mg
   rw[show p/4*4+p/4=p by omega];exact h3
  ·cases h1
 ·rintro⟨i,hi,h⟩
  unfold mg at h
  refine⟨_,⟨i*4+i,af,if_pos af⟩, ?_, ?_⟩
  ·dsimp only;omega
  ·dsimp only;rw[beq_iff_eq];exact h
def pY(one:List cp):Nat->List cp->Bool
 |0,_=>false
 |q+1,now=>om now||pY one q (rp now one 16)
theorem Fc{m:List Int}(hm:kM m):∀q k,pY (cL m 16) q (cL (oZ m k) 16)=true↔∃p i,k<=p/\p<k+q/\i<4/\mg (oZ m p) i i=2
 |0,k=>by
  simp only[pY,Bool.false_eq_true,false_iff]
  rintro⟨p,i,h1,h2,_⟩;omega
 |q+1,k=>by
  simp only[pY,Bool.or_eq_true]
  rw[tf (lS hm k) hm,Kd]
  rw[show fT (oZ m k) m=oZ m (k+1)from rfl,Fc hm q (k+1)]
  constructor
  ·rintro(⟨i,hi,h⟩|⟨p,i,h1,h2,h3⟩)
   ·exact⟨k,i,af,af,hi,h⟩
   ·exact⟨p,i,af,af,h3⟩
  ·rintro⟨p,i,h1,h2,h3⟩
   rcases(by omega:k=p\/k+1<=p)with g|g
   ·subst g;exact .inl ⟨i,h3⟩
   ·exact .inr ⟨p,i,g,af,h3⟩
theorem G6{m:List Int}(hm:kM m):pY (cL m 16) 4 (cL m 16)=l6 m:=by
 rw[Bool.eq_iff_iff,DC hm]
 refine(Fc hm 4 0).trans ?_
 constructor
 ·rintro⟨p,i,_,h2,h3⟩;exact⟨p,i,af,h3⟩
 ·rintro⟨p,i,h2,h3⟩;exact⟨p,i,af,af,h3⟩
section
def jH(id:Nat)(K X:V->(Nat->ab)->Nat->Prop)(e:fm)(s:S):Prop:=
 match e with
 | .normal=>∃nf m en p c d st pd,s.o id= .loop nf m en p c d st pd/\K (.d (.bool true)) (aA s.o id (.loop nf m en p c d .ready none)) s.nx
 | .ret=>∃nf m en p c d st pd,s.o id= .loop nf m en p c d st pd/\K (.d (.bool false)) (aA s.o id (.loop nf m en p c d .done (some .ret))) s.nx
 | .exit j=>∃nf m en p c d st pd,s.o id= .loop nf m en p c d st pd/\K (.d (.bool false)) (aA s.o id (.loop nf m en p c d .done (some (.exit j)))) s.nx
 | .bD v=>X v s.o s.nx
def TU(P:Program)(n b id:Nat)(fj:IC)(K X:V->(Nat->ab)->Nat->Prop)(e:fm)(s:S):Prop:=
 match e with
 | .normal=>∃nf m en p c d pd,s.o id= .loop nf m en p c d .ready pd/\ta P n b true fj (jH id K X) ⟨s.env,aA s.o id (.loop nf m en p c d .busy pd),s.nx⟩
 | .bD v=>X v s.o s.nx
 |_=>False
section
variable {P:Program}{M:Nat->Prop}{φ cj:Place}{H0:Hp}{w w0:World}{n:Nat}{s:S}{a:Act}{cx:Cx}
theorem Bs{id:Nat}{x:ab}{s:S}(ck:id<s.nx)(j:Nat)(hu:(s.H.put [(id,x)]).us j):j<s.nx:=by
 simp only[dL]at hu
 rcases hu with hu|hu
 ·exact hu
 ·subst hu;exact ck
theorem uz{B:Nat->Prop}{H:Hp}{n:Nat}:∀ (ps:List Nat) (vs:List V) (us:List Value) (env:Nat->V) (tmps:Array Value),tmps.size=n->ps.length=vs.length->V.aD B φ H w vs us->ps.all (fun t=>decide (t<n))=true->(∀i,V.den B φ H w (env i) (tmps.getD i undef))->
 ((ps.zip us).foldl (fun tmps p=>tmps.setIfInBounds p.1 p.2) tmps).size=n/\∀i,V.den B φ H w (mW env ps vs i) (((ps.zip us).foldl (fun tmps p=>tmps.setIfInBounds p.1 p.2) tmps).getD i undef)
 |[],[],us,env,tmps,dA,_,hd,_,he=>by simp only[V.aD]at hd;subst hd;exact⟨dA,he⟩
 |[],v::vs,us,env,tmps,_,h,_,_,_=>by simp at h
 |t::ps,[],us,env,tmps,_,h,_,_,_=>by simp at h
 |t::ps,v::vs,us,env,tmps,dA,hl,hd,hp,he=>by
  obtain⟨u,us,rfl,h1,h2⟩:=hd
  simp only[List.all_cons,Bool.and_eq_true,decide_eq_true_eq]at hp
  simp only[List.zip_cons_cons,List.foldl_cons,mW]
  refine uz ps vs us (aA env t v) (tmps.setIfInBounds t u) (by simp[dA]) (by simpa using hl) h2 hp.2 (fun i=> ?_)
  simp only[aJ]
  by_cases hi:i=t
  ·subst hi
   have:(tmps.setIfInBounds i u).getD i undef=u:=by simp[Array.getD,dA,hp.1]
   rw[if_pos rfl,this];exact h1
  ·have:(tmps.setIfInBounds t u).getD i undef=tmps.getD i undef:=by
    exact SE
   rw[if_neg hi,this];exact he i
theorem dw.uq (bc:P.follows .mixedOrders=true){id:Nat}{args:List V}{o:Nat->ab}{nx:Nat}{K X:V->(Nat->ab)->Nat->Prop}{env:List V}{ps:List Nat}{jr fj:IC}{st:LoopState}{pd:Option jP}
 (ho:o id= .loop P.funcs.size n env ps jr fj st pd) (ck:id<nx) (nD:ps.all (fun t=>decide (t<n))=true) (hl:args.length=ps.length)
 (h:ta P n nx true jr (TU P n nx id fj K X) ⟨mW (aS env) ps args,o,nx⟩):dw P id args o nx K X:=by
 refine⟨by rw[ho];rfl,fun M φ w vals b hH hd dT=> ?_⟩
 have aW:=hH.ok id
 simp only[aN,hp,ho]at aW
 obtain⟨b',r,h1,h2,h0,h3,h4,h5,h6,h7,h8,h9⟩:=aW
 rw[dT]at h1;simp at h1;subst h1
 have hlen:=V.aB _ _ hd
 have dA:vals.size=r.params.size:=by
  have:r.params.toList.length=ps.length:=by rw[h5]
  simp at hlen this;omega
 let tm:Array Value:=(ps.zip vals.toList).foldl (fun tmps p=>tmps.setIfInBounds p.1 p.2) r.tmps
 have ZH:(r.params.zip vals).foldl (fun tmps (p:Tmp×Value)=>tmps.setIfInBounds p.1 p.2) r.tmps=tm:=by
  rw[<- Array.foldl_toList,Array.toList_zip,h5]
 obtain⟨p1,p2⟩:=uz (B:=ak M φ (hp o nx)) (H:=hp o nx) (φ:=φ) (w:=w) ps args vals.toList (aS env) r.tmps h6 hl.symm hd nD h9
 refine⟨r.fn,tm,r.assign,r.body, ?_,fun k=> ?_⟩
 ·simp only[Instr.yield,Sem.run_bind,kn h2,Result.andThen_ok,dA,ne_eq,not_true_eq_false,if_false,Sem.run_pure]
  rw[<- ZH]
 ·
   let s0:S:=⟨mW (aS env) ps args,o,nx⟩
   let a0:Act:={tmps:=tm,defers:=[]}
   have iu:bX M φ (hp o nx) w n ⟨[],true⟩ φ s0 a0 w:=⟨hH,Trans.refl _ _ _,p1,⟨[],rfl,List.nodup_nil,fun _=>rfl,fun r hr=>by cases hr⟩,p2⟩
   have uA:∀ {aE s' a' w'},bX M φ (hp o nx) w n ⟨[],true⟩ aE s' a' w'->a'.defers=[]:=by
    intro aE s' a' w' hs
    obtain⟨ms,g1,_,g3,_⟩:=hs.defers
    rw[g3 rfl]at g1;exact g1
   have ZI:∀ {aE s' a' w'} {nf m:Nat} {en:List V} {p:List Nat} {c d:IC} {st:LoopState} {pd:Option jP} (st':LoopState) (pd':Option jP),bX M φ (hp o nx) w n ⟨[],true⟩ aE s' a' w'->s'.o id= .loop nf m en p c d st pd->
    ∃r',w'.heap[b]? =some (.loop r')/\r'.state=st/\r'.pending=pd.map jP.code/\
     bX M φ (hp o nx) w n ⟨[],true⟩ aE ⟨s'.env,aA s'.o id (.loop nf m en p c d st' pd'),s'.nx⟩ a' {w' with heap:=w'.heap.setIfInBounds b (.loop {r' with state:=st',pending:=pd'.map jP.code})}:=by
    intro aE s' a' w' nf m en p c d st pd st' pd' hs oY
    have S6:aE id= .pointer (some ⟨b,0,none⟩):=by
     have:=(hs.tr.rel.row id ck (by show(s'.o id).b8=true;rw[oY];rfl)).2
     rw[this];exact dT
    have ZJ:id<s'.nx:=hs.tr.rel.us id ck
    obtain⟨r',r1,r2,r3,r4,r5⟩:=wS (st':=st') (pd':=pd') hs.heap ZJ (show s'.H.o id=_ from oY) S6
    exact⟨r',r1,r2,r3,eu hs r4 r5 rfl (Bs ZJ)⟩
   have ha:=gQ (P:=P) (n:=n) (b:=nx) (rd:=true) bc r.assign _ _ s0 (fun _ _ h=>h) (by rw[h7];exact h)
   refine ua h0 (gh (gL (P:=P) (H0:=hp o nx) (b:=nx) (cx:=⟨[],true⟩) (ro:=some b) (fun id hu=>hu) (fun h=>by cases h) r.assign _ s0 φ a0 w ha iu) ?_)
   rintro e a1 w1 ⟨x,s1,iH,hq,wU,hm⟩
   cases e<;>cases x<;>first|(exact hm.elim)|skip
   ·
     obtain⟨nf,m,en,p,c,d,pd1,q1,q2⟩:=hq
     obtain⟨r',r1,r2,r3,Mg⟩:=ZI .busy pd1 wU q1
     have TV:(Instr.beginRound b).run P w1= .ok () {w1 with heap:=w1.heap.setIfInBounds b (.loop {r' with state:= .busy,pending:=pd1.map jP.code})}:=by
      have e1:({r' with state:= .busy}:Loop)={r' with state:= .busy,pending:=pd1.map jP.code}:=by rw[<- r3]
      simp only[Instr.beginRound,Sem.run_bind,kn r1,Result.andThen_ok,iL _ r1,r2,Sem.run_pure,e1]
     refine⟨_,TV, ?_⟩
     have bz:=Mg.heap.ok id
     simp only[aN,S.H,aJ,if_true]at bz
     obtain⟨b2,r2',_,_,_,_,_,_,_,_,_,_⟩:=bz
     have hb:=gQ (P:=P) (n:=n) (b:=nx) (rd:=true) bc r.body _ _ _ (fun _ _ h=>h) (by rw[h8];exact q2)
     refine gh (gL (P:=P) (H0:=hp o nx) (b:=nx) (cx:=⟨[],true⟩) (ro:=some b) (fun id hu=>hu) (fun h=>by cases h) r.body _ _ iH a1 _ hb Mg) ?_
     rintro e a2 w2 ⟨x,s2,GJ,Wh,ES,M0⟩
     have fin:∀ {nf m:Nat} {en:List V} {p:List Nat} {c d:IC} {st:LoopState} {pd:Option jP} (jump:Option jP) (t:Bool) (st':LoopState),t=jump.isNone->st'=(if jump.isNone then .ready else .done)->s2.o id= .loop nf m en p c d st pd->K (.d (.bool t)) (aA s2.o id (.loop nf m en p c d st' jump)) s2.nx->
      ∃v w',(Instr.endRound b (jump.map jP.code)).run P w2= .ok v w'/\mI M φ (hp o nx) w K X (.returned v) w':=by
      intro nf m en p c d st pd jump t st' ht iW ho2 hK
      obtain⟨r3',g1,g2,g3,Wj⟩:=ZI st' jump ES ho2
      refine⟨.bool t,_, ?_,GJ,_,_,_,Wj.heap,Wj.tr,by simp only[V.den,D.den],hK⟩
      subst ht;subst iW
      simp only[Instr.endRound,Sem.run_bind,kn g1,Result.andThen_ok,iL _ g1,Sem.run_pure,Option.isNone_map]
     cases e<;>cases x<;>first|(exact M0.elim)|skip
     ·obtain⟨nf,m,en,p,c,d,st,pd,k1,k2⟩:=Wh
      exact fin none true .ready rfl rfl k1 k2
     ·rename_i j
      subst M0
      obtain⟨nf,m,en,p,c,d,st,pd,k1,k2⟩:=Wh
      exact fin (some (.exit _)) false .done rfl rfl k1 k2
     ·obtain⟨nf,m,en,p,c,d,st,pd,k1,k2⟩:=Wh
      exact fin (some .ret) false .done rfl rfl k1 k2
     ·obtain⟨val,rfl,k2⟩:=M0
      exact⟨uA ES,GJ,_,_,_,ES.heap,ES.tr,val,rfl,k2,Wh⟩
   ·exact hq.elim
   ·exact hq.elim
   ·obtain⟨val,rfl,k2⟩:=hm
    exact⟨uA wU,iH,_,_,_,wU.heap,wU.tr,val,rfl,k2,hq⟩
end
end
section
def TW(ops:Array Oper)(t t1:Nat):Prop:=
 (∃o1 o2,ops=#[o1,o2]/\o1.op= .call ⟨.builtin .recover,#[],#[]⟩/\o1.dst=some t/\o1.guard=none/\o2.op= .assign (.tmp t)/\o2.dst=some t1/\o2.guard=none)\/
 (∃o1,ops=#[o1]/\t1=t/\o1.op= .call ⟨.builtin .recover,#[],#[]⟩/\o1.dst=some t/\o1.guard=none)
structure Fe (P:Program) (g:FuncId) (n t t1:Nat) (ic:IC):Prop where
 get:∃fn id ops c,P.funcs[g]? =some fn/\(fn.name== "runtime.NumGoroutine")=false/\fn.ntmps=n/\fn.results=#[]/\fn.body=some (.seq (.region id ops false) c)/\
  TW ops t t1/\t<n/\t1<n/\low n c=ic
structure Ke (P:Program) (f:FuncId) (n:Nat) (jr fj:IC) (g:FuncId) (t:Nat) (aQ:List Operand) (rs:List ResultVar):Prop where
 get:∃fn id o1 o2 a b d,P.funcs[f]? =some fn/\(fn.name== "runtime.NumGoroutine")=false/\fn.ntmps=n/\fn.results.toList=rs/\fn.body=some (.seq a d)/\(d= .seq (.region id #[o1,o2] false) b\/d= .scope (.seq (.region id #[o1,o2] false) b))/\
  o1.op= .makeFunc (.func g) #[] aQ.toArray/\o1.dst=some t/\o1.guard=none/\o2.op= .defer ⟨.value (.tmp t),#[],#[]⟩/\o2.dst=none/\o2.guard=none/\t<n/\low n a=jr/\low n b=fj
def adi(K:(Nat->ab)->Nat->Prop)(e:fm)(s:S):Prop:=match e with| .normal| .ret=>K s.o s.nx|_=>False
def G7(P:Program)(n t t1:Nat)(ic:IC)(aQ:List V)(u:V)(o:Nat->ab)(nx:Nat)(K:(Nat->ab)->Nat->Prop):Prop:=
 aQ.length<=n/\ta P n nx true ic (adi K) ⟨aA (aA (cC aQ) t u) t1 u,o,nx⟩
def DD(P:Program)(n t t1:Nat)(ic:IC)(aQ:List V)(rs:List ResultVar)(K X:V->(Nat->ab)->Nat->Prop)(e:fm)(s:S):Prop:=
 match e with
 | .normal| .ret=>G7 P n t t1 ic aQ (.d .gC) s.o s.nx fun o nx=>lM P rs K X .ret ⟨s.env,o,nx⟩
 | .bD v=>G7 P n t t1 ic aQ v s.o s.nx fun o nx=>lM P rs K X .ret ⟨s.env,o,nx⟩
 | .exit _=>False
def Kg(P:Program)(n t:Nat)(fj:IC)(jd:List Operand)(g:FuncId)(D:List V->fm->S->Prop)(e:fm)(s:S):Prop:=
 match e with
 | .normal=>ta P n s.nx false fj (D (jd.map s.ev)) ⟨aA s.env t (.func (.func g) [] (jd.map s.ev)),s.o,s.nx⟩
 |_=>False
section
variable {P:Program}{M:Nat->Prop}{φ cj:Place}{H H0:Hp}{w w0:World}{n:Nat}{s:S}{a:Act}{cx:Cx}{k:Nat}
theorem G8(bc:P.follows .mixedOrders=true){g:FuncId}{t t1:Nat}{ic:IC}(hg:Fe P g n t t1 ic){aQ:List V}{u:V}{o:Nat->ab}{nx:Nat}{K:(Nat->ab)->Nat->Prop}(h:G7 P n t t1 ic aQ u o nx K)
 {vals:Array Value} {val:Value} {m:FrameMode} (hH:ax M φ (hp o nx) w) (hd:V.aD (ak M φ (hp o nx)) φ (hp o nx) w aQ vals.toList) (hv:V.den (ak M φ (hp o nx)) φ (hp o nx) w u val)
 (hm:(m= .returning/\val= .nilIface)\/m= .panicking [{v:=val,recovered:=false}]):
 CallsDIn (dC none) k P g vals m w fun e u' w'=>∃v aE o' nx',e= .returned v/\settle u'= .returning/\ax M aE (hp o' nx') w'/\Trans φ (hp o nx) w aE (hp o' nx') w'/\K o' nx':=by
 obtain⟨fn,id,ops,c,hf,QB,hnt,yh,pK,I7,ht,CH,re⟩:=hg.get
 have ck:g<P.funcs.size:=(Array.getElem?_eq_some_iff.1 hf).1
 obtain⟨kV,h⟩:=h
 have hlen:=V.aB _ _ hd
 refine⟨trivial,fun oQ cs Kh PN=> ?_⟩
 let b:Frame:={(default:Frame)with fn:=g,kind:= .deferred,roundOf:=none}
 let tg:Array Value:=vals++Array.replicate (fn.ntmps - vals.size) undef
 have adj:tg.size=n:=by simp only[tg,Array.size_append,Array.size_replicate];simp at hlen;omega
 have lL:Frame.enter P g vals .deferred=b.atR {tmps:=tg,defers:=[]} [.code (.seq (.region id ops false) c)]:=by
  simp[Frame.enter,Frame.atR,hf,pK,b,tg]
 obtain⟨m',hm',bz⟩:∃m',settle m'= .returning/\((recoverD (oQ::cs)=none/\m'=m/\val= .nilIface)\/recoverD (oQ::cs)=some (val,{oQ with mode:=m'}::cs)):=by
  rcases hm with⟨rfl,rfl⟩|rfl
  ·exact⟨.returning,rfl, .inl ⟨by simp[recoverD,Kh],rfl,rfl⟩⟩
  ·exact⟨.panicking [{v:=val,recovered:=true}],rfl, .inr (by simp[recoverD,Kh])⟩
 have hc0:({oQ with mode:=m}:Frame)=oQ:=by subst Kh;rfl
 let a1:Act:={tmps:=(tg.setIfInBounds t val).setIfInBounds t1 val,defers:=[]}
 have Nf:(Code.region id ops false).wpSIn (dC none) k P (fun e a' cs' w'=>e= .normal/\a'=a1/\cs'={oQ with mode:=m'}::cs/\w'=w) {tmps:=tg,defers:=[]} (oQ::cs) w:=by
  rcases I7 with⟨o1,o2,rfl,e1,e2,e3,e4,e5,e6⟩|⟨o1,rfl,rfl,e1,e2,e3⟩
  ·refine wpSIn_region ?_
   have hr:List.range (#[o1,o2]:Array Oper).size=[0,1]:=rfl
   have g0:(#[o1,o2]:Array Oper)[0]? =some o1:=rfl
   have g1:(#[o1,o2]:Array Oper)[1]? =some o2:=rfl
   rw[hr]
   have x1:∀ (ρ:Operand->Value) (w:World),(execOp ρ o1).run P w= .ok .recover w:=by
    intro ρ w
    simp[execOp,e1,resolve,invoke,builtin]
   have x2:∀ (ρ:Operand->Value) (w:World),(execOp ρ o2).run P w= .ok (.value (ρ (.tmp t))) w:=by
    intro ρ w
    simp[execOp,e4]
   have last:∀cs',cs'={oQ with mode:=m'}::cs->wpOpsSIn (dC none) k P #[o1,o2] (fun e a' cs' w'=>e= .normal/\a'=a1/\cs'={oQ with mode:=m'}::cs/\w'=w) [1] (({tmps:=tg,defers:=[]}:Act).put (some t) val) cs' w:=by
    rintro cs' rfl
    have hw:Region.wanted o2 (yielded #[o1,o2] (({tmps:=tg,defers:=[]}:Act).put (some t) val).tmps)=true:=by simp[Region.wanted,e6]
    have db:(({tmps:=tg,defers:=[]}:Act).put (some t) val).eval (.tmp t)=val:=by
     have:t<tg.size:=af
     simp[Act.put,Act.eval,Array.getD,this]
    simp only[wpOpsSIn,g1,hw,if_true,x2,db,e5]
    refine⟨fun _ _=>trivial, ?_⟩
    simp[a1,Act.put]
   have hw:Region.wanted o1 (yielded #[o1,o2] tg)=true:=by simp[Region.wanted,e3]
   rw[wpOpsSIn,g0]
   refine⟨fun _ _=>trivial, ?_⟩
   simp only[hw,if_true,x1,e2]
   rcases bz with⟨hr,rfl,rfl⟩|hr
   ·simp only[hr]
    exact last _ (by rw[hc0])
   ·simp only[hr]
    exact last _ rfl
  ·refine wpSIn_region ?_
   have hr:List.range (#[o1]:Array Oper).size=[0]:=rfl
   have g0:(#[o1]:Array Oper)[0]? =some o1:=rfl
   rw[hr]
   have x1:∀ (ρ:Operand->Value) (w:World),(execOp ρ o1).run P w= .ok .recover w:=by
    intro ρ w
    simp[execOp,e1,resolve,invoke,builtin]
   have same:a1=({tmps:=tg,defers:=[]}:Act).put (some t1) val:=by
    simp only[a1,Act.put]
    congr 1
    apply Array.ext_getElem?
    intro j
    simp only[Array.getElem?_setIfInBounds]
    by_cases hj:t1=j
    ·subst hj;simp
    ·simp[hj]
   have last:∀cs',cs'={oQ with mode:=m'}::cs->wpOpsSIn (dC none) k P #[o1] (fun e a' cs' w'=>e= .normal/\a'=a1/\cs'={oQ with mode:=m'}::cs/\w'=w) [] (({tmps:=tg,defers:=[]}:Act).put (some t1) val) cs' w:=by
    rintro cs' rfl
    simp only[wpOpsSIn]
    exact⟨trivial,same.symm,trivial,trivial⟩
   have hw:Region.wanted o1 (yielded #[o1] tg)=true:=by simp[Region.wanted,e3]
   rw[wpOpsSIn,g0]
   refine⟨fun _ _=>trivial, ?_⟩
   simp only[hw,if_true,x1,e2]
   rcases bz with⟨hr,rfl,rfl⟩|hr
   ·simp only[hr]
    exact last _ (by rw[hc0])
   ·simp only[hr]
    exact last _ rfl
 obtain⟨er,ar,csr,wr,hl,⟨rfl,rfl,rfl,hwr⟩,cW⟩:=Nf b [.code c] rfl rfl trivial (fun d hd=>by simp[dC]at hd)
 rw[hwr]at cW
 let s0:S:=⟨aA (aA (cC aQ) t u) t1 u,o,nx⟩
 have iu:bX M φ (hp o nx) w n ⟨[],true⟩ φ s0 a1 w:=by
  refine⟨hH,Trans.refl _ _ _,by simp[a1,adj],⟨[],rfl,List.nodup_nil,fun _=>rfl,fun r hr=>by cases hr⟩,fun i=> ?_⟩
  have dP:=Af (m:=fn.ntmps - vals.size) hd i
  simp only[s0,a1,aJ]
  have ht0:t<tg.size:=af
  have adk:t1<tg.size:=af
  by_cases h1:i=t1
  ·subst h1
   simp only[if_true]
   have:((tg.setIfInBounds t val).setIfInBounds i val).getD i undef=val:=by simp[Array.getD,adk]
   rw[this];exact hv
  ·simp only[h1,if_false]
   have e1:((tg.setIfInBounds t val).setIfInBounds t1 val).getD i undef=(tg.setIfInBounds t val).getD i undef:=by
    exact Pt
   rw[e1]
   by_cases h2:i=t
   ·subst h2
    simp only[if_true]
    have:(tg.setIfInBounds i val).getD i undef=val:=by simp[Array.getD,ht0]
    rw[this];exact hv
   ·simp only[h2,if_false]
    have e1:(tg.setIfInBounds t val).getD i undef=tg.getD i undef:=by
     simp only[Array.getD_eq_getD_getElem?]
     rw[Array.getElem?_setIfInBounds_ne (Ne.symm h2)]
    rw[e1];exact dP
 have hcw:=gQ (P:=P) (n:=n) (b:=nx) (rd:=true) bc c _ _ s0 (fun _ _ h=>h) (by rw[re];exact h)
 obtain⟨e,a',w',⟨x,s',aE,hq,jU,hx⟩,ER⟩:=gL (P:=P) (H0:=hp o nx) (b:=nx) (cx:=⟨[],true⟩) (ro:=none) (fun id hu=>hu) (fun h=>by cases h) c _ s0 φ a1 w hcw iu b [] ({oQ with mode:=m'}::cs) rfl ck
 have i0:(lone (b.atR {tmps:=tg,defers:=[]} [.code (.seq (.region id ops false) c)]) (oQ::cs) w).fenced P (dC none):=fenced_calm (n:=0) trivial gf rfl
 have QC:StepsIn (Machine.fenced P (dC none)) P (lone (b.atR {tmps:=tg,defers:=[]} [.code (.seq (.region id ops false) c)]) (oQ::cs) w) (lone (b.atR a1 [.code c]) ({oQ with mode:=m'}::cs) w):= .head i0 stepR_seq cW
 have uA:a'.defers=[]:=by
  obtain⟨ms,g1,_,g3,_⟩:=jU.defers
  rw[g3 rfl]at g1;exact g1
 have ZK:∀tm:Array Value,∃v,(results fn tm).run P w'= .ok v w':=by
  intro tm
  refine⟨_,mN (vals:=[]) ?_⟩
  rw[yh];rfl
 rw[lL]
 obtain⟨v,sG⟩:=ZK a'.tmps
 cases e<;>cases x<;>first|(exact hx.elim)|(exact hq.elim)|skip
 ·exact⟨.returned v,m',w',_,⟨v,aE,s'.o,s'.nx,rfl,hm',jU.heap,jU.tr,hq⟩,StepsIn.trans QC (StepsIn.trans ER (.one (fenced_calm (n:=0) (fr:=b.atR a' []) trivial gf rfl) (stepR_end rfl))),rfl,rfl,rfl,uA,fn,hf,sG⟩
 ·obtain⟨todo,hs⟩:=ER.1 rfl
  exact⟨.returned v,m',w',_,⟨v,aE,s'.o,s'.nx,rfl,hm',jU.heap,jU.tr,hq⟩,StepsIn.trans QC hs,rfl,rfl,rfl,uA,fn,hf,sG⟩
theorem Bt{d c:Code}{ro:Option Nat}{Q:Exit->Act->World->Prop}{a:Act}{w:World}(h:d=c\/d= .scope c)(hg:∀l a w, ¬Q (.goto l) a w)(hc:c.sJ P ro Q a w):d.sJ P ro Q a w:=by
 rcases h with rfl|rfl
 ·exact hc
 ·exact wP hc hg
theorem cX.Ki (bc:P.follows .mixedOrders=true){f g:FuncId}{jr fj Bu:IC}{t m r r1:Nat}{jd:List Operand}{rs:List ResultVar}(hf:Ke P f n jr fj g t jd rs)(hg:Fe P g m r r1 Bu)
 {args:List V} {o:Nat->ab} {nx:Nat} {K X:V->(Nat->ab)->Nat->Prop} (hl:args.length<=n)
 (h:ta P n nx true jr (Kg P n t fj jd g fun aQ=>DD P m r r1 Bu aQ rs K X) ⟨cC args,o,nx⟩):cX P f args o nx K X:=by
 obtain⟨fn,id,o1,o2,ca,cb,cd,H5,QB,hnt,yh,pK,hsc,e1,e2,e3,e4,e5,e6,ht,hla,Wc⟩:=hf.get
 obtain⟨gn,_,_,gc,hgn,TX,_,_,TY,_⟩:=hg.get
 refine⟨⟨fn,H5,QB,by rw[pK];rfl⟩,fun M φ w vals hH hd=> ?_⟩
 have hlen:=V.aB _ _ hd
 let s0:S:=⟨cC args,o,nx⟩
 let a0:Act:={tmps:=vals++Array.replicate (fn.ntmps - vals.size) undef,defers:=[]}
 have iu:bX M φ (hp o nx) w n ⟨[],true⟩ φ s0 a0 w:=by
  exact YA
 have ha:=gQ (P:=P) (n:=n) (b:=nx) (rd:=true) bc ca _ _ s0 (fun _ _ h=>h) (by rw[hla];exact h)
 refine AP (ro:=none) (k:=0) (mO H5 pK (yg (gh (gL (P:=P) (H0:=hp o nx) (b:=nx) (cx:=⟨[],true⟩) (ro:=none) (fun id hu=>hu) (fun h=>by cases h) ca _ s0 φ a0 w ha iu) ?_)))
 rintro e a1 w1 ⟨x,s1,iH,hq,wU,hm⟩
 cases e<;>cases x<;>first|(exact hm.elim)|(exact hq.elim)|skip
 have uA:a1.defers=[]:=by
  obtain⟨ms,g1,_,g3,_⟩:=wU.defers
  rw[g3 rfl]at g1;exact g1
 let cv:Array Value:=(jd.map a1.eval).toArray
 let fv:Value:= .func (.func g) #[] cv
 let dd:Deferred:={target:= .fn (.func g) cv,args:=#[]}
 let a2:Act:={tmps:=a1.tmps.setIfInBounds t fv,defers:=[dd]}
 have QD:V.aD (ak M iH s1.H) iH s1.H w1 (jd.map s1.ev) cv.toList:=by
  simpa[cv]using j7 (M:=M) (φ:=iH) (H:=s1.H) (w:=w1) s1 a1 wU.env jd
 refine Bt hsc (fun l a w h=> ?_) ?_
 ·exact h.elim
 refine yg (gh (Q:=fun e a w=>e= .normal/\a=a2/\w=w1) (oK (k:=0) (wpIn_region_list ?_)) ?_)
 ·have y1:Region.wanted o1 (yielded #[o1,o2] a1.tmps)=true:=by simp[Region.wanted,e3]
  have y2:∀tm,Region.wanted o2 (yielded #[o1,o2] tm)=true:=by intro tm;simp[Region.wanted,e6]
  have db:(a1.put (some t) fv).eval (.tmp t)=fv:=by
   have:t<a1.tmps.size:=by rw[wU.size];exact ht
   simp[Act.put,Act.eval,Array.getD,this]
  show wpListIn (dC none) 0 P #[o1,o2] _ [o1,o2] a1 w1
  unfold wpListIn
  rw[if_pos y1]
  have x1:(execOp a1.eval o1).run P w1= .ok (.value fv) w1:=by simp[execOp,e1,fv,cv,Instr.makeFunc]
  refine ki (fun c hc=>by rw[e1]at hc;cases hc) ?_
  rw[x1]
  show wpListIn (dC none) 0 P #[o1,o2] _ [o2] (a1.put o1.dst fv) w1
  rw[e2]
  unfold wpListIn
  rw[if_pos (y2 _)]
  have x2:(execOp (a1.put (some t) fv).eval o2).run P w1= .ok (.defer dd) w1:=by
   simp[execOp,e4,resolve,db,Deferred.ofValue,fv,dd]
  refine⟨fun _ _=>trivial, ?_⟩
  have:(o2.semAt (dC none).round (a1.put (some t) fv).eval)=execOp (a1.put (some t) fv).eval o2:=rfl
  rw[this,x2]
  unfold Oper.uponIn
  simp only[e5,wpListIn,Act.put,uA,a2,and_self]
 rintro e a w2 ⟨rfl,rfl,rfl⟩
 have CH:t<a1.tmps.size:=by rw[wU.size];exact ht
 let s2:S:=⟨aA s1.env t (.func (.func g) [] (jd.map s1.ev)),s1.o,s1.nx⟩
 have Mg:bX M iH s1.H w2 n ⟨[dd],false⟩ iH s2 a2 w2:=by
  refine⟨wU.heap,Trans.refl _ _ _,by simp[a2,wU.size],⟨[],rfl,List.nodup_nil,fun _=>rfl,fun r hr=>by cases hr⟩,fun i=> ?_⟩
  simp only[s2,a2,aJ]
  by_cases h1:i=t
  ·subst h1
   have:(a1.tmps.setIfInBounds i fv).getD i undef=fv:=by simp[Array.getD,CH]
   simp only[if_true];rw[this]
   exact⟨#[],cv,rfl,rfl,QD⟩
  ·have:(a1.tmps.setIfInBounds t fv).getD i undef=a1.tmps.getD i undef:=by
    exact Pt
   simp only[h1,if_false];rw[this]
   exact wU.env i
 have hb:=gQ (P:=P) (n:=n) (b:=s1.nx) (rd:=false) bc cb _ _ s2 (fun _ _ h=>h) (by rw[Wc];exact hq)
 refine gh (gL (P:=P) (H0:=s1.H) (b:=s1.nx) (cx:=⟨[dd],false⟩) (ro:=none) (fun id hu=>hu) (fun _=>rfl) cb _ s2 iH a2 w2 hb Mg) ?_
 rintro e a3 w3 ⟨x,s3,ZL,hq3,ES,vT⟩
 obtain⟨ms,g1,g2,_,g4⟩:=ES.defers
 have hinv:(invoke dd.target dd.args).run P=fun w=> .ok (.enter g cv) w:=by
  funext w
  have:=kZ (w:=w) ⟨gn,hgn,TX,by rw[TY];rfl⟩ cv
  simpa[dd,invoke]using this
 have last:∀ {w4:World} {tm:Array Value} {u:V} {val:Value} {m0:FrameMode},m0≠ .run->yj M iH s1.H w2 ZL s3 a3.tmps w4->V.den (ak M ZL s3.H) ZL s3.H w4 u val->
  ((m0= .returning/\val= .nilIface)\/m0= .panicking [{v:=val,recovered:=false}])->
  (G7 P m r r1 Bu (jd.map s1.ev) u s3.o s3.nx fun o nx=>lM P rs K X .ret ⟨s3.env,o,nx⟩)->
  LeavesInM (dC none) 0 P fn a3.tmps (mI M φ (hp o nx) w K X) [dd] m0 w4:=by
  intro w4 tm u val m0 eO hB MT hm0 bz
  have TZ:=V.aP hB.tr _ _ QD
  refine⟨eO, .inr ⟨fun h=>by simp[dC]at h, .func g,cv,g,cv,rfl,by rw[hinv],fun _ _=>trivial,CallsDIn.mono (G8 (k:=0 - 1) bc hg bz (m:=m0) hB.heap TZ MT hm0) ?_⟩⟩
  rintro e u' w5 ⟨v,φ5,o5,nx5,rfl,adl,k1,k2,k3⟩
  show LeavesInM (dC none) 0 P fn a3.tmps (mI M φ (hp o nx) w K X) [] (settle u') w5
  rw[adl]
  obtain⟨vs,h1,h2⟩:=AX k3
  rw[<- yh]at h1
  have ZM:∀i,V.den (ak M φ5 (hp o5 nx5)) φ5 (hp o5 nx5) w5 (s3.env i) (a3.tmps.getD i undef):=fun i=>V.aM k2 _ _ (hB.env i)
  obtain⟨aeE,h3,h4⟩:=s9 (P:=P) (s:=⟨s3.env,o5,nx5⟩) (a:=a3) k1 ZM _ _ h1
  exact⟨_,mN h3,φ5,o5,nx5,_,k1,wU.tr.trans (hB.tr.trans k2),AY h4,h2⟩
 have done:G7 P m r r1 Bu (jd.map s1.ev) (.d .gC) s3.o s3.nx (fun o nx=>lM P rs K X .ret ⟨s3.env,o,nx⟩)->LeavesInM (dC none) 0 P fn a3.tmps (mI M φ (hp o nx) w K X) a3.defers .returning w3:=by
  intro bz
  rw[g1]
  exact gk (P:=P) (k:=0) (fn:=fn) (R:=mI M φ (hp o nx) w K X) (u:= .returning) aL (ds:=[dd]) (fun w4 hB=>last (tm:=a3.tmps) aL hB (u:= .d .gC) (val:= .nilIface) (by simp[V.den,D.den]) (.inl ⟨rfl,rfl⟩) bz) ms w3 g2 g4 ES.toB
 cases e<;>cases x<;>first|(exact vT.elim)|skip
 ·exact done hq3
 ·exact hq3.elim
 ·exact done hq3
 ·rename_i v
  obtain⟨val,rfl,hd'⟩:=vT
  show LeavesInM (dC none) 0 P fn a3.tmps (mI M φ (hp o nx) w K X) a3.defers _ w3
  rw[g1]
  let ZN:Nat->V:=fun i=>match i with|0=>v|i+1=>s3.env i
  have ZO:(#[val]++a3.tmps).getD 0 undef=val:=by simp[Array.getD]
  have ZP:∀i,(#[val]++a3.tmps).getD (i+1) undef=a3.tmps.getD i undef:=by
   intro i
   simp only[Array.getD_eq_getD_getElem?]
   rw[Array.getElem?_append_right (by simp)]
   simp
  have S8:yj M iH s1.H w2 ZL ⟨ZN,s3.o,s3.nx⟩ (#[val]++a3.tmps) w3:=⟨ES.heap,ES.tr,fun i=>by
   cases i with
   |zero=>rw[ZO];exact hd'
   |succ i=>rw[ZP];exact ES.env i⟩
  have ZQ:∀w4,yj M iH s1.H w2 ZL ⟨ZN,s3.o,s3.nx⟩ (#[val]++a3.tmps) w4->LeavesInM (dC none) 0 P fn a3.tmps (mI M φ (hp o nx) w K X) [dd] (.panicking [{v:=val,recovered:=false}]) w4:=by
   intro w4 hB
   have hv4:=hB.env 0
   rw[ZO]at hv4
   refine last (tm:=a3.tmps) aL ⟨hB.heap,hB.tr,fun i=> ?_⟩ hv4 (.inr rfl) hq3
   have hs:=hB.env (i+1)
   rw[ZP]at hs
   exact hs
  exact gk (P:=P) (k:=0) (fn:=fn) (R:=mI M φ (hp o nx) w K X) (u:= .panicking [{v:=val,recovered:=false}]) aL (ds:=[dd]) ZQ ms w3 g2 g4 S8
end
end
theorem yw.Kj {P:Program}{g:FuncId}{ds:List D}{o:Nat->ab}{fr:Nat}{ty:TypeId}{sz:Nat}{es:List D}
 (h:cX P g (ds.map .d) (fun _=> .no) 0 (fun v o1 _=>(∃j ep,v= .osl j ep/\o1 j= .arr ep ty sz es)\/(v= .bd/\es=[]/\0<sz)) (fun _ _ _=>False)):
 yw P g (ds.map .d) [] o fr (.osl fr 0) [(fr, .arr 0 ty sz es)]:=by
 refine⟨h.1,fun o' us M φ w vals _ cN hH hd=> ?_⟩
 let cj:Place:=fun _=> .nilFunc
 have vH:∀b, ¬cA cj (hp (fun _=> .no) 0) b:=by rintro b ⟨id,hl,_⟩;simp[hp,ab.live]at hl
 have hM:∀b,ak M φ ⟨o',us⟩ b->b<w.heap.size:=fun b hb=>hb.elim (hH.zO b) fun hl=>(hH.ours b hl).2
 have wD:=(V.b9 _ _).1 hd
 refine(h.2 (ak M φ ⟨o',us⟩) cj w vals (la cj hM) ((V.b9 _ _).2 (D.aP (w:=w) (w':=w) (B:=ak M φ ⟨o',us⟩) (fun b _ hB=>⟨rfl,fun h=>h.elim hB (vH b)⟩) _ _ wD))).mono ?_
 rintro e w' ⟨iH,o1,n1,v,k1,k2,k3⟩
 have hk:dB (fun _=>False) w w':=⟨k2.keep.os,k2.keep.tape,k2.keep.output,k2.keep.size,fun k hk _=>k2.keep.block k hk (vH k)⟩
 have MS:(⟨o',us⟩:Hp).put [(fr, .arr 0 ty sz es)]=⟨put o' [(fr, .arr 0 ty sz es)],fun id=>us id\/id=fr⟩:=by
  simp only[Hp.put]
  congr 1
  funext id
  simp
 have fin:∀ (val:Value) (xs:List Value),(∀b,de val=some b->w.heap.size<=b/\b<w'.heap.size)->0<sz->w'.ownsRow 0 ty sz val es.length xs->
  (fw (ak M (aA φ fr val) ((⟨o',us⟩:Hp).put [(fr, .arr 0 ty sz es)])) w' sz es xs)->
  val.oneCell'=true->
  ∃aE,ax M aE ⟨put o' [(fr, .arr 0 ty sz es)],fun id=>us id\/id=fr⟩ w'/\Trans φ ⟨o',us⟩ w aE ⟨put o' [(fr, .arr 0 ty sz es)],fun id=>us id\/id=fr⟩ w'/\
   ∃Kk,Ending.returned val= .returned Kk/\V.den (ak M aE ⟨put o' [(fr, .arr 0 ty sz es)],fun id=>us id\/id=fr⟩) aE ⟨put o' [(fr, .arr 0 ty sz es)],fun id=>us id\/id=fr⟩ w' (.osl fr 0) Kk:=by
  intro val xs jv dA df bG QE
  have pI:=im hH hk cN (.arr 0 ty sz es) val jv (by
   unfold aN
   rw[show((⟨o',us⟩:Hp).put [(fr, .arr 0 ty sz es)]).o fr= .arr 0 ty sz es by simp]
   refine⟨dA,xs, ?_,bG⟩
   rw[show aA φ fr val fr=val by simp]
   exact df)
  have QF:=dU (φ:=φ) (H:=⟨o',us⟩) hk cN (.arr 0 ty sz es) val (fun b hb=>(jv b hb).1)
  rw[MS]at pI QF
  refine⟨aA φ fr val,pI,QF,val,rfl,QE, .inr rfl,fun e he=> ?_⟩
  have oX:0=e:=by
   have:(put o' [(fr,ab.arr 0 ty sz es)] fr).bY=some 0:=by simp[put,ab.bY]
   exact Yn
  exact⟨af,fun _=>aL⟩
 cases e with
 |outgrown=>exact k3.elim
 |panicked ch=>obtain⟨_,_,_,h⟩:=k3;exact h.elim
 |returned val=>
  obtain⟨g1,⟨j,ep,rfl,hj⟩|⟨rfl,rfl,dA⟩⟩:=k3
  ·obtain⟨v0,v1,v2⟩:=g1
   have eJ:val=iH j:=(v2 ep (by show(o1 j).bY=some ep;rw[hj];rfl)).2 rfl
   have cB:∀b,de val=some b->cA iH (hp o1 n1) b:=fun b hb=>⟨j,by show(o1 j).live=true;rw[hj];rfl,by rw[<- eJ];exact hb⟩
   have jv:∀b,de val=some b->w.heap.size<=b/\b<w'.heap.size:=fun b hb=>⟨(k2.grow b (cB b hb)).resolve_left (vH b),(k1.ours b (cB b hb)).2⟩
   have DE:=k1.ok j
   unfold aN at DE
   rw[show(hp o1 n1).o j= .arr ep ty sz es from hj]at DE
   obtain⟨dA,xs,df,bG⟩:=DE
   have hBs:∀b,ak M (aA φ fr val) ((⟨o',us⟩:Hp).put [(fr, .arr 0 ty sz es)]) b->ak (ak M φ ⟨o',us⟩) iH (hp o1 n1) b:=by
    rintro b (hb|⟨id,hl,hb⟩)
    ·exact .inl (.inl hb)
    ·by_cases e:id=fr
     ·subst e
      simp at hb
      exact .inr (cB b hb)
     ·simp[e]at hl hb
      exact .inl (.inr ⟨id,hl,hb⟩)
   exact fin val xs jv dA (by rw[eJ];exact df) (bG.mono (w:=w') (w':=w') (fun b _ hB=>⟨rfl,fun h=>hB (hBs b h)⟩)) v0
  ·have g1:val= .slice none 0 0:=g1
   subst g1
   exact XT
theorem yw.Ny {P:Program}{g:FuncId}{args:List V}{ds:List D}{o:Nat->ab}{fr:Nat}{ty:TypeId}{sz:Nat}{es:List D}
 (eK:bV o args=some ds) (qA:D.jy es=true) (h:cX P g (ds.map .d) (fun _=> .no) 0 (fun v o1 _=>(∃j ep,v= .osl j ep/\o1 j= .arr ep ty sz es)\/(v= .bd/\es=[]/\0<sz)) (fun _ _ _=>False)):
 yw P g args (V.bf args) o fr (.osl fr 0) [(fr, .arr 0 ty sz es)]:=by
 refine⟨h.1,fun o' us M φ w vals hag cN hH hd=> ?_⟩
 obtain⟨f1,f2,f3,f4,f5⟩:=cG hH (V.bf args) (fun id au=>(hag id au).2)
 generalize hHF:(⟨o',us⟩:Hp).put (cg (⟨o',us⟩:Hp).o (V.bf args))=HF at f1 f2 f3
 let cj:Place:=fun _=> .nilFunc
 have vH:∀b, ¬cA cj (hp (fun _=> .no) 0) b:=by rintro b ⟨id,hl,_⟩;simp[hp,ab.live]at hl
 have hM:∀b,ak M φ HF b->b<w.heap.size:=fun b hb=>hb.elim (f1.zO b) fun hl=>(f1.ours b hl).2
 have wD:D.aD (ak M φ HF) w ds vals.toList:=c0 f1 args ds _ (fun id au=>by rw[f3 id au];show(o' id).fz=(o id).fz;rw[(hag id au).1]) eK (V.aP f2 _ _ hd)
 refine(h.2 (ak M φ HF) cj w vals (la cj hM) ((V.b9 _ _).2 (D.aP (w:=w) (w':=w) (B:=ak M φ HF) (fun b _ hB=>⟨rfl,fun h=>h.elim hB (vH b)⟩) _ _ wD))).mono ?_
 rintro e w' ⟨iH,o1,n1,v,k1,k2,k3⟩
 have hk:dB (fun _=>False) w w':=⟨k2.keep.os,k2.keep.tape,k2.keep.output,k2.keep.size,fun k hk _=>k2.keep.block k hk (vH k)⟩
 have MS:(⟨o',us⟩:Hp).put [(fr, .arr 0 ty sz es)]=⟨put o' [(fr, .arr 0 ty sz es)],fun id=>us id\/id=fr⟩:=by
  simp only[Hp.put]
  congr 1
  funext id
  simp
 have fin:∀ (val:Value) (xs:List Value),(∀b,de val=some b->w.heap.size<=b/\b<w'.heap.size)->0<sz->w'.ownsRow 0 ty sz val es.length xs->
  (fw (ak M (aA φ fr val) ((⟨o',us⟩:Hp).put [(fr, .arr 0 ty sz es)])) w' sz es xs)->
  val.oneCell'=true->
  ∃aE,ax M aE ⟨put o' [(fr, .arr 0 ty sz es)],fun id=>us id\/id=fr⟩ w'/\Trans φ ⟨o',us⟩ w aE ⟨put o' [(fr, .arr 0 ty sz es)],fun id=>us id\/id=fr⟩ w'/\
   ∃Kk,Ending.returned val= .returned Kk/\V.den (ak M aE ⟨put o' [(fr, .arr 0 ty sz es)],fun id=>us id\/id=fr⟩) aE ⟨put o' [(fr, .arr 0 ty sz es)],fun id=>us id\/id=fr⟩ w' (.osl fr 0) Kk:=by
  intro val xs jv dA df bG QE
  have pI:=im hH hk cN (.arr 0 ty sz es) val jv (by
   unfold aN
   rw[show((⟨o',us⟩:Hp).put [(fr, .arr 0 ty sz es)]).o fr= .arr 0 ty sz es by simp]
   refine⟨dA,xs, ?_,bG⟩
   rw[show aA φ fr val fr=val by simp]
   exact df)
  have QF:=dU (φ:=φ) (H:=⟨o',us⟩) hk cN (.arr 0 ty sz es) val (fun b hb=>(jv b hb).1)
  rw[MS]at pI QF
  refine⟨aA φ fr val,pI,QF,val,rfl,QE, .inr rfl,fun e he=> ?_⟩
  have oX:0=e:=by
   have:(put o' [(fr,ab.arr 0 ty sz es)] fr).bY=some 0:=by simp[put,ab.bY]
   exact Yn
  exact⟨af,fun _=>aL⟩
 cases e with
 |outgrown=>exact k3.elim
 |panicked ch=>obtain⟨_,_,_,h⟩:=k3;exact h.elim
 |returned val=>
  obtain⟨g1,⟨j,ep,rfl,hj⟩|⟨rfl,rfl,dA⟩⟩:=k3
  ·obtain⟨v0,v1,v2⟩:=g1
   have eJ:val=iH j:=(v2 ep (by show(o1 j).bY=some ep;rw[hj];rfl)).2 rfl
   have cB:∀b,de val=some b->cA iH (hp o1 n1) b:=fun b hb=>⟨j,by show(o1 j).live=true;rw[hj];rfl,by rw[<- eJ];exact hb⟩
   have jv:∀b,de val=some b->w.heap.size<=b/\b<w'.heap.size:=fun b hb=>⟨(k2.grow b (cB b hb)).resolve_left (vH b),(k1.ours b (cB b hb)).2⟩
   have DE:=k1.ok j
   unfold aN at DE
   rw[show(hp o1 n1).o j= .arr ep ty sz es from hj]at DE
   obtain⟨dA,xs,df,bG⟩:=DE
   obtain⟨evs,e1,e2,e3⟩:=bG
   exact fin val xs jv dA (by rw[eJ];exact df) ⟨evs,e1,e2,D.lI _ _ qA e3⟩ v0
  ·have g1:val= .slice none 0 0:=g1
   subst g1
   exact XT
theorem yw.Nz {P:Program}{g:FuncId}{args:List V}{ds:List D}{o0 o:Nat->ab}{rd:List Nat}{fr:Nat}{v:V}{Δ:List (Nat×ab)}(au:V.bf args=[])(eK:bV o0 args=some ds)
 (h:yw P g (ds.map .d) rd o fr v Δ):yw P g args rd o fr v Δ:=
 ⟨h.1,fun o' us M φ w vals h1 h2 hH hd=>h.2 o' us M φ w vals h1 h2 hH ((V.b9 _ _).2 (c0 hH args ds _ (by rw[au];intro id h;cases h) eK hd))⟩
def QG(P:Program)(f:FuncId):Prop:=
 Enters P f/\∀ (w:World) (b:Nat) (es:Array MapEntry) (clock:Nat),w.heap[b]? =some (.map es clock)->
  Calls P f #[.map (some b)] w fun e w'=>e= .returned (.map (some w.heap.size))/\w'=w.alloc (.map es clock)
theorem cX.T0 {P:Program}{f:FuncId}(h:QG P f){o:Nat->ab}{nx id:Nat}{kt vt:TypeId}{l:List (D×D)}(ho:o id= .map kt vt l){K X:V->(Nat->ab)->Nat->Prop}
 (hK:K (.mp nx) (aA o nx (.map kt vt l)) (nx+1)):cX P f [.mp id] o nx K X:=by
 refine⟨h.1,fun M φ w vals hH hd=> ?_⟩
 have hlen:=V.aB _ _ hd
 obtain⟨v,rfl⟩:∃v,vals=#[v]:=by
  match vals,hlen with
  |⟨[v]⟩,_=>exact⟨v,rfl⟩
 obtain⟨v',sG,MT⟩:=V.dq _ _ 0 (.mp id) hd rfl
 simp only[List.getElem?_cons_zero,Option.some.injEq]at sG
 subst sG
 have aW:=hH.ok id
 have wm:(hp o nx).o id= .map kt vt l:=ho
 simp only[aN,wm]at aW
 obtain⟨b,es,clock,e1,e2,e3,e4⟩:=aW
 have hv:v=φ id:=MT.2.2 (by rw[wm];rfl)
 rw[hv,e1]
 refine(h.2 w b es clock e2).mono fun e w' ⟨he,hw⟩=> ?_
 subst he;subst hw
 have cN: ¬ (hp o nx).us nx:=fun h=>Nat.lt_irrefl _ h
 have MS:(hp o nx).put [(nx, .map kt vt l)]=hp (aA o nx (.map kt vt l)) (nx+1):=by
  simp only[Hp.put,hp]
  congr 1
  funext j
  simp only[List.map_cons,List.map_nil,List.mem_singleton,eq_iff_iff]
  omega
 have hvb:∀c,de (.map (some w.heap.size))=some c->w.heap.size<=c/\c<(w.alloc (.map es clock)).heap.size:=by
  intro c hc;simp[de]at hc;subst hc;simp
 have ht:=dU (φ:=φ) (H:=hp o nx) (cl w (.map es clock)) cN (.map kt vt l) (.map (some w.heap.size)) fun c hc=>(hvb c hc).1
 refine⟨aA φ nx (.map (some w.heap.size)),aA o nx (.map kt vt l),nx+1, .mp nx, ?_, ?_, ?_,hK⟩
 ·rw[<- MS]
  refine im hH (cl w _) cN _ _ hvb ?_
  unfold aN
  simp only[bC,aJ,if_true]
  exact⟨w.heap.size,es,clock,rfl,heap_alloc_new w _,e3,aK.mono (ht.blocks (M:=M)) l _ e4⟩
 ·rw[<- MS];exact ht
 ·rw[<- MS];exact⟨rfl,aL,fun _=>aL⟩
end Go.Proofs.YtnkamdiiakdkgaaGreat
