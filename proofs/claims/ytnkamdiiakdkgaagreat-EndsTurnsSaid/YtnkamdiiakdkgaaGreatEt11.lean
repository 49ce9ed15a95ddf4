/-
  A PART OF THE PROOF. Conditions: none.
-/
import Derived.Test.YtnkamdiiakdkgaaGreatEt10
set_option linter.unusedSimpArgs false
set_option linter.unusedVariables false
namespace Go.Proofs.YtnkamdiiakdkgaaGreat
def iz(m:List Int):Prop:=m.length=16/\∀x∈m,0<=x/\x<=2
def mg(m:List Int)(i j:Nat):Int:=m.getD (i*4+j) 0
theorem yA{m:List Int}(h:iz m)(i j:Nat):0<=mg m i j/\mg m i j<=2:=by
 unfold mg
 rw[List.getD_eq_getElem?_getD]
 cases e:m[i*4+j]? with
 |none=>simp
 |some x=>exact h.2 x (List.mem_of_getElem? e)
theorem yB{m n:List Int}(hm:iz m)(hn:iz n)(h:∀i j,i<4->j<4->(mg m i j≠0↔mg n i j≠0)/\(mg m i j=2↔mg n i j=2)):m=n:=by
 apply List.ext_getElem (by rw[hm.1,hn.1])
 intro p h1 h2
 have e:=h (p/4) (p%4) (by rw[hm.1]at h1;omega) ae
 have a1:=yA hm (p/4) (p%4)
 have a2:=yA hn (p/4) (p%4)
 have e1:mg m (p/4) (p%4)=m[p]:=by
  unfold mg;rw[show p/4*4+p%4=p by omega,List.getD_eq_getElem?_getD,List.getElem?_eq_getElem h1];rfl
 have e2:mg n (p/4) (p%4)=n[p]:=by
  unfold mg;rw[show p/4*4+p%4=p by omega,List.getD_eq_getElem?_getD,List.getElem?_eq_getElem h2];rfl
 rw[<- e1, <- e2];omega
theorem mx3(P a b:Int)(h1:0<=P)(h2:P<=2)(h3:0<=a)(h4:a<=2)(h5:0<=b)(h6:b<=2)(h7:a≠0):max (max P a) b≠0/\(max (max P a) b=2↔P=2\/a=2\/b=2)/\0<=max (max P a) b/\max (max P a) b<=2:=ae
theorem sT{m n:List Int}(hm:iz m)(hn:iz n)(i j:Nat):∀q,(cP m n i j q≠0↔∃k,k<q/\mg m i k≠0/\mg n k j≠0)/\(cP m n i j q=2↔∃k,k<q/\mg m i k≠0/\mg n k j≠0/\(mg m i k=2\/mg n k j=2))/\0<=cP m n i j q/\cP m n i j q<=2
 |0=>by simp[cP]
 |q+1=>by
  obtain⟨i1,i2,i3,i4⟩:=sT hm hn i j q
  have e:cP m n i j (q+1)=sA m n i j (cP m n i j q) q:=by
   exact Rt
  have a:=yA hm i q
  have b:=yA hn q j
  rw[e]
  unfold sA
  change (((if mg m i q≠0/\mg n q j≠0 then max (max (cP m n i j q) (mg m i q)) (mg n q j)else cP m n i j q)≠0)↔_)/\((if mg m i q≠0/\mg n q j≠0 then max (max (cP m n i j q) (mg m i q)) (mg n q j)else cP m n i j q)=2↔_)/\0<=(if mg m i q≠0/\mg n q j≠0 then max (max (cP m n i j q) (mg m i q)) (mg n q j)else cP m n i j q)/\(if mg m i q≠0/\mg n q j≠0 then max (max (cP m n i j q) (mg m i q)) (mg n q j)else cP m n i j q)<=2
  by_cases h:mg m i q≠0/\mg n q j≠0
  ·rw[if_pos h]
   obtain⟨x1,x2,x3,x4⟩:=mx3 _ _ _ i3 i4 a.1 a.2 b.1 b.2 h.1
   refine⟨⟨fun _=>⟨q,ae,h⟩,fun _=>x1⟩,x2.trans ⟨fun h2=> ?_,fun⟨k,k1,k2,k3,k4⟩=> ?_⟩,x3,x4⟩
   ·rcases h2 with g|g
    ·obtain⟨k,k1,k2⟩:=i2.1 g
     exact D3
    ·exact⟨q,ae,h.1,h.2,g⟩
   ·rcases(by omega:k<q\/k=q)with g|g
    ·exact .inl (i2.2 ⟨k,g,k2,k3,k4⟩)
    ·subst g;exact .inr k4
  ·rw[if_neg h]
   refine⟨⟨fun h2=> ?_,fun⟨k,k1,k2⟩=> ?_⟩,⟨fun h2=> ?_,fun⟨k,k1,k2,k3,k4⟩=> ?_⟩,i3,i4⟩
   ·obtain⟨k,k1,k2⟩:=i1.1 h2;exact⟨k,ae,k2⟩
   ·rcases(by omega:k<q\/k=q)with g|g
    ·exact i1.2 ⟨k,g,k2⟩
    ·subst g;exact absurd k2 h
   ·obtain⟨k,k1,k2⟩:=i2.1 h2;exact⟨k,ae,k2⟩
   ·rcases(by omega:k<q\/k=q)with g|g
    ·exact i2.2 ⟨k,g,k2,k3,k4⟩
    ·subst g;exact absurd ⟨k2,k3⟩ h
theorem Ju(m n:List Int){i j:Nat}(hi:i<4)(hj:j<4):mg (bK m n) i j=cP m n i j 4:=by
 unfold mg bK
 exact XA
theorem cl{m n:List Int}(hm:iz m)(hn:iz n):iz (bK m n):=by
 refine⟨by simp[bK],fun x hx=> ?_⟩
 unfold bK at hx
 obtain⟨p,_,rfl⟩:=List.mem_map.1 hx
 exact(sT hm hn _ _ 4).2.2
theorem dZ{m n:List Int}(hm:iz m)(hn:iz n){i j:Nat}(hi:i<4)(hj:j<4):mg (bK m n) i j≠0↔∃k,k<4/\mg m i k≠0/\mg n k j≠0:=by
 rw[Ju m n hi hj];exact(sT hm hn i j 4).1
theorem eZ{m n:List Int}(hm:iz m)(hn:iz n){i j:Nat}(hi:i<4)(hj:j<4):mg (bK m n) i j=2↔∃k,k<4/\mg m i k≠0/\mg n k j≠0/\(mg m i k=2\/mg n k j=2):=by
 rw[Ju m n hi hj];exact(sT hm hn i j 4).2.1
theorem uf{m:List Int}{i j:Nat}(h:mg m i j=2):mg m i j≠0:=ae
theorem dV{a b c:List Int}(ha:iz a)(hb:iz b)(hc:iz c):bK (bK a b) c=bK a (bK b c):=by
 have PE:=cl ha hb
 have Lu:=cl hb hc
 refine yB (cl PE hc) (cl ha Lu) fun i j hi hj=>⟨?_, ?_⟩
 ·rw[dZ PE hc hi hj,dZ ha Lu hi hj]
  constructor
  ·rintro⟨k,hk,h1,h2⟩
   obtain⟨l,hl,h3,h4⟩:=(dZ ha hb hi hk).1 h1
   exact⟨l,hl,h3,(dZ hb hc hl hj).2 ⟨k,hk,h4,h2⟩⟩
  ·rintro⟨l,hl,h3,h1⟩
   obtain⟨k,hk,h4,h2⟩:=(dZ hb hc hl hj).1 h1
   exact⟨k,hk,(dZ ha hb hi hk).2 ⟨l,hl,h3,h4⟩,h2⟩
 ·rw[eZ PE hc hi hj,eZ ha Lu hi hj]
  constructor
  ·rintro⟨k,hk,h1,h2,h5⟩
   rcases h5 with h5|h5
   ·obtain⟨l,hl,h3,h4,h6⟩:=(eZ ha hb hi hk).1 h5
    refine⟨l,hl,h3,(dZ hb hc hl hj).2 ⟨k,hk,h4,h2⟩, ?_⟩
    rcases h6 with h6|h6
    ·exact .inl h6
    ·exact .inr ((eZ hb hc hl hj).2 ⟨k,hk,h4,h2, .inl h6⟩)
   ·obtain⟨l,hl,h3,h4⟩:=(dZ ha hb hi hk).1 h1
    exact⟨l,hl,h3,(dZ hb hc hl hj).2 ⟨k,hk,h4,h2⟩, .inr ((eZ hb hc hl hj).2 ⟨k,hk,h4,h2, .inr h5⟩)⟩
  ·rintro⟨l,hl,h3,h1,h5⟩
   rcases h5 with h5|h5
   ·obtain⟨k,hk,h4,h2⟩:=(dZ hb hc hl hj).1 h1
    exact⟨k,hk,(dZ ha hb hi hk).2 ⟨l,hl,h3,h4⟩,h2, .inl ((eZ ha hb hi hk).2 ⟨l,hl,h3,h4, .inl h5⟩)⟩
   ·obtain⟨k,hk,h4,h2,h6⟩:=(eZ hb hc hl hj).1 h5
    refine⟨k,hk,(dZ ha hb hi hk).2 ⟨l,hl,h3,h4⟩,h2, ?_⟩
    rcases h6 with h6|h6
    ·exact .inl ((eZ ha hb hi hk).2 ⟨l,hl,h3,h4, .inr h6⟩)
    ·exact .inr h6
def pR:List Int:=[1,0,0,0,0,1,0,0,0,0,1,0,0,0,0,1]
theorem iZ:iz pR:=⟨rfl,bO⟩
theorem mQ{i j:Nat}(hi:i<4)(hj:j<4):mg pR i j=if i=j then 1 else 0:=by
 have:∀i,i<4->∀j,j<4->mg pR i j=if i=j then 1 else 0:=bO
 exact this i hi j hj
theorem MK{m:List Int}(hm:iz m):bK pR m=m:=by
 refine yB (cl iZ hm) hm fun i j hi hj=>⟨?_, ?_⟩
 ·rw[dZ iZ hm hi hj]
  constructor
  ·rintro⟨k,hk,h1,h2⟩
   rw[mQ hi hk]at h1
   by_cases e:i=k
   ·subst e;exact h2
   ·rw[if_neg e]at h1;exact absurd rfl h1
  ·intro h;exact⟨i,hi,by rw[mQ hi hi,if_pos rfl];decide,h⟩
 ·rw[eZ iZ hm hi hj]
  constructor
  ·rintro⟨k,hk,h1,h2,h3⟩
   rw[mQ hi hk]at h1 h3
   by_cases e:i=k
   ·subst e;rw[if_pos rfl]at h3;rcases h3 with h3|h3
    ·cases h3
    ·exact h3
   ·rw[if_neg e]at h1;exact absurd rfl h1
  ·intro h;exact⟨i,hi,by rw[mQ hi hi,if_pos rfl];decide,uf h, .inr h⟩
def lp(m:List Int):Nat->List Int
 |0=>m
 |k+1=>bK (lp m k) m
theorem fE{m:List Int}(hm:iz m):∀k,iz (lp m k)
 |0=>hm
 |k+1=>cl (fE hm k) hm
theorem ug{m:List Int}(hm:iz m)(a:Nat):∀b,bK (lp m a) (lp m b)=lp m (a+b+1)
 |0=>rfl
 |b+1=>by
  show bK (lp m a) (bK (lp m b) m)=bK (lp m (a+(b+1))) m
  rw[<- dV (fE hm a) (fE hm b) hm,ug hm a b];rfl
def rQ(m:List Int):Prop:=∃k i,i<4/\mg (lp m k) i i=2
theorem EG{m:List Int}(hm:iz m)(a:Nat):∀b,lp (lp m a) b=lp m (a+b*(a+1))
 |0=>by simp[lp]
 |b+1=>by
  show bK (lp (lp m a) b) (lp m a)=_
  rw[EG hm a b,ug hm];congr 1
  rw[Nat.add_mul];omega
theorem PF{m:List Int}(hm:iz m){k i:Nat}(hi:i<4)(h:mg (lp m k) i i=2):∀b,mg (lp (lp m k) b) i i=2
 |0=>h
 |b+1=>(eZ (fE (fE hm k) b) (fE hm k) hi hi).2 ⟨i,hi,uf (PF hm hi h b),uf h, .inr h⟩
theorem Jv{m:List Int}(hm:iz m)(a:Nat):rQ (lp m a)↔rQ m:=by
 constructor
 ·rintro⟨k,i,hi,h⟩
  rw[EG hm]at h
  exact⟨_,i,hi,h⟩
 ·rintro⟨k,i,hi,h⟩
  refine⟨k,i,hi, ?_⟩
  rw[EG hm,show a+k*(a+1)=k+a*(k+1) by rw[Nat.mul_add,Nat.mul_add,Nat.mul_comm];omega, <- EG hm]
  exact PF hm hi h a
theorem Jw{a b:List Int}(ha:iz a)(hb:iz b):∀k,bK (lp (bK a b) k) a=bK a (lp (bK b a) k)
 |0=>dV ha hb ha
 |k+1=>by
  have h1:=cl ha hb
  have h2:=cl hb ha
  show bK (bK (lp (bK a b) k) (bK a b)) a=bK a (bK (lp (bK b a) k) (bK b a))
  rw[dV (fE h1 k) h1 ha,dV ha hb ha, <- dV (fE h1 k) ha h2,Jw ha hb k,dV ha (fE h2 k) h2]
theorem uh{a b:List Int}(ha:iz a)(hb:iz b)(h:rQ (bK a b)):rQ (bK b a):=by
 obtain⟨k,i,hi,h⟩:=h
 have PE:=cl ha hb
 have hba:=cl hb ha
 have hP:=fE PE k
 have h2:mg (bK (lp (bK a b) k) (lp (bK a b) k)) i i=2:=(eZ hP hP hi hi).2 ⟨i,hi,uf h,uf h, .inl h⟩
 rw[ug PE]at h2
 have e:lp (bK a b) (k+k+1)=bK (bK a (lp (bK b a) (k+k))) b:=by
  show bK (lp (bK a b) (k+k)) (bK a b)=_
  rw[<- dV (fE PE _) ha hb,Jw ha hb]
 rw[e]at h2
 have hQ:=fE hba (k+k)
 obtain⟨v,hv,h3,h4,h5⟩:=(eZ (cl ha hQ) hb hi hi).1 h2
 obtain⟨u,hu,h6,h7⟩:=(dZ ha hQ hi hv).1 h3
 have e2:lp (bK b a) (k+k+1)=bK b (bK a (lp (bK b a) (k+k))):=by
  have:=ug hba 0 (k+k)
  rw[show 0+(k+k)+1=k+k+1 by omega]at this
  rw[<- this]
  exact dV hb ha hQ
 refine⟨k+k+1,v,hv, ?_⟩
 rw[e2]
 refine(eZ hb (cl ha hQ) hv hv).2 ⟨i,hi,h4,h3,h5.symm⟩
theorem GG{a b:List Int}(ha:iz a)(hb:iz b):rQ (bK a b)↔rQ (bK b a):=⟨uh ha hb,uh hb ha⟩
def wR(r:Nat->Nat->Bool):Nat->Nat->Nat->Bool
 |0,i,j=>r i j
 |k+1,i,j=>wR r k i j||(wR r k i k&&wR r k k j)
theorem pS(r:Nat->Nat->Bool):∀k m i j,m<k->wR r k i m=true->wR r k m j=true->wR r k i j=true
 |0,m,i,j,h,_,_=>absurd h (Nat.not_lt_zero _)
 |k+1,m,i,j,h,h1,h2=>by
  have ih:=pS r k
  simp only[wR,Bool.or_eq_true,Bool.and_eq_true]at h1 h2|-
  rcases(by omega:m<k\/m=k)with g|g
  ·rcases h1 with h1|h1<;>rcases h2 with h2|h2
   ·exact .inl (ih m i j g h1 h2)
   ·exact .inr ⟨ih m i k g h1 h2.1,h2.2⟩
   ·exact .inr ⟨h1.1,ih m k j g h1.2 h2⟩
   ·exact .inr ⟨h1.1,h2.2⟩
  ·subst g
   refine .inr ⟨?_, ?_⟩
   ·rcases h1 with h1|h1
    ·exact h1
    ·exact h1.1
   ·rcases h2 with h2|h2
    ·exact h2
    ·exact h2.2
theorem yD(r:Nat->Nat->Bool):∀k i j,r i j=true->wR r k i j=true
 |0,_,_,h=>h
 |k+1,i,j,h=>by simp only[wR,yD r k i j h,Bool.true_or]
theorem Jx(r:Nat->Nat->Bool)(T:Nat->Nat->Prop)(hT:∀i m j,m<4->T i m->T m j->T i j)(hr:∀i j,r i j=true->T i j):∀k,k<=4->∀i j,wR r k i j=true->T i j
 |0,_,i,j,h=>hr i j h
 |k+1,hk,i,j,h=>by
  simp only[wR,Bool.or_eq_true,Bool.and_eq_true]at h
  have ih:=Jx r T hT hr k ae
  rcases h with h|h
  ·exact ih i j h
  ·exact hT i k j ae (ih i k h.1) (ih k j h.2)
def eI(m:List Int)(i j:Nat):Bool:=decide (i<4)&&decide (j<4)&&decide (mg m i j≠0)
theorem dh{m:List Int}{i j:Nat}:eI m i j=true↔i<4/\j<4/\mg m i j≠0:=by simp[eI,and_assoc]
def iA(m:List Int):Bool:=(List.range 4).any fun i=>(List.range 4).any fun j=>decide (mg m i j=2)&&(decide (i=j)||wR (eI m) 4 j i)
theorem ns{m:List Int}:iA m=true↔∃i j,i<4/\j<4/\mg m i j=2/\(i=j\/wR (eI m) 4 j i=true):=by
 simp only[iA,List.any_eq_true,List.mem_range,Bool.and_eq_true,decide_eq_true_eq,Bool.or_eq_true]
 constructor
 ·rintro⟨i,hi,j,hj,h⟩;exact⟨i,j,hi,hj,h⟩
 ·rintro⟨i,j,hi,hj,h⟩;exact⟨i,hi,j,hj,h⟩
def Y1(m:List Int)(q:Nat):Prop:=∃k i,k<q/\i<4/\mg (lp m k) i i=2
theorem EH{m:List Int}(hm:iz m):∀k i j,i<4->j<4->(mg (lp m k) i j≠0->wR (eI m) 4 i j=true)/\(mg (lp m k) i j=2->∃u v,u<4/\v<4/\mg m u v=2/\(i=u\/wR (eI m) 4 i u=true)/\(v=j\/wR (eI m) 4 v j=true))
 |0,i,j,hi,hj=>⟨fun h=>yD _ 4 i j (dh.2 ⟨hi,hj,h⟩),fun h=>⟨i,j,hi,hj,h, .inl rfl, .inl rfl⟩⟩
 |k+1,i,j,hi,hj=>by
  have ih:=EH hm k
  have hP:=fE hm k
  refine⟨fun h=> ?_,fun h=> ?_⟩
  ·obtain⟨l,hl,h1,h2⟩:=(dZ hP hm hi hj).1 h
   exact pS _ 4 l i j hl ((ih i l hi hl).1 h1) (yD _ 4 l j (dh.2 ⟨hl,hj,h2⟩))
  ·obtain⟨l,hl,h1,h2,h3⟩:=(eZ hP hm hi hj).1 h
   have w2:=yD _ 4 l j (dh.2 ⟨hl,hj,h2⟩)
   rcases h3 with h3|h3
   ·obtain⟨u,v,hu,hv,g1,g2,g3⟩:=(ih i l hi hl).2 h3
    refine⟨u,v,hu,hv,g1,g2, .inr ?_⟩
    rcases g3 with g3|g3
    ·rw[g3];exact w2
    ·exact pS _ 4 l v j hl g3 w2
   ·exact⟨l,j,hl,hj,h3, .inr ((ih i l hi hl).1 h1), .inl rfl⟩
theorem Df{m:List Int}(hm:iz m)(h:rQ m):iA m=true:=by
 obtain⟨k,i,hi,h⟩:=h
 obtain⟨u,v,hu,hv,h1,h2,h3⟩:=(EH hm k i i hi hi).2 h
 refine ns.2 ⟨u,v,hu,hv,h1, ?_⟩
 rcases h2 with h2|h2<;>rcases h3 with h3|h3
 ·left;omega
 ·right;rw[<- h2];exact h3
 ·right;rw[h3];exact h2
 ·right;exact pS _ 4 i v u hi h3 h2
theorem acu:∀e1 e2 e3 e4 e5 e6 e7 e8 e9:Bool,
 let p:=e1||e2&&(e6||e7&&e8)||e3&&(e8||e9&&e6)
 let q:=e2||e1&&(e4||e5&&e9)||e3&&(e9||e8&&e4)
 let s:=e3||e1&&(e5||e4&&e7)||e2&&(e7||e6&&e5)
 (p&&e4->q)/\(p&&e5->s)/\(q&&e6->p)/\(q&&e7->s)/\(s&&e8->p)/\(s&&e9->q):=bO
theorem ML(m:List Int)(j p q s:Nat)(aZ:∀x,x<4->x=j\/x=p\/x=q\/x=s)(h4:j<4/\p<4/\q<4/\s<4)(hd:j≠p/\j≠q/\j≠s/\p≠q/\p≠s/\q≠s)(i:Nat)(Mu:i≠j)(h:wR (eI m) 4 j i=true)(hm:iz m):
 ∃k,k<3/\mg (lp m k) j i≠0:=by
 obtain⟨hj,hp,hq,hs⟩:=h4
 obtain⟨d1,d2,d3,d4,d5,d6⟩:=hd
 have c9:=acu (eI m j p) (eI m j q) (eI m j s) (eI m p q) (eI m p s) (eI m q p) (eI m q s) (eI m s p) (eI m s q)
 have s1:∀ {x y},eI m x y=true->mg (lp m 0) x y≠0:=fun h=>(dh.1 h).2.2
 have s2:∀ {x y z},eI m x y=true->eI m y z=true->mg (lp m 1) x z≠0:=fun h h'=>(dZ hm hm (dh.1 h).1 (dh.1 h').2.1).2 ⟨_,(dh.1 h).2.1,(dh.1 h).2.2,(dh.1 h').2.2⟩
 have s3:∀ {x y z w},eI m x y=true->eI m y z=true->eI m z w=true->mg (lp m 2) x w≠0:=fun h h' SX=>(dZ (fE hm 1) hm (dh.1 h).1 (dh.1 SX).2.1).2 ⟨_,(dh.1 SX).1,s2 h h',(dh.1 SX).2.2⟩
 generalize eP:(eI m j p||eI m j q&&(eI m q p||eI m q s&&eI m s p)||eI m j s&&(eI m s p||eI m s q&&eI m q p))=P at c9
 generalize eQ:(eI m j q||eI m j p&&(eI m p q||eI m p s&&eI m s q)||eI m j s&&(eI m s q||eI m s p&&eI m p q))=Q at c9
 generalize eS:(eI m j s||eI m j p&&(eI m p s||eI m p q&&eI m q s)||eI m j q&&(eI m q s||eI m q p&&eI m p s))=S at c9
 simp only[Bool.and_eq_true,and_imp]at c9
 obtain⟨c1,c2,c3,c4,c5,c6⟩:=c9
 have bP:eI m j p=true->P=true:=fun h=>by rw[<- eP,h];rfl
 have bQ:eI m j q=true->Q=true:=fun h=>by rw[<- eQ,h];rfl
 have bS:eI m j s=true->S=true:=fun h=>by rw[<- eS,h];rfl
 have key:=Jx (eI m) (fun u v=>(u=j\/(u=p/\P=true)\/(u=q/\Q=true)\/(u=s/\S=true))->(v=j\/(v=p/\P=true)\/(v=q/\Q=true)\/(v=s/\S=true))) (fun _ _ _ _ h1 h2 h3=>h2 (h1 h3)) (fun u v LD hu=>by
  have hv:=(dh.1 LD).2.1
  rcases aZ v hv with e|e|e|e<;>rcases hu with g|⟨g,g'⟩|⟨g,g'⟩|⟨g,g'⟩<;>subst e<;>subst g<;>first
   |exact .inl rfl
   |exact .inr (.inl ⟨rfl,g'⟩)
   |exact .inr (.inr (.inl ⟨rfl,g'⟩))
   |exact .inr (.inr (.inr ⟨rfl,g'⟩))
   |exact .inr (.inl ⟨rfl,bP LD⟩)
   |exact .inr (.inr (.inl ⟨rfl,bQ LD⟩))
   |exact .inr (.inr (.inr ⟨rfl,bS LD⟩))
   |exact .inr (.inl ⟨rfl,c3 g' LD⟩)
   |exact .inr (.inl ⟨rfl,c5 g' LD⟩)
   |exact .inr (.inr (.inl ⟨rfl,c1 g' LD⟩))
   |exact .inr (.inr (.inl ⟨rfl,c6 g' LD⟩))
   |exact .inr (.inr (.inr ⟨rfl,c2 g' LD⟩))
   |exact .inr (.inr (.inr ⟨rfl,c4 g' LD⟩))) 4 (Nat.le_refl _) j i h (.inl rfl)
 have fin:∀y z w:Nat,(eI m j y||eI m j z&&(eI m z y||eI m z w&&eI m w y)||eI m j w&&(eI m w y||eI m w z&&eI m z y))=true->∃k,k<3/\mg (lp m k) j y≠0:=fun y z w h=>by
  simp only[Bool.or_eq_true,Bool.and_eq_true]at h
  rcases h with(h|⟨h,h'|⟨h',SX⟩⟩)|⟨h,h'|⟨h',SX⟩⟩
  ·exact⟨0,ae,s1 h⟩
  ·exact⟨1,ae,s2 h h'⟩
  ·exact⟨2,ae,s3 h h' SX⟩
  ·exact⟨1,ae,s2 h h'⟩
  ·exact⟨2,ae,s3 h h' SX⟩
 rcases key with g|⟨g,g'⟩|⟨g,g'⟩|⟨g,g'⟩
 ·exact absurd g Mu
 ·rw[g];exact fin p q s (eP.trans g')
 ·rw[g];exact fin q p s (eQ.trans g')
 ·rw[g];exact fin s p q (eS.trans g')
theorem GH{m:List Int}(hm:iz m)(h:iA m=true):Y1 m 4:=by
 obtain⟨i,j,hi,hj,h1,h2⟩:=ns.1 h
 by_cases e:i=j
 ·subst e;exact⟨0,i,ae,hi,h1⟩
 rcases h2 with h2|h2
 ·exact absurd h2 e
 have:∃k,k<3/\mg (lp m k) j i≠0:=by
  rcases(by omega:j=0\/j=1\/j=2\/j=3)with rfl|rfl|rfl|rfl
  ·exact ML m 0 1 2 3 ae ae ae i e h2 hm
  ·exact ML m 1 0 2 3 ae ae ae i e h2 hm
  ·exact ML m 2 0 1 3 ae ae ae i e h2 hm
  ·exact ML m 3 0 1 2 ae ae ae i e h2 hm
 obtain⟨k,hk,h3⟩:=this
 refine⟨k+1,i,ae,hi, ?_⟩
 have:=ug hm 0 k
 rw[show k+1=0+k+1 by omega, <- this]
 exact(eZ hm (fE hm k) hi hi).2 ⟨j,hj,uf h1,h3, .inl h1⟩
theorem ke{m:List Int}(hm:iz m):iA m=true↔rQ m:=⟨fun h=>let⟨k,i,_,hi,h'⟩:=GH hm h;⟨k,i,hi,h'⟩,Df hm⟩
def Jy(m:List Int)(p n:Nat):List cB:=(List.range' p n).filterMap fun p=>if m.getD p 0≠0 then some ⟨(p/4:Nat),(p%4:Nat),m.getD p 0==2⟩else none
theorem SY(m:List Int)(q:Nat):kW m q=Jy m 0 q:=by unfold kW Jy;rw[List.range_eq_range']
theorem ui{m:List Int}(hm:iz m):∀ (n p:Nat) (last:Int) (acc:List Int),p+n=16->last<p->acc.length=16->(∀k,k<p->acc[k]? =m[k]?)->(∀k,p<=k->k<16->acc[k]? =some 0)->iw (Jy m p n) last acc=some m
 |0,p,last,acc,h1,h2,h3,h4,h5=>by
  have:acc=m:=List.ext_getElem? fun k=>by
   by_cases hk:k<p
   ·exact h4 k hk
   ·rw[List.getElem?_eq_none (by omega),List.getElem?_eq_none (by have:=hm.1;omega)]
  rw[this];rfl
 |n+1,p,last,acc,h1,h2,h3,h4,h5=>by
  have hl:=hm.1
  have hp:m[p]? =some (m.getD p 0):=by rw[List.getD_eq_getElem?_getD,List.getElem?_eq_getElem (by omega)];rfl
  have hr:0<=m.getD p 0/\m.getD p 0<=2:=hm.2 _ (List.mem_of_getElem? hp)
  unfold Jy
  rw[List.range'_succ,List.filterMap_cons]
  by_cases h0:m.getD p 0≠0
  ·rw[if_pos h0]
   show iw (_::Jy m (p+1) n) last acc=some m
   unfold iw
   have e1:((p/4:Nat):Int)*4+((p%4:Nat):Int)=p:=ae
   rw[if_neg (by dsimp only;omega)]
   have ek:cB.k ⟨(p/4:Nat),(p%4:Nat),m.getD p 0==2⟩=p:=by unfold cB.k;dsimp only;omega
   have ev:cB.v ⟨(p/4:Nat),(p%4:Nat),m.getD p 0==2⟩=m.getD p 0:=by
    unfold cB.v;dsimp only
    split
    ·rename_i h;rw[beq_iff_eq]at h;exact h.symm
    ·rename_i h;rw[beq_iff_eq]at h;omega
   rw[ek,ev]
   refine ui hm n (p+1) _ _ ae jO (by rw[List.length_set];exact h3) (fun k hk=> ?_) (fun k hk hk2=> ?_)
   ·rw[List.getElem?_set]
    split
    ·rename_i e;rw[if_pos (by omega), <- e,hp]
    ·exact h4 k ae
   ·rw[List.getElem?_set,if_neg (by omega)];exact h5 k ae hk2
  ·rw[if_neg h0]
   refine ui hm n (p+1) _ _ ae ae h3 (fun k hk=> ?_) (fun k hk hk2=>h5 k ae hk2)
   by_cases e:k=p
   ·subst e
    rw[hp,h5 k (by omega) (by omega)];congr 1;exact(Decidable.not_not.1 h0).symm
   ·exact h4 k ae
theorem yE{m:List Int}(hm:iz m):iw (kW m 16) (-1) sS=some m:=by
 rw[SY]
 refine ui hm 16 0 (-1) sS ae bO rfl (fun k hk=>absurd hk (Nat.not_lt_zero _)) (fun k _ hk=> ?_)
 have:∀p,p<16->sS[p]? =some 0:=bO
 exact this k hk
theorem yF{l:List cB}{m:List Int}(h:iw l (-1) sS=some m):iz m:=by
 obtain⟨h1,h2⟩:=pQ h
 refine⟨h1,fun x hx=> ?_⟩
 obtain⟨p,hp,rfl⟩:=List.getElem_of_mem hx
 have:=(h2 (p/4) (p%4) ae ae).2.2
 rw[show p/4*4+p%4=p by omega,List.getD_eq_getElem?_getD,List.getElem?_eq_getElem hp]at this
 exact this
section
def jD(id:Nat)(K X:V->(Nat->ab)->Nat->Prop)(e:fL)(s:S):Prop:=
 match e with
 | .normal=>∃nf m en p c d st pd,s.o id= .loop nf m en p c d st pd/\K (.d (.bool true)) (aD s.o id (.loop nf m en p c d .ready none)) s.nx
 | .ret=>∃nf m en p c d st pd,s.o id= .loop nf m en p c d st pd/\K (.d (.bool false)) (aD s.o id (.loop nf m en p c d .done (some .ret))) s.nx
 | .exit j=>∃nf m en p c d st pd,s.o id= .loop nf m en p c d st pd/\K (.d (.bool false)) (aD s.o id (.loop nf m en p c d .done (some (.exit j)))) s.nx
 | .bB v=>X v s.o s.nx
def SZ(P:Program)(n b id:Nat)(fl:IC)(K X:V->(Nat->ab)->Nat->Prop)(e:fL)(s:S):Prop:=
 match e with
 | .normal=>∃nf m en p c d pd,s.o id= .loop nf m en p c d .ready pd/\sQ P n b true fl (jD id K X) ⟨s.env,aD s.o id (.loop nf m en p c d .busy pd),s.nx⟩
 | .bB v=>X v s.o s.nx
 |_=>False
section
variable {P:Program}{M:Nat->Prop}{φ cf:Place}{H0:Hp}{w w0:World}{n:Nat}{s:S}{a:Act}{cx:Cx}
theorem Bj{id:Nat}{x:ab}{s:S}(cm:id<s.nx)(j:Nat)(hu:(s.H.put [(id,x)]).us j):j<s.nx:=by
 simp only[dJ]at hu
 rcases hu with hu|hu
 ·exact hu
 ·subst hu;exact cm
theorem uj{B:Nat->Prop}{H:Hp}{n:Nat}:∀ (ps:List Nat) (vs:List V) (us:List Value) (env:Nat->V) (tmps:Array Value),tmps.size=n->ps.length=vs.length->V.az B φ H w vs us->ps.all (fun t=>decide (t<n))=true->(∀i,V.den B φ H w (env i) (tmps.getD i undef))->
 ((ps.zip us).foldl (fun tmps p=>tmps.setIfInBounds p.1 p.2) tmps).size=n/\∀i,V.den B φ H w (mJ env ps vs i) (((ps.zip us).foldl (fun tmps p=>tmps.setIfInBounds p.1 p.2) tmps).getD i undef)
 |[],[],us,env,tmps,dA,_,hd,_,he=>by simp only[V.az]at hd;subst hd;exact⟨dA,he⟩
 |[],v::vs,us,env,tmps,_,h,_,_,_=>by simp at h
 |t::ps,[],us,env,tmps,_,h,_,_,_=>by simp at h
 |t::ps,v::vs,us,env,tmps,dA,hl,hd,hp,he=>by
  obtain⟨u,us,rfl,h1,h2⟩:=hd
  simp only[List.all_cons,Bool.and_eq_true,decide_eq_true_eq]at hp
  simp only[List.zip_cons_cons,List.foldl_cons,mJ]
  refine uj ps vs us (aD env t v) (tmps.setIfInBounds t u) (by simp[dA]) (by simpa using hl) h2 hp.2 (fun i=> ?_)
  simp only[aG]
  by_cases hi:i=t
  ·subst hi
   have:(tmps.setIfInBounds i u).getD i undef=u:=by simp[Array.getD,dA,hp.1]
   rw[if_pos rfl,this];exact h1
  ·have:(tmps.setIfInBounds t u).getD i undef=tmps.getD i undef:=by
    exact RH
   rw[if_neg hi,this];exact he i
theorem dt.ua (ba:P.follows .mixedOrders=true){id:Nat}{args:List V}{o:Nat->ab}{nx:Nat}{K X:V->(Nat->ab)->Nat->Prop}{env:List V}{ps:List Nat}{jn fl:IC}{st:LoopState}{pd:Option jL}
 (ho:o id= .loop P.funcs.size n env ps jn fl st pd) (cm:id<nx) (vE:ps.all (fun t=>decide (t<n))=true) (hl:args.length=ps.length)
 (h:sQ P n nx true jn (SZ P n nx id fl K X) ⟨mJ (a7 env) ps args,o,nx⟩):dt P id args o nx K X:=by
 refine⟨by rw[ho];rfl,fun M φ w vals b hH hd dT=> ?_⟩
 have aS:=hH.ok id
 simp only[aM,hp,ho]at aS
 obtain⟨b',r,h1,h2,h0,h3,h4,h5,h6,h7,h8,h9⟩:=aS
 rw[dT]at h1;simp at h1;subst h1
 have hlen:=V.ax _ _ hd
 have dA:vals.size=r.params.size:=by
  have:r.params.toList.length=ps.length:=by rw[h5]
  simp at hlen this;omega
 let tm:Array Value:=(ps.zip vals.toList).foldl (fun tmps p=>tmps.setIfInBounds p.1 p.2) r.tmps
 have Y2:(r.params.zip vals).foldl (fun tmps (p:Tmp×Value)=>tmps.setIfInBounds p.1 p.2) r.tmps=tm:=by
  rw[<- Array.foldl_toList,Array.toList_zip,h5]
 obtain⟨p1,p2⟩:=uj (B:=ak M φ (hp o nx)) (H:=hp o nx) (φ:=φ) (w:=w) ps args vals.toList (a7 env) r.tmps h6 hl.symm hd vE h9
 refine⟨r.fn,tm,r.assign,r.body, ?_,fun k=> ?_⟩
 ·simp only[Instr.yield,Sem.run_bind,j8 h2,Result.andThen_ok,dA,ne_eq,not_true_eq_false,if_false,Sem.run_pure]
  rw[<- Y2]
 ·
   let s0:S:=⟨mJ (a7 env) ps args,o,nx⟩
   let a0:Act:={tmps:=tm,defers:=[]}
   have iq:bW M φ (hp o nx) w n ⟨[],true⟩ φ s0 a0 w:=⟨hH,Trans.refl _ _ _,p1,⟨[],rfl,List.nodup_nil,fun _=>rfl,fun r hr=>by cases hr⟩,p2⟩
   have uk:∀ {aC s' a' w'},bW M φ (hp o nx) w n ⟨[],true⟩ aC s' a' w'->a'.defers=[]:=by
    intro aC s' a' w' hs
    obtain⟨ms,g1,_,g3,_⟩:=hs.defers
    rw[g3 rfl]at g1;exact g1
   have Y3:∀ {aC s' a' w'} {nf m:Nat} {en:List V} {p:List Nat} {c d:IC} {st:LoopState} {pd:Option jL} (st':LoopState) (pd':Option jL),bW M φ (hp o nx) w n ⟨[],true⟩ aC s' a' w'->s'.o id= .loop nf m en p c d st pd->
    ∃r',w'.heap[b]? =some (.loop r')/\r'.state=st/\r'.pending=pd.map jL.code/\
     bW M φ (hp o nx) w n ⟨[],true⟩ aC ⟨s'.env,aD s'.o id (.loop nf m en p c d st' pd'),s'.nx⟩ a' {w' with heap:=w'.heap.setIfInBounds b (.loop {r' with state:=st',pending:=pd'.map jL.code})}:=by
    intro aC s' a' w' nf m en p c d st pd st' pd' hs oT
    have Sb:aC id= .pointer (some ⟨b,0,none⟩):=by
     have:=(hs.tr.rel.row id cm (by show(s'.o id).b7=true;rw[oT];rfl)).2
     rw[this];exact dT
    have Y4:id<s'.nx:=hs.tr.rel.us id cm
    obtain⟨r',r1,r2,r3,r4,r5⟩:=wD (st':=st') (pd':=pd') hs.heap Y4 (show s'.H.o id=_ from oT) Sb
    exact⟨r',r1,r2,r3,ey hs r4 r5 rfl (Bj Y4)⟩
   have ha:=gQ (P:=P) (n:=n) (b:=nx) (rd:=true) ba r.assign _ _ s0 (fun _ _ h=>h) (by rw[h7];exact h)
   refine tN h0 (gf (gL (P:=P) (H0:=hp o nx) (b:=nx) (cx:=⟨[],true⟩) (ro:=some b) (fun id hu=>hu) (fun h=>by cases h) r.assign _ s0 φ a0 w ha iq) ?_)
   rintro e a1 w1 ⟨x,s1,iI,hq,wF,hm⟩
   cases e<;>cases x<;>first|(exact hm.elim)|skip
   ·
     obtain⟨nf,m,en,p,c,d,pd1,q1,q2⟩:=hq
     obtain⟨r',r1,r2,r3,LA⟩:=Y3 .busy pd1 wF q1
     have S0:(Instr.beginRound b).run P w1= .ok () {w1 with heap:=w1.heap.setIfInBounds b (.loop {r' with state:= .busy,pending:=pd1.map jL.code})}:=by
      have e1:({r' with state:= .busy}:Loop)={r' with state:= .busy,pending:=pd1.map jL.code}:=by rw[<- r3]
      simp only[Instr.beginRound,Sem.run_bind,j8 r1,Result.andThen_ok,iL _ r1,r2,Sem.run_pure,e1]
     refine⟨_,S0, ?_⟩
     have bw:=LA.heap.ok id
     simp only[aM,S.H,aG,if_true]at bw
     obtain⟨b2,r2',_,_,_,_,_,_,_,_,_,_⟩:=bw
     have hb:=gQ (P:=P) (n:=n) (b:=nx) (rd:=true) ba r.body _ _ _ (fun _ _ h=>h) (by rw[h8];exact q2)
     refine gf (gL (P:=P) (H0:=hp o nx) (b:=nx) (cx:=⟨[],true⟩) (ro:=some b) (fun id hu=>hu) (fun h=>by cases h) r.body _ _ iI a1 _ hb LA) ?_
     rintro e a2 w2 ⟨x,s2,Gh,Lz,En,Mj⟩
     have fin:∀ {nf m:Nat} {en:List V} {p:List Nat} {c d:IC} {st:LoopState} {pd:Option jL} (jump:Option jL) (t:Bool) (st':LoopState),t=jump.isNone->st'=(if jump.isNone then .ready else .done)->s2.o id= .loop nf m en p c d st pd->K (.d (.bool t)) (aD s2.o id (.loop nf m en p c d st' jump)) s2.nx->
      ∃v w',(Instr.endRound b (jump.map jL.code)).run P w2= .ok v w'/\mq M φ (hp o nx) w K X (.returned v) w':=by
      intro nf m en p c d st pd jump t st' ht oO ho2 hK
      obtain⟨r3',g1,g2,g3,Vv⟩:=Y3 st' jump En ho2
      refine⟨.bool t,_, ?_,Gh,_,_,_,Vv.heap,Vv.tr,by simp only[V.den,D.den],hK⟩
      subst ht;subst oO
      simp only[Instr.endRound,Sem.run_bind,j8 g1,Result.andThen_ok,iL _ g1,Sem.run_pure,Option.isNone_map]
     cases e<;>cases x<;>first|(exact Mj.elim)|skip
     ·obtain⟨nf,m,en,p,c,d,st,pd,k1,k2⟩:=Lz
      exact fin none true .ready rfl rfl k1 k2
     ·rename_i j
      subst Mj
      obtain⟨nf,m,en,p,c,d,st,pd,k1,k2⟩:=Lz
      exact fin (some (.exit _)) false .done rfl rfl k1 k2
     ·obtain⟨nf,m,en,p,c,d,st,pd,k1,k2⟩:=Lz
      exact fin (some .ret) false .done rfl rfl k1 k2
     ·obtain⟨val,rfl,k2⟩:=Mj
      exact⟨uk En,Gh,_,_,_,En.heap,En.tr,val,rfl,k2,Lz⟩
   ·exact hq.elim
   ·exact hq.elim
   ·obtain⟨val,rfl,k2⟩:=hm
    exact⟨uk wF,iI,_,_,_,wF.heap,wF.tr,val,rfl,k2,hq⟩
end
end
section
def S1(ops:Array Oper)(t t1:Nat):Prop:=
 (∃o1 o2,ops=#[o1,o2]/\o1.op= .call ⟨.builtin .recover,#[],#[]⟩/\o1.dst=some t/\o1.guard=none/\o2.op= .assign (.tmp t)/\o2.dst=some t1/\o2.guard=none)\/
 (∃o1,ops=#[o1]/\t1=t/\o1.op= .call ⟨.builtin .recover,#[],#[]⟩/\o1.dst=some t/\o1.guard=none)
structure EI (P:Program) (g:FuncId) (n t t1:Nat) (ic:IC):Prop where
 get:∃fn id ops c,P.funcs[g]? =some fn/\(fn.name== "runtime.NumGoroutine")=false/\fn.ntmps=n/\fn.results=#[]/\fn.body=some (.seq (.region id ops false) c)/\
  S1 ops t t1/\t<n/\t1<n/\low n c=ic
structure Jz (P:Program) (f:FuncId) (n:Nat) (jn fl:IC) (g:FuncId) (t:Nat) (aP:List Operand) (rs:List ResultVar):Prop where
 get:∃fn id o1 o2 a b d,P.funcs[f]? =some fn/\(fn.name== "runtime.NumGoroutine")=false/\fn.ntmps=n/\fn.results.toList=rs/\fn.body=some (.seq a d)/\(d= .seq (.region id #[o1,o2] false) b\/d= .scope (.seq (.region id #[o1,o2] false) b))/\
  o1.op= .makeFunc (.func g) #[] aP.toArray/\o1.dst=some t/\o1.guard=none/\o2.op= .defer ⟨.value (.tmp t),#[],#[]⟩/\o2.dst=none/\o2.guard=none/\t<n/\low n a=jn/\low n b=fl
def acv(K:(Nat->ab)->Nat->Prop)(e:fL)(s:S):Prop:=match e with| .normal| .ret=>K s.o s.nx|_=>False
def GI(P:Program)(n t t1:Nat)(ic:IC)(aP:List V)(u:V)(o:Nat->ab)(nx:Nat)(K:(Nat->ab)->Nat->Prop):Prop:=
 aP.length<=n/\sQ P n nx true ic (acv K) ⟨aD (aD (cA aP) t u) t1 u,o,nx⟩
def Dg(P:Program)(n t t1:Nat)(ic:IC)(aP:List V)(rs:List ResultVar)(K X:V->(Nat->ab)->Nat->Prop)(e:fL)(s:S):Prop:=
 match e with
 | .normal| .ret=>GI P n t t1 ic aP (.d .gA) s.o s.nx fun o nx=>lF P rs K X .ret ⟨s.env,o,nx⟩
 | .bB v=>GI P n t t1 ic aP v s.o s.nx fun o nx=>lF P rs K X .ret ⟨s.env,o,nx⟩
 | .exit _=>False
def JA(P:Program)(n t:Nat)(fl:IC)(ja:List Operand)(g:FuncId)(D:List V->fL->S->Prop)(e:fL)(s:S):Prop:=
 match e with
 | .normal=>sQ P n s.nx false fl (D (ja.map s.ev)) ⟨aD s.env t (.func (.func g) [] (ja.map s.ev)),s.o,s.nx⟩
 |_=>False
section
variable {P:Program}{M:Nat->Prop}{φ cf:Place}{H H0:Hp}{w w0:World}{n:Nat}{s:S}{a:Act}{cx:Cx}{k:Nat}
theorem GJ(ba:P.follows .mixedOrders=true){g:FuncId}{t t1:Nat}{ic:IC}(hg:EI P g n t t1 ic){aP:List V}{u:V}{o:Nat->ab}{nx:Nat}{K:(Nat->ab)->Nat->Prop}(h:GI P n t t1 ic aP u o nx K)
 {vals:Array Value} {val:Value} {m:FrameMode} (hH:aw M φ (hp o nx) w) (hd:V.az (ak M φ (hp o nx)) φ (hp o nx) w aP vals.toList) (hv:V.den (ak M φ (hp o nx)) φ (hp o nx) w u val)
 (hm:(m= .returning/\val= .nilIface)\/m= .panicking [{v:=val,recovered:=false}]):
 CallsDIn (dy none) k P g vals m w fun e u' w'=>∃v aC o' nx',e= .returned v/\settle u'= .returning/\aw M aC (hp o' nx') w'/\Trans φ (hp o nx) w aC (hp o' nx') w'/\K o' nx':=by
 obtain⟨fn,id,ops,c,hf,PG,hnt,xZ,pF,Ir,ht,zM,qN⟩:=hg.get
 have cm:g<P.funcs.size:=(Array.getElem?_eq_some_iff.1 hf).1
 obtain⟨l6,h⟩:=h
 have hlen:=V.ax _ _ hd
 refine⟨trivial,fun oF cs JB OV=> ?_⟩
 let b:Frame:={(default:Frame)with fn:=g,kind:= .deferred,roundOf:=none}
 let sU:Array Value:=vals++Array.replicate (fn.ntmps - vals.size) undef
 have acw:sU.size=n:=by simp only[sU,Array.size_append,Array.size_replicate];simp at hlen;omega
 have lE:Frame.enter P g vals .deferred=b.atR {tmps:=sU,defers:=[]} [.code (.seq (.region id ops false) c)]:=by
  simp[Frame.enter,Frame.atR,hf,pF,b,sU]
 obtain⟨m',hm',bw⟩:∃m',settle m'= .returning/\((recoverD (oF::cs)=none/\m'=m/\val= .nilIface)\/recoverD (oF::cs)=some (val,{oF with mode:=m'}::cs)):=by
  rcases hm with⟨rfl,rfl⟩|rfl
  ·exact⟨.returning,rfl, .inl ⟨by simp[recoverD,JB],rfl,rfl⟩⟩
  ·exact⟨.panicking [{v:=val,recovered:=true}],rfl, .inr (by simp[recoverD,JB])⟩
 have hc0:({oF with mode:=m}:Frame)=oF:=by subst JB;rfl
 let a1:Act:={tmps:=(sU.setIfInBounds t val).setIfInBounds t1 val,defers:=[]}
 have Mv:(Code.region id ops false).wpSIn (dy none) k P (fun e a' cs' w'=>e= .normal/\a'=a1/\cs'={oF with mode:=m'}::cs/\w'=w) {tmps:=sU,defers:=[]} (oF::cs) w:=by
  rcases Ir with⟨o1,o2,rfl,e1,e2,e3,e4,e5,e6⟩|⟨o1,rfl,rfl,e1,e2,e3⟩
  ·refine wpSIn_region ?_
   have hr:List.range (#[o1,o2]:Array Oper).size=[0,1]:=rfl
   have g0:(#[o1,o2]:Array Oper)[0]? =some o1:=rfl
   have g1:(#[o1,o2]:Array Oper)[1]? =some o2:=rfl
   rw[hr]
   have x1:∀ (ρ:Operand->Value) (w:World),(execOp ρ o1).run P w= .ok .recover w:=by
    intro ρ w
    simp[execOp,e1,resolve,invoke,builtin]
   have x2:∀ (ρ:Operand->Value) (w:World),(execOp ρ o2).run P w= .ok (.value (ρ (.tmp t))) w:=by
    intro ρ w
    simp[execOp,e4]
   have last:∀cs',cs'={oF with mode:=m'}::cs->wpOpsSIn (dy none) k P #[o1,o2] (fun e a' cs' w'=>e= .normal/\a'=a1/\cs'={oF with mode:=m'}::cs/\w'=w) [1] (({tmps:=sU,defers:=[]}:Act).put (some t) val) cs' w:=by
    rintro cs' rfl
    have hw:Region.wanted o2 (yielded #[o1,o2] (({tmps:=sU,defers:=[]}:Act).put (some t) val).tmps)=true:=by simp[Region.wanted,e6]
    have dc:(({tmps:=sU,defers:=[]}:Act).put (some t) val).eval (.tmp t)=val:=by
     have:t<sU.size:=ae
     simp[Act.put,Act.eval,Array.getD,this]
    simp only[wpOpsSIn,g1,hw,if_true,x2,dc,e5]
    refine⟨fun _ _=>trivial, ?_⟩
    simp[a1,Act.put]
   have hw:Region.wanted o1 (yielded #[o1,o2] sU)=true:=by simp[Region.wanted,e3]
   rw[wpOpsSIn,g0]
   refine⟨fun _ _=>trivial, ?_⟩
   simp only[hw,if_true,x1,e2]
   rcases bw with⟨hr,rfl,rfl⟩|hr
   ·simp only[hr]
    exact last _ (by rw[hc0])
   ·simp only[hr]
    exact last _ rfl
  ·refine wpSIn_region ?_
   have hr:List.range (#[o1]:Array Oper).size=[0]:=rfl
   have g0:(#[o1]:Array Oper)[0]? =some o1:=rfl
   rw[hr]
   have x1:∀ (ρ:Operand->Value) (w:World),(execOp ρ o1).run P w= .ok .recover w:=by
    intro ρ w
    simp[execOp,e1,resolve,invoke,builtin]
   have same:a1=({tmps:=sU,defers:=[]}:Act).put (some t1) val:=by
    simp only[a1,Act.put]
    congr 1
    apply Array.ext_getElem?
    intro j
    simp only[Array.getElem?_setIfInBounds]
    by_cases hj:t1=j
    ·subst hj;simp
    ·simp[hj]
   have last:∀cs',cs'={oF with mode:=m'}::cs->wpOpsSIn (dy none) k P #[o1] (fun e a' cs' w'=>e= .normal/\a'=a1/\cs'={oF with mode:=m'}::cs/\w'=w) [] (({tmps:=sU,defers:=[]}:Act).put (some t1) val) cs' w:=by
    rintro cs' rfl
    simp only[wpOpsSIn]
    exact⟨trivial,same.symm,trivial,trivial⟩
   have hw:Region.wanted o1 (yielded #[o1] sU)=true:=by simp[Region.wanted,e3]
   rw[wpOpsSIn,g0]
   refine⟨fun _ _=>trivial, ?_⟩
   simp only[hw,if_true,x1,e2]
   rcases bw with⟨hr,rfl,rfl⟩|hr
   ·simp only[hr]
    exact last _ (by rw[hc0])
   ·simp only[hr]
    exact last _ rfl
 obtain⟨er,ar,csr,wr,hl,⟨rfl,rfl,rfl,hwr⟩,cV⟩:=Mv b [.code c] rfl rfl trivial (fun d hd=>by simp[dy]at hd)
 rw[hwr]at cV
 let s0:S:=⟨aD (aD (cA aP) t u) t1 u,o,nx⟩
 have iq:bW M φ (hp o nx) w n ⟨[],true⟩ φ s0 a1 w:=by
  refine⟨hH,Trans.refl _ _ _,by simp[a1,acw],⟨[],rfl,List.nodup_nil,fun _=>rfl,fun r hr=>by cases hr⟩,fun i=> ?_⟩
  have dO:=z7 (m:=fn.ntmps - vals.size) hd i
  simp only[s0,a1,aG]
  have Vq:t<sU.size:=ae
  have acx:t1<sU.size:=ae
  by_cases h1:i=t1
  ·subst h1
   simp only[if_true]
   have:((sU.setIfInBounds t val).setIfInBounds i val).getD i undef=val:=by simp[Array.getD,acx]
   rw[this];exact hv
  ·simp only[h1,if_false]
   have e1:((sU.setIfInBounds t val).setIfInBounds t1 val).getD i undef=(sU.setIfInBounds t val).getD i undef:=by
    exact OA
   rw[e1]
   by_cases h2:i=t
   ·subst h2
    simp only[if_true]
    have:(sU.setIfInBounds i val).getD i undef=val:=by simp[Array.getD,Vq]
    rw[this];exact hv
   ·simp only[h2,if_false]
    have e1:(sU.setIfInBounds t val).getD i undef=sU.getD i undef:=by
     simp only[Array.getD_eq_getD_getElem?]
     rw[Array.getElem?_setIfInBounds_ne (Ne.symm h2)]
    rw[e1];exact dO
 have hcw:=gQ (P:=P) (n:=n) (b:=nx) (rd:=true) ba c _ _ s0 (fun _ _ h=>h) (by rw[qN];exact h)
 obtain⟨e,a',w',⟨x,s',aC,hq,jQ,hx⟩,Em⟩:=gL (P:=P) (H0:=hp o nx) (b:=nx) (cx:=⟨[],true⟩) (ro:=none) (fun id hu=>hu) (fun h=>by cases h) c _ s0 φ a1 w hcw iq b [] ({oF with mode:=m'}::cs) rfl cm
 have i0:(lone (b.atR {tmps:=sU,defers:=[]} [.code (.seq (.region id ops false) c)]) (oF::cs) w).fenced P (dy none):=fenced_calm (n:=0) trivial fZ rfl
 have PH:StepsIn (Machine.fenced P (dy none)) P (lone (b.atR {tmps:=sU,defers:=[]} [.code (.seq (.region id ops false) c)]) (oF::cs) w) (lone (b.atR a1 [.code c]) ({oF with mode:=m'}::cs) w):= .head i0 stepR_seq cV
 have uk:a'.defers=[]:=by
  obtain⟨ms,g1,_,g3,_⟩:=jQ.defers
  rw[g3 rfl]at g1;exact g1
 have Y5:∀tm:Array Value,∃v,(results fn tm).run P w'= .ok v w':=by
  intro tm
  refine⟨_,mA (vals:=[]) ?_⟩
  rw[xZ];rfl
 rw[lE]
 obtain⟨v,sm⟩:=Y5 a'.tmps
 cases e<;>cases x<;>first|(exact hx.elim)|(exact hq.elim)|skip
 ·exact⟨.returned v,m',w',_,⟨v,aC,s'.o,s'.nx,rfl,hm',jQ.heap,jQ.tr,hq⟩,StepsIn.trans PH (StepsIn.trans Em (.one (fenced_calm (n:=0) (fr:=b.atR a' []) trivial fZ rfl) (stepR_end rfl))),rfl,rfl,rfl,uk,fn,hf,sm⟩
 ·obtain⟨todo,hs⟩:=Em.1 rfl
  exact⟨.returned v,m',w',_,⟨v,aC,s'.o,s'.nx,rfl,hm',jQ.heap,jQ.tr,hq⟩,StepsIn.trans PH hs,rfl,rfl,rfl,uk,fn,hf,sm⟩
theorem Bk{d c:Code}{ro:Option Nat}{Q:Exit->Act->World->Prop}{a:Act}{w:World}(h:d=c\/d= .scope c)(hg:∀l a w, ¬Q (.goto l) a w)(hc:c.sr P ro Q a w):d.sr P ro Q a w:=by
 rcases h with rfl|rfl
 ·exact hc
 ·exact wB hc hg
theorem cX.JC (ba:P.follows .mixedOrders=true){f g:FuncId}{jn fl Bl:IC}{t m r r1:Nat}{ja:List Operand}{rs:List ResultVar}(hf:Jz P f n jn fl g t ja rs)(hg:EI P g m r r1 Bl)
 {args:List V} {o:Nat->ab} {nx:Nat} {K X:V->(Nat->ab)->Nat->Prop} (hl:args.length<=n)
 (h:sQ P n nx true jn (JA P n t fl ja g fun aP=>Dg P m r r1 Bl aP rs K X) ⟨cA args,o,nx⟩):cX P f args o nx K X:=by
 obtain⟨fn,id,o1,o2,ca,cb,cd,Hy,PG,hnt,xZ,pF,hsc,e1,e2,e3,e4,e5,e6,ht,hla,Vn⟩:=hf.get
 obtain⟨gn,_,_,gc,hgn,S2,_,_,S3,_⟩:=hg.get
 refine⟨⟨fn,Hy,PG,by rw[pF];rfl⟩,fun M φ w vals hH hd=> ?_⟩
 have hlen:=V.ax _ _ hd
 let s0:S:=⟨cA args,o,nx⟩
 let a0:Act:={tmps:=vals++Array.replicate (fn.ntmps - vals.size) undef,defers:=[]}
 have iq:bW M φ (hp o nx) w n ⟨[],true⟩ φ s0 a0 w:=by
  exact XL
 have ha:=gQ (P:=P) (n:=n) (b:=nx) (rd:=true) ba ca _ _ s0 (fun _ _ h=>h) (by rw[hla];exact h)
 refine AF (ro:=none) (k:=0) (mB Hy pF (xY (gf (gL (P:=P) (H0:=hp o nx) (b:=nx) (cx:=⟨[],true⟩) (ro:=none) (fun id hu=>hu) (fun h=>by cases h) ca _ s0 φ a0 w ha iq) ?_)))
 rintro e a1 w1 ⟨x,s1,iI,hq,wF,hm⟩
 cases e<;>cases x<;>first|(exact hm.elim)|(exact hq.elim)|skip
 have uk:a1.defers=[]:=by
  obtain⟨ms,g1,_,g3,_⟩:=wF.defers
  rw[g3 rfl]at g1;exact g1
 let cv:Array Value:=(ja.map a1.eval).toArray
 let fv:Value:= .func (.func g) #[] cv
 let dd:Deferred:={target:= .fn (.func g) cv,args:=#[]}
 let a2:Act:={tmps:=a1.tmps.setIfInBounds t fv,defers:=[dd]}
 have PI:V.az (ak M iI s1.H) iI s1.H w1 (ja.map s1.ev) cv.toList:=by
  simpa[cv]using jW (M:=M) (φ:=iI) (H:=s1.H) (w:=w1) s1 a1 wF.env ja
 refine Bk hsc (fun l a w h=> ?_) ?_
 ·exact h.elim
 refine xY (gf (Q:=fun e a w=>e= .normal/\a=a2/\w=w1) (oz (k:=0) (wpIn_region_list ?_)) ?_)
 ·have y1:Region.wanted o1 (yielded #[o1,o2] a1.tmps)=true:=by simp[Region.wanted,e3]
  have y2:∀tm,Region.wanted o2 (yielded #[o1,o2] tm)=true:=by intro tm;simp[Region.wanted,e6]
  have dc:(a1.put (some t) fv).eval (.tmp t)=fv:=by
   have:t<a1.tmps.size:=by rw[wF.size];exact ht
   simp[Act.put,Act.eval,Array.getD,this]
  show wpListIn (dy none) 0 P #[o1,o2] _ [o1,o2] a1 w1
  unfold wpListIn
  rw[if_pos y1]
  have x1:(execOp a1.eval o1).run P w1= .ok (.value fv) w1:=by simp[execOp,e1,fv,cv,Instr.makeFunc]
  refine j6 (fun c hc=>by rw[e1]at hc;cases hc) ?_
  rw[x1]
  show wpListIn (dy none) 0 P #[o1,o2] _ [o2] (a1.put o1.dst fv) w1
  rw[e2]
  unfold wpListIn
  rw[if_pos (y2 _)]
  have x2:(execOp (a1.put (some t) fv).eval o2).run P w1= .ok (.defer dd) w1:=by
   simp[execOp,e4,resolve,dc,Deferred.ofValue,fv,dd]
  refine⟨fun _ _=>trivial, ?_⟩
  have:(o2.semAt (dy none).round (a1.put (some t) fv).eval)=execOp (a1.put (some t) fv).eval o2:=rfl
  rw[this,x2]
  unfold Oper.uponIn
  simp only[e5,wpListIn,Act.put,uk,a2,and_self]
 rintro e a w2 ⟨rfl,rfl,rfl⟩
 have zM:t<a1.tmps.size:=by rw[wF.size];exact ht
 let s2:S:=⟨aD s1.env t (.func (.func g) [] (ja.map s1.ev)),s1.o,s1.nx⟩
 have LA:bW M iI s1.H w2 n ⟨[dd],false⟩ iI s2 a2 w2:=by
  refine⟨wF.heap,Trans.refl _ _ _,by simp[a2,wF.size],⟨[],rfl,List.nodup_nil,fun _=>rfl,fun r hr=>by cases hr⟩,fun i=> ?_⟩
  simp only[s2,a2,aG]
  by_cases h1:i=t
  ·subst h1
   have:(a1.tmps.setIfInBounds i fv).getD i undef=fv:=by simp[Array.getD,zM]
   simp only[if_true];rw[this]
   exact⟨#[],cv,rfl,rfl,PI⟩
  ·have:(a1.tmps.setIfInBounds t fv).getD i undef=a1.tmps.getD i undef:=by
    exact OA
   simp only[h1,if_false];rw[this]
   exact wF.env i
 have hb:=gQ (P:=P) (n:=n) (b:=s1.nx) (rd:=false) ba cb _ _ s2 (fun _ _ h=>h) (by rw[Vn];exact hq)
 refine gf (gL (P:=P) (H0:=s1.H) (b:=s1.nx) (cx:=⟨[dd],false⟩) (ro:=none) (fun id hu=>hu) (fun _=>rfl) cb _ s2 iI a2 w2 hb LA) ?_
 rintro e a3 w3 ⟨x,s3,Y6,hq3,En,vy⟩
 obtain⟨ms,g1,g2,_,g4⟩:=En.defers
 have hinv:(invoke dd.target dd.args).run P=fun w=> .ok (.enter g cv) w:=by
  funext w
  have:=kS (w:=w) ⟨gn,hgn,S2,by rw[S3];rfl⟩ cv
  simpa[dd,invoke]using this
 have last:∀ {w4:World} {tm:Array Value} {u:V} {val:Value} {m0:FrameMode},m0≠ .run->x7 M iI s1.H w2 Y6 s3 a3.tmps w4->V.den (ak M Y6 s3.H) Y6 s3.H w4 u val->
  ((m0= .returning/\val= .nilIface)\/m0= .panicking [{v:=val,recovered:=false}])->
  (GI P m r r1 Bl (ja.map s1.ev) u s3.o s3.nx fun o nx=>lF P rs K X .ret ⟨s3.env,o,nx⟩)->
  LeavesInM (dy none) 0 P fn a3.tmps (mq M φ (hp o nx) w K X) [dd] m0 w4:=by
  intro w4 tm u val m0 eR hB Mc hm0 bw
  have S4:=V.aN hB.tr _ _ PI
  refine⟨eR, .inr ⟨fun h=>by simp[dy]at h, .func g,cv,g,cv,rfl,by rw[hinv],fun _ _=>trivial,CallsDIn.mono (GJ (k:=0 - 1) ba hg bw (m:=m0) hB.heap S4 Mc hm0) ?_⟩⟩
  rintro e u' w5 ⟨v,φ5,o5,nx5,rfl,acy,k1,k2,k3⟩
  show LeavesInM (dy none) 0 P fn a3.tmps (mq M φ (hp o nx) w K X) [] (settle u') w5
  rw[acy]
  obtain⟨vs,h1,h2⟩:=AM k3
  rw[<- xZ]at h1
  have Y7:∀i,V.den (ak M φ5 (hp o5 nx5)) φ5 (hp o5 nx5) w5 (s3.env i) (a3.tmps.getD i undef):=fun i=>V.aK k2 _ _ (hB.env i)
  obtain⟨adM,h3,h4⟩:=sP (P:=P) (s:=⟨s3.env,o5,nx5⟩) (a:=a3) k1 Y7 _ _ h1
  exact⟨_,mA h3,φ5,o5,nx5,_,k1,wF.tr.trans (hB.tr.trans k2),AO h4,h2⟩
 have done:GI P m r r1 Bl (ja.map s1.ev) (.d .gA) s3.o s3.nx (fun o nx=>lF P rs K X .ret ⟨s3.env,o,nx⟩)->LeavesInM (dy none) 0 P fn a3.tmps (mq M φ (hp o nx) w K X) a3.defers .returning w3:=by
  intro bw
  rw[g1]
  exact gh (P:=P) (k:=0) (fn:=fn) (R:=mq M φ (hp o nx) w K X) (u:= .returning) aJ (ds:=[dd]) (fun w4 hB=>last (tm:=a3.tmps) aJ hB (u:= .d .gA) (val:= .nilIface) (by simp[V.den,D.den]) (.inl ⟨rfl,rfl⟩) bw) ms w3 g2 g4 En.toB
 cases e<;>cases x<;>first|(exact vy.elim)|skip
 ·exact done hq3
 ·exact hq3.elim
 ·exact done hq3
 ·rename_i v
  obtain⟨val,rfl,hd'⟩:=vy
  show LeavesInM (dy none) 0 P fn a3.tmps (mq M φ (hp o nx) w K X) a3.defers _ w3
  rw[g1]
  let Y8:Nat->V:=fun i=>match i with|0=>v|i+1=>s3.env i
  have Y9:(#[val]++a3.tmps).getD 0 undef=val:=by simp[Array.getD]
  have Za:∀i,(#[val]++a3.tmps).getD (i+1) undef=a3.tmps.getD i undef:=by
   intro i
   simp only[Array.getD_eq_getD_getElem?]
   rw[Array.getElem?_append_right (by simp)]
   simp
  have Sc:x7 M iI s1.H w2 Y6 ⟨Y8,s3.o,s3.nx⟩ (#[val]++a3.tmps) w3:=⟨En.heap,En.tr,fun i=>by
   cases i with
   |zero=>rw[Y9];exact hd'
   |succ i=>rw[Za];exact En.env i⟩
  have Zb:∀w4,x7 M iI s1.H w2 Y6 ⟨Y8,s3.o,s3.nx⟩ (#[val]++a3.tmps) w4->LeavesInM (dy none) 0 P fn a3.tmps (mq M φ (hp o nx) w K X) [dd] (.panicking [{v:=val,recovered:=false}]) w4:=by
   intro w4 hB
   have hv4:=hB.env 0
   rw[Y9]at hv4
   refine last (tm:=a3.tmps) aJ ⟨hB.heap,hB.tr,fun i=> ?_⟩ hv4 (.inr rfl) hq3
   have hs:=hB.env (i+1)
   rw[Za]at hs
   exact hs
  exact gh (P:=P) (k:=0) (fn:=fn) (R:=mq M φ (hp o nx) w K X) (u:= .panicking [{v:=val,recovered:=false}]) aJ (ds:=[dd]) Zb ms w3 g2 g4 Sc
end
end
theorem yi.JD {P:Program}{g:FuncId}{ds:List D}{o:Nat->ab}{fr:Nat}{ty:TypeId}{sz:Nat}{es:List D}
 (h:cX P g (ds.map .d) (fun _=> .no) 0 (fun v o1 _=>(∃j ep,v= .osl j ep/\o1 j= .arr ep ty sz es)\/(v= .bu/\es=[]/\0<sz)) (fun _ _ _=>False)):
 yi P g (ds.map .d) [] o fr (.osl fr 0) [(fr, .arr 0 ty sz es)]:=by
 refine⟨h.1,fun o' us M φ w vals _ cL hH hd=> ?_⟩
 let cf:Place:=fun _=> .nilFunc
 have vB:∀b, ¬cw cf (hp (fun _=> .no) 0) b:=by rintro b ⟨id,hl,_⟩;simp[hp,ab.live]at hl
 have hM:∀b,ak M φ ⟨o',us⟩ b->b<w.heap.size:=fun b hb=>hb.elim (hH.zH b) fun hl=>(hH.ours b hl).2
 have wc:=(V.b8 _ _).1 hd
 refine(h.2 (ak M φ ⟨o',us⟩) cf w vals (kT cf hM) ((V.b8 _ _).2 (D.aN (w:=w) (w':=w) (B:=ak M φ ⟨o',us⟩) (fun b _ hB=>⟨rfl,fun h=>h.elim hB (vB b)⟩) _ _ wc))).mono ?_
 rintro e w' ⟨iI,o1,n1,v,k1,k2,k3⟩
 have hk:dx (fun _=>False) w w':=⟨k2.keep.os,k2.keep.tape,k2.keep.output,k2.keep.size,fun k hk _=>k2.keep.block k hk (vB k)⟩
 have Mb:(⟨o',us⟩:Hp).put [(fr, .arr 0 ty sz es)]=⟨put o' [(fr, .arr 0 ty sz es)],fun id=>us id\/id=fr⟩:=by
  simp only[Hp.put]
  congr 1
  funext id
  simp
 have fin:∀ (val:Value) (xs:List Value),(∀b,de val=some b->w.heap.size<=b/\b<w'.heap.size)->0<sz->w'.ownsRow 0 ty sz val es.length xs->
  (fu (ak M (aD φ fr val) ((⟨o',us⟩:Hp).put [(fr, .arr 0 ty sz es)])) w' sz es xs)->
  val.oneCell'=true->
  ∃aC,aw M aC ⟨put o' [(fr, .arr 0 ty sz es)],fun id=>us id\/id=fr⟩ w'/\Trans φ ⟨o',us⟩ w aC ⟨put o' [(fr, .arr 0 ty sz es)],fun id=>us id\/id=fr⟩ w'/\
   ∃JE,Ending.returned val= .returned JE/\V.den (ak M aC ⟨put o' [(fr, .arr 0 ty sz es)],fun id=>us id\/id=fr⟩) aC ⟨put o' [(fr, .arr 0 ty sz es)],fun id=>us id\/id=fr⟩ w' (.osl fr 0) JE:=by
  intro val xs js dA df bE S5
  have pE:=ik hH hk cL (.arr 0 ty sz es) val js (by
   unfold aM
   rw[show((⟨o',us⟩:Hp).put [(fr, .arr 0 ty sz es)]).o fr= .arr 0 ty sz es by simp]
   refine⟨dA,xs, ?_,bE⟩
   rw[show aD φ fr val fr=val by simp]
   exact df)
  have PJ:=dU (φ:=φ) (H:=⟨o',us⟩) hk cL (.arr 0 ty sz es) val (fun b hb=>(js b hb).1)
  rw[Mb]at pE PJ
  refine⟨aD φ fr val,pE,PJ,val,rfl,S5, .inr rfl,fun e he=> ?_⟩
  have oQ:0=e:=by
   have:(put o' [(fr,ab.arr 0 ty sz es)] fr).bX=some 0:=by simp[put,ab.bX]
   exact Xy
  exact⟨ae,fun _=>aJ⟩
 cases e with
 |outgrown=>exact k3.elim
 |panicked ch=>obtain⟨_,_,_,h⟩:=k3;exact h.elim
 |returned val=>
  obtain⟨g1,⟨j,ep,rfl,hj⟩|⟨rfl,rfl,dA⟩⟩:=k3
  ·obtain⟨v0,v1,v2⟩:=g1
   have eK:val=iI j:=(v2 ep (by show(o1 j).bX=some ep;rw[hj];rfl)).2 rfl
   have cz:∀b,de val=some b->cw iI (hp o1 n1) b:=fun b hb=>⟨j,by show(o1 j).live=true;rw[hj];rfl,by rw[<- eK];exact hb⟩
   have js:∀b,de val=some b->w.heap.size<=b/\b<w'.heap.size:=fun b hb=>⟨(k2.grow b (cz b hb)).resolve_left (vB b),(k1.ours b (cz b hb)).2⟩
   have Dh:=k1.ok j
   unfold aM at Dh
   rw[show(hp o1 n1).o j= .arr ep ty sz es from hj]at Dh
   obtain⟨dA,xs,df,bE⟩:=Dh
   have hBs:∀b,ak M (aD φ fr val) ((⟨o',us⟩:Hp).put [(fr, .arr 0 ty sz es)]) b->ak (ak M φ ⟨o',us⟩) iI (hp o1 n1) b:=by
    rintro b (hb|⟨id,hl,hb⟩)
    ·exact .inl (.inl hb)
    ·by_cases e:id=fr
     ·subst e
      simp at hb
      exact .inr (cz b hb)
     ·simp[e]at hl hb
      exact .inl (.inr ⟨id,hl,hb⟩)
   exact fin val xs js dA (by rw[eK];exact df) (bE.mono (w:=w') (w':=w') (fun b _ hB=>⟨rfl,fun h=>hB (hBs b h)⟩)) v0
  ·have g1:val= .slice none 0 0:=g1
   subst g1
   exact W0
theorem yi.MM {P:Program}{g:FuncId}{args:List V}{ds:List D}{o:Nat->ab}{fr:Nat}{ty:TypeId}{sz:Nat}{es:List D}
 (eL:bU o args=some ds) (qm:D.jv es=true) (h:cX P g (ds.map .d) (fun _=> .no) 0 (fun v o1 _=>(∃j ep,v= .osl j ep/\o1 j= .arr ep ty sz es)\/(v= .bu/\es=[]/\0<sz)) (fun _ _ _=>False)):
 yi P g args (V.bc args) o fr (.osl fr 0) [(fr, .arr 0 ty sz es)]:=by
 refine⟨h.1,fun o' us M φ w vals hag cL hH hd=> ?_⟩
 obtain⟨f1,f2,f3,f4,f5⟩:=cF hH (V.bc args) (fun id au=>(hag id au).2)
 generalize hHF:(⟨o',us⟩:Hp).put (cc (⟨o',us⟩:Hp).o (V.bc args))=HF at f1 f2 f3
 let cf:Place:=fun _=> .nilFunc
 have vB:∀b, ¬cw cf (hp (fun _=> .no) 0) b:=by rintro b ⟨id,hl,_⟩;simp[hp,ab.live]at hl
 have hM:∀b,ak M φ HF b->b<w.heap.size:=fun b hb=>hb.elim (f1.zH b) fun hl=>(f1.ours b hl).2
 have wc:D.az (ak M φ HF) w ds vals.toList:=c0 f1 args ds _ (fun id au=>by rw[f3 id au];show(o' id).fz=(o id).fz;rw[(hag id au).1]) eL (V.aN f2 _ _ hd)
 refine(h.2 (ak M φ HF) cf w vals (kT cf hM) ((V.b8 _ _).2 (D.aN (w:=w) (w':=w) (B:=ak M φ HF) (fun b _ hB=>⟨rfl,fun h=>h.elim hB (vB b)⟩) _ _ wc))).mono ?_
 rintro e w' ⟨iI,o1,n1,v,k1,k2,k3⟩
 have hk:dx (fun _=>False) w w':=⟨k2.keep.os,k2.keep.tape,k2.keep.output,k2.keep.size,fun k hk _=>k2.keep.block k hk (vB k)⟩
 have Mb:(⟨o',us⟩:Hp).put [(fr, .arr 0 ty sz es)]=⟨put o' [(fr, .arr 0 ty sz es)],fun id=>us id\/id=fr⟩:=by
  simp only[Hp.put]
  congr 1
  funext id
  simp
 have fin:∀ (val:Value) (xs:List Value),(∀b,de val=some b->w.heap.size<=b/\b<w'.heap.size)->0<sz->w'.ownsRow 0 ty sz val es.length xs->
  (fu (ak M (aD φ fr val) ((⟨o',us⟩:Hp).put [(fr, .arr 0 ty sz es)])) w' sz es xs)->
  val.oneCell'=true->
  ∃aC,aw M aC ⟨put o' [(fr, .arr 0 ty sz es)],fun id=>us id\/id=fr⟩ w'/\Trans φ ⟨o',us⟩ w aC ⟨put o' [(fr, .arr 0 ty sz es)],fun id=>us id\/id=fr⟩ w'/\
   ∃JE,Ending.returned val= .returned JE/\V.den (ak M aC ⟨put o' [(fr, .arr 0 ty sz es)],fun id=>us id\/id=fr⟩) aC ⟨put o' [(fr, .arr 0 ty sz es)],fun id=>us id\/id=fr⟩ w' (.osl fr 0) JE:=by
  intro val xs js dA df bE S5
  have pE:=ik hH hk cL (.arr 0 ty sz es) val js (by
   unfold aM
   rw[show((⟨o',us⟩:Hp).put [(fr, .arr 0 ty sz es)]).o fr= .arr 0 ty sz es by simp]
   refine⟨dA,xs, ?_,bE⟩
   rw[show aD φ fr val fr=val by simp]
   exact df)
  have PJ:=dU (φ:=φ) (H:=⟨o',us⟩) hk cL (.arr 0 ty sz es) val (fun b hb=>(js b hb).1)
  rw[Mb]at pE PJ
  refine⟨aD φ fr val,pE,PJ,val,rfl,S5, .inr rfl,fun e he=> ?_⟩
  have oQ:0=e:=by
   have:(put o' [(fr,ab.arr 0 ty sz es)] fr).bX=some 0:=by simp[put,ab.bX]
   exact Xy
  exact⟨ae,fun _=>aJ⟩
 cases e with
 |outgrown=>exact k3.elim
 |panicked ch=>obtain⟨_,_,_,h⟩:=k3;exact h.elim
 |returned val=>
  obtain⟨g1,⟨j,ep,rfl,hj⟩|⟨rfl,rfl,dA⟩⟩:=k3
  ·obtain⟨v0,v1,v2⟩:=g1
   have eK:val=iI j:=(v2 ep (by show(o1 j).bX=some ep;rw[hj];rfl)).2 rfl
   have cz:∀b,de val=some b->cw iI (hp o1 n1) b:=fun b hb=>⟨j,by show(o1 j).live=true;rw[hj];rfl,by rw[<- eK];exact hb⟩
   have js:∀b,de val=some b->w.heap.size<=b/\b<w'.heap.size:=fun b hb=>⟨(k2.grow b (cz b hb)).resolve_left (vB b),(k1.ours b (cz b hb)).2⟩
   have Dh:=k1.ok j
   unfold aM at Dh
   rw[show(hp o1 n1).o j= .arr ep ty sz es from hj]at Dh
   obtain⟨dA,xs,df,bE⟩:=Dh
   obtain⟨evs,e1,e2,e3⟩:=bE
   exact fin val xs js dA (by rw[eK];exact df) ⟨evs,e1,e2,D.lB _ _ qm e3⟩ v0
  ·have g1:val= .slice none 0 0:=g1
   subst g1
   exact W0
theorem yi.MN {P:Program}{g:FuncId}{args:List V}{ds:List D}{o0 o:Nat->ab}{rd:List Nat}{fr:Nat}{v:V}{Δ:List (Nat×ab)}(au:V.bc args=[])(eL:bU o0 args=some ds)
 (h:yi P g (ds.map .d) rd o fr v Δ):yi P g args rd o fr v Δ:=
 ⟨h.1,fun o' us M φ w vals h1 h2 hH hd=>h.2 o' us M φ w vals h1 h2 hH ((V.b8 _ _).2 (c0 hH args ds _ (by rw[au];intro id h;cases h) eL hd))⟩
def PK(P:Program)(f:FuncId):Prop:=
 Enters P f/\∀ (w:World) (b:Nat) (es:Array MapEntry) (clock:Nat),w.heap[b]? =some (.map es clock)->
  Calls P f #[.map (some b)] w fun e w'=>e= .returned (.map (some w.heap.size))/\w'=w.alloc (.map es clock)
theorem cX.S6 {P:Program}{f:FuncId}(h:PK P f){o:Nat->ab}{nx id:Nat}{kt vt:TypeId}{l:List (D×D)}(ho:o id= .map kt vt l){K X:V->(Nat->ab)->Nat->Prop}
 (hK:K (.mp nx) (aD o nx (.map kt vt l)) (nx+1)):cX P f [.mp id] o nx K X:=by
 refine⟨h.1,fun M φ w vals hH hd=> ?_⟩
 have hlen:=V.ax _ _ hd
 obtain⟨v,rfl⟩:∃v,vals=#[v]:=by
  match vals,hlen with
  |⟨[v]⟩,_=>exact⟨v,rfl⟩
 obtain⟨v',sm,Mc⟩:=V.dm _ _ 0 (.mp id) hd rfl
 simp only[List.getElem?_cons_zero,Option.some.injEq]at sm
 subst sm
 have aS:=hH.ok id
 have vT:(hp o nx).o id= .map kt vt l:=ho
 simp only[aM,vT]at aS
 obtain⟨b,es,clock,e1,e2,e3,e4⟩:=aS
 have hv:v=φ id:=Mc.2.2 (by rw[vT];rfl)
 rw[hv,e1]
 refine(h.2 w b es clock e2).mono fun e w' ⟨he,hw⟩=> ?_
 subst he;subst hw
 have cL: ¬ (hp o nx).us nx:=fun h=>Nat.lt_irrefl _ h
 have Mb:(hp o nx).put [(nx, .map kt vt l)]=hp (aD o nx (.map kt vt l)) (nx+1):=by
  simp only[Hp.put,hp]
  congr 1
  funext j
  simp only[List.map_cons,List.map_nil,List.mem_singleton,eq_iff_iff]
  omega
 have hvb:∀c,de (.map (some w.heap.size))=some c->w.heap.size<=c/\c<(w.alloc (.map es clock)).heap.size:=by
  intro c hc;simp[de]at hc;subst hc;simp
 have ht:=dU (φ:=φ) (H:=hp o nx) (cj w (.map es clock)) cL (.map kt vt l) (.map (some w.heap.size)) fun c hc=>(hvb c hc).1
 refine⟨aD φ nx (.map (some w.heap.size)),aD o nx (.map kt vt l),nx+1, .mp nx, ?_, ?_, ?_,hK⟩
 ·rw[<- Mb]
  refine ik hH (cj w _) cL _ _ hvb ?_
  unfold aM
  simp only[bA,aG,if_true]
  exact⟨w.heap.size,es,clock,rfl,heap_alloc_new w _,e3,aH.mono (ht.blocks (M:=M)) l _ e4⟩
 ·rw[<- Mb];exact ht
 ·rw[<- Mb];exact⟨rfl,aJ,fun _=>aJ⟩
end Go.Proofs.YtnkamdiiakdkgaaGreat
