/-
  LogicLowers: at every call the law answers true, and leaves all memory as it was. Conditions: none.
-/
import Derived.Test.YtonbelhklnmjnaaGreatRows
import Derived.Test.YtonbelhklnmjnaaGreatLl21
set_option linter.unusedSimpArgs false
set_option linter.unusedVariables false
namespace Go.Proofs.YtonbelhklnmjnaaGreat
def iY(r last:Int)(i:Nat)(w v:Tm):Tm:=
 if r=4\/r=5 then cC w i
 else if 6<=r/\r<=10 then(if(i:Int)=last then w else v)
 else if r=15 then(if last=2/\i=2 then w else if last=1/\i=0 then .mk w.op w.n (w.kids.take (w.kids.length - 1))else if last=1/\i=1 then cC w (w.kids.length - 1)else v)
 else v
mutual
def jy:Pf->Tm->Pf
 | .mk r v n b ks,w=>if w.op=16 then .mk 1 w 0 [] []else .mk r w n b (cG ks r ((ks.length:Int) - 1) w 0)
def cG:List Pf->Int->Int->Tm->Nat->List Pf
 |[],_,_,_,_=>[]
 |k::l,r,last,w,i=>jy k (iY r last i w k.val)::cG l r last w (i+1)
end
theorem lK(f:Pf)(w:Tm):jy f w=if w.op=16 then .mk 1 w 0 [] []else .mk f.az w f.num f.binds (cG f.kids f.az ((f.kids.length:Int) - 1) w 0):=by
 cases f;rfl
theorem sc(f:Pf)(w:Tm):(jy f w).val=w:=by rw[lK];split<;>rfl
theorem oN(r last:Int)(w:Tm):∀ (l:List Pf) (i j:Nat),(cG l r last w i)[j]? =(l[j]?).map fun k=>jy k (iY r last (i+j) w k.val)
 |[],i,j=>by simp[cG]
 |k::l,i,0=>by simp[cG]
 |k::l,i,j+1=>by
  rw[cG,List.getElem?_cons_succ,oN r last w l (i+1) j,List.getElem?_cons_succ]
  rw[show i+1+j=i+(j+1) by omega]
theorem sd(r last:Int)(w:Tm):∀ (l:List Pf) (i:Nat),(cG l r last w i).length=l.length
 |[],i=>rfl
 |k::l,i=>by rw[cG,List.length_cons,List.length_cons,sd r last w l (i+1)]
theorem Av(r last:Int)(w:Tm)(k:Pf):∀ (l:List Pf) (i:Nat),cG (l++[k]) r last w i=cG l r last w i++[jy k (iY r last (i+l.length) w k.val)]
 |[],i=>by simp[cG]
 |x::l,i=>by
  rw[List.cons_append,cG,cG,Av r last w k l (i+1),List.cons_append,List.length_cons,show i+1+l.length=i+(l.length+1) by omega]
theorem xz{r last:Int}{w:Tm}{l:List Pf}{i:Nat}{x:Pf}(h:x∈cG l r last w i):∃ (j:Nat) (k:Pf),l[j]? =some k/\x=jy k (iY r last (i+j) w k.val):=by
 obtain⟨j,hj⟩:=List.getElem?_of_mem h
 rw[oN]at hj
 cases hk:l[j]? with
 |none=>rw[hk]at hj;cases hj
 |some k=>rw[hk]at hj;injection hj with hj;exact⟨j,k,hk,hj.symm⟩
theorem IK(r last:Int)(w:Tm):∀ (l:List Pf),(∀k∈l,∀v,Cg (jy k v)<=Cg k)->∀i,kn (cG l r last w i)<=kn l
 |[],_,i=>by simp[cG,kn]
 |k::l,h,i=>by
  have e:∀ (x:Pf) (l:List Pf),kn (x::l)=Cg x+kn l:=fun x l=>by unfold kn;simp
  rw[cG,e,e]
  have:=h k ao (iY r last i w k.val)
  have:=IK r last w l (fun y hy=>h y pD) (i+1)
  omega
theorem abA:∀ (f:Pf) (w:Tm),Cg (jy f w)<=Cg f:=by
 refine Pf.cc fun f ih w=> ?_
 have e:Cg f=1+kn f.kids:=xu f
 rw[lK]
 split
 ·rw[e];unfold Cg;rw[xu];simp[Pf.kids,kn]
 ·rw[e];unfold Cg;rw[xu]
  have:=IK f.az ((f.kids.length:Int) - 1) w f.kids ih 0
  change 1+kn (cG f.kids f.az ((f.kids.length:Int) - 1) w 0)<=1+kn f.kids
  omega
theorem SM:∀ (f:Pf) (w:Tm),(jy f w).fR<=f.fR:=by
 refine Pf.cc fun f ih w=> ?_
 have e:∀f:Pf,f.fR=1+Pf.dN f.kids:=fun f=>by cases f;rfl
 have le:∀ (l:List Pf) (m:Nat),(∀k∈l,k.fR<=m)->Pf.dN l<=m:=fun l m=>by
  induction l with
  |nil=>intro _;simp[Pf.dN]
  |cons x l nh=>intro h;simp only[Pf.dN];exact Nat.max_le.2 ⟨h x ao,nh fun k hk=>h k (by simp[hk])⟩
 rw[lK]
 split
 ·rw[e,e f];simp[Pf.kids,Pf.dN]
 ·rw[e,e f]
  change 1+Pf.dN (cG f.kids f.az ((f.kids.length:Int) - 1) w 0)<=1+Pf.dN f.kids
  have:=le (cG f.kids f.az ((f.kids.length:Int) - 1) w 0) (Pf.dN f.kids) fun x hx=>by
   obtain⟨j,k,hk,rfl⟩:=xz hx
   have hm:=List.mem_of_getElem? hk
   exact Nat.le_trans (ih k hm _) (Pf.mg hm)
  omega
theorem xA(r last:Int)(w:Tm):∀ (l:List Pf),(∀k∈l,∀v,(eg (jy k v)).length<=(eg k).length)->∀i,((cG l r last w i).flatMap eg).length<=(l.flatMap eg).length
 |[],_,i=>by simp[cG]
 |k::l,h,i=>by
  rw[cG,List.flatMap_cons,List.flatMap_cons,List.length_append,List.length_append]
  have:=h k ao (iY r last i w k.val)
  have:=xA r last w l (fun y hy=>h y pD) (i+1)
  omega
theorem K0:∀ (f:Pf) (w:Tm),(eg (jy f w)).length<=(eg f).length:=by
 refine Pf.cc fun f ih w=> ?_
 rw[lK,pk f]
 split
 ·rw[pk];simp[xr,Pf.az,Pf.kids]
 ·rw[pk,List.length_append,List.length_append]
  have:=xA f.az ((f.kids.length:Int) - 1) w f.kids ih 0
  change (xr f).length+((cG f.kids f.az ((f.kids.length:Int) - 1) w 0).flatMap eg).length<=(xr f).length+(f.kids.flatMap eg).length
  omega
section
theorem IL{p:Pg}{ks:List Pf}{env es:List Tm}(hl:ks.length=es.length)(h:∀ (i:Nat) (x:Pf) (y:Tm),ks[i]? =some x->es[i]? =some y->aR p x env y=true):jW (ks.map (aR p)) env es=true:=by
 unfold jW
 rw[Bool.and_eq_true,List.all_eq_true,beq_iff_eq,List.length_map]
 refine⟨hl,fun z hz=> ?_⟩
 obtain⟨i,hi⟩:=List.getElem?_of_mem hz
 rw[List.getElem?_zip_eq_some,List.getElem?_map]at hi
 obtain⟨h1,h2⟩:=hi
 cases hk:ks[i]? with
 |none=>rw[hk]at h1;cases h1
 |some x=>
  rw[hk]at h1
  injection h1 with h1
  rw[<- h1]
  exact h i x z.2 hk h2
theorem IM:∀ {l l':List Tm} {i:Nat} {x y:Tm},iD l l'=true->l[i]? =some x->l'[i]? =some y->pA x y=true
 |[],_,_,_,_,_,h,_=>by simp at h
 |_::_,[],_,_,_,_,_,h=>by simp at h
 |a::l,b::l',0,x,y,h,h1,h2=>by
  simp at h1 h2;subst h1;subst h2
  rw[iD,Bool.and_eq_true]at h;exact h.1
 |a::l,b::l',i+1,x,y,h,h1,h2=>by
  rw[iD,Bool.and_eq_true]at h
  exact IM h.2 (by simpa using h1) qD
theorem PO:∀ {l l':List Tm},l.length=l'.length->(∀ (i:Nat) (x y:Tm),l[i]? =some x->l'[i]? =some y->pA x y=true)->iD l l'=true
 |[],_,_,_=>by simp[iD]
 |_::_,[],h,_=>by simp at h
 |a::l,b::l',hl,h=>by
  rw[iD,Bool.and_eq_true]
  exact⟨h 0 a b rfl rfl,PO (by simpa using hl) fun i x y h1 h2=>h (i+1) x y (by simpa using h1) qD⟩
theorem oO{w v:Tm}(h:pA w v=true)(h1:w.op≠16):w.op=v.op/\w.n=v.n/\w.kids.length=v.kids.length/\∀ (i:Nat) (x y:Tm),w.kids[i]? =some x->v.kids[i]? =some y->pA x y=true:=by
 rcases u4.1 h with h|⟨a,b,c,d⟩
 ·exact absurd h h1
 ·exact⟨a,b,c,fun i x y hx hy=>IM d hx hy⟩
theorem SN{w v:Tm}(h:pA w v=true)(h1:w.op≠16)(h2:v.kids=[]):w=v:=by
 obtain⟨a,b,c,_⟩:=oO h h1
 rw[h2]at c
 have hw:w.kids=[]:=List.length_eq_zero_iff.1 c
 rw[<- Tm.eta w, <- Tm.eta v,a,b,hw,h2]
theorem SO{t k:Tm}(hk:k∈t.kids):k.sz+1<=t.sz:=by
 rw[Tm.gw t];have:=jw hk;omega
theorem PQ{t k:Tm}(hk:k∈t.kids):k.fR+1<=t.fR:=by
 rw[Tm.oC t];have:=(mR t.kids (Tm.dN t.kids)).1 (Nat.le_refl _) k hk;omega
theorem PR{s:aV}{t k:Tm}(h:mu s t=true)(hk:k∈t.kids):mu s k=true:=by
 simp only[mu,Bool.and_eq_true,decide_eq_true_eq,dD]at h|-
 have h1:=SO hk
 have h2:=PQ hk
 exact⟨af,Pn.gE h.2 hk⟩
theorem PS(l:List Tm)(m:Nat):fG (l.take m)<=fG l:=by
 unfold fG
 conv=>rhs;rw[<- List.take_append_drop m l]
 rw[List.map_append,List.sum_append];omega
theorem SP{s:aV}{t:Tm}(h:mu s t=true)(h5:t.op=5)(m:Nat):mu s (.mk t.op t.n (t.kids.take m))=true:=by
 simp only[mu,Bool.and_eq_true,decide_eq_true_eq,dD]at h|-
 obtain⟨h1,h2⟩:=h
 have a1:(Tm.mk t.op t.n (t.kids.take m)).sz<=t.sz:=by
  rw[Tm.gw,Tm.gw t];have:=PS t.kids m
  change 1+fG (t.kids.take m)<=_
  omega
 have a2:(Tm.mk t.op t.n (t.kids.take m)).fR<=t.fR:=by
  rw[Tm.oC,Tm.oC t]
  have:=(mR (t.kids.take m) (Tm.dN t.kids)).2 fun k hk=>(mR t.kids (Tm.dN t.kids)).1 (Nat.le_refl _) k (List.mem_of_mem_take hk)
  change 1+Tm.dN (t.kids.take m)<=_
  omega
 refine⟨af,qq.2 ⟨?_,fun k hk=>Pn.gE h2 (List.mem_of_mem_take hk)⟩⟩
 have h3:=(qq.1 h2).1
 have hl:(t.kids.take m).length<=t.kids.length:=by rw[List.length_take];omega
 unfold mq at h3|-
 change (let k:Int:=(t.kids.take m).length
  if t.op=16 then t.n==0&&k==0 else if t.op=1 then cF t.n 0 199&&k==0 else if t.op=2 then cF t.n (-1000000) 1000000&&k==0 else if t.op=3 then cF t.n 0 (s.cons.length - 1)&&k==cX s.cons t.n else if t.op=5 then cF t.n 0 (s.bR.length - 1)&&decide (k<cX s.bR t.n)else false)=true
 simp[h5]at h3|-
 exact⟨h3.1,af⟩
section
variable {p:Pg}{s:aV}{f:Pf}{w:Tm}{env:List Tm}{e:Tm}
theorem B7(pl:fy s f=true)(hw:mu s w=true)(hb:pA w f.val=true)(tx:w.op≠16)(H:aR p f env e=true){j:Nat}{k:Pf}(hk:f.kids[j]? =some k):
 mu s (iY f.az ((f.kids.length:Int) - 1) j w k.val)=true/\pA (iY f.az ((f.kids.length:Int) - 1) j w k.val) k.val=true:=by
 have cD:=(List.getElem?_eq_some_iff.1 hk).1
 have hpk:mu s k.val=true:=by
  rw[dR,Bool.and_eq_true,List.all_eq_true]at pl
  have:=pl.2 k (List.mem_of_getElem? hk)
  rw[dR,Bool.and_eq_true]at this
  have:=this.1
  unfold ee at this
  simp only[Bool.and_eq_true]at this
  exact this.1.1
 have own:mu s k.val=true/\pA k.val k.val=true:=⟨hpk,BF _⟩
 have hv:∀i,f.kids[i]? =some k->aX f.kids i=k.val:=fun i h=>by unfold aX;rw[h];rfl
 rw[b7,gM]at H
 unfold iY
 by_cases r4:f.az=4\/f.az=5
 ·rw[if_pos r4]
  have hs:f.val= .mk e.op e.n (f.kids.map Pf.val):=by
   rcases r4 with r|r<;>simp[r]at H<;>exact((bu _ _).1 H.2.1)
  rw[hs]at hb
  obtain⟨_,_,hl,hg⟩:=oO hb tx
  change w.kids.length=(f.kids.map Pf.val).length at hl
  rw[List.length_map]at hl
  obtain⟨x,hx⟩:=ai (l:=w.kids) (k:=j) af
  have hkt:cC w j=x:=by unfold cC;rw[hx];rfl
  rw[hkt]
  exact⟨PR hw (List.mem_of_getElem? hx),hg j x k.val hx (by simp only[Tm.kids];rw[List.getElem?_map,hk];rfl)⟩
 rw[if_neg r4]
 by_cases r6:6<=f.az/\f.az<=10
 ·rw[if_pos r6]
  by_cases hj:(j:Int)=(f.kids.length:Int) - 1
  ·rw[if_pos hj]
   have hs:k.val=f.val:=by
    rcases(by omega:f.az=6\/f.az=7\/f.az=8\/f.az=9\/f.az=10)with r|r|r|r|r
    ·simp[r]at H
     cases hr:p.rules[f.num.toNat]? with
     |none=>rw[hr]at H;simp at H
     |some ru=>
      rw[hr]at H
      simp only[Bool.and_eq_true,beq_iff_eq,bu]at H
      have h1:=H.2.1.2
      rw[hv _ (by rw[show e.kids.length=j by have:=H.2.1.1.1.2;omega];exact hk)]at h1
      exact h1
    ·simp[r]at H
     obtain rfl:j=0:=af
     have h1:=(bu _ _).1 H.2.1.2;rwa [hv _ hk]at h1
    ·simp[r]at H
     obtain rfl:j=0:=af
     have h1:=(bu _ _).1 H.2.1.2;rwa [hv _ hk]at h1
    ·simp[r]at H
     obtain rfl:j=1:=af
     have h1:=(bu _ _).1 H.2.1.1.2;rwa [hv _ hk]at h1
    ·simp[r,jX]at H
     obtain rfl:j=1:=af
     have h1:=(bu _ _).1 H.1.2.2.2;rwa [hv _ hk]at h1
   rw[hs];exact⟨hw,hb⟩
  ·rw[if_neg hj];exact own
 rw[if_neg r6]
 by_cases Li:f.az=15
 ·rw[if_pos Li]
  simp[Li]at H
  obtain⟨⟨⟨_,hlen⟩,_,h5⟩,hif⟩:=H
  split at hif
  ·obtain⟨nm,hs⟩:=hif
   have hs:=(bu _ _).1 hs
   rw[hs]at hb
   obtain⟨b1,b2,b3,b4⟩:=oO hb tx
   change w.op=5 at b1
   change w.n=(aX f.kids 0).n at b2
   change w.kids.length=((aX f.kids 0).kids++[aX f.kids 1]).length at b3
   rw[List.length_append,List.length_singleton]at b3
   rw[if_neg (by omega)]
   rcases(by omega:j=0\/j=1)with rfl|rfl
   ·rw[if_pos ⟨by omega,rfl⟩]
    have hk0:=hv _ hk
    rw[hk0]at b2 b3 b4 h5
    refine⟨SP hw b1 _,u4.2 (.inr ⟨b1.trans h5.symm,b2, ?_, ?_⟩)⟩
    ·change (w.kids.take (w.kids.length - 1)).length=_
     exact GX
    ·refine PO (by change (w.kids.take (w.kids.length - 1)).length=_;rw[List.length_take];omega) fun i x y hx hy=> ?_
     change (w.kids.take (w.kids.length - 1))[i]? =some x at hx
     have hi:=(List.getElem?_eq_some_iff.1 hy).1
     rw[List.getElem?_take_of_lt (by omega)]at hx
     refine b4 i x y hx ?_
     change (k.val.kids++[aX f.kids 1])[i]? =some y
     rw[List.getElem?_append_left hi];exact hy
   ·rw[if_neg (by omega),if_pos ⟨by omega,rfl⟩]
    have x6:=hv _ hk
    obtain⟨x,hx⟩:=ai (l:=w.kids) (k:=w.kids.length - 1) af
    have hkt:cC w (w.kids.length - 1)=x:=by unfold cC;rw[hx];rfl
    rw[hkt]
    refine⟨PR hw (List.mem_of_getElem? hx),b4 _ x k.val hx ?_⟩
    change ((aX f.kids 0).kids++[aX f.kids 1])[w.kids.length - 1]? =some k.val
    rw[List.getElem?_append_right (by omega),show w.kids.length - 1 - (aX f.kids 0).kids.length=0 by omega,x6];rfl
  ·obtain⟨⟨Uz,hs⟩,_⟩:=hif
   by_cases hj:j=2
   ·subst hj
    rw[if_pos ⟨by omega,rfl⟩]
    have hs:=(bu _ _).1 hs
    rw[hv _ hk]at hs
    rw[hs];exact⟨hw,hb⟩
   ·rw[if_neg (fun c=>hj c.2),if_neg (fun c=>by omega),if_neg (fun c=>by omega)]
    exact own
 ·rw[if_neg Li];exact own
theorem PT{j:Nat}{k:Pf}(hk:f.kids[j]? =some k)(r last:Int):aX (cG f.kids r last w 0) j=iY r last j w k.val:=by
 unfold aX
 rw[oN,hk,Nat.zero_add]
 exact sc _ _
end
theorem SQ{p:Pg}{s:aV}:∀f:Pf,fy s f=true->∀w env e,mu s w=true->pA w f.val=true->aR p f env e=true->aR p (jy f w) env e=true/\fy s (jy f w)=true:=by
 refine Pf.cc fun f ih pl w env e hw hb H=> ?_
 have Xb:=pl
 rw[dR,Bool.and_eq_true,List.all_eq_true]at Xb
 by_cases tx:w.op=16
 ·rw[lK,if_pos tx]
  refine⟨?_, ?_⟩
  ·rw[b7,gM];simp[Pf.az,Pf.kids,Pf.val,tx]
  ·rw[dR,ee];simp[Pf.az,Pf.kids,Pf.val,Pf.num,Pf.binds,hw,lu]
 have key:∀ (j:Nat) (k:Pf),f.kids[j]? =some k->∀env e,aR p k env e=true->aR p (jy k (iY f.az ((f.kids.length:Int) - 1) j w k.val)) env e=true/\fy s (jy k (iY f.az ((f.kids.length:Int) - 1) j w k.val))=true:=fun j k hk ajp e' h=>by
  have hm:=List.mem_of_getElem? hk
  have ok:=B7 pl hw hb tx H hk
  exact ih k hm (Xb.2 k hm) _ ajp e' ok.1 ok.2 h
 rw[lK,if_neg tx]
 refine⟨?_, ?_⟩
 ·have hln:=sd f.az ((f.kids.length:Int) - 1) w f.kids 0
  have vp:∀ (j:Nat) (k:Pf),f.kids[j]? =some k->aX (cG f.kids f.az ((f.kids.length:Int) - 1) w 0) j=iY f.az ((f.kids.length:Int) - 1) j w k.val:=fun j k hk=>PT hk _ _
  have vo:∀ (j:Nat) (k:Pf),f.kids[j]? =some k->aX f.kids j=k.val:=fun j k h=>by unfold aX;rw[h];rfl
  have gt:∀ (j:Nat) (k:Pf),f.kids[j]? =some k->(cG f.kids f.az ((f.kids.length:Int) - 1) w 0)[j]? =some (jy k (iY f.az ((f.kids.length:Int) - 1) j w k.val)):=fun j k hk=>by rw[oN,hk,Nat.zero_add];rfl
  have pg:∀ (j:Nat) env e,kG (f.kids.map (aR p)) j env e=true->kG ((cG f.kids f.az ((f.kids.length:Int) - 1) w 0).map (aR p)) j env e=true:=fun j env e h=>by
   cases hk:f.kids[j]? with
   |none=>unfold kG at h;rw[List.getElem?_map,hk]at h;cases h
   |some k=>
    rw[gV hk]at h
    rw[gV (gt j k hk)]
    exact(key j k hk env e h).1
  have vm:∀ (m:Nat),(∀ (j:Nat) (k:Pf),j<m->f.kids[j]? =some k->iY f.az ((f.kids.length:Int) - 1) j w k.val=k.val)->((cG f.kids f.az ((f.kids.length:Int) - 1) w 0).take m).map Pf.val=(f.kids.take m).map Pf.val:=fun m h=>by
   refine List.ext_getElem? fun j=> ?_
   rw[List.getElem?_map,List.getElem?_map]
   by_cases hj:j<m
   ·rw[List.getElem?_take_of_lt hj,List.getElem?_take_of_lt hj]
    cases hk:f.kids[j]? with
    |none=>rw[oN,hk];rfl
    |some k=>rw[gt j k hk,Option.map_some,Option.map_some,sc,h j k hj hk]
   ·rw[List.getElem?_take_eq_none (by omega),List.getElem?_take_eq_none (by omega)]
  rw[b7]
  change gM p f.az w f.num f.binds (cG f.kids f.az ((f.kids.length:Int) - 1) w 0) ((cG f.kids f.az ((f.kids.length:Int) - 1) w 0).map (aR p)) env e=true
  have ok:=fun(j:Nat) (k:Pf) (hk:f.kids[j]? =some k)=>B7 pl hw hb tx H hk
  generalize B8:cG f.kids f.az ((f.kids.length:Int) - 1) w 0=MF at hln vp gt pg vm|-
  rw[b7,gM]at H
  rw[gM]
  by_cases h1:f.az=1
  ·rw[if_pos h1]at H
   simp only[Bool.and_eq_true,beq_iff_eq]at H
   exact absurd ((oO hb tx).1.trans H.2) tx
  rw[if_neg h1]at H|-
  by_cases h2:f.az=2
  ·rw[if_pos h2]at H|-
   simp only[Bool.and_eq_true,beq_iff_eq]at H|-
   exact⟨H.1,af,Ol _ _ _ hb H.2.2⟩
  rw[if_neg h2]at H|-
  have Xc:f.val.kids=[]->w=f.val:=SN hb tx
  by_cases h3:f.az=3
  ·rw[if_pos h3]at H|-
   have hvp:Pn s f.val:=by
    have:=Xb.1
    unfold ee at this
    simp only[Bool.and_eq_true]at this
    exact PN this.1.1
   simp only[Bool.and_eq_true,beq_iff_eq,bu]at H|-
   have eJ:f.val.op=2:=by rw[H.2.2];exact H.1
   exact⟨H.1,af,(Xc (hvp.bare (.inr (.inr eJ)))).trans H.2.2⟩
  rw[if_neg h3]at H|-
  have parts:f.az=4\/f.az=5->aJ f.val (.mk e.op e.n (f.kids.map Pf.val))=true->jW (f.kids.map (aR p)) env e.kids=true->aJ w (.mk e.op e.n (MF.map Pf.val))=true/\jW (MF.map (aR p)) env e.kids=true:=fun r hs ha=>by
   have hs:=(bu _ _).1 hs
   obtain⟨b1,b2,b3,b4⟩:=oO hb tx
   rw[hs]at b1 b2 b3
   change w.op=e.op at b1
   change w.n=e.n at b2
   change w.kids.length=(f.kids.map Pf.val).length at b3
   rw[List.length_map]at b3
   have si:f.kids.length=e.kids.length:=by
    unfold jW at ha;rw[Bool.and_eq_true,beq_iff_eq,List.length_map]at ha;exact ha.1
   refine⟨(bu _ _).2 ?_,IL af fun i x y hx hy=> ?_⟩
   ·rw[<- Tm.eta w,b1,b2]
    congr 1
    refine List.ext_getElem? fun j=> ?_
    rw[List.getElem?_map]
    cases hk:f.kids[j]? with
    |none=>
     have hj:=List.getElem?_eq_none_iff.1 hk
     rw[List.getElem?_eq_none (by omega),List.getElem?_eq_none (by omega)];rfl
    |some k=>
     have cD:=(List.getElem?_eq_some_iff.1 hk).1
     obtain⟨z,hz⟩:=ai (l:=w.kids) (k:=j) af
     rw[gt j k hk,Option.map_some,sc,hz]
     unfold iY
     rw[if_pos r]
     unfold cC
     rw[hz];rfl
   ·obtain⟨k,hk⟩:=ai (l:=f.kids) (k:=i) LM
    rw[gt i k hk]at hx
    injection hx with hx
    rw[<- hx]
    obtain⟨y',Nf,hp⟩:=oM ha hk
    rw[hy]at Nf
    injection Nf with Nf
    subst Nf
    exact(key i k hk _ _ hp).1
  by_cases h4:f.az=4
  ·rw[if_pos h4]at H|-
   simp only[Bool.and_eq_true]at H|-
   exact⟨H.1,parts (.inl h4) H.2.1 H.2.2⟩
  rw[if_neg h4]at H|-
  by_cases h5:f.az=5
  ·rw[if_pos h5]at H|-
   simp only[Bool.and_eq_true]at H|-
   exact⟨H.1,parts (.inr h5) H.2.1 H.2.2⟩
  rw[if_neg h5]at H|-
  have tz:∀ (j:Nat) (k:Pf),f.kids[j]? =some k->6<=f.az/\f.az<=10->j+1=f.kids.length->aX MF j=w:=fun j k hk r hj=>by
   rw[vp j k hk];unfold iY
   rw[if_neg (by omega),if_pos r,if_pos (by omega)]
  have dY:∀ (j:Nat) (k:Pf),f.kids[j]? =some k->6<=f.az/\f.az<=10->j+1<f.kids.length->iY f.az ((f.kids.length:Int) - 1) j w k.val=k.val:=fun j k hk r hj=>by
   unfold iY
   rw[if_neg (by omega),if_pos r,if_neg (by omega)]
  by_cases h6:f.az=6
  ·rw[if_pos h6]at H|-
   cases hr:p.rules[f.num.toNat]? with
   |none=>rw[hr]at H;simp at H
   |some ru=>
    rw[hr]at H
    simp only[Bool.and_eq_true,beq_iff_eq,bu,bne_iff_ne]at H|-
    obtain⟨H0,⟨⟨⟨⟨a1,a2⟩,a3⟩,a4⟩,a5⟩,⟨a6,a7⟩,a8⟩:=H
    obtain⟨k,hk⟩:=ai (l:=f.kids) (k:=e.kids.length) af
    refine⟨H0,⟨⟨⟨⟨a1,a2⟩,af⟩,tx⟩,tz _ k hk ⟨af,af⟩ af⟩,⟨?_, ?_⟩,pg _ _ _ a8⟩
    ·rw[vm _ fun j k hj hk=>dY j k hk ⟨by omega,by omega⟩ (by omega)];exact a6
    ·rw[<- List.map_take]at a7|-
     refine IL GX fun i x y hx hy=> ?_
     have hi:i<e.kids.length:=(List.getElem?_eq_some_iff.1 hy).1
     rw[List.getElem?_take_of_lt hi]at hx
     obtain⟨k',pv⟩:=ai (l:=f.kids) (k:=i) af
     rw[gt i k' pv]at hx
     injection hx with hx
     rw[<- hx]
     obtain⟨y',Nf,hp⟩:=oM a7 (show(f.kids.take e.kids.length)[i]? =some k' by rw[List.getElem?_take_of_lt hi];exact pv)
     rw[hy]at Nf
     injection Nf with Nf
     subst Nf
     exact(key i k' pv _ _ hp).1
  rw[if_neg h6]at H|-
  by_cases h7:f.az=7
  ·rw[if_pos h7]at H|-
   exact TH
  rw[if_neg h7]at H|-
  by_cases h8:f.az=8
  ·rw[if_pos h8]at H|-
   exact TH
  rw[if_neg h8]at H|-
  by_cases h9:f.az=9
  ·rw[if_pos h9]at H|-
   simp only[Bool.and_eq_true,beq_iff_eq,bu]at H|-
   obtain⟨H0,⟨⟨a1,a2⟩,a3⟩,a4⟩:=H
   obtain⟨k,hk⟩:=ai (l:=f.kids) (k:=0) af
   obtain⟨k1,x6⟩:=ai (l:=f.kids) (k:=1) af
   refine⟨H0,⟨⟨af,tz 1 k1 x6 ⟨af,af⟩ af⟩,pg _ _ _ a3⟩, ?_⟩
   rw[vp 0 k hk,dY 0 k hk ⟨by omega,by omega⟩ (by omega), <- vo 0 k hk]
   exact pg _ _ _ a4
  rw[if_neg h9]at H|-
  by_cases IA:f.az=15
  ·rw[if_pos IA]at H|-
   have lv:∀ (j:Nat) (k:Pf),iY f.az ((f.kids.length:Int) - 1) j w k.val=(if(f.kids.length:Int) - 1=2/\j=2 then w else if(f.kids.length:Int) - 1=1/\j=0 then .mk w.op w.n (w.kids.take (w.kids.length - 1))else if(f.kids.length:Int) - 1=1/\j=1 then cC w (w.kids.length - 1)else k.val):=fun j k=>by
    unfold iY
    rw[if_neg (by omega),if_neg (by omega),if_pos IA]
   rw[Bool.and_eq_true]at H
   obtain⟨Ha,Hb⟩:=H
   simp only[Bool.and_eq_true,Bool.or_eq_true,beq_iff_eq]at Ha
   obtain⟨⟨c1,c2⟩,⟨c3,c4⟩,c5⟩:=Ha
   obtain⟨k,hk⟩:=ai (l:=f.kids) (k:=0) af
   obtain⟨k1,x6⟩:=ai (l:=f.kids) (k:=1) af
   rw[Bool.and_eq_true]
   split at Hb
   ·rename_i cD
    simp only[Bool.and_eq_true,beq_iff_eq,bu]at Hb
    obtain⟨nm,hs⟩:=Hb
    rw[hs]at hb
    obtain⟨b1,b2,b3,b4⟩:=oO hb tx
    change w.op=5 at b1
    change w.n=(aX f.kids 0).n at b2
    change w.kids.length=((aX f.kids 0).kids++[aX f.kids 1]).length at b3
    rw[List.length_append,List.length_singleton]at b3
    have v0:aX MF 0= .mk w.op w.n (w.kids.take (w.kids.length - 1)):=by
     rw[vp 0 k hk,lv,if_neg (by omega),if_pos ⟨by omega,rfl⟩]
    have v1:aX MF 1=cC w (w.kids.length - 1):=by
     rw[vp 1 k1 x6,lv,if_neg (by omega),if_neg (by omega),if_pos ⟨by omega,rfl⟩]
    have ajq:(w.kids.take (w.kids.length - 1)).length=(aX f.kids 0).kids.length:=by rw[List.length_take];omega
    have ha:w.kids.take (w.kids.length - 1)++[cC w (w.kids.length - 1)]=w.kids:=by
     obtain⟨x,hx⟩:=ai (l:=w.kids) (k:=w.kids.length - 1) af
     have hkt:cC w (w.kids.length - 1)=x:=by unfold cC;rw[hx];rfl
     rw[hkt]
     have:=List.take_add_one (l:=w.kids) (i:=w.kids.length - 1)
     rw[hx,show w.kids.length - 1+1=w.kids.length by omega,List.take_length]at this
     exact this.symm
    refine⟨?_, ?_⟩
    ·simp only[Bool.and_eq_true,Bool.or_eq_true,beq_iff_eq]
     refine⟨⟨c1, .inl af⟩,⟨pg _ _ _ c3,pg _ _ _ c4⟩, ?_⟩
     rw[v0];exact b1
    ·rw[v0,v1]
     change (if((w.kids.take (w.kids.length - 1)).length:Int)+1<cX p.sig.bR w.n then _ else _)=true
     rw[ajq,b2,if_pos cD]
     simp only[Bool.and_eq_true,beq_iff_eq,bu]
     refine⟨af, ?_⟩
     change w= .mk 5 (aX f.kids 0).n (w.kids.take (w.kids.length - 1)++[cC w (w.kids.length - 1)])
     rw[ha, <- b1, <- b2,Tm.eta]
   ·rename_i cD
    simp only[Bool.and_eq_true,beq_iff_eq,bu]at Hb
    obtain⟨⟨Uz,hs⟩,hp⟩:=Hb
    obtain⟨k2,se⟩:=ai (l:=f.kids) (k:=2) af
    have v0:aX MF 0=aX f.kids 0:=by
     rw[vp 0 k hk,lv,if_neg (by omega),if_neg (by omega),if_neg (by omega),vo 0 k hk]
    have v1:aX MF 1=aX f.kids 1:=by
     rw[vp 1 k1 x6,lv,if_neg (by omega),if_neg (by omega),if_neg (by omega),vo 1 k1 x6]
    have v2:aX MF 2=w:=by
     rw[vp 2 k2 se,lv,if_pos ⟨by omega,rfl⟩]
    rw[v0,v1,v2,if_neg cD]
    simp only[Bool.and_eq_true,Bool.or_eq_true,beq_iff_eq,bu]
    exact⟨⟨⟨c1, .inr af⟩,⟨pg _ _ _ c3,pg _ _ _ c4⟩,c5⟩,⟨af,trivial⟩,pg _ _ _ hp⟩
  rw[if_neg IA]at H|-
  simp only[Bool.and_eq_true,beq_iff_eq]at H|-
  obtain⟨⟨c1,c2⟩,c3,c4⟩:=H
  obtain⟨k,hk⟩:=ai (l:=f.kids) (k:=0) af
  obtain⟨k1,x6⟩:=ai (l:=f.kids) (k:=1) af
  refine⟨⟨af, ?_⟩,pg _ _ _ c3,pg _ _ _ c4⟩
  by_cases MI:f.az=10
  ·rw[tz 1 k1 x6 ⟨by omega,by omega⟩ (by omega),vp 0 k hk,dY 0 k hk ⟨by omega,by omega⟩ (by omega), <- vo 0 k hk]
   unfold jX at c2|-
   rw[if_pos MI]at c2|-
   simp only[Bool.and_eq_true,bu]at c2|-
   exact⟨c2.1,c2.2.1,trivial⟩
  ·have own:∀ (j:Nat) (k:Pf),f.kids[j]? =some k->aX MF j=aX f.kids j:=fun j k hk=>by
    rw[vp j k hk,vo j k hk];unfold iY
    rw[if_neg (by omega),if_neg (fun c=> ?_),if_neg IA]
    have:=c.1;have:=c.2
    omega
   rw[own 0 k hk,own 1 k1 x6]
   have hl:f.val.kids=[]:=by
    unfold jX at c2
    rw[if_neg MI]at c2
    split at c2
    ·exact Xy
    split at c2
    ·exact Xy
    split at c2
    ·exact Xy
    split at c2
    ·simp only[Bool.and_eq_true,bu]at c2;rw[c2.2.2];unfold ns;split<;>rfl
    cases c2
   rw[Xc hl];exact c2
 ·rw[dR,Bool.and_eq_true,List.all_eq_true]
  refine⟨?_,fun x hx=> ?_⟩
  ·have:=Xb.1
   unfold ee at this|-
   simp only[Bool.and_eq_true]at this|-
   exact⟨⟨hw,this.1.2⟩,this.2⟩
  ·obtain⟨j,k,hk,rfl⟩:=xz (show x∈cG f.kids f.az ((f.kids.length:Int) - 1) w 0 from hx)
   rw[Nat.zero_add]
   exact(key j k hk _ _ (IJ H hk)).2
end
theorem Pf.jS (r:Int)(v:Tm)(n:Int)(b:List Tm)(ks:List Pf):(Pf.mk r v n b ks).d= .agg [.i r, .i v.op, .i v.n, .sl (v.kids.map Tm.d), .i n, .sl (b.map Tm.d), .sl (ks.map Pf.d)]:=by rw[Pf.F0];rfl
def Xd(f:Pf)(w:Tm):Nat->ab:=aM (aM (aM (aM (fun _=> .no) 0 (.row f.row)) 1 (.row w.row)) 2 (.row [.d (.i 0), .d (.i 0), .d (.i 0), .bO, .d (.i 0), .bO, .bO])) 9 (.sF 0 [w.d])
theorem IP{p:Pg}{f:Pf}{w:Tm}{env:List Tm}{e:Tm}(hb:pA w f.val=true)(tx:w.op≠16)(H:aR p f env e=true)(r4:f.az=4\/f.az=5):w.kids.length=f.kids.length:=by
 rw[b7,gM]at H
 have hs:f.val= .mk e.op e.n (f.kids.map Pf.val):=by
  rcases r4 with r|r<;>simp[r]at H<;>exact((bu _ _).1 H.2.1)
 rw[hs]at hb
 obtain⟨_,_,hl,_⟩:=oO hb tx
 change w.kids.length=(f.kids.map Pf.val).length at hl
 rwa [List.length_map]at hl
theorem K1{p:Pg}{f:Pf}{w:Tm}{env:List Tm}{e:Tm}(hb:pA w f.val=true)(tx:w.op≠16)(H:aR p f env e=true)(Li:f.az=15):(f.kids.length=2/\1<=w.kids.length)\/f.kids.length=3:=by
 rw[b7,gM]at H
 simp[Li]at H
 obtain⟨⟨⟨_,hlen⟩,_,h5⟩,hif⟩:=H
 split at hif
 ·obtain⟨nm,hs⟩:=hif
  have hs:=(bu _ _).1 hs
  rw[hs]at hb
  obtain⟨b1,b2,b3,b4⟩:=oO hb tx
  change w.kids.length=((aX f.kids 0).kids++[aX f.kids 1]).length at b3
  rw[List.length_append,List.length_singleton]at b3
  exact .inl ⟨nm,af⟩
 ·exact .inr hif.1.1
set_option maxHeartbeats 8000000 in
theorem SR{p:Pg}{s:aV}:∀f:Pf,f.fits->Cg f<=1000->fy s f=true->∀w env e,mu s w=true->pA w f.val=true->aR p f env e=true->aQ Tryz.prog 75 [f.d,w.d] (.ret [(jy f w).d]):=by
 refine Pf.cc fun f ih hf hz pl w env e hw hb H=> ?_
 have fu:=(Pf.aF f).1 hf
 have Xb:=pl
 rw[dR,Bool.and_eq_true,List.all_eq_true]at Xb
 have hnb:=Xb.1
 unfold ee at hnb
 simp only[Bool.and_eq_true]at hnb
 have hwz:w.sz<=80:=by
  simp only[mu,Bool.and_eq_true,decide_eq_true_eq,dD]at hw;omega
 have hbz:∀t∈f.binds,t.sz<=1000000:=fun t ht=>by
  have h1:=hnb.1.2
  simp only[lu,Bool.and_eq_true,decide_eq_true_eq,List.all_eq_true]at h1
  have h2:=h1.2 t ht
  simp only[mu,Bool.and_eq_true,decide_eq_true_eq,dD]at h2;omega
 have xS:f.binds.length<=20:=by
  have h1:=hnb.1.2
  simp only[lu,Bool.and_eq_true,decide_eq_true_eq]at h1;exact h1.1
 refine aQ.ay mix aiY ao ?_
 rw[c75,lK]
 by_cases tx:w.op=16
 ·have K4:(w.op==16)=true:=by simpa using tx
  rw[if_pos tx]
  simp+contextual (disch:=first|omega|simp only[go_sem,false_implies]) only[go_sem,wrap64,if_pos,K4,Pf.jS]
 ·have K4:(w.op==16)=false:=by simpa using tx
  rw[if_neg tx]
  refine cf K4 ?_
  refine aN (xd [w] ao qE) ?_
  refine cf K4 ?_
  refine aN (xd f.binds af hbz) ?_
  refine cf K4 ?_
  refine aw ag ?_
  refine cf K4 ?_
  have hB:Good (Xd f w) 30:=by unfold Xd;exact dE
  have uo:∀j,30<=j->Xd f w j= .no:=fun j hj=>by unfold Xd;(repeat(first|rfl|rw[ae]|rw[ak _ _ _ _ (by omega)]))
  refine aH (fun i:Nat=>⟨br [.aa, .aa, .ptr 0 0, .ptr 1 0, .ptr 2 0, .ptr 19 0, .d (.i ((f.kids.length:Int) - 1)), .aa, .aa, .aa, .aa, .aa, .aa, .aa, .aa, .aa, .aa, .aa, .aa, .aa, .aa, .aa, .aa, .aa, .aa, .aa, .aa, .aa, .aa, .aa, .aa, .aa, .aa, .aa, .d (.sl (f.kids.map Pf.d)), .d (.i f.kids.length), .d (.i i)],
   aM (aM (Xd f w) 19 (.row [.d (.i f.az), .d (.i w.op), .d (.i w.n), .d (.sl (w.kids.map Tm.d)), .d (.i f.num), .d (.sl (f.binds.map Tm.d)), .osl 30 0])) 30 (.arr 0 35 7 ((cG (f.kids.take i) f.az ((f.kids.length:Int) - 1) w 0).map Pf.d)),31⟩)
   (fun i=>i<=f.kids.length) (fun i=>f.kids.length - i) 0 (Nat.zero_le _) (tv (B:=Xd f w) (r:=19) (ds:=[.i f.az, .i w.op, .i w.n, .sl (w.kids.map Tm.d), .i f.num, .sl (f.binds.map Tm.d)]) _ hB uo af (fun j hj il=>by unfold Xd;exact mw) dn af ?_) ?_
  ·exact oP
  rintro k hk
  replace hk:k<=f.kids.length:=hk
  have eo:Cg f=1+kn f.kids:=xu f
  have ajr:∀l:List Pf,l.length<=kn l:=fun l=>by
   induction l with
   |nil=>simp
   |cons y l nh=>
    have:1<=Cg y:=Tm.wG y.sh
    have e:kn (y::l)=Cg y+kn l:=by unfold kn;simp
    rw[e,List.length_cons];omega
  have si:=ajr f.kids
  have e0:(cG (f.kids.take k) f.az ((f.kids.length:Int) - 1) w 0).length=k:=by rw[sd,List.length_take];omega
  unfold Xd at hB uo|-
  refine ik ?_
  refine aj (fun h2=> ?_) (fun h2=> ?_)
  ·simp at h2
   obtain⟨x,hx⟩:=ai h2
   have cp:=List.mem_of_getElem? hx
   have CS:=IG cp
   have xE:f.kids.take (k+1)=f.kids.take k++[x]:=by rw[List.take_add_one,hx];rfl
   have bw:=B7 pl hw hb tx H hx
   have dz:=ih x cp (fu.2.2.2.2 x cp) af (Xb.2 x cp) _ _ _ bw.1 bw.2 (IJ H hx)
   have ny:cG (f.kids.take (k+1)) f.az ((f.kids.length:Int) - 1) w 0=cG (f.kids.take k) f.az ((f.kids.length:Int) - 1) w 0++[jy x (iY f.az ((f.kids.length:Int) - 1) k w x.val)]:=by
    rw[xE,Av,List.length_take,Nat.min_eq_left hk,Nat.zero_add]
   generalize jy x (iY f.az ((f.kids.length:Int) - 1) k w x.val)=xl at dz ny
   generalize hV:iY f.az ((f.kids.length:Int) - 1) k w x.val=vv at dz
   have uN:=hV
   unfold iY at uN
   rcases(by omega:f.az=4\/f.az=5\/f.az=6\/f.az=7\/f.az=8\/f.az=9\/f.az=10\/f.az=15\/(f.az≠4/\f.az≠5/\f.az≠6/\f.az≠7/\f.az≠8/\f.az≠9/\f.az≠10/\f.az≠15))with r|r|r|r|r|r|r|r|r
   ·have c4:(f.az==4)=true:=by rw[r];decide
    rw[if_pos (by omega)]at uN
    have Yh:=IP hb tx H af
    obtain⟨y,hy⟩:=ai (l:=w.kids) (k:=k) af
    have hVy:vv=y:=by rw[<- uN];unfold cC;rw[hy];rfl
    subst hVy
    simp+contextual (disch:=first|omega|simp only[go_sem,false_implies]) only[go_sem,wrap64,if_pos,List.length_map,hx,e0,hy,c4]
    exact zw0
   ·have c4:(f.az==4)=false:=by rw[r];decide
    have c5:(f.az==5)=true:=by rw[r];decide
    rw[if_pos (by omega)]at uN
    have Yh:=IP hb tx H af
    obtain⟨y,hy⟩:=ai (l:=w.kids) (k:=k) af
    have hVy:vv=y:=by rw[<- uN];unfold cC;rw[hy];rfl
    subst hVy
    simp+contextual (disch:=first|omega|simp only[go_sem,false_implies]) only[go_sem,wrap64,if_pos,List.length_map,hx,e0,hy,c4,c5]
    exact zw0
   ·have c4:(f.az==4)=false:=by rw[r];decide
    have c5:(f.az==5)=false:=by rw[r];decide
    have c6:(f.az==6)=true:=by rw[r];decide
    rw[if_neg (by omega),if_pos (by omega)]at uN
    simp+contextual (disch:=first|omega|simp only[go_sem,false_implies]) only[go_sem,wrap64,if_pos,List.length_map,hx,e0,c4,c5,c6]
    refine aj (fun h5=> ?_) (fun h5=> ?_)
    ·simp at h5
     exact L7
    ·simp at h5
     exact L6
   ·have c4:(f.az==4)=false:=by rw[r];decide
    have c5:(f.az==5)=false:=by rw[r];decide
    have c6:(f.az==6)=false:=by rw[r];decide
    have c7:(f.az==7)=true:=by rw[r];decide
    rw[if_neg (by omega),if_pos (by omega)]at uN
    simp+contextual (disch:=first|omega|simp only[go_sem,false_implies]) only[go_sem,wrap64,if_pos,List.length_map,hx,e0,c4,c5,c6,c7]
    refine aj (fun h5=> ?_) (fun h5=> ?_)
    ·simp at h5
     exact L7
    ·simp at h5
     exact L6
   ·have c4:(f.az==4)=false:=by rw[r];decide
    have c5:(f.az==5)=false:=by rw[r];decide
    have c6:(f.az==6)=false:=by rw[r];decide
    have c7:(f.az==7)=false:=by rw[r];decide
    have c8:(f.az==8)=true:=by rw[r];decide
    rw[if_neg (by omega),if_pos (by omega)]at uN
    simp+contextual (disch:=first|omega|simp only[go_sem,false_implies]) only[go_sem,wrap64,if_pos,List.length_map,hx,e0,c4,c5,c6,c7,c8]
    refine aj (fun h5=> ?_) (fun h5=> ?_)
    ·simp at h5
     exact L7
    ·simp at h5
     exact L6
   ·have c4:(f.az==4)=false:=by rw[r];decide
    have c5:(f.az==5)=false:=by rw[r];decide
    have c6:(f.az==6)=false:=by rw[r];decide
    have c7:(f.az==7)=false:=by rw[r];decide
    have c8:(f.az==8)=false:=by rw[r];decide
    have c9:(f.az==9)=true:=by rw[r];decide
    rw[if_neg (by omega),if_pos (by omega)]at uN
    simp+contextual (disch:=first|omega|simp only[go_sem,false_implies]) only[go_sem,wrap64,if_pos,List.length_map,hx,e0,c4,c5,c6,c7,c8,c9]
    refine aj (fun h5=> ?_) (fun h5=> ?_)
    ·simp at h5
     exact L7
    ·simp at h5
     exact L6
   ·have c4:(f.az==4)=false:=by rw[r];decide
    have c5:(f.az==5)=false:=by rw[r];decide
    have c6:(f.az==6)=false:=by rw[r];decide
    have c7:(f.az==7)=false:=by rw[r];decide
    have c8:(f.az==8)=false:=by rw[r];decide
    have c9:(f.az==9)=false:=by rw[r];decide
    have Lo:(f.az==10)=true:=by rw[r];decide
    rw[if_neg (by omega),if_pos (by omega)]at uN
    simp+contextual (disch:=first|omega|simp only[go_sem,false_implies]) only[go_sem,wrap64,if_pos,List.length_map,hx,e0,c4,c5,c6,c7,c8,c9,Lo]
    refine aj (fun h5=> ?_) (fun h5=> ?_)
    ·simp at h5
     exact L7
    ·simp at h5
     exact L6
   ·have c4:(f.az==4)=false:=by rw[r];decide
    have c5:(f.az==5)=false:=by rw[r];decide
    have c6:(f.az==6)=false:=by rw[r];decide
    have c7:(f.az==7)=false:=by rw[r];decide
    have c8:(f.az==8)=false:=by rw[r];decide
    have c9:(f.az==9)=false:=by rw[r];decide
    have Lo:(f.az==10)=false:=by rw[r];decide
    have SZ:(f.az==15)=true:=by rw[r];decide
    rw[if_neg (by omega),if_neg (by omega),if_pos r]at uN
    have hwk:w.kids.length<=80:=by have:=rU w.kids;have:=Tm.gw w;omega
    rcases K1 hb tx H r with⟨nm,hw1⟩|Uz
    ·have d2:((f.kids.length:Int) - 1==2)=false:=by simp;omega
     have d1:((f.kids.length:Int) - 1==1)=true:=by simp;omega
     rcases(by omega:k=0\/k=1)with hk0|hk0
     ·have k0:((k:Int)==0)=true:=by simp;omega
      have k2:((k:Int)==2)=false:=by simp;omega
      rw[if_neg (by omega),if_pos (by omega)]at uN
      subst uN
      have nw:IntKind.i64.wrap ((w.kids.length:Int) - 1)=((w.kids.length - 1:Nat):Int):=by rw[wrap64 (by omega) (by omega)];omega
      have nl:w.kids.length - 1<=w.kids.length:=af
      rw[Tm.jS,List.map_take]at dz
      simp+contextual (disch:=first|omega|simp only[go_sem,false_implies]) only[go_sem,wrap64,if_pos,List.length_map,hx,e0,c4,c5,c6,c7,c8,c9,Lo,SZ,d1,d2,k0,k2,nw,nl]
      refine aw ag ?_
      refine iB hx e0 ?_
      exact zw0
     ·have k0:((k:Int)==0)=false:=by simp;omega
      have k1:((k:Int)==1)=true:=by simp;omega
      have k2:((k:Int)==2)=false:=by simp;omega
      rw[if_neg (by omega),if_neg (by omega),if_pos (by omega)]at uN
      obtain⟨y,hy⟩:=ai (l:=w.kids) (k:=w.kids.length - 1) af
      have hVy:vv=y:=by rw[<- uN];unfold cC;rw[hy];rfl
      subst hVy
      have nw:IntKind.i64.wrap ((w.kids.length:Int) - 1)=((w.kids.length - 1:Nat):Int):=by rw[wrap64 (by omega) (by omega)];omega
      simp+contextual (disch:=first|omega|simp only[go_sem,false_implies]) only[go_sem,wrap64,if_pos,List.length_map,hx,e0,c4,c5,c6,c7,c8,c9,Lo,SZ,d1,d2,k0,k1,k2,hy,nw]
      exact zw0
    ·have d2:((f.kids.length:Int) - 1==2)=true:=by simp;omega
     have d1:((f.kids.length:Int) - 1==1)=false:=by simp;omega
     by_cases se:k=2
     ·have k2:((k:Int)==2)=true:=by simp;omega
      rw[if_pos (by omega)]at uN
      exact ada
     ·have k2:((k:Int)==2)=false:=by simp;omega
      rw[if_neg (by omega),if_neg (by omega),if_neg (by omega)]at uN
      exact ada
   ·have c4:(f.az==4)=false:=by simp;omega
    have c5:(f.az==5)=false:=by simp;omega
    have c6:(f.az==6)=false:=by simp;omega
    have c7:(f.az==7)=false:=by simp;omega
    have c8:(f.az==8)=false:=by simp;omega
    have c9:(f.az==9)=false:=by simp;omega
    have Lo:(f.az==10)=false:=by simp;omega
    have SZ:(f.az==15)=false:=by simp;omega
    rw[if_neg (by omega),if_neg (by omega),if_neg (by omega)]at uN
    subst uN
    simp+contextual (disch:=first|omega|simp only[go_sem,false_implies]) only[go_sem,wrap64,if_pos,List.length_map,hx,e0,c4,c5,c6,c7,c8,c9,Lo,SZ]
    exact zw0
  ·simp at h2
   have si:k=f.kids.length:=af
   subst si
   rw[List.take_length]
   simp+contextual (disch:=first|omega|simp only[go_sem,false_implies]) only[go_sem,wrap64,if_pos,List.length_map,Pf.jS]
def Lj:D:= .agg [.i 0, .i 0, .i 0, .sl [], .i 0, .sl [], .sl []]
def SS(p:Pg)(env:List Tm)(e:Tm)(f:Pf)(w:Tm):D×Int:=
 if(yp p env e f&&mu p.sig w)=true then(if aR p f env e=true then(if pA w f.val=true then((jy f w).d,0)else(Lj,5))else(Lj,7))else(Lj,2)
theorem PU{p:Pg}{env:List Tm}{e:Tm}{f:Pf}(sm:eH p env e f)(h:yp p env e f=true):PJ p env e f:=by
 simp only[yp,Bool.and_eq_true]at h
 exact GK sm h.1.1 h.2 h.1.2
theorem PV{p:Pg}{env:List Tm}{e:Tm}{f:Pf}(sm:eH p env e f):xq p env e f=yp p env e f:=by
 rw[EW sm,yp]
 cases eX p<;>cases ej p.sig f<;>cases gU p.sig env e<;>rfl
theorem PW{p:Pg}{env:List Tm}{e:Tm}{f:Pf}(h:eH p env e f){w:Tm}(hw:w.fits):aQ Tryz.prog 38 [p.d, .sl (env.map Tm.d),e.d,f.d,w.d] (.ret [(SS p env e f w).1, .i (SS p env e f w).2]):=by
 have P9:=h.abw
 have hg:=EV p h.fin env af h.vf e h.abx f h.ff (by have:=h.fsz;omega)
 rw[PV h]at hg
 refine aQ.ay mix aiA ao ?_
 rw[c38,SS]
 refine aU ?_
 refine ah hg rfl ?_
 cases h1:yp p env e f with
 |false=>
  rw[Bool.false_and,if_neg Bool.false_ne_true,Lj]
  exact dM
 |true=>
 refine aU ?_
 refine ah (BH p.sig h.fin.sig w hw) rfl ?_
 cases h2:mu p.sig w with
 |false=>
  rw[Bool.and_false,if_neg Bool.false_ne_true,Lj]
  exact dM
 |true=>
 rw[Bool.and_true,if_pos rfl]
 have ok:=PU h h1
 refine aU ?_
 refine cW (As ok.prog ok.few f ok.pf env ok.ev e ok.exp _ _ dE _ _ fun o1 n1 g1 g2 g3=> ?_)
 have q2:o1 2= .row f.row:=by
  rw[g3 2 (by omega)]
  exact dn
 have q3:o1 3= .row w.row:=by
  rw[g3 3 (by omega)]
  exact dn
 have q4:o1 4= .row [.d (.i 0), .d (.i 0), .d (.i 0), .bO, .d (.i 0), .bO, .bO]:=by
  rw[g3 4 (by omega)]
  exact dn
 have y1:∀k,2≠n1+k:=fun k=>af
 have y2:∀k,3≠n1+k:=fun k=>af
 have y3:∀k,4≠n1+k:=fun k=>af
 have Me:=((Pf.aF f).1 h.ff).1
 have hpv:mu p.sig f.val=true:=by
  have:=ok.pf.plain
  rw[dR,ee]at this
  simp only[Bool.and_eq_true]at this
  exact this.1.1.1
 cases h3:aR p f env e with
 |false=>
  rw[if_neg Bool.false_ne_true,Lj]
  exact Xg q2 q3 q4 y1 y2 y3
 |true=>
 rw[if_pos rfl]
 refine Xf q2 q3 q4 y1 y2 y3 ?_
 refine ah (Ea w hw (PN h2) f.val Me (PN hpv)) rfl ?_
 cases h4:pA w f.val with
 |false=>
  rw[if_neg Bool.false_ne_true,Lj]
  exact Xg q2 q3 q4 y1 y2 y3
 |true=>
 rw[if_pos rfl]
 refine Xf q2 q3 q4 y1 y2 y3 ?_
 refine aT (SR f h.ff ok.pf.size ok.pf.plain w env e h2 h4 h3) ?_
 exact Xg q2 q3 q4 y1 y2 y3
end Go.Proofs.YtonbelhklnmjnaaGreat
section
namespace Go.Proofs.YtonbelhklnmjnaaGreat
open Go
def abB:Nat->Bool:=fun g=> !([206,205,245,246,231,257,258,56,96,97,129,113,164,125,165,207,208,209,210,211,212,214,215,248,251,252,260,92,116,94]:List Nat).contains g
def xP:D:= .agg [.sl [.agg [.str [70,97,108,115,101], .i 0], .agg [.str [84,114,117,101], .i 0], .agg [.str [90], .i 0], .agg [.str [83], .i 1], .agg [.str [78,105,108], .i 0], .agg [.str [67,111,110,115], .i 2]], .sl [.agg [.str [97,100,100], .i 2], .agg [.str [111,114], .i 2], .agg [.str [99,111,105,110], .i 0], .agg [.str [108,101,110], .i 1]], .sl [.agg [.i 0, .sl [.agg [.i 3, .i 2, .sl []], .agg [.i 1, .i 0, .sl []]], .i 1, .i 0, .sl [], .i 1], .agg [.i 0, .sl [.agg [.i 3, .i 3, .sl [.agg [.i 1, .i 0, .sl []]]], .agg [.i 1, .i 1, .sl []]], .i 3, .i 3, .sl [.agg [.i 4, .i 0, .sl [.agg [.i 1, .i 0, .sl []], .agg [.i 1, .i 1, .sl []]]]], .i 2], .agg [.i 1, .sl [.agg [.i 3, .i 1, .sl []], .agg [.i 1, .i 0, .sl []]], .i 3, .i 1, .sl [], .i 1], .agg [.i 1, .sl [.agg [.i 1, .i 0, .sl []], .agg [.i 3, .i 1, .sl []]], .i 3, .i 1, .sl [], .i 1], .agg [.i 1, .sl [.agg [.i 3, .i 0, .sl []], .agg [.i 3, .i 0, .sl []]], .i 3, .i 0, .sl [], .i 0], .agg [.i 2, .sl [], .i 3, .i 2, .sl [], .i 0], .agg [.i 2, .sl [], .i 3, .i 3, .sl [.agg [.i 3, .i 2, .sl []]], .i 0], .agg [.i 3, .sl [.agg [.i 3, .i 5, .sl [.agg [.i 1, .i 0, .sl []], .agg [.i 1, .i 1, .sl []]]]], .i 3, .i 3, .sl [.agg [.i 4, .i 3, .sl [.agg [.i 1, .i 1, .sl []]]]], .i 2], .agg [.i 3, .sl [.agg [.i 1, .i 0, .sl []]], .i 4, .i 0, .sl [.agg [.i 1, .i 1, .sl []], .agg [.i 1, .i 1, .sl []]], .i 2]]]
def x5p:D:= .agg [.i 6, .i 3, .i 3, .sl [.agg [.i 1, .i 7, .sl []]], .i 1, .sl [.agg [.i 3, .i 2, .sl []], .agg [.i 1, .i 7, .sl []]], .sl [.agg [.i 4, .i 3, .i 3, .sl [.agg [.i 3, .i 2, .sl []]], .i 0, .sl [], .sl [.agg [.i 4, .i 3, .i 2, .sl [], .i 0, .sl [], .sl []]]], .agg [.i 2, .i 1, .i 7, .sl [], .i 0, .sl [], .sl []], .agg [.i 4, .i 3, .i 3, .sl [.agg [.i 1, .i 7, .sl []]], .i 0, .sl [], .sl [.agg [.i 6, .i 1, .i 7, .sl [], .i 0, .sl [.agg [.i 1, .i 7, .sl []]], .sl [.agg [.i 2, .i 3, .i 2, .sl [], .i 0, .sl [], .sl []], .agg [.i 2, .i 1, .i 7, .sl [], .i 0, .sl [], .sl []], .agg [.i 2, .i 1, .i 7, .sl [], .i 0, .sl [], .sl []]]]]]]]
def x5e:D:= .agg [.i 4, .i 0, .sl [.agg [.i 3, .i 3, .sl [.agg [.i 3, .i 2, .sl []]]], .agg [.i 1, .i 0, .sl []]]]
def x6e:D:= .agg [.i 4, .i 0, .sl [.agg [.i 4, .i 2, .sl []], .agg [.i 4, .i 2, .sl []]]]
def x6p:D:= .agg [.i 6, .i 3, .i 3, .sl [.agg [.i 3, .i 2, .sl []]], .i 0, .sl [.agg [.i 3, .i 3, .sl [.agg [.i 3, .i 2, .sl []]]]], .sl [.agg [.i 6, .i 3, .i 2, .sl [], .i 5, .sl [], .sl [.agg [.i 4, .i 3, .i 2, .sl [], .i 0, .sl [], .sl []]]], .agg [.i 6, .i 3, .i 3, .sl [.agg [.i 3, .i 2, .sl []]], .i 6, .sl [], .sl [.agg [.i 4, .i 3, .i 3, .sl [.agg [.i 3, .i 2, .sl []]], .i 0, .sl [], .sl [.agg [.i 4, .i 3, .i 2, .sl [], .i 0, .sl [], .sl []]]]]], .agg [.i 2, .i 3, .i 3, .sl [.agg [.i 3, .i 2, .sl []]], .i 0, .sl [], .sl []]]]
def x6q:D:= .agg [.i 6, .i 3, .i 3, .sl [.agg [.i 3, .i 2, .sl []]], .i 0, .sl [.agg [.i 3, .i 3, .sl [.agg [.i 3, .i 2, .sl []]]]], .sl [.agg [.i 6, .i 3, .i 2, .sl [], .i 5, .sl [], .sl [.agg [.i 4, .i 3, .i 2, .sl [], .i 0, .sl [], .sl []]]], .agg [.i 6, .i 3, .i 2, .sl [], .i 5, .sl [], .sl [.agg [.i 4, .i 3, .i 2, .sl [], .i 0, .sl [], .sl []]]], .agg [.i 2, .i 3, .i 3, .sl [.agg [.i 3, .i 2, .sl []]], .i 0, .sl [], .sl []]]]
def xv7:D:= .sl [.agg [.i 1, .i 7, .sl []]]
def ahf:rE Tryz.prog:=rE.of abB [] (fun _ h=>by cases h)
theorem abC:ya Tryz.prog cl ahf 5000 42 []=some (.ret [xP]):=ag
theorem ajs:aQ Tryz.prog 42 [] (.ret [xP]):=aQ.oq mix ou abC
theorem abD:ya Tryz.prog cl ahf 5000 54 [xP]=some (.ret [.i 0]):=ag
theorem ahg:aQ Tryz.prog 54 [xP] (.ret [.i 0]):=aQ.oq mix ou abD
def SU:rE Tryz.prog:=rE.of abB [(54,[xP], .ret [.i 0])] (fun x h=>by
 cases h with
 |head=>exact ahg
 |tail _ h=>cases h)
end Go.Proofs.YtonbelhklnmjnaaGreat
end
section
namespace Go.Proofs.YtonbelhklnmjnaaGreat
open Go
theorem SV:ya Tryz.prog cl SU 5000 10 [xP,xv7,x5e,x5p]=some (.ret [.agg [.i 3, .i 3, .sl [.agg [.i 1, .i 7, .sl []]]], .i 0]):=ag
theorem ahh:aQ Tryz.prog 10 [xP,xv7,x5e,x5p] (.ret [.agg [.i 3, .i 3, .sl [.agg [.i 1, .i 7, .sl []]]], .i 0]):=aQ.oq mix ou SV
end Go.Proofs.YtonbelhklnmjnaaGreat
end
section
namespace Go.Proofs.YtonbelhklnmjnaaGreat
open Go
theorem SW:ya Tryz.prog cl SU 5000 10 [xP, .sl [],x6e,x6p]=some (.ret [.agg [.i 3, .i 3, .sl [.agg [.i 3, .i 2, .sl []]]], .i 0]):=ag
theorem ahi:aQ Tryz.prog 10 [xP, .sl [],x6e,x6p] (.ret [.agg [.i 3, .i 3, .sl [.agg [.i 3, .i 2, .sl []]]], .i 0]):=aQ.oq mix ou SW
end Go.Proofs.YtonbelhklnmjnaaGreat
end
section
namespace Go.Proofs.YtonbelhklnmjnaaGreat
open Go
theorem SX:ya Tryz.prog cl SU 5000 10 [xP, .sl [],x6e,x6q]=some (.ret [.agg [.i 0, .i 0, .sl []], .i 7]):=ag
theorem ahj:aQ Tryz.prog 10 [xP, .sl [],x6e,x6q] (.ret [.agg [.i 0, .i 0, .sl []], .i 7]):=aQ.oq mix ou SX
end Go.Proofs.YtonbelhklnmjnaaGreat
end
section
namespace Go.Proofs.YtonbelhklnmjnaaGreat
open Go
theorem SY:ya Tryz.prog cl SU 5000 11 [xP,x5p]=some (.ret [.sl [.i 1, .i 0], .i 9, .i 0]):=ag
theorem ahk:aQ Tryz.prog 11 [xP,x5p] (.ret [.sl [.i 1, .i 0], .i 9, .i 0]):=aQ.oq mix ou SY
end Go.Proofs.YtonbelhklnmjnaaGreat
end
section
namespace Go.Proofs.YtonbelhklnmjnaaGreat
open Go
def ahl:rE Tryz.prog:=rE.of abB [(54,[xP], .ret [.i 0]),(42,[], .ret [xP]),(10,[xP,xv7,x5e,x5p], .ret [.agg [.i 3, .i 3, .sl [.agg [.i 1, .i 7, .sl []]]], .i 0]),(10,[xP, .sl [],x6e,x6p], .ret [.agg [.i 3, .i 3, .sl [.agg [.i 3, .i 2, .sl []]]], .i 0]),(10,[xP, .sl [],x6e,x6q], .ret [.agg [.i 0, .i 0, .sl []], .i 7]),(11,[xP,x5p], .ret [.sl [.i 1, .i 0], .i 9, .i 0])] (fun x h=>by
 simp only[List.mem_cons,List.not_mem_nil,or_false]at h
 rcases h with rfl|rfl|rfl|rfl|rfl|rfl
 ·exact ahg
 ·exact ajs
 ·exact ahh
 ·exact ahi
 ·exact ahj
 ·exact ahk
 )
theorem GM:ya Tryz.prog cl ahl 5000 9 []=some (.ret [.bool true]):=ag
theorem abE:aQ Tryz.prog 9 [] (.ret [.bool true]):=aQ.oq mix ou GM
end Go.Proofs.YtonbelhklnmjnaaGreat
end
namespace Go.Proofs.YtonbelhklnmjnaaGreat
theorem GN:ya Tryz.prog cl ahl 5000 32 [Lj]=some (.ret [.bool true]):=ag
theorem Mc:aQ Tryz.prog 32 [.agg [.i 0, .i 0, .i 0, .sl [], .i 0, .sl [], .sl []]] (.ret [.bool true]):=aQ.oq mix ou GN
theorem Aw{w:Tm}(hw:w.fits)(i:Nat):(cC w i).fits:=by
 unfold cC
 cases h:w.kids[i]? with
 |none=>simp[ec,Tm.fits,Tm.j7]
 |some x=>exact((Tm.aF _).1 hw).2 x (List.mem_of_getElem? h)
theorem K5{r last:Int}{i:Nat}{w v:Tm}(hw:w.fits)(hv:v.fits):(iY r last i w v).fits:=by
 unfold iY
 have ht:(Tm.mk w.op w.n (w.kids.take (w.kids.length - 1))).fits:=(Tm.aF _).2 ⟨by
  have:=((Tm.aF _).1 hw).1
  change (w.kids.take (w.kids.length - 1)).length<=_
  rw[List.length_take];omega,fun k hk=>((Tm.aF _).1 hw).2 k (List.mem_of_mem_take hk)⟩
 split
 ·exact Aw hw _
 split
 ·split<;>assumption
 split
 ·split
  ·exact hw
  split
  ·exact ht
  split
  ·exact Aw hw _
  exact hv
 exact hv
theorem PX:∀f:Pf,f.fits->∀w:Tm,w.fits->(jy f w).fits:=by
 refine Pf.cc fun f ih hf w hw=> ?_
 have fu:=(Pf.aF f).1 hf
 rw[lK]
 split
 ·exact(Pf.aF _).2 ⟨hw,by simp[Pf.binds],by simp[Pf.binds],by simp[Pf.kids],by simp[Pf.kids]⟩
 ·refine(Pf.aF _).2 ⟨hw,fu.2.1,fu.2.2.1, ?_,fun x hx=> ?_⟩
  ·change (cG f.kids f.az ((f.kids.length:Int) - 1) w 0).length<=_
   rw[sd];exact fu.2.2.2.1
  ·obtain⟨j,k,hk,rfl⟩:=xz (show x∈cG f.kids f.az ((f.kids.length:Int) - 1) w 0 from hx)
   have hm:=List.mem_of_getElem? hk
   have hkf:=fu.2.2.2.2 k hm
   exact ih k hm hkf _ (K5 hw ((Pf.aF k).1 hkf).1)
theorem GO{s:aV}:∀f:Pf,fy s f=true->pP f=true:=by
 refine Pf.cc fun f ih h=> ?_
 rw[dR,Bool.and_eq_true,List.all_eq_true]at h
 rw[xa,Bool.and_eq_true,List.all_eq_true,Bool.and_eq_true]
 have h1:=h.1
 unfold ee at h1
 simp only[Bool.and_eq_true]at h1
 refine⟨⟨EY h1.1.1, ?_⟩,fun k hk=>ih k hk (h.2 k hk)⟩
 have h2:=h1.1.2
 simp only[lu,gr,Bool.and_eq_true,decide_eq_true_eq,List.all_eq_true]at h2|-
 exact⟨af,fun t ht=>EY (h2.2 t ht)⟩
theorem K6{p:Pg}{env:List Tm}{e:Tm}{f:Pf}{w:Tm}(sm:eH p env e f)(hw:w.fits)(h1:fy p.sig (jy f w)=true)(h2:ej p.sig f=true):eH p env e (jy f w)/\ej p.sig (jy f w)=true:=by
 have a:=abA f w
 have b:=SM f w
 unfold Cg at a
 have hs:=sm.fs
 simp only[ej,jM,Bool.and_eq_true,decide_eq_true_eq,dD,Gv]at h2 hs|-
 refine⟨⟨sm.pf,sm.ps,sm.vf,sm.vs,sm.ef,sm.es,PX f sm.ff w hw, ?_⟩,af,h1⟩
 simp only[jM,Bool.and_eq_true,decide_eq_true_eq,dD,Gv]
 exact⟨af,GO _ h1⟩
set_option maxHeartbeats 2000000 in
theorem yq(hkn:aQ Tryz.prog 9 [] (.ret [.bool true]))(p:Pg)(env:List Tm)(e:Tm)(f:Pf)(w:Tm)(hp:p.Fits)(hl:env.length<=9223372036854775807/\∀t∈env,t.fits)(he:e.fits)(hf:f.fits)(hw:w.fits):aQ Tryz.prog 7 [p.d, .sl (env.map Tm.d),e.d,f.d,w.d] (.ret [.bool true]):=by
 refine aQ.ay mix fn7 ao ?_
 rw[c7]
 refine aU ?_
 refine ah (SL p env e f hp hl.1 hl.2 he hf) rfl ?_
 cases h0:xw p env e f with
 |false=>
  exact ade
 |true=>
 have sm:=ahe hp hl.2 he hf h0
 refine aU ?_
 refine ah (rL w hw) rfl ?_
 cases h1:iS w with
 |false=>
  exact ade
 |true=>
 have lw:=PW sm hw
 rw[SS]at lw
 have hz:=sm.fsz
 refine aU ?_
 cases h2:yp p env e f with
 |false=>
  rw[h2,Bool.false_and,if_neg Bool.false_ne_true,Lj]at lw
  refine aT lw ?_
  refine aU ?_
  refine ah (oL sm) rfl ?_
  refine cf h2 ?_
  exact QI
 |true=>
 cases h3:mu p.sig w with
 |false=>
  rw[h3,Bool.and_false,if_neg Bool.false_ne_true,Lj]at lw
  refine aT lw ?_
  refine aU ?_
  refine ah (oL sm) rfl ?_
  refine cf h2 ?_
  refine ah (te p.sig sm.fin.sig w hw) rfl ?_
  refine cf h3 ?_
  exact QI
 |true=>
 have ok:=PU sm h2
 rw[h2,h3,Bool.and_true,if_pos rfl]at lw
 cases h4:aR p f env e with
 |false=>
  rw[h4,if_neg Bool.false_ne_true,Lj]at lw
  refine aT lw ?_
  refine aU ?_
  refine ah (oL sm) rfl ?_
  refine cf h2 ?_
  refine ah (te p.sig sm.fin.sig w hw) rfl ?_
  refine cf h3 ?_
  refine ah (pn ok) rfl ?_
  refine cf h4 ?_
  exact QI
 |true=>
 have Me:=((Pf.aF f).1 hf).1
 rw[h4,if_pos rfl]at lw
 cases h5:pA w f.val with
 |false=>
  rw[h5,if_neg Bool.false_ne_true,Lj]at lw
  refine aT lw ?_
  refine aU ?_
  refine ah (oL sm) rfl ?_
  refine cf h2 ?_
  refine ah (te p.sig sm.fin.sig w hw) rfl ?_
  refine cf h3 ?_
  refine ah (pn ok) rfl ?_
  refine cf h4 ?_
  refine ah (wL w hw f.val Me) rfl ?_
  refine cf h5 ?_
  exact QI
 |true=>
 rw[h5,if_pos rfl]at lw
 have g:=h2
 simp only[yp,Bool.and_eq_true]at g
 obtain⟨⟨g1,g2⟩,g3⟩:=g
 obtain⟨lp,lpl⟩:=SQ f ok.pf.plain w env e h3 h5 h4
 obtain⟨sx,px⟩:=K6 sm hw lpl g3
 have okx:=GK sx g1 px g2
 have p8:=K0 f w
 have hc0:=qw f
 have hzx:=sx.fsz
 have ax:=PK sx
 have uw:(eX p&&ej p.sig (jy f w)&&gU p.sig env e)=true:=by rw[g1,g2,px];rfl
 rw[SJ,uw,if_pos rfl,lp,if_pos rfl,sc]at ax
 have nM:(jy f w).val=w:=sc f w
 refine aT lw ?_
 refine aU ?_
 refine ah (oL sm) rfl ?_
 refine cf h2 ?_
 refine ah (te p.sig sm.fin.sig w hw) rfl ?_
 refine cf h3 ?_
 refine ah (pn ok) rfl ?_
 refine cf h4 ?_
 refine ah (wL w hw f.val Me) rfl ?_
 refine cf h5 ?_
 generalize jy f w=x at*
 refine aq (Aj x sx.ff) rfl ?_
 refine cf sx.fs ?_
 refine aq (EG p sm.fin.sig x sx.ff) rfl ?_
 have hsx:aJ x.val w=true:=by rw[nM];exact qp w
 refine cf px ?_
 refine aq (eP x.val ((Pf.aF x).1 sx.ff).1 w hw) rfl ?_
 refine cf hsx ?_
 refine aN (EX x sx.ff af) ?_
 refine ik ?_
 refine aN (EX f hf af) ?_
 have fR:decide (((eg f).length:Int)<((eg x).length:Int))=false:=by simp;omega
 simp+contextual (disch:=first|omega|simp only[go_sem,false_implies]) only[go_sem,wrap64,if_pos,List.length_map,fR]
 refine aq (pn okx) rfl ?_
 refine acs lp ?_
 refine aw (aD rfl) ?_
 refine acs lp ?_
 refine aT ax ?_
 refine aU ?_
 refine ah (rL w hw) rfl ?_
 refine cf h1 ?_
 refine ah (eP w hw w hw) rfl ?_
 simp+contextual (disch:=first|omega|simp only[go_sem,false_implies]) only[go_sem,wrap64,if_pos,qp w]
 refine ah hkn rfl ?_
 exact dM
end Go.Proofs.YtonbelhklnmjnaaGreat
section
namespace Go.Proofs.YtonbelhklnmjnaaGreat
open Go.ChangeShapes Go.WideShapes Go.RowKit
theorem PY:∀ (n:Nat) (x:D),SizeOf.sizeOf x<=n->D.jY Tryz.prog x 35->∃t:Pf,x=t.d/\t.fits:=by
 intro n
 induction n with
 |zero=>intro x hx _;cases x<;>simp at hx
 |succ n ih=>
  intro x hx h
  obtain⟨cs,rfl,hh⟩:=oH ag (ls:=[32,29,3,28,3,28,33]) ag h
  clear h;have h:=hh;clear hh
  obtain⟨a,cs,rfl,ha,h⟩:=bA h
  obtain⟨b,cs,rfl,hb,h⟩:=bA h
  obtain⟨c,cs,rfl,hc,h⟩:=bA h
  obtain⟨d,cs,rfl,hd,h⟩:=bA h
  obtain⟨e,cs,rfl,he,h⟩:=bA h
  obtain⟨f,cs,rfl,hf,h⟩:=bA h
  obtain⟨g,cs,rfl,hg,h⟩:=bA h
  have:=kB h;subst this
  obtain⟨r,hr,_⟩:=wZ undT_32 ha
  subst hr
  obtain⟨o,rfl⟩:=abd hb
  obtain⟨m,rfl⟩:=w7 hc
  obtain⟨vk,rfl,v1,v2⟩:=EB hd
  obtain⟨u,rfl⟩:=w7 he
  obtain⟨bs,rfl,b1,b2⟩:=EB hf
  obtain⟨es,rfl,h1,h2⟩:=pj (e:=35) ag hg
  have E1:SizeOf.sizeOf es<=n:=by simp at hx;omega
  have:∀es:List D,SizeOf.sizeOf es<=n->D.Gy Tryz.prog es 35->∃l:List Pf,es=l.map Pf.d/\∀k∈l,k.fits:=by
   intro es
   induction es with
   |nil=>intro _ _;exact⟨[],rfl,fun _ h=>by cases h⟩
   |cons y es ihe=>
    exact TV
  obtain⟨l,rfl,hl⟩:=this es E1 h2
  refine⟨.mk r (.mk o m vk) u bs l,by rw[Pf.F0];rfl, ?_⟩
  rw[Pf.aF]
  exact⟨(Tm.aF _).2 ⟨v1,v2⟩,b1,b2,by have:=mn;simp at h1;simp only[Pf.kids];omega,hl⟩
theorem ajt{x:D}(h:D.jY Tryz.prog x 35):∃t:Pf,x=t.d/\t.fits:=PY _ x (Nat.le_refl _) h
end Go.Proofs.YtonbelhklnmjnaaGreat
end
section
namespace Go.Proofs.YtonbelhklnmjnaaGreat
open Go.ChangeShapes Go.WideShapes Go.RowKit
set_option maxRecDepth 100000 in
theorem qx(os:Os)(started:os.Started)(H:Type)(enc:TypeId×Value->H):
 ReturnsInHanded {} Tryz.checked os 7 .any (Rows.logicLowersSpec.pre6 enc Tryz.prog Tryz.f7 Rows.logicLowersRow.domain false) (Rows.logicLowersSpec.post enc Tryz.prog Tryz.f7 Rows.logicLowersRow.apart Rows.logicLowersRow.fresh Rows.logicLowersRow.handsOn Rows.logicLowersRow.again):=by
 refine returnsInHanded_of_change (C:=Tryz.checked) ag started ag Tryz.func7
  (ChangeSpec.witness6 (enc:=enc) (C:=Tryz.checked) false ⟨#[],#[.agg #[.slice none 0 0, .slice none 0 0, .slice none 0 0], .slice none 0 0, .agg #[.int .i64 0, .int .i64 0, .slice none 0 0], .agg #[.int .i64 0, .int .i64 0, .int .i64 0, .slice none 0 0, .int .i64 0, .slice none 0 0, .slice none 0 0], .agg #[.int .i64 0, .int .i64 0, .slice none 0 0]],[]⟩ 8 ag ag ag ag) ?_
 intro W base args ds gs before gG hW _ _
 refine BU (T:=[27,24,22,104,9,3,25,106,28,31,29,35,33,32]) (tb:=4) ag ag rfl (fun ds h=>by match ds,h with|[_,_,_,_,_],_=>rfl) ag (by intro t ht;rw[Tryz.params7]at ht;simp at ht;rcases ht with rfl|rfl|rfl|rfl|rfl<;>simp) ag (by intro t ht;rw[Tryz.params7]at ht;simp at ht;rcases ht with rfl|rfl|rfl|rfl|rfl<;>exact⟨ag,of_decide_eq_true ag⟩)
  (fun xs hx=> ?_) base args ds gs before gG hW
 rw[Tryz.params7]at hx
 obtain⟨x0,xs,rfl,vl,hx⟩:=bA hx
 obtain⟨x1,xs,rfl,hx1,hx⟩:=bA hx
 obtain⟨x2,xs,rfl,hx2,hx⟩:=bA hx
 obtain⟨x3,xs,rfl,hx3,hx⟩:=bA hx
 obtain⟨x4,xs,rfl,hx4,hx⟩:=bA hx
 have:=kB hx;subst this
 obtain⟨p0,rfl,hp0⟩:=ajl vl
 obtain⟨e1,rfl,he1⟩:=EB hx1
 obtain⟨t2,rfl,ht2⟩:=abe hx2
 obtain⟨f3,rfl,hf3⟩:=ajt hx3
 obtain⟨t4,rfl,ht4⟩:=abe hx4
 exact yq abE p0 e1 t2 f3 t4 hp0 he1 ht2 hf3 ht4
theorem logicLowers_holds:Rows.LogicLowersSaid:=
 OpenClaim.holds_of_wide 7 Tryz.f7 rfl rfl rfl rfl rfl rfl rfl ⟨rfl,rfl,rfl,rfl,rfl⟩ rfl rfl rfl rfl rfl ag Tryz.func7 ag
  (of_decide_eq_true ag) (by unfold Func.isWrapper;first|(rw[if_pos (by decide+kernel)];kernel_rfl)|(rw[if_neg (by decide+kernel)];exact⟨rfl,rfl⟩))
  (fun os started H enc _=>qx os started H enc)
end Go.Proofs.YtonbelhklnmjnaaGreat
end
