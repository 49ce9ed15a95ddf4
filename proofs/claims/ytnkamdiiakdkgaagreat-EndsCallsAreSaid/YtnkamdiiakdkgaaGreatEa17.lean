/-
  A PART OF THE PROOF. Conditions: none.
-/
import Derived.Shelf.Sort.Plain
import Derived.Shelf.Slices.In.SortNone
import Derived.Shelf.Slices.CompactI
import Derived.Test.YtnkamdiiakdkgaaGreatEa16
set_option linter.unusedSimpArgs false
set_option linter.unusedVariables false
namespace Go.Proofs.YtnkamdiiakdkgaaGreat
def rA(l:List (Tm×Int)):List Int:=(l.filter fun x=>x.1.op==1).map fun x=>x.1.n
theorem tH(a b:List (Tm×Int)):rA (a++b)=rA a++rA b:=by simp[rA]
theorem tI(x:Tm×Int)(l:List (Tm×Int)):rA (x::l)=(if x.1.op=1 then x.1.n::rA l else rA l):=by
 unfold rA
 by_cases h:x.1.op=1
 ·simp[h]
 ·simp[h]
theorem xI{l:List Tm}{d v:Int}:v∈rA (l.flatMap fun k=>pre k d)↔∃k∈l,v∈rA (pre k d):=by
 induction l with
 |nil=>simp[rA]
 |cons k l ih=>simp[tH,ih]
theorem DS{v op n:Int}(h:op≠8):∀ (l:List Tm) (i:Nat),oX v op n l i=l.any (Cj v)
 |[],i=>rfl
 |k::l,i=>by
  have:(op==8)=false:=by simpa using h
  simp[oX,DS h l,this]
theorem SG:∀ (t:Tm) (d:Int),(∀x∈pre t d,x.1.op≠8)->(∀x∈pre t d,x.1.op=1->x.1.kids=[])->∀v,Cj v t=true↔v∈rA (pre t d):=by
 refine Tm.dy fun t ih d h8 h1 v=> ?_
 have hp:=iX t d
 have ht8:t.op≠8:=h8 (t,d) (by rw[hp];simp)
 have jk:∀k∈t.kids,∀x∈pre k (d+1),x∈pre t d:=fun k hk x hx=>by rw[hp];exact List.mem_cons_of_mem _ (List.mem_flatMap.2 ⟨k,hk,hx⟩)
 rw[hp,tI,tC]
 by_cases h:t.op=1
 ·have hk:t.kids=[]:=h1 (t,d) (by rw[hp];simp) h
  simp only[if_pos h,hk,List.flatMap_nil]
  show(t.n==v)=true↔v∈[t.n]
  rw[beq_iff_eq,List.mem_singleton];exact eq_comm
 ·simp only[if_neg h]
  rw[DS ht8,xI,List.any_eq_true]
  constructor
  ·rintro⟨k,hk,hv⟩
   exact⟨k,hk,(ih k hk (d+1) (fun x hx=>h8 x (jk k hk x hx)) (fun x hx=>h1 x (jk k hk x hx)) v).1 hv⟩
  ·rintro⟨k,hk,hv⟩
   exact⟨k,hk,(ih k hk (d+1) (fun x hx=>h8 x (jk k hk x hx)) (fun x hx=>h1 x (jk k hk x hx)) v).2 hv⟩
theorem o7{s:bE}{t:Tm}(h:eG s t=true):∀x∈pre t 1,bd s x.1=true:=by
 simp only[eG,Bool.and_eq_true,tx s t 1,List.all_eq_true]at h
 exact h.2
theorem Ay{s:bE}{t:Tm}(h:bd s t=true)(h1:t.op=1):t.kids=[]:=by
 simp[bd,h1]at h
 exact h.1
theorem tJ:∀ (L:List (Tm×Int)) (l:List Int) (b:Bool),(aq (vL pJ kj) (l,b) L).2=true↔(∀x∈L,kW x.1=true)/\(rA L).Nodup/\∀v∈rA L,v∉l
 |[],l,b=>by simp[aq,rA]
 |x::L,l,b=>by
  have e1:∀c,rz l x=c->vL pJ kj (l,b) x=((if c=true then l else if x.1.op=1 then xE l x.1.n else l, !c), !c):=fun c hc=>by
   show((if rz l x=true then l else if x.1.op=1 then xE l x.1.n else l, !rz l x),(pJ (if rz l x=true then l else if x.1.op=1 then xE l x.1.n else l, !rz l x)).isNone)=_
   rw[hc];cases c<;>rfl
  rw[aq,tI]
  cases hb:rz l x with
  |true=>
   rw[e1 _ hb]
   simp only[Bool.not_true,Bool.false_eq_true,if_false,false_iff,not_and]
   intro hs hn hv
   have Zj:=hs x aK
   simp only[rz,kW,Bool.or_eq_true,Bool.and_eq_true,bne_iff_ne,beq_iff_eq,ne_eq]at hb Zj
   rcases hb with⟨h1,h2⟩|⟨h1,h2⟩
   ·rcases Zj with h|h
    ·exact h1 h
    ·exact h2 h
   ·rw[if_pos h1]at hv
    exact hv x.1.n aK rX
  |false=>
   rw[e1 _ hb]
   simp only[Bool.not_false,if_true,Bool.false_eq_true,if_false]
   rw[tJ L]
   simp only[rz,Bool.or_eq_false_iff,Bool.and_eq_false_iff,bne_eq_false_iff_eq,beq_eq_false_iff_ne,ne_eq]at hb
   have Zj:kW x.1=true:=by simp only[kW,Bool.or_eq_true,beq_iff_eq];exact hb.1
   by_cases h1:x.1.op=1
   ·have ue:x.1.n∉l:=by
     rcases hb.2 with h|h
     ·exact absurd h1 h
     ·intro hm;rw[<- List.contains_iff_mem]at hm;rw[h]at hm;cases hm
    rw[if_pos h1,if_pos h1]
    simp only[List.mem_cons,forall_eq_or_imp,Zj,true_and,List.nodup_cons,IF,not_or]
    constructor
    ·rintro⟨a1,a2,a3⟩
     exact⟨a1,⟨fun hm=>(a3 _ hm).2 rfl,a2⟩,ue,fun v hv=>(a3 v hv).1⟩
    ·rintro⟨a1,⟨a2,a3⟩,a4,a5⟩
     exact⟨a1,a3,fun v hv=>⟨a5 v hv,fun e=>a2 (e ▸ hv)⟩⟩
   ·rw[if_neg h1,if_neg h1]
    simp only[List.mem_cons,forall_eq_or_imp,Zj,true_and]
theorem FC:∀ (t:Tm) (d:Int),(∀x∈pre t d,x.1.op=1->x.1.kids=[])->∀b:List Int,((fl t b).2=true↔(rA (pre t d)).Nodup/\∀v∈rA (pre t d),v∉b)/\((fl t b).2=true->∀v,v∈(fl t b).1↔v∈b\/v∈rA (pre t d)):=by
 refine Tm.dy fun t ih d h1 b=> ?_
 have hp:=iX t d
 have jk:∀k∈t.kids,∀x∈pre k (d+1),x∈pre t d:=fun k hk x hx=>by rw[hp];exact List.mem_cons_of_mem _ (List.mem_flatMap.2 ⟨k,hk,hx⟩)
 have hs:∀ (l:List Tm) (b:List Int),(∀k∈l,k∈t.kids)->((eW l b).2=true↔(rA (l.flatMap fun k=>pre k (d+1))).Nodup/\∀v∈rA (l.flatMap fun k=>pre k (d+1)),v∉b)/\((eW l b).2=true->∀v,v∈(eW l b).1↔v∈b\/v∈rA (l.flatMap fun k=>pre k (d+1))):=by
  intro l
  induction l with
  |nil=>intro b _;simp[eW,rA]
  |cons k l tl=>
   intro b hk
   obtain⟨k1,k2⟩:=ih k (hk k aK) (d+1) (fun x hx=>h1 x (jk k (hk k aK) x hx)) b
   obtain⟨l1,l2⟩:=tl (fl k b).1 (fun x hx=>hk x mQ)
   simp only[eW,List.flatMap_cons,tH,List.nodup_append,List.mem_append]
   by_cases hc:(fl k b).2=true
   ·rw[if_pos hc]
    have hm:=k2 hc
    obtain⟨c1,c2⟩:=k1.1 hc
    constructor
    ·rw[l1]
     constructor
     ·rintro⟨a1,a2⟩
      refine⟨⟨c1,a1,fun x hx y hy e=>a2 y hy ((hm y).2 (.inr (e ▸ hx)))⟩, ?_⟩
      rintro v (hv|hv)
      ·exact c2 v hv
      ·exact fun hb=>a2 v hv ((hm v).2 (.inl hb))
     ·rintro⟨⟨a1,a2,a3⟩,a4⟩
      refine⟨a2,fun v hv Kx=> ?_⟩
      rcases(hm v).1 Kx with h|h
      ·exact a4 v (.inr hv) h
      ·exact a3 v h v hv rfl
    ·intro h v
     rw[l2 h v,hm v]
     constructor
     ·rintro((h|h)|h)
      ·exact .inl h
      ·exact .inr (.inl h)
      ·exact .inr (.inr h)
     ·rintro(h|h|h)
      ·exact .inl (.inl h)
      ·exact .inl (.inr h)
      ·exact .inr h
   ·rw[if_neg hc]
    simp only[Bool.false_eq_true,false_iff,false_implies,and_true,not_and]
    rintro⟨a1,a2,a3⟩ a4
    exact hc (k1.2 ⟨a1,fun v hv=>a4 v (.inl hv)⟩)
 rw[o6,hp,tI]
 by_cases h:t.op=1
 ·have hk:t.kids=[]:=h1 (t,d) (by rw[hp];simp) h
  simp only[if_pos h,hk,List.flatMap_nil]
  simp only[rA,List.filter_nil,List.map_nil,List.nodup_cons,List.not_mem_nil,not_false_eq_true,List.nodup_nil,and_self,true_and,List.mem_singleton,forall_eq,Bool.not_eq_true',oZ]
  refine⟨?_,fun _ v=>trivial⟩
  rw[Bool.eq_false_iff,ne_eq,List.contains_iff_mem]
 ·simp only[if_neg h]
  exact hs t.kids b (fun _ h=>h)
theorem FE:∀ (t:Tm) (d:Int),fM t=(pre t d).all fun x=>kW x.1:=by
 refine Tm.dy fun t ih d=> ?_
 rw[DG kW,vY,Bool.and_comm]
 congr 1
 exact MX
theorem IX{s:bE}{t:Tm}(h:eG s t=true):uF t=((fl t []).2&&fM t):=by
 have h1:=(FC t 1 (fun x hx ho=>Ay (o7 h x hx) ho) []).1
 rw[Bool.eq_iff_iff,Bool.and_eq_true,h1,uF,tJ,FE t 1,List.all_eq_true]
 constructor
 ·rintro⟨a,b,c⟩;exact⟨⟨b,fun v _=>aK⟩,a⟩
 ·rintro⟨⟨a,b⟩,c⟩;exact⟨c,a,fun v _=>aK⟩
theorem xJ:∀ (t:Tm) (d:Int),(pre t d).map (·.1)=eN t:=by
 refine Tm.dy fun t ih d=> ?_
 have key:∀l:List Tm,(∀k∈l,k∈t.kids)->((l.flatMap fun k=>pre k (d+1)).map (·.1))=l.flatMap eN:=by
  intro l
  induction l with
  |nil=>intro _;rfl
  |cons k l tl=>
   intro hk
   rw[List.flatMap_cons,List.map_append,ih k (hk k (by simp)),tl (fun x hx=>hk x (by simp[hx])),List.flatMap_cons]
 rw[iX,gW,List.map_cons,key t.kids (fun _ h=>h)]
theorem DT(t:Tm)(d:Int):rA (pre t d)=IW t:=by
 unfold rA IW
 rw[<- xJ t d,List.filter_map,List.map_map]
 rfl
theorem LO{t x:Tm}(h:x∈eN t):∃y∈pre t 1,y.1=x:=by
 rw[<- xJ t 1]at h
 obtain⟨y,h1,h2⟩:=List.mem_map.1 h
 exact⟨y,h1,h2⟩
theorem Cq{s:bE}{t:Tm}(h:eG s t=true)(hp:uF t=true):vX t/\∀x∈eN t,x.op≠8:=by
 rw[uF,tJ]at hp
 obtain⟨a,b,_⟩:=hp
 have h8:∀y∈pre t 1,y.1.op≠8:=fun y hy e=>by
  have:=a y hy
  simp[kW,e]at this
 refine⟨⟨by rw[<- DT t 1];exact b,fun v=> ?_⟩,fun x hx=> ?_⟩
 ·rw[<- DT t 1]
  exact SG t 1 h8 (fun x hx ho=>Ay (o7 h x hx) ho) v
 ·obtain⟨y,h1,h2⟩:=LO hx
  rw[<- h2];exact h8 y h1
def je(s:bE)(r:Rl):Bool:=decide (0<=r.fn)&&(match s.bu[r.fn.toNat]? with|some f=>(r.aw.length:Int)==f.args|none=>false)&&decide (0<=r.vars)&&decide (r.vars<=20)
def eX(s:bE)(r:Rl):Bool:=(je s r&&eG s r.rhs)&&(r.aw.all fun p=>(eG s p&&((fl p []).2&&fM p))&&dO r.vars p)&&(Cp r.aw&&dO r.vars r.rhs&&qi r.rhs (bK (.mk 0 0 r.aw)))
theorem LP(s:bE)(r:Rl)(hs:iw s=true)(h1:(mL r.aw).length<=1000000)(h2:(mL [r.rhs]).length<=1000000):dZ s r=eX s r:=by
 have IY:∀t,eB s [t]=eG s t:=fun t=>by unfold eB;simp[hs,Ci]
 have Az:lh s r=true↔(je s r=true/\(∀t∈r.aw,eG s t=true/\uF t=true))/\eG s r.rhs=true:=by
  have e:lh s r=((je s r&&r.aw.all (jB s))&&eB s [r.rhs]):=rfl
  rw[e,IY,Bool.and_eq_true,Bool.and_eq_true,List.all_eq_true]
  simp only[jB,IY,Bool.and_eq_true]
 have mono:∀t∈r.aw,∀v,0<ji 1 v (eN t)->0<ji 1 v (mL r.aw):=fun t ht v h=>by
  obtain⟨x,a,b⟩:=(jC _ _ _).1 h
  exact(jC _ _ _).2 ⟨x,List.mem_flatMap.2 ⟨t,ht,a⟩,b⟩
 have split:∀v,0<ji 1 v (mL r.aw)->∃t∈r.aw,0<ji 1 v (eN t):=fun v h=>by
  obtain⟨x,a,b⟩:=(jC _ _ _).1 h
  obtain⟨t,c,d⟩:=List.mem_flatMap.1 a
  exact⟨t,c,(jC _ _ _).2 ⟨x,d,b⟩⟩
 have Uh:∀ (t:Tm) (v:Int),v∈IW t↔0<ji 1 v (eN t):=fun t v=>by rw[<- tG,List.count_pos_iff];rfl
 have IZ:(∀t∈r.aw,vX t)->∀v,v∈bK (.mk 0 0 r.aw)↔0<ji 1 v (mL r.aw):=fun h v=>by
  rw[(jd _).2 v,Ax]
  constructor
  ·rintro⟨t,a,b⟩;exact mono t a v ((Uh t v).1 (((h t a).free v).1 b))
  ·intro a
   obtain⟨t,b,c⟩:=split v a
   exact⟨t,b,((h t b).free v).2 ((Uh t v).2 c)⟩
 rw[Bool.eq_iff_iff,Fz s r h1 h2,Az]
 unfold eX
 simp only[Bool.and_eq_true,List.all_eq_true,Co,FA,LN]
 constructor
 ·rintro⟨⟨⟨a,p⟩,rt⟩,A,B,C,D⟩
  have aU:∀t∈r.aw,vX t:=fun t ht=>(Cq (p t ht).1 (p t ht).2).1
  refine⟨⟨⟨a,rt⟩,fun t ht=>⟨⟨(p t ht).1, ?_⟩,fun v hv=>(A v (mono t ht v hv)).2,fun v hv=> ?_⟩⟩,⟨(DP _ aU).2 fun v=> ?_,B,fun v hv=>(C v hv).2.1⟩,fun v hv=>⟨(C v hv).1, ?_, ?_⟩⟩
  ·have:=(p t ht).2
   rw[IX (p t ht).1,Bool.and_eq_true]at this
   exact this
  ·obtain⟨x,b,c,_⟩:=(jC _ _ _).1 hv
   exact absurd c ((Cq (p t ht).1 (p t ht).2).2 x b)
  ·by_cases h:0<ji 1 v (mL r.aw)
   ·exact(A v h).1
   ·omega
  ·rw[IZ aU v];have:=(C v hv).2.2;omega
  ·cases hf:Cj v r.rhs with
   |false=>rfl
   |true=>have:=D v hf;omega
 ·rintro⟨⟨⟨a,rt⟩,p⟩,⟨l,B,B2⟩,C⟩
  have hp:∀t∈r.aw,eG s t=true/\uF t=true:=fun t ht=>⟨(p t ht).1.1,by
   rw[IX (p t ht).1.1,Bool.and_eq_true];exact(p t ht).1.2⟩
  have aU:∀t∈r.aw,vX t:=fun t ht=>(Cq (hp t ht).1 (hp t ht).2).1
  refine⟨⟨⟨a,hp⟩,rt⟩,fun v hv=>⟨(DP _ aU).1 l v, ?_⟩,B,fun v hv=>⟨(C v hv).1,B2 v hv, ?_⟩,fun v hv=> ?_⟩
  ·obtain⟨t,b,c⟩:=split v hv
   exact(p t b).2.1 v c
  ·have:=(C v hv).2.1
   rw[IZ aU v]at this
   omega
  ·by_cases h:0<ji 8 v (eN r.rhs)
   ·have:=(C v h).2.2
    rw[hv]at this;cases this
   ·omega
theorem rQ(t:Tm):(eN t).length=t.sz:=by rw[<- xJ t 1,List.length_map];rfl
theorem xK:∀ (l:List Tm) (n:Nat),(∀t∈l,t.sz<=n)->(mL l).length<=l.length*n
 |[],n,_=>by simp[mL]
 |t::l,n,h=>by
  have ih:=xK l n (fun x hx=>h x mQ)
  have e:(mL (t::l)).length=(eN t).length+(mL l).length:=by simp[mL]
  have:=h t aK
  rw[e,rQ,List.length_cons,Nat.add_mul];omega
def ed(p:Pg):Bool:=(iw p.sig&&decide (p.rules.length<=16))&&p.rules.all (eX p.sig)
def DU(p:Pg):Prop:=∀r∈p.rules,r.aw.length<=6/\(∀t∈r.aw,t.sz<=50)/\r.rhs.sz<=50
theorem LQ(p:Pg)(h:DU p):oY p=ed p:=by
 unfold oY ed
 cases hs:iw p.sig with
 |false=>simp
 |true=>
  have e:p.rules.all (dZ p.sig)=p.rules.all (eX p.sig):=by
   rw[Bool.eq_iff_iff,List.all_eq_true,List.all_eq_true]
   have k:∀r∈p.rules,dZ p.sig r=eX p.sig r:=fun r hr=>by
    obtain⟨a,b,c⟩:=h r hr
    refine LP p.sig r hs ?_ ?_
    ·have:=xK r.aw 50 b
     omega
    ·have:=xK [r.rhs] 50 (fun t ht=>by simp at ht;subst ht;exact c)
     simp at this;omega
   exact⟨fun a r hr=>(k r hr) ▸ a r hr,fun a r hr=>(k r hr).symm ▸ a r hr⟩
  rw[e];simp
mutual
def jf(t:Tm):Tm->Bool
 | .mk op n kids=>fF t (.mk op n kids)||DV t kids
def DV(t:Tm):List Tm->Bool
 |[]=>false
 |k::l=>jf t k||DV t l
end
theorem vZ(t:Tm):∀l:List Tm,DV t l=l.any (jf t)
 |[]=>rfl
 |k::l=>by rw[DV,vZ t l];rfl
theorem DW(t p:Tm):jf t p=(fF t p||p.kids.any (jf t)):=by cases p;rw[jf,vZ];rfl
def rB(t p:Tm):Int:=if fF t p=true then 1 else if p.kids.any (jf t)=true then 2 else 0
theorem LR(t p:Tm):(rB t p !=0)=jf t p:=by
 rw[DW];unfold rB
 cases fF t p<;>cases p.kids.any (jf t)<;>rfl
theorem I0(t p:Tm):0<=rB t p/\rB t p<=2:=by
 unfold rB;split
 ·decide
 ·split<;>decide
def mY(aw kids:List Tm)(i j:Nat):Int:=match aw[i]?,kids[j]? with
 |some a,some b=>rB b a
 |_,_=>0
def tK(aw kids:List Tm):List Int:=(List.range 16).map fun p=>mY aw kids (p/4) (p%4)
theorem I1(aw kids:List Tm)(i j:Nat):0<=mY aw kids i j/\mY aw kids i j<=2:=by
 unfold mY;split
 ·exact I0 _ _
 ·decide
theorem I2(aw kids:List Tm):Mat (tK aw kids):=by
 refine⟨by simp[tK],fun x hx=> ?_⟩
 obtain⟨p,_,rfl⟩:=List.mem_map.1 hx
 exact I1 _ _ _ _
theorem LS(aw kids:List Tm){i j:Nat}(hi:i<4)(hj:j<4):mg (tK aw kids) i j=mY aw kids i j:=by
 unfold mg tK
 rw[List.getD_eq_getElem?_getD,List.getElem?_map,List.getElem?_range (by omega)]
 simp only[Option.map_some,Option.getD_some]
 exact Ms
def qj(aw kids:List Tm)(i j:Nat):Option lb:=match aw[i]?,kids[j]? with
 |some a,some b=>if fF b a=true then some ⟨i,j,false⟩else if a.kids.any (jf b)=true then some ⟨i,j,true⟩else none
 |_,_=>none
def nL(aw kids:List Tm)(i j:Nat):List lb:=(List.range j).filterMap (qj aw kids i)
def qW(aw kids:List Tm):List lb:=(List.range aw.length).flatMap fun i=>nL aw kids i kids.length
theorem SH(aw kids:List Tm)(i j:Nat):(if mY aw kids i j≠0 then some (⟨i,j,mY aw kids i j==2⟩:lb)else none)=qj aw kids i j:=by
 unfold mY qj
 cases aw[i]? with
 |none=>rfl
 |some a=>
  cases kids[j]? with
  |none=>rfl
  |some b=>
   dsimp only
   unfold rB
   by_cases h1:fF b a=true
   ·simp only[h1,if_true];rfl
   ·by_cases h2:a.kids.any (jf b)=true
    ·simp only[h1,h2,if_true,Bool.false_eq_true,if_false];rfl
    ·simp only[h1,h2,Bool.false_eq_true,if_false];rfl
theorem DX{β:Type}(f:Nat->Option β):∀n,(List.range (n*4)).filterMap f=(List.range n).flatMap fun i=>(List.range 4).filterMap fun j=>f (i*4+j)
 |0=>rfl
 |n+1=>by
  rw[Nat.add_mul,Nat.one_mul,List.range_add,List.filterMap_append,DX f n,List.range_succ (n:=n),List.flatMap_append,List.filterMap_map]
  simp only[List.flatMap_cons,List.flatMap_nil,List.append_nil,Function.comp_def]
theorem I3{β:Type}(f:Nat->Option β)(k:Nat)(h:∀j,k<=j->f j=none):∀n,k<=n->(List.range n).filterMap f=(List.range k).filterMap f
 |0,hk=>by rw[show k=0 by omega]
 |n+1,hk=>by
  rcases Nat.eq_or_lt_of_le hk with e|e
  ·rw[e]
  ·rw[List.range_succ,List.filterMap_append,I3 f k h n (by omega)]
   simp[h n (by omega)]
theorem AA{β:Type}(f:Nat->List β)(k:Nat)(h:∀j,k<=j->f j=[]):∀n,k<=n->(List.range n).flatMap f=(List.range k).flatMap f
 |0,hk=>by rw[show k=0 by omega]
 |n+1,hk=>by
  rcases Nat.eq_or_lt_of_le hk with e|e
  ·rw[e]
  ·rw[List.range_succ,List.flatMap_append,AA f k h n (by omega)]
   simp[h n (by omega)]
theorem I4(aw kids:List Tm)(hp:aw.length<=4)(hk:kids.length<=4):sS (tK aw kids) 16=qW aw kids:=by
 unfold sS
 rw[show(16:Nat)=4*4 from rfl,DX]
 have e:∀i∈List.range 4,((List.range 4).filterMap fun j=>if(tK aw kids).getD (i*4+j) 0≠0 then some (⟨((i*4+j)/4:Nat),((i*4+j)%4:Nat),(tK aw kids).getD (i*4+j) 0==2⟩:lb)else none)=nL aw kids i kids.length:=by
  intro i hi
  have hi:i<4:=by simpa using hi
  unfold nL
  rw[<- I3 (qj aw kids i) kids.length (fun j hj=>by unfold qj;rw[List.getElem?_eq_none hj];cases aw[i]? <;>rfl) 4 hk]
  refine zO fun j hj=> ?_
  have hj:j<4:=by simpa using hj
  rw[show(i*4+j)/4=i by omega,show(i*4+j)%4=j by omega, <- SH]
  have:=LS aw kids hi hj
  unfold mg at this
  rw[this]
 unfold qW
 rw[<- AA (fun i=>nL aw kids i kids.length) aw.length (fun i hi=>by
  unfold nL
  have:∀j,qj aw kids i j=none:=fun j=>by unfold qj;rw[List.getElem?_eq_none hi]
  rw[List.filterMap_eq_nil_iff];exact fun j _=>this j) 4 hp]
 unfold List.flatMap
 rw[List.map_congr_left e]
structure Cl where
 abT:Int
 fr:Int
 to:Int
 path:List Int
 bare:Bool
 Cr:List lb
@[reducible] def Cl.d (c:Cl):D:= .agg [.i c.abT, .i c.fr, .i c.to, .sl (c.path.map .i), .bool c.bare, .sl (c.Cr.map lb.d)]
theorem Cl.K5 (a b c:Int)(d:List Int)(e:Bool)(f:List lb):(Cl.mk a b c d e f).d= .agg [.i a, .i b, .i c, .sl (d.map .i), .bool e, .sl (f.map lb.d)]:=rfl
def gz(op:Int)(b:Bool):Bool:=b&&op !=3&&op !=5
structure Sp where
 t:Tm
 path:List Int
 bare:Bool
mutual
def jr:Tm->List Int->Bool->List Sp
 | .mk op n kids,q,b=>⟨.mk op n kids,q,b⟩::gA kids 0 q (gz op b)
def gA:List Tm->Int->List Int->Bool->List Sp
 |[],_,_,_=>[]
 |k::l,i,q,b=>jr k (q++[i]) b++gA l (i+1) q b
end
theorem Cs(t:Tm)(q:List Int)(b:Bool):jr t q b=⟨t,q,b⟩::gA t.kids 0 q (gz t.op b):=by cases t;rw[jr];rfl
theorem mm:∀ (l l':List Tm) (i:Int) (q:List Int) (b:Bool),gA (l++l') i q b=gA l i q b++gA l' (i+l.length) q b
 |[],l',i,q,b=>by simp[gA]
 |k::l,l',i,q,b=>by
  rw[List.cons_append,gA,gA,mm l l',List.append_assoc,List.length_cons]
  congr 3
  push_cast;omega
def rU(ps:List Int)(n:Int)(r:Rl)(x:Sp):List Cl:=
 if x.t.op=4 then [⟨n,r.fn,x.t.n,x.path,x.bare,qW r.aw x.t.kids⟩]else if x.t.op=6 then ps.map fun to=>⟨n,r.fn,to,x.path,x.bare,[]⟩else []
def Ui(ps:List Int)(n:Int)(r:Rl):List Cl:=(jr r.rhs [] true).flatMap (rU ps n r)
def iz(t:Tm):List Int:=((eN t).filter (fun x=>x.op==5)).map Tm.n
def cS(p:Pg):List Int:=((List.range p.sig.bu.length).map fun n:Nat=>(n:Int)).filter fun n=>(p.rules.flatMap fun r=>iz r.rhs).contains n
def jm(p:Pg)(ps:List Int)(k:Nat):List Cl:=(List.range k).flatMap fun n:Nat=>match p.rules[n]? with
 |some r=>Ui ps n r
 |none=>[]
def jn(p:Pg):List Cl:=jm p (cS p) p.rules.length
theorem qk(p:Pg)(ps:List Int){k:Nat}{r:Rl}(h:p.rules[k]? =some r):jm p ps (k+1)=jm p ps k++Ui ps k r:=by
 unfold jm
 rw[List.range_succ,List.flatMap_append]
 simp[h]
mutual
def FF(ps:List Int)(n:Int)(r:Rl):Tm->List Int->Bool->List Cl
 | .mk op m kids,q,b=>rU ps n r ⟨.mk op m kids,q,b⟩++lx ps n r kids 0 q (gz op b)
def lx(ps:List Int)(n:Int)(r:Rl):List Tm->Int->List Int->Bool->List Cl
 |[],_,_,_=>[]
 |k::l,i,q,b=>FF ps n r k (q++[i]) b++lx ps n r l (i+1) q b
end
theorem ko(ps:List Int)(n:Int)(r:Rl):∀ (l:List Tm),(∀k∈l,∀q b,FF ps n r k q b=(jr k q b).flatMap (rU ps n r))->∀i q b,lx ps n r l i q b=(gA l i q b).flatMap (rU ps n r)
 |[],_,i,q,b=>by simp[lx,gA]
 |k::l,h,i,q,b=>by
  rw[lx,gA,List.flatMap_append,h k (by simp),ko ps n r l (fun k hk=>h k (by simp[hk]))]
theorem o8(ps:List Int)(n:Int)(r:Rl):∀ (t:Tm) (q:List Int) (b:Bool),FF ps n r t q b=(jr t q b).flatMap (rU ps n r):=by
 refine Tm.ind fun op m kids ih q b=> ?_
 rw[FF,jr,List.flatMap_cons,ko ps n r kids (fun k hk=>ih k hk)]
theorem I5(ps:List Int)(n:Int)(r:Rl)(t:Tm)(q:List Int)(b:Bool):FF ps n r t q b=rU ps n r ⟨t,q,b⟩++lx ps n r t.kids 0 q (gz t.op b):=by cases t;rw[FF];rfl
theorem qX(ps:List Int)(n:Int)(r:Rl)(l l':List Tm)(i:Int)(q:List Int)(b:Bool):lx ps n r (l++l') i q b=lx ps n r l i q b++lx ps n r l' (i+l.length) q b:=by
 rw[ko _ _ _ _ (fun k _=>o8 ps n r k),ko _ _ _ _ (fun k _=>o8 ps n r k),ko _ _ _ _ (fun k _=>o8 ps n r k),mm,List.flatMap_append]
theorem SI(ps:List Int)(n:Int)(r:Rl):FF ps n r r.rhs [] true=Ui ps n r:=o8 ps n r r.rhs [] true
theorem AB:∀ {a b:List Int},a.Pairwise (· <·)->b.Pairwise (· <·)->(∀x,x∈a↔x∈b)->a=b
 |[],[],_,_,_=>rfl
 |[],y::b,_,_,h=>absurd ((h y).2 aK) aK
 |x::a,[],_,_,h=>absurd ((h x).1 aK) aK
 |x::a,y::b,ha,hb,h=>by
  rw[List.pairwise_cons]at ha hb
  have e:x=y:=by
   have h1:=(h x).1 aK
   have h2:=(h y).2 aK
   rcases List.mem_cons.1 h1 with g|g
   ·exact g
   ·rcases List.mem_cons.1 h2 with g'|g'
    ·exact g'.symm
    ·have:=hb.1 x g;have:=ha.1 y g';omega
  subst e
  congr 1
  refine AB ha.2 hb.2 fun z=> ?_
  have:=h z
  simp only[List.mem_cons]at this
  constructor
  ·intro hz
   rcases this.1 (.inr hz)with g|g
   ·subst g;exact absurd (ha.1 z hz) ag
   ·exact g
  ·intro hz
   rcases this.2 (.inr hz)with g|g
   ·subst g;exact absurd (hb.1 z hz) ag
   ·exact g
end Go.Proofs.YtnkamdiiakdkgaaGreat
section
namespace Go.Proofs.YtnkamdiiakdkgaaGreat
open Go.Sort Go.RowKit
def AD(P:Program)(g:FuncId):Prop:=∀ (cX off cap:Nat) (zs:List Int) (w:World),Holds (Value.int .i64) w cX off zs.toArray->cX<w.heap.size->zs.length<4611686018427387904->
    Calls P g #[.slice (some ⟨cX,off,none⟩) zs.length cap] w fun e w'=>
     e= .returned (.tuple #[])/\∃n os,w'=grow (putRow (Value.int .i64) (Sort.ahead w n) cX off (zs.mergeSort fun x y=>decide (x<=y)).toArray) os
def dB(l:List Int):List Int:=l.mergeSort fun x y=>decide (x<=y)
theorem o9{B:Nat->Prop}{w:World}:∀ (zs:List Int) (xs:List Value),eP B w 1 (zs.map (D.int .i64)) xs↔xs=zs.map (Value.int .i64):=by
 have hd:∀ (zs:List Int) (evs:List Value),D.az B w (zs.map (D.int .i64)) evs↔evs=zs.map (Value.int .i64):=by
  intro zs
  induction zs with
  |nil=>intro evs;simp[D.az]
  |cons z zs ih=>
   intro evs
   simp only[List.map_cons,D.az]
   constructor
   ·rintro⟨v,vs,rfl,h1,h2⟩
    rw[(ih vs).1 h2]
    simp only[D.den]at h1
    rw[h1]
   ·intro h
    exact⟨_,_,h,rfl,(ih _).2 rfl⟩
 have hf:∀zs:List Int,(zs.map (Value.int .i64)).flatMap (·.cells.toList)=zs.map (Value.int .i64):=by
  intro zs
  induction zs with
  |nil=>rfl
  |cons z zs ih=>simp only[List.map_cons,List.flatMap_cons,ih];rfl
 intro zs xs
 constructor
 ·rintro⟨evs,h1,h2,h3⟩
  rw[h1,(hd zs evs).1 h3,hf]
 ·intro h
  subst h
  exact⟨_,(hf zs).symm,fun ev cV=>by
   obtain⟨z,_,rfl⟩:=List.mem_map.1 cV
   rfl,(hd zs _).2 rfl⟩
theorem I6{P:Program}{g:FuncId}(hE:Enters P g)(hS:AD P g){o:Nat->ab}{nx id ep:Nat}{ty:TypeId}{zs:List Int}(ho:o id= .arr ep ty 1 (zs.map (D.int .i64)))
 (hn:∀p cap w,Calls P g #[.slice p 0 cap] w fun e w'=>e= .returned (.tuple #[])/\w'=w)
 (hlen:zs.length<4611686018427387904) {K X:V->(Nat->ab)->Nat->Prop} (hK:K (.bP []) (aA o id (.arr ep ty 1 ((dB zs).map (D.int .i64)))) nx):cZ P g [.osl id ep] o nx K X:=by
 refine⟨hE,fun M φ w vals hH hd=> ?_⟩
 obtain⟨val,us,jR,⟨v0,v1,v2⟩,dG⟩:=hd
 have dG:us=[]:=dG
 subst dG
 have ef:val=φ id:=(v2 ep (by show(o id).bT=some ep;rw[ho];rfl)).2 rfl
 have Uh:vals=#[φ id]:=by rw[<- ef];exact Array.ext' (by simpa using jR)
 subst Uh
 have B4:=hH.ok id
 unfold aM at B4
 rw[show(hp o nx).o id= .arr ep ty 1 (zs.map (D.int .i64))from ho]at B4
 obtain⟨_,xs,cY,bG⟩:=B4
 have Bp:=(o9 zs xs).1 bG
 subst Bp
 simp only[List.length_map]at cY
 obtain⟨hl,G5|⟨b,cap,cur,dD,_,hg,jX,wD,hcs,I7⟩⟩:=cY
 ·obtain⟨h1,h2⟩:=G5
  have hz:zs=[]:=List.length_eq_zero_iff.1 h2
  subst hz
  rw[h1]
  refine(hn none 0 w).mono ?_
  rintro e w' ⟨rfl,rfl⟩
  have Hc:aA o id (.arr ep ty 1 ((dB []).map (D.int .i64)))=o:=by
   funext j
   by_cases e:j=id
   ·subst e;rw[ad,ho,show dB []=[] by simp[dB]]
   ·rw[af _ _ _ _ e]
  rw[Hc]at hK
  exact⟨φ,o,nx, .bP [],hH,Trans.refl _ _ _,⟨#[],rfl,rfl⟩,hK⟩
 ·rw[dD]
  have hb:b<w.heap.size:=(Array.getElem?_eq_some_iff.1 hg).1
  have MC:∀j,j<zs.length->cur[j]? =some (.int .i64 zs[j]!):=by
   intro j hj
   have h1:(cur.toList.take (zs.length*1))[j]? =(zs.map (Value.int .i64))[j]? :=by rw[I7]
   rw[List.getElem?_take_of_lt (by omega),List.getElem?_map,List.getElem?_eq_getElem hj]at h1
   simp only[Option.map_some]at h1
   rw[getElem!_pos zs j hj]
   simpa using h1
  refine(hS b 0 cap zs w (fun j hj=> ?_) hb hlen).mono ?_
  ·simp only[List.size_toArray]at hj
   refine⟨?_, ?_⟩
   ·exact VA
   ·unfold World.frozen?
    simp[hg]
  rintro e w' ⟨rfl,n,os,rfl⟩
  have NU:(dB zs).length=zs.length:=List.length_mergeSort zs
  have th:∀k,k<w.heap.size->(grow (putRow (Value.int .i64) (Sort.ahead w n) b 0 (dB zs).toArray) os).heap[k]? =(w.heap.modify b (onCells (putCells (Value.int .i64) 0 (dB zs).toArray)))[k]? :=by
   intro k hk
   unfold grow putRow mapBlock Sort.ahead
   simp only
   rw[Array.getElem?_append_left (by simpa using hk)]
  have qF:dk (· =b) w (grow (putRow (Value.int .i64) (Sort.ahead w n) b 0 (dB zs).toArray) os):=by
   refine⟨rfl,rfl,rfl, ?_,fun k hk ku=> ?_⟩
   ·unfold grow putRow mapBlock Sort.ahead;simp
   ·rw[th k hk,Array.getElem?_modify,if_neg (fun e=>ku e.symm)]
  have cq:((hp o nx).o id).live=true:=by show(o id).live=true;rw[ho];rfl
  have xd:cX (φ id)=some b:=by rw[dD];rfl
  have G2:(grow (putRow (Value.int .i64) (Sort.ahead w n) b 0 (dB zs).toArray) os).heap[b]? =some (.cells (putCells (Value.int .i64) 0 (dB zs).toArray cur) ty (0,0)):=by
   rw[th b hb,Array.getElem?_modify,if_pos rfl,hg];rfl
  have fX:(hp o nx).put [(id, .arr ep ty 1 ((dB zs).map (D.int .i64)))]=hp (aA o id (.arr ep ty 1 ((dB zs).map (D.int .i64)))) nx:=by
   have dG:id<nx:=v1
   simp only[Hp.put,hp]
   congr 1
   funext j
   simp only[List.map_cons,List.map_nil,List.mem_singleton,eq_iff_iff]
   exact⟨fun h=>h.elim (fun h=>h) (fun e=>e ▸ dG), .inl⟩
  have sm:aM M φ ((hp o nx).put [(id, .arr ep ty 1 ((dB zs).map (D.int .i64)))]) (grow (putRow (Value.int .i64) (Sort.ahead w n) b 0 (dB zs).toArray) os) id:=by
   unfold aM
   rw[show((hp o nx).put [(id, .arr ep ty 1 ((dB zs).map (D.int .i64)))]).o id= .arr ep ty 1 ((dB zs).map (D.int .i64)) by simp]
   refine⟨cl,(dB zs).map (Value.int .i64), ?_,(o9 _ _).2 rfl⟩
   simp only[List.length_map,NU]
   refine⟨by simp[NU], .inr ⟨b,cap,_,dD,Nat.zero_le _,G2,jX,wD, ?_, ?_⟩⟩
   ·unfold putCells;simpa using hcs
   ·apply List.ext_getElem?
    intro j
    by_cases hj:j<zs.length
    ·rw[List.getElem?_take_of_lt (by omega),List.getElem?_map,List.getElem?_eq_getElem (l:=dB zs) (by omega)]
     have Qf:j<cur.size:=ag
     unfold putCells
     simp only[Array.getElem?_toList,Array.getElem?_mapIdx,Option.map_some]
     rw[Array.getElem?_eq_getElem Qf]
     simp only[Option.map_some,Nat.zero_le,true_and,Nat.zero_add,List.size_toArray,Nat.sub_zero]
     rw[if_pos (by omega)]
     rw[getElem!_pos _ j (by simp;omega)]
     simp
    ·rw[List.getElem?_eq_none (by rw[List.length_take,Nat.mul_one];exact Nat.le_trans (Nat.min_le_left _ _) (Nat.not_lt.1 hj)),List.getElem?_eq_none (by rw[List.length_map,NU];exact Nat.not_lt.1 hj)]
  have OT:=fV hH (id:=id) v1 cq xd qF (.arr ep ty 1 ((dB zs).map (D.int .i64))) J5 J5 sm
  have NV:=dU (φ:=φ) (H:=hp o nx) (id:=id) v1 cq xd qF (.arr ep ty 1 ((dB zs).map (D.int .i64))) J5 J5
  rw[fX]at OT NV
  exact⟨φ,_,nx, .bP [],OT,NV,⟨#[],rfl,rfl⟩,hK⟩
end Go.Proofs.YtnkamdiiakdkgaaGreat
end
section
namespace Go.Proofs.YtnkamdiiakdkgaaGreat
open Go.Sort Go.RowKit
def mn(P:Program)(g:FuncId):Prop:=∀ (cX off cap:Nat) (zs:List Int) (w:World),Holds (Value.int .i64) w cX off zs.toArray->zs.length<=9223372036854775807->zs.length<=cap->
    Calls P g #[.slice (some ⟨cX,off,none⟩) zs.length cap] w fun e w'=>
     e= .returned (.slice (some ⟨cX,off,none⟩) (Lib.compact zs).length cap)/\∃q,w'=putRow (Value.int .i64) (Sort.ahead w q) cX off (Lib.compact zs++List.replicate (zs.length - (Lib.compact zs).length) 0).toArray
theorem I8(zs:List Int):(Lib.compact zs).length<=zs.length:=by
 unfold Lib.compact Lib.compactUpTo
 rw[List.length_map]
 have:=List.length_filter_le (Lib.keeps zs.toArray) (List.range zs.length)
 simpa using this
theorem xL{P:Program}{g:FuncId}(hS:mn P g)(hn:∀p cap w,Calls P g #[.slice p 0 cap] w fun e w'=>e= .returned (.slice p 0 cap)/\w'=w){M:Nat->Prop}{φ:Place}{H:Hp}{w:World}(hH:ax M φ H w)
 {id ep:Nat} {ty:TypeId} {zs:List Int} (v1:H.us id) (ho:H.o id= .arr ep ty 1 (zs.map (D.int .i64))) (hlen:zs.length<=9223372036854775807):
 Calls P g #[φ id] w fun e w'=>∃val aE,e= .returned val/\ax M aE (H.put [(id, .arr (ep+1) ty 1 ((Lib.compact zs).map (D.int .i64)))]) w'/\Trans φ H w aE (H.put [(id, .arr (ep+1) ty 1 ((Lib.compact zs).map (D.int .i64)))]) w'/\
  V.den (ak M aE (H.put [(id, .arr (ep+1) ty 1 ((Lib.compact zs).map (D.int .i64)))])) aE (H.put [(id, .arr (ep+1) ty 1 ((Lib.compact zs).map (D.int .i64)))]) w' (.osl id (ep+1)) val:=by
 have B4:=hH.ok id
 unfold aM at B4
 rw[ho]at B4
 obtain⟨_,xs,cY,bG⟩:=B4
 have Bp:=(o9 zs xs).1 bG
 subst Bp
 simp only[List.length_map]at cY
 obtain⟨hl,G5|⟨b,cap,cur,dD,_,hg,jX,wD,hcs,I7⟩⟩:=cY
 ·obtain⟨h1,h2⟩:=G5
  have hz:zs=[]:=List.length_eq_zero_iff.1 h2
  subst hz
  rw[h1]
  refine(hn none 0 w).mono ?_
  rintro e w' ⟨rfl,rfl⟩
  have I9:w'.ownsRow 0 ty 1 (.slice none 0 0) (([]:List Int).map (D.int .i64)).length (([]:List Int).map (Value.int .i64)):=⟨rfl, .inl ⟨rfl,rfl⟩⟩
  have SJ:=lM (M:=M) hH (id:=id) (ep:=ep) v1 ho (val:= .slice none 0 0) (es':=([]:List Int).map (D.int .i64)) (dk.refl (fun _=>False) w') (fun _ h=>h.elim) (fun b h=>by simp[cX]at h) I9 ((o9 _ _).2 rfl)
  exact⟨_,_,rfl,SJ.1,SJ.2.1,SJ.2.2⟩
 ·rw[dD]
  have hb:b<w.heap.size:=(Array.getElem?_eq_some_iff.1 hg).1
  have MC:∀j,j<zs.length->cur[j]? =some (.int .i64 zs[j]!):=by
   intro j hj
   have h1:(cur.toList.take (zs.length*1))[j]? =(zs.map (Value.int .i64))[j]? :=by rw[I7]
   rw[List.getElem?_take_of_lt (by omega),List.getElem?_map,List.getElem?_eq_getElem hj]at h1
   simp only[Option.map_some]at h1
   rw[getElem!_pos zs j hj]
   simpa using h1
  refine(hS b 0 cap zs w (fun j hj=> ?_) hlen ag).mono ?_
  ·simp only[List.size_toArray]at hj
   refine⟨?_, ?_⟩
   ·exact VA
   ·unfold World.frozen?
    simp[hg]
  rintro e w' ⟨rfl,n,rfl⟩
  have mC:=I8 zs
  generalize wP:Lib.compact zs=rs at mC|-
  have th:∀k:Nat,(putRow (Value.int .i64) (Sort.ahead w n) b 0 (rs++List.replicate (zs.length - rs.length) 0).toArray).heap[k]? =(w.heap.modify b (onCells (putCells (Value.int .i64) 0 (rs++List.replicate (zs.length - rs.length) 0).toArray)))[k]? :=by
   intro k
   unfold putRow mapBlock Sort.ahead
   rfl
  have qF:dk (· =b) w (putRow (Value.int .i64) (Sort.ahead w n) b 0 (rs++List.replicate (zs.length - rs.length) 0).toArray):=by
   refine⟨rfl,rfl,rfl, ?_,fun k hk ku=> ?_⟩
   ·unfold putRow mapBlock Sort.ahead;simp
   ·rw[th k,Array.getElem?_modify,if_neg (fun e=>ku e.symm)]
  have xd:cX (φ id)=some b:=by rw[dD];rfl
  have G2:(putRow (Value.int .i64) (Sort.ahead w n) b 0 (rs++List.replicate (zs.length - rs.length) 0).toArray).heap[b]? =some (.cells (putCells (Value.int .i64) 0 (rs++List.replicate (zs.length - rs.length) 0).toArray cur) ty (0,0)):=by
   rw[th b,Array.getElem?_modify,if_pos rfl,hg];rfl
  have I9:(putRow (Value.int .i64) (Sort.ahead w n) b 0 (rs++List.replicate (zs.length - rs.length) 0).toArray).ownsRow 0 ty 1 (.slice (some ⟨b,0,none⟩) rs.length cap) (rs.map (D.int .i64)).length (rs.map (Value.int .i64)):=by
   rw[List.length_map]
   refine⟨aK, .inr ⟨b,cap,_,rfl,Nat.zero_le _,G2,ag,wD, ?_, ?_⟩⟩
   ·unfold putCells;simpa using hcs
   ·apply List.ext_getElem?
    intro j
    by_cases hj:j<rs.length
    ·rw[List.getElem?_take_of_lt (by omega),List.getElem?_map,List.getElem?_eq_getElem (l:=rs) (by omega)]
     have Qf:j<cur.size:=ag
     unfold putCells
     simp only[Array.getElem?_toList,Array.getElem?_mapIdx,Option.map_some]
     rw[Array.getElem?_eq_getElem Qf]
     simp only[Option.map_some,Nat.zero_le,true_and,Nat.zero_add,List.size_toArray,Nat.sub_zero]
     rw[if_pos (by rw[List.length_append];omega)]
     rw[getElem!_pos _ j (by simp;omega)]
     simp[List.getElem_append_left hj]
    ·rw[List.getElem?_eq_none (by rw[List.length_take,Nat.mul_one];exact Nat.le_trans (Nat.min_le_left _ _) (Nat.not_lt.1 hj)),List.getElem?_eq_none (by rw[List.length_map];exact Nat.not_lt.1 hj)]
  have SJ:=lM (M:=M) hH (id:=id) (ep:=ep) v1 ho (val:= .slice (some ⟨b,0,none⟩) rs.length cap) (es':=rs.map (D.int .i64)) qF (fun c hc=>hc ▸ xd) (fun c hc=> .inl (by simp[cX]at hc;rw[<- hc];exact xd)) I9 ((o9 _ _).2 rfl)
  exact⟨_,_,rfl,SJ.1,SJ.2.1,SJ.2.2⟩
theorem FG{P:Program}{g:FuncId}(hE:Enters P g)(hS:mn P g){o:Nat->ab}{fr id ep:Nat}{ty:TypeId}{zs:List Int}(ho:o id= .arr ep ty 1 (zs.map (D.int .i64)))
 (hn:∀p cap w,Calls P g #[.slice p 0 cap] w fun e w'=>e= .returned (.slice p 0 cap)/\w'=w)
 (hlen:zs.length<=9223372036854775807):w7 P g [.osl id ep] [id] o fr (.osl id (ep+1)) [(id, .arr (ep+1) ty 1 ((Lib.compact zs).map (D.int .i64)))]:=by
 refine⟨hE,fun o' us M φ w vals ZU cJ hH hd=> ?_⟩
 obtain⟨ha,hu⟩:=ZU id aK
 have uO:o' id= .arr ep ty 1 (zs.map (D.int .i64)):=ha.trans ho
 obtain⟨val,us',jR,⟨v0,v1,v2⟩,dG⟩:=hd
 have dG:us'=[]:=dG
 subst dG
 have ef:val=φ id:=(v2 ep (by show(o' id).bT=some ep;rw[uO];rfl)).2 rfl
 have Uh:vals=#[φ id]:=by rw[<- ef];exact Array.ext' (by simpa using jR)
 subst Uh
 refine(xL hS hn hH hu uO hlen).mono ?_
 rintro e w' ⟨val,aE,rfl,h1,h2,h3⟩
 obtain⟨k1,k2⟩:=iq h1 (us':=fun j=>us j\/j=fr) (fun j hj=>by
  simp only[Hp.put]at hj
  rcases hj with hj|hj
  ·exact .inl hj
  ·simp at hj;subst hj;exact .inl hu)
 have fX:(⟨((⟨o',us⟩:Hp).put [(id, .arr (ep+1) ty 1 ((Lib.compact zs).map (D.int .i64)))]).o,fun j=>us j\/j=fr⟩:Hp)=⟨put o' [(id, .arr (ep+1) ty 1 ((Lib.compact zs).map (D.int .i64)))],fun j=>us j\/j=fr⟩:=rfl
 rw[fX]at k1 k2
 exact⟨aE,k1,h2.trans k2,_,rfl,V.aL k2 _ _ h3⟩
end Go.Proofs.YtnkamdiiakdkgaaGreat
end
namespace Go.Proofs.YtnkamdiiakdkgaaGreat
theorem SK{L:List il}{n:Int}{k:Nat}(hn:0<=n/\n<=(L.length:Int) - 1)(ha:∀x∈L,0<=x.args/\x.args<=4):eU L n<=4:=by
 unfold eU
 rw[List.getElem?_eq_getElem (by omega)]
 exact(ha _ (List.getElem_mem _)).2
theorem DY:∀ {l:List il} {a b:List (List UInt8)},bN l a=some b->∀x∈l,0<=x.args/\x.args<=4
 |[],_,_,_,x,hx=>by cases hx
 |y::l,a,b,h,x,hx=>by
  unfold bN at h
  split at h
  ·cases h
  ·split at h
   ·cases h
   ·rename_i h2
    rcases List.mem_cons.1 hx with e|e
    ·subst e
     simp[dQ]at h2
     exact⟨h2.2.1,h2.2.2⟩
    ·exact DY h x e
theorem OU{s:bE}(h:iw s=true):∀x∈s.bu,0<=x.args/\x.args<=4:=by
 unfold iw at h
 split at h
 ·cases h
 ·split at h
  ·split at h
   ·cases h
   ·split at h
    ·cases h
    ·rename_i l _
     cases h2:bN s.bu l with
     |none=>rw[h2]at h;cases h
     |some B=>exact DY h2
  ·cases h
theorem Ja{s:bE}:∀t:Tm,iZ s t=true->∀x∈eN t,bd s x=true:=by
 refine Tm.dy fun t ih h x hx=> ?_
 rw[qa,Bool.and_eq_true,List.all_eq_true]at h
 rw[gW]at hx
 rcases List.mem_cons.1 hx with e|e
 ·rw[e];exact h.1
 ·obtain⟨k,hk,hx⟩:=List.mem_flatMap.1 e
  exact ih k hk (h.2 k hk) x hx
theorem SL:∀t:Tm,t.fits->∀x∈eN t,x.fits:=by
 refine Tm.dy fun t ih h x hx=> ?_
 rw[gW]at hx
 rcases List.mem_cons.1 hx with e|e
 ·rw[e];exact h
 ·obtain⟨k,hk,hx⟩:=List.mem_flatMap.1 e
  exact ih k hk (((Tm.bg t).1 h).2 k hk) x hx
theorem AE:∀ (l:List Tm) (i:Int) (q:List Int) (b:Bool) (x:Sp),x∈gA l i q b->∃k∈l,∃j:Int,x∈jr k (q++[j]) b
 |[],_,_,_,x,h=>by simp[gA]at h
 |k::l,i,q,b,x,h=>by
  rw[gA,List.mem_append]at h
  rcases h with h|h
  ·exact⟨k,aK,i,h⟩
  ·obtain⟨k',h1,h2⟩:=AE l _ _ _ _ h
   exact⟨k',by simp[h1],h2⟩
theorem xM:∀ (t:Tm) (q:List Int) (b:Bool),∀x∈jr t q b,x.t∈eN t/\x.path.length+x.t.la<=q.length+t.la:=by
 refine Tm.dy fun t ih q b x hx=> ?_
 rw[Cs]at hx
 rw[gW]
 rcases List.mem_cons.1 hx with e|e
 ·subst e;exact⟨aK,Nat.le_refl _⟩
 ·obtain⟨k,hk,j,h⟩:=AE _ _ _ _ _ e
  obtain⟨h1,h2⟩:=ih k hk _ _ x h
  refine⟨List.mem_cons_of_mem _ (List.mem_flatMap.2 ⟨k,hk,h1⟩), ?_⟩
  have:=Tm.mG hk
  rw[List.length_append]at h2
  simp at h2;omega
structure Rk (p:Pg) (r:Rl):Prop where
 fn:0<=r.fn/\r.fn<=(p.sig.bu.length:Int) - 1
 len:r.aw.length<=4
 term:eG p.sig r.rhs=true
theorem tL{p:Pg}(h:ed p=true):iw p.sig=true:=by simp only[ed,Bool.and_eq_true]at h;exact h.1.1
theorem pb{p:Pg}(h:ed p=true){r:Rl}(hr:r∈p.rules):Rk p r:=by
 have hs:=OU (tL h)
 simp only[ed,Bool.and_eq_true,List.all_eq_true]at h
 have h2:=h.2 r hr
 simp only[eX,je,Bool.and_eq_true,decide_eq_true_eq]at h2
 obtain⟨⟨⟨⟨⟨⟨h3,h4⟩,h5⟩,h6⟩,h7⟩,h8⟩,h9⟩:=h2
 cases e:p.sig.bu[r.fn.toNat]? with
 |none=>rw[e]at h4;cases h4
 |some f=>
  rw[e]at h4
  simp only[beq_iff_eq]at h4
  have:=hs f (List.mem_of_getElem? e)
  have hl:=(List.getElem?_eq_some_iff.1 e).1
  exact⟨⟨h3,ag⟩,ag,h7⟩
theorem Rk.node {p:Pg}{r:Rl}(h:Rk p r){x:Sp}(hx:x∈jr r.rhs [] true):bd p.sig x.t=true/\x.path.length<=12:=by
 have ht:=h.term
 simp only[eG,Bool.and_eq_true,decide_eq_true_eq]at ht
 obtain⟨h1,h2⟩:=xM _ _ _ x hx
 have:=((tv r.rhs 40 12).1 ht.1).2
 refine⟨Ja _ ht.2 _ h1, ?_⟩
 simp at h2;omega
theorem Rk.kids {p:Pg}{r:Rl}(h:Rk p r)(hs:iw p.sig=true){x:Sp}(hx:x∈jr r.rhs [] true)(h4:x.t.op=4):x.t.kids.length<=4:=by
 have hn:=(h.node hx).1
 simp[bd,h4,dQ]at hn
 have:=SK (k:=0) hn.1 (OU hs)
 omega
theorem Rk.parts {p:Pg}{r:Rl}(h:Rk p r){n:Int}(hn:n∈iz r.rhs):0<=n/\n<=(p.sig.bu.length:Int) - 1:=by
 have ht:=h.term
 simp only[eG,Bool.and_eq_true]at ht
 unfold iz at hn
 obtain⟨x,h1,rfl⟩:=List.mem_map.1 hn
 obtain⟨h2,h3⟩:=List.mem_filter.1 h1
 simp only[beq_iff_eq]at h3
 have:=Ja _ ht.2 x h2
 simp[bd,h3,dQ]at this
 exact this.1
theorem Jb(p:Pg):(cS p).Pairwise (· <·):=by
 unfold cS
 refine List.Pairwise.filter _ ?_
 rw[List.pairwise_map]
 exact List.pairwise_lt_range.imp (fun h=>ag)
theorem LU{p:Pg}(h:∀r∈p.rules,Rk p r)(n:Int):n∈cS p↔n∈p.rules.flatMap fun r=>iz r.rhs:=by
 unfold cS
 rw[List.mem_filter,List.mem_map,List.contains_iff_mem]
 constructor
 ·exact fun h=>h.2
 ·intro hn
  refine⟨?_,hn⟩
  obtain⟨r,hr,h1⟩:=List.mem_flatMap.1 hn
  have:=(h r hr).parts h1
  exact⟨n.toNat,by rw[List.mem_range];omega,ag⟩
theorem FH(zs:List Int)(h:zs.Pairwise (· <=·)):(Lib.compact zs).Pairwise (· <·):=by
 unfold Lib.compact Lib.compactUpTo
 rw[List.pairwise_map]
 have hle:∀i j,i<=j->j<zs.length->zs.toArray[i]! <=zs.toArray[j]! :=fun i j Qq hj=>by
  rcases Nat.eq_or_lt_of_le Qq with e|e
  ·rw[e];exact Int.le_refl _
  ·have:=List.pairwise_iff_getElem.1 h i j ag hj e
   simpa[getElem!_pos,hj,show i<zs.length by omega]using this
 refine List.Pairwise.imp_of_mem (fun {a b} ha hb hab=> ?_) (List.Pairwise.filter (R:=(· <·)) _ List.pairwise_lt_range)
 obtain⟨Bz,hb2⟩:=List.mem_filter.1 hb
 have Bz:=List.mem_range.1 Bz
 simp only[Lib.keeps,decide_eq_true_eq]at hb2
 have h1:=hle a (b - 1) ag ag
 have h2:=hle (b - 1) b ag Bz
 rcases hb2 with g|g
 ·omega
 ·have g':zs.toArray[b - 1]! ≠zs.toArray[b]! :=Ne.symm g
  omega
theorem Jc(zs:List Int)(n:Int):n∈Lib.compact zs↔n∈zs:=by
 unfold Lib.compact Lib.compactUpTo
 rw[List.mem_map]
 constructor
 ·rintro⟨i,hi,rfl⟩
  have:=List.mem_range.1 (List.mem_filter.1 hi).1
  rw[getElem!_pos zs.toArray i (by simpa using this)]
  simp
 ·intro hn
  obtain⟨i,hi,rfl⟩:=List.getElem_of_mem hn
  have key:∀i,i<zs.length->∃j,j<=i/\Lib.keeps zs.toArray j=true/\zs.toArray[j]! =zs.toArray[i]! :=by
   intro i
   induction i with
   |zero=>intro _;exact⟨0,Nat.le_refl _,by simp[Lib.keeps],rfl⟩
   |succ i ih=>
    intro hi
    by_cases hk:Lib.keeps zs.toArray (i+1)=true
    ·exact⟨i+1,Nat.le_refl _,hk,rfl⟩
    ·obtain⟨j,h1,h2,h3⟩:=ih ag
     refine⟨j,ag,h2, ?_⟩
     simp only[Lib.keeps,decide_eq_true_eq,not_or,Decidable.not_not]at hk
     rw[h3,hk.2];rfl
  obtain⟨j,h1,h2,h3⟩:=key i hi
  refine⟨j,List.mem_filter.2 ⟨List.mem_range.2 ag,h2⟩, ?_⟩
  rw[h3,getElem!_pos zs.toArray i (by simpa using hi)]
  simp
theorem Jd(l:List Int):(dB l).Pairwise (· <=·):=by
 have:=List.pairwise_mergeSort (le:=fun x y:Int=>decide (x<=y)) (fun a b c h1 h2=>by simp at*;omega) (fun a b=>by simp;omega) l
 exact this.imp (fun h=>by simpa using h)
theorem SM{p:Pg}(h:∀r∈p.rules,Rk p r):Lib.compact (dB (p.rules.flatMap fun r=>iz r.rhs))=cS p:=by
 refine AB (FH _ (Jd _)) (Jb p) fun n=> ?_
 rw[Jc,LU h]
 unfold dB
 exact(List.mergeSort_perm _ _).mem_iff
end Go.Proofs.YtnkamdiiakdkgaaGreat
namespace Go.Proofs.YtnkamdiiakdkgaaGreat
theorem Je:∀a:Tm,a.fits->∀b:Tm,b.fits->aR Tryz.prog 105 [a.d,b.d] (.ret [.bool (fF a b)]):=by
 refine Tm.dy fun a ih ha b hb=> ?_
 have Uj:=(Tm.bg _).1 ha
 have Kg:=(Tm.bg _).1 hb
 refine aR.aG mix N6 aK ?_
 rw[RA,Ae]
 refine bc ?_
 refine zJ (ai (fun h1=> ?_) (fun h1=> ?_))
 ·rw[h1]
  refine gD h1 ?_
  refine br (IJ a.kids b.kids Uj.1 Kg.1 105 (fun x hx y hy=>ih x hx (Uj.2 x hx) y (Kg.2 y hy)) _ _ eH _ _ fun o2 n2 m1 m2 m3=> ?_)
  exact D8 h1
 ·rw[h1]
  exact D8 h1
theorem abU{t:Tm}{k:Tm}(hr:aR Tryz.prog 75 [t.d,k.d] (.ret [.i (rB t k)])){base tb:Nat}(Bh:tb<base){h:Nat->ab}(ht:h tb= .row t.row):
 jP Tryz.prog 107 [.d k.d, .ptr tb 0] base h h (.d (.bool (jf t k))):=by
 intro o nx hI K X hK
 have hle:=hI.le
 have ot:o tb= .row t.row:=by rw[hI.eq tb Bh,ht]
 have y1:tb≠nx:=ag
 have y2:∀k,tb≠nx+k:=fun k=>ag
 refine cZ.aG mix N8 aK ?_
 rw[RC]
 refine O8 ot y1 y2 ?_
 refine aD hr rfl ?_
 simp+contextual (disch:=first|omega|simp only[go_sem,false_implies]) only[go_sem,wrap64,if_pos,LR]
 exact hK _ _ ag (hI.aA ag ag ag rfl) fun id i1 i2=>by(repeat(first|rfl|rw[ad]|rw[af _ _ _ _ (by omega)]))
theorem Ct(t:Tm)(ht:t.fits):∀p:Tm,p.fits->aR Tryz.prog 75 [t.d,p.d] (.ret [.i (rB t p)]):=by
 refine Tm.dy fun p ih hp=> ?_
 have Nf:=(Tm.bg _).1 hp
 refine aR.aG mix Xr aK ?_
 rw[c75]
 unfold rB
 refine bc ?_
 refine aD (Je t ht p hp) rfl ?_
 cases h1:fF t p with
 |true=>exact D8 h1
 |false=>
  refine gD h1 ?_
  refine br (qS p.kids Nf.1 107 [.ptr 0 0] 1 (fun _:Unit=>aA (fun _=> .no) 0 (.row t.row)) (fun _ k=>((), !jf t k)) nP (fun _=>True) (fun _ _ _ _ _=>trivial) (fun x hx _ _=>by
   have:=abU (ih x hx (Nf.2 x hx)) (base:=1) (tb:=0) ag (h:=aA (fun _=> .no) 0 (.row t.row)) (ad _ _ _)
   simpa using this) () trivial _ _ ⟨eH,ag,fun id au=> ?_⟩ _ _ fun o2 n2 m1 m2 m3=> ?_)
  ·exact eO
  have e:(aq (fun(_:Unit) k=>((), !jf t k)) () p.kids).2= !(p.kids.any (jf t)):=by
   rw[pA]
   rw[List.not_any_eq_all_not]
  rw[e,Bool.not_not]
  cases h2:p.kids.any (jf t)with
  |true=>exact D8 h2
  |false=>exact D8 h2
@[reducible] def mD (m:List Int):D:= .agg (m.map D.i)
theorem Zk{α:Type}{l:List α}{k:Nat}(h:k<l.length):∃x,l[k]? =some x:=⟨l[k],by simp[h]⟩
theorem tM:∀l:List D,wz (l.map V.d)=some l
 |[]=>rfl
 |x::l=>by simp[wz,tM l]
theorem Jf(m:List Int)(h:m.length=16):List.take 16 ((m.map D.i).map V.d)=(m.map D.i).map V.d:=List.take_of_length_le (by simp[h])
theorem DZ(m:List Int)(h:m.length=16):((m.map D.i).map V.d).length=16:=by simp[h]
theorem SN(m:List Int)(k:Nat)(v:Int)(h:k<m.length):List.take k ((m.map D.i).map V.d)++[V.d (D.i v)]++List.drop (k+1) ((m.map D.i).map V.d)=((m.set k v).map D.i).map V.d:=by
 rw[List.set_eq_take_append_cons_drop,if_pos h]
 simp[List.map_take,List.map_drop]
theorem FI(l:List D):(D.agg l).cells=l:=rfl
@[reducible] def mR (m:List Int):ab:= .row ((m.map D.i).map V.d)
theorem D0:∀l:List D,V.aJ (l.map V.d)=[]
 |[]=>rfl
 |x::l=>by simp[V.aJ,V.refs,D0 l]
theorem OV(m:List Int)(n:Nat):(mR m).refs.all (fun r=>decide (r<n))=true:=by
 show(V.aJ ((m.map D.i).map V.d)).all _=true
 rw[D0];rfl
theorem Zl(cs:List D)(k:Nat):fQ Tryz.prog 3 cs k=cs[k]? :=by
 have h:cE Tryz.prog 3=some false:=ah
 unfold fQ;rw[h]
def rowOf(m:List Int)(i:Nat):List Int:=(m.drop (i*4)).take 4
theorem Jg(m:List Int)(i:Nat):List.take 4 (List.drop (i*4) ((m.map D.i).map V.d))=((rowOf m i).map D.i).map V.d:=by simp[rowOf,List.map_take,List.map_drop]
theorem FJ{m:List Int}(hm:m.length=16){i k:Nat}(hi:i<4)(hk:k<4):((rowOf m i).map D.i)[k]? =some (D.i (m.getD (i*4+k) 0)):=by
 unfold rowOf
 rw[List.getElem?_map,List.getElem?_take_of_lt hk,List.getElem?_drop,List.getD_eq_getElem?_getD]
 have:i*4+k<m.length:=ag
 rw[List.getElem?_eq_getElem this];rfl
theorem AF{c:Nat}{G:List Gr}{so:Nat->ab}{gone:Nat->Prop}{x x' y y':ab}(h:x=y)(h':x'=y')(hs:tg c G so gone y y'):tg c G so gone x x':=by rw[h,h'];exact hs
def JE(m:List Int)(c:Nat)(l:List lb):Nat->ab:=aA (aA (fun _=> .no) 0 (mR m)) c (.arr 0 64 3 (l.map lb.d))
theorem pc(m:List Int)(l:List lb):Good (JE m 4 l) 5:=(Good.nil.aA ag (OV _ _)).aA ag rfl
theorem lsH_0(m:List Int)(l:List lb):JE m 4 l 0=mR m:=by unfold JE;rw[af _ _ _ _ (by omega),ad]
theorem lsH_4(m:List Int)(l:List lb):JE m 4 l 4= .arr 0 64 3 (l.map lb.d):=by unfold JE;rw[ad]
theorem SO(m:List Int)(hm:m.length=16):aR Tryz.prog 67 [mD m] (.ret [.sl ((sS m 16).map lb.d)]):=by
 refine aR.aG mix Xo aK ?_
 rw[c67]
 refine bc ?_
 have hg:Good (aA (fun _=> .no) 0 (mR m)) 4:=Good.nil.aA ag (OV _ _)
 refine aC (fun i:Nat=>⟨aW [.aa, .ptr 0 0, .aa, .osl 4 0, .aa, .aa, .aa, .d (.i i)],JE m 4 (sS m (i*4)),5⟩)
  (fun i=>i<=4) (fun i=>4 - i) 0 (Nat.zero_le _) (bf.iK (ty:=64) (sz:=3) (es:=[]) (fun _=>False) .a8 4 _ ag (fun j hj=> ?_) (by unfold JE;rw[ad];rfl) (.inl ⟨rfl,rfl,cl⟩) (fun j hj=> ?_) (fun _ h=>h.elim) ?_) (fun i hi=> ?_)
 ·exact AF (y:=aA (fun _=> .no) 0 (mR m) j) rfl (by unfold JE;rw[af _ _ _ _ (by omega)]) (bw rfl (fun r hr=>hg.refs j r hr))
 ·exact JX
 ·exact qp
 replace hi:i<=4:=hi
 refine bc ?_
 refine ai (fun h1=> ?_) (fun h1=> ?_)
 ·replace h1:i<4:=by simp at h1;omega
  have li:i*4+4<=((m.map D.i).map V.d).length:=by rw[DZ m hm];omega
  simp+contextual (disch:=first|omega|simp only[go_sem,false_implies]) only[go_sem,wrap64,if_pos,lsH_0,Int.toNat_natCast,Jg,tM,if_pos li]
  refine aC (fun j:Nat=>⟨aW [.aa, .ptr 0 0, .aa, .osl 4 0, .d (.i i), .aa, .aa, .d (.i i), .aa, .aa, .aa, .aa, .d (.agg ((rowOf m i).map D.i)), .d (.i j)],JE m 4 (sS m (i*4+j)),5⟩)
   (fun j=>j<=4) (fun j=>4 - j) 0 (Nat.zero_le _) (bf.bC _ (show 0<=5 from ag) ag (pc _ _) (fun j hj=>rfl) ?_) (fun j hj=> ?_)
  ·exact cN
  replace hj:j<=4:=hj
  refine bc ?_
  refine ai (fun h2=> ?_) (fun h2=> ?_)
  ·replace h2:j<4:=by simp at h2;omega
   have hx:=FJ hm h1 h2
   have Zm:=HL m (i*4+j)
   have e1:(i*4+j)/4=i:=ag
   have e2:(i*4+j)%4=j:=ag
   rw[e1,e2]at Zm
   simp+contextual (disch:=first|omega|simp only[go_sem,false_implies]) only[go_sem,wrap64,if_pos,Int.toNat_natCast,Nat.mul_one,Zl,hx,Option.map_some]
   have hlen:=K7 m (i*4+j)
   refine ai (fun h3=> ?_) (fun h3=> ?_)
   ·have mU:m.getD (i*4+j) 0≠0:=by simpa using h3
    rw[if_pos mU]at Zm
    simp+contextual (disch:=first|omega|simp only[go_sem,false_implies]) only[go_sem,wrap64,if_pos,lsH_4,List.length_map]
    have hgl:=pc m (sS m (i*4+j))
    refine aj (j+1) h2 ag (bf.iK (fun j=>j=4) (.osl 4 1) 4 _ ag (fun q hq=> ?_) (lsH_4 _ _) (.inr ⟨4,1,rfl,rfl, ?_⟩) (fun q hq=> ?_) (fun q h h2=>ag) ?_)
    ·exact AF (y:=aA (fun _=> .no) 0 (mR m) q) JX JX (bw rfl (fun r hr=>hg.refs q r hr))
    ·(repeat(first|rfl|rw[ad]|rw[af _ _ _ _ (by omega)]))
     rw[<- Nat.add_assoc,Zm,List.map_append];rfl
    ·exact JX
    ·exact qp
   ·have mU: ¬m.getD (i*4+j) 0≠0:=by simpa using h3
    rw[if_neg mU,List.append_nil]at Zm
    refine bc ?_
    refine aj (j+1) h2 ag (bf.bC _ (show 0<=5 from ag) ag (pc _ _) (fun q hq=> ?_) ?_)
    ·rw[<- Nat.add_assoc,Zm]
    ·exact cN
  ·have yU:j=4:=by simp at h2;omega
   subst yU
   refine bc ?_
   refine aj (i+1) h1 ag (bf.bC _ (show 0<=5 from ag) ag (pc _ _) (fun q hq=> ?_) ?_)
   ·rw[show(i+1)*4=i*4+4 by omega]
   ·exact cN
 ·have om:i=4:=by simp at h1;omega
  subst om
  simp+contextual (disch:=first|omega|simp only[go_sem,false_implies]) only[go_sem,wrap64,if_pos,lsH_4]
theorem LV(a b a' b':Int)(l l':Bool):nN Tryz.prog 100 64 (.agg [.i a, .i b, .bool l]) (.agg [.i a', .i b', .bool l'])=some (a==a'&&(b==b'&&l==l')):=by
 have h1:bF Tryz.prog 64=some (.struct [(3,0),(3,1),(4,2)]):=ah
 have h2:bF Tryz.prog 4=some .bool:=ah
 have h3:bF Tryz.prog 3=some .int:=ah
 have h4:cE Tryz.prog 4=some false:=ah
 have h5:cE Tryz.prog 3=some false:=ah
 simp[nN,h1,h2,h3,h4,h5,uW,M3,fQ,En]
theorem LW(o:Nat->ab)(mS:Bool)(x:lb):ua Tryz.prog o 64 mS (.d (.agg [.i x.f, .i x.t, .bool x.l])) (.d (.agg [.i x.f, .i x.t, .bool x.l]))=some (.d (.bool true)):=by
 obtain⟨fs,h⟩:∃fs,Tryz.prog.underlying 64=some (.struct fs):=structOf ah
 have h2:Tryz.prog.eqGuardType Tryz.prog.depth 64=false:=ah
 unfold ua
 rw[h]
 dsimp only
 rw[if_pos h2,LV]
 simp
theorem uH(l:List lb)(hl:l.length<=1000000):aR Tryz.prog 33 [.sl (l.map lb.d), .sl (l.map lb.d)] (.ret [.bool true]):=by
 refine aR.aG mix Xj aK ?_
 rw[c33]
 have hnn:((l.length:Int)!=(l.length:Int))=false:=aK
 refine ll hnn ?_
 refine aC (fun k:Nat=>⟨aW [.d (.sl (l.map lb.d)), .d (.sl (l.map lb.d)), .aa, .aa, .aa, .d (.i k)],fun _=> .no,1⟩)
  (fun k=>k<=l.length) (fun k=>l.length - k) 0 (Nat.zero_le _) (bf.bC _ (show 0<=1 from ag) ag eH (fun _ _=>rfl) ?_) (fun k hk=> ?_)
 ·exact cN
 replace hk:k<=l.length:=hk
 refine nk ?_
 refine ai (fun h2=> ?_) (fun h2=> ?_)
 ·simp at h2
  obtain⟨x,hx⟩:=Zk h2
  simp+contextual (disch:=first|omega|simp only[go_sem,false_implies]) only[go_sem,wrap64,if_pos,hx,LW,Option.bind_some]
  refine aO (aP rfl) ?_
  refine bc ?_
  refine aj (k+1) h2 ag (bf.bC _ (show 0<=1 from ag) ag eH (fun _ _=>rfl) ?_)
  exact cN
 ·exact yc
theorem Jh{α:Type}{l:List α}{k:Nat}{x:α}(hx:l[k]? =some x)(f:α->Bool):(l.take (k+1)).any f=((l.take k).any f||f x):=by
 rw[List.take_add_one,hx];simp
theorem Ji(l:List Int)(n:Int)(hl:l.length<=1000000):aR Tryz.prog 124 [.sl (l.map .i), .i n] (.ret [.bool (l.contains n)]):=by
 refine aR.aG mix X5 aK ?_
 rw[X4]
 refine bc ?_
 refine aC (fun k:Nat=>⟨aW [.d (.sl (l.map .i)), .d (.i n), .aa, .aa, .aa, .d (.i k)],fun _=> .no,0⟩)
  (fun k=>k<=l.length/\(l.take k).contains n=false) (fun k=>l.length - k) 0 ⟨Nat.zero_le _,aK⟩ (bf.d0 _ ?_) (fun k hk=> ?_)
 ·exact cN
 refine bc ?_
 refine ai (fun h2=> ?_) (fun h2=> ?_)
 ·simp at h2
  obtain⟨x,hx⟩:=aB h2
  refine gD hx ?_
  refine ai (fun h3=> ?_) (fun h3=> ?_)
  ·refine bc ?_
   have:l.contains n=true:=by
    rw[List.contains_iff_mem, <- (by simpa using h3:x=n)];exact List.mem_of_getElem? hx
   rw[this]
  ·refine bc ?_
   refine aj (k+1) ⟨h2, ?_⟩ ag (bf.d0 _ ?_)
   ·have h4: ¬n=x:=fun e=>by subst e;simp at h3
    have h5:=hk.2
    rw[List.take_add_one,hx]
    rw[Bool.eq_false_iff]at h5|-
    intro hc;apply h5
    rw[List.contains_iff_mem]at hc|-
    rcases List.mem_append.1 hc with hc|hc
    ·exact hc
    ·simp at hc;exact absurd hc h4
   ·exact cN
 ·simp at h2
  refine bc ?_
  have:=hk.2
  rw[List.take_of_length_le (by omega)]at this
  rw[this]
theorem tN:∀ (l:List Int) (n:Int),∃k,k<=l.length/\(∀x∈l.take k,x<n)/\(∀x,l[k]? =some x-> ¬x<n)/\jc l n=if l[k]? =some n then l else l.take k++n::l.drop k
 |[],n=>⟨0,Nat.zero_le _,aK,aK,by simp[jc]⟩
 |x::l,n=>by
  obtain⟨k,h1,h2,h3,h4⟩:=tN l n
  by_cases hx:x<n
  ·refine⟨k+1,by simp;omega, ?_,by simpa using h3, ?_⟩
   ·intro y hy
    simp only[List.take_succ_cons,List.mem_cons]at hy
    rcases hy with rfl|hy
    ·exact hx
    ·exact h2 y hy
   ·simp only[jc,if_pos hx,h4,List.getElem?_cons_succ,List.take_succ_cons,List.drop_succ_cons]
    split<;>simp
  ·refine⟨0,Nat.zero_le _,aK,by simpa using hx, ?_⟩
   simp only[jc,if_neg hx]
   by_cases e:x=n
   ·subst e;simp
   ·simp[e]
theorem GL(l:List Int)(n:Int)(hl:l.length<=1000000):aR Tryz.prog 92 [.sl (l.map .i), .i n] (.ret [.sl ((jc l n).map .i)]):=by
 obtain⟨j,j1,j2,j3,j4⟩:=tN l n
 have tk:∀ (i:Nat) (l:List Int),List.take i (l.map D.i)=(l.take i).map D.i:=fun i l=>List.map_take.symm
 have dr:∀ (i:Nat) (l:List Int),List.drop i (l.map D.i)=(l.drop i).map D.i:=fun i l=>List.map_drop.symm
 have ap:∀ (a b:List Int),a.map D.i++[D.i n]++b.map D.i=(a++n::b).map D.i:=fun a b=>aK
 refine aR.aG mix abH aK ?_
 rw[c92]
 refine bc ?_
 refine aC (fun k:Nat=>⟨aW [.d (.sl (l.map .i)), .d (.i n), .aa, .aa, .aa, .d (.i k)],fun _=> .no,0⟩)
  (fun k=>k<=j) (fun k=>l.length - k) 0 (Nat.zero_le _) (bf.d0 _ ?_) (fun k hk=> ?_)
 ·exact cN
 by_cases hkj:k=j
 ·subst hkj
  by_cases h5:k<l.length
  ·obtain⟨x,hx⟩:=aB h5
   have h6:=j3 x hx
   have ub:(k:Int)<l.length:=ag
   refine Ba hx ub h6 ?_
   refine ai (fun h3=> ?_) (fun h3=> ?_)
   ·refine bc ?_
    have e:x=n:=by simpa using h3
    rw[j4,if_pos (by rw[hx,e])]
   ·have e: ¬x=n:=by simpa using h3
    rw[j4,if_neg (by rw[hx];simpa using e)]
    simp+contextual (disch:=first|omega|simp only[go_sem,false_implies]) only[go_sem,wrap64,if_pos,hx,ub,h6,tk,dr,List.take_length,List.length_map,List.length_take,List.length_drop,List.length_append,List.length_cons,List.length_nil]
    rw[ap]
    exact J9
  ·have ub: ¬ (k:Int)<l.length:=ag
   have hx:l[k]? =none:=by simp;omega
   rw[j4,if_neg (by rw[hx];simp)]
   simp+contextual (disch:=first|omega|simp only[go_sem,false_implies]) only[go_sem,wrap64,if_pos,ub,tk,dr,List.take_length,List.length_map,List.length_take,List.length_drop,List.length_append,List.length_cons,List.length_nil]
   rw[ap]
   exact J9
 ·have cc:k<l.length:=ag
  obtain⟨x,hx⟩:=aB cc
  have ub:(k:Int)<l.length:=ag
  have h6:x<n:=j2 x (List.mem_of_getElem? (i:=k) (by rw[List.getElem?_take_of_lt (by omega)];exact hx))
  refine Ba hx ub h6 ?_
  refine aj (k+1) ag ag (bf.d0 _ ?_)
  exact cN
theorem Cu(a b:List Int)(ha:a.length<=1000000)(hb:b.length<=1000000):aR Tryz.prog 45 [.sl (a.map .i), .sl (b.map .i)] (.ret [.bool (a==b)]):=by
 refine aR.aG mix Xn aK ?_
 rw[c45]
 refine bc ?_
 refine ai (fun h1=> ?_) (fun h1=> ?_)
 ·refine bc ?_
  have:(a==b)=false:=by
   rw[Bool.eq_false_iff];intro h
   have h:a=b:=by simpa using h
   subst h;simp at h1
  rw[this]
 ·have hl:a.length=b.length:=by simp at h1;omega
  refine bc ?_
  refine aC (fun k:Nat=>⟨aW [.d (.sl (a.map .i)), .d (.sl (b.map .i)), .aa, .aa, .aa, .d (.i k)],fun _=> .no,0⟩)
   (fun k=>k<=a.length/\a.take k=b.take k) (fun k=>a.length - k) 0 ⟨Nat.zero_le _,aK⟩ (bf.d0 _ ?_) (fun k hk=> ?_)
  ·exact cN
  refine bc ?_
  refine ai (fun h2=> ?_) (fun h2=> ?_)
  ·simp at h2
   obtain⟨x,hx⟩:=aB h2
   obtain⟨y,hy⟩:=aB (l:=b) (k:=k) ag
   refine JD hx hy ?_
   refine aO cl ?_
   refine bc ?_
   refine ai (fun h3=> ?_) (fun h3=> ?_)
   ·refine bc ?_
    have:(a==b)=false:=by
     rw[Bool.eq_false_iff];intro h
     have h:a=b:=by simpa using h
     subst h;rw[hx]at hy;injection hy with hy;simp[hy]at h3
    rw[this]
   ·refine bc ?_
    have e:x=y:=by simpa using h3
    refine aj (k+1) ⟨h2,by rw[List.take_add_one,List.take_add_one,hk.2,hx,hy,e]⟩ ag (bf.d0 _ ?_)
    exact cN
  ·simp at h2
   refine bc ?_
   have:=hk.2
   rw[List.take_of_length_le (by omega),List.take_of_length_le (by omega)]at this
   simp[this]
theorem pC{op n:Int}{i:Nat}{l:List Int}{k:Nat}{v:Int}(h:l[k]? =some v)(out:List Int):kV op n i (l.take (k+1)) out=if(op !=8||(i:Int)!=1||v !=n)=true then jc (kV op n i (l.take k) out) v else kV op n i (l.take k) out:=by
 unfold kV
 rw[List.take_add_one,h,List.foldl_append]
 rfl
theorem rR:∀t:Tm,t.Cg->aR Tryz.prog 114 [t.d] (.ret [.sl ((bK t).map .i)]):=by
 refine Tm.dy fun t ih ht=> ?_
 have jG:=(Tm.bg _).1 ht.fits
 refine aR.aG mix XP aK ?_
 rw[XO]
 by_cases h1:t.op=1
 ·refine gD h1 ?_
  rw[mi,if_pos h1]
  rfl
 ·have om:(t.op==1)=false:=by simpa using h1
  refine gD om ?_
  rw[mi,if_neg h1]
  refine aC (fun i:Nat×List Int=>⟨aW [.aa, .ptr 0 0, .aa, .d (.sl (i.2.map .i)), .d (.i i.1)],hU t.row,1⟩)
   (fun i=>i.1<=t.kids.length/\hY t.op t.n t.kids 0 []=hY t.op t.n (t.kids.drop i.1) i.1 i.2/\i.2.length<=fO (t.kids.take i.1)) (fun i=>t.kids.length - i.1) (0,[]) ⟨Nat.zero_le _,rfl,Nat.zero_le _⟩
   (bf.YW (fun _=>False) 1 _ ag (FZ (bw rfl lA)) (fun j hj=>af _ _ _ _ ag) (fun _ h=>h.elim) ?_) ?_
  ·try dsimp only
   exact qp
  rintro⟨k,out⟩ ⟨hk,hv,hlen⟩
  simp only at hk hv hlen
  refine bc ?_
  refine ai (fun h2=> ?_) (fun h2=> ?_)
  ·simp at h2
   obtain⟨x,hx⟩:=aB h2
   have eC:=List.mem_of_getElem? hx
   have dh:fO (t.kids.take (k+1))=fO (t.kids.take k)+x.sz:=by
    rw[List.take_add_one,hx];simp[fO]
   have hle:fO (t.kids.take (k+1))<=fO t.kids:=by
    have:fO t.kids=fO (t.kids.take (k+1))+fO (t.kids.drop (k+1)):=by
     conv=>lhs;rw[<- List.take_append_drop (k+1) t.kids]
     exact J2
    omega
   have qy:fO t.kids<=1000000:=by have:=ht.size;rw[Tm.oS,Tm.hZ]at this;omega
   have ZB:=kn x
   have hdr:t.kids.drop k=x::t.kids.drop (k+1):=by
    exact MN
   refine gD hx ?_
   refine bz (ih x eC (ht.Y9 eC)) ?_
   refine gD hx ?_
   refine aC (fun j:Nat=>⟨aW [.aa, .ptr 0 0, .aa, .d (.sl ((kV t.op t.n k ((bK x).take j) out).map .i)), .d (.i k), .d (.sl ((bK x).map .i)), .d (.i j)],hU t.row,1⟩)
    (fun j=>j<=(bK x).length) (fun j=>(bK x).length - j) 0 (Nat.zero_le _) (bf.d1 _ (aS rfl) ag rfl ?_) (fun j hj=> ?_)
   ·exact cN
   refine bc ?_
   refine ai (fun h3=> ?_) (fun h3=> ?_)
   ·simp at h3
    obtain⟨v,JH⟩:=aB h3
    have Ej:=mj t.op t.n k ((bK x).take j) out
    have htl:((bK x).take j).length<=(bK x).length:=by rw[List.length_take];omega
    cases b1:(t.op !=8)with
    |true=>
     have hc:(t.op !=8||(k:Int)!=1||v !=t.n)=true:=by rw[b1];rfl
     refine JD JH b1 ?_
     exact Vj
    |false=>
     cases b2:((k:Int)!=1)with
     |true=>
      have hc:(t.op !=8||(k:Int)!=1||v !=t.n)=true:=by rw[b1,b2];rfl
      refine Ba JH b1 b2 ?_
      exact Vj
     |false=>
      refine Ba JH b1 b2 ?_
      refine aO cl ?_
      refine gD JH ?_
      refine ai (fun h4=> ?_) (fun h4=> ?_)
      ·have hc:(t.op !=8||(k:Int)!=1||v !=t.n)=true:=by rw[h4];simp
       refine gD JH ?_
       refine bz (GL _ v ag) ?_
       refine bc ?_
       refine aj (j+1) h3 ag (bf.d1 _ (aS rfl) ag rfl ?_)
       rw[pC JH,if_pos hc]
       exact cN
      ·have hc: ¬ (t.op !=8||(k:Int)!=1||v !=t.n)=true:=by rw[b1,b2,h4];simp
       refine gD JH ?_
       refine aj (j+1) h3 ag (bf.d1 _ (aS rfl) ag rfl ?_)
       rw[pC JH,if_neg hc]
       exact cN
   ·simp at h3
    refine bc ?_
    rw[List.take_of_length_le (by omega)]
    refine aj (k+1,kV t.op t.n k (bK x) out) ⟨h2,by rw[hv,hdr];rfl, ?_⟩ nQ (bf.d1 _ (aS rfl) ag rfl ?_)
    ·dsimp only
     have:=mj t.op t.n k (bK x) out
     omega
    ·exact cN
  ·simp at h2
   refine bc ?_
   rw[hv,List.drop_eq_nil_of_le (by omega)]
   rfl
theorem LX:∀t:Tm,t.fits->aR Tryz.prog 153 [t.d] (.ret [.bool (fM t)]):=by
 refine Tm.dy fun t ih hf=> ?_
 have jG:=(Tm.bg _).1 hf
 refine aR.aG mix Yx aK ?_
 rw[Yw,vY]
 refine bc ?_
 refine aC (fun k:Nat=>⟨aW [.aa, .ptr 0 0, .aa, .d (.i k)],hU t.row,1⟩)
  (fun k=>k<=t.kids.length/\(t.kids.take k).all fM=true) (fun k=>t.kids.length - k) 0 ⟨Nat.zero_le _,aK⟩ (bf.d1 _ (aS rfl) ag rfl ?_) (fun k hk=> ?_)
 ·exact cN
 refine bc ?_
 refine ai (fun h2=> ?_) (fun h2=> ?_)
 ·simp at h2
  obtain⟨x,hx⟩:=aB h2
  have eC:=List.mem_of_getElem? hx
  refine gD hx ?_
  refine aD (ih x eC (jG.2 x eC)) rfl ?_
  refine bc ?_
  refine ai (fun h3=> ?_) (fun h3=> ?_)
  ·refine bc ?_
   simp at h3
   rw[cj hx h3];rfl
  ·exact Vt
 ·refine bc ?_
  simp at h2
  rw[dY hk.2 h2];rfl
theorem SP:∀t:Tm,t.Cg->∀b:List Int,b.length+t.sz<=1000000->aR Tryz.prog 152 [t.d, .sl (b.map .i)] (.ret [.sl ((fl t b).1.map .i), .bool (fl t b).2]):=by
 refine Tm.dy fun t ih ht b hb=> ?_
 have jG:=(Tm.bg _).1 ht.fits
 refine aR.aG mix Yv aK ?_
 rw[Yu]
 by_cases h1:t.op=1
 ·rw[o6,if_pos h1]
  refine gD h1 ?_
  refine cW (GL _ _ ag) ?_
  refine bc ?_
  refine aQ (Ji _ _ ag) rfl ?_
  refine bc ?_
  exact J9
 ·have om:(t.op==1)=false:=by simpa using h1
  rw[o6,if_neg h1]
  refine gD om ?_
  refine aC (fun i:Nat×List Int×Bool=>⟨aW [.aa, .d (.sl (i.2.1.map .i)), .ptr 0 0, .aa, .aa, .aa, .d (.bool i.2.2), .d (.i i.1)],hU t.row,1⟩)
   (fun i=>i.1<=t.kids.length/\eW t.kids b=(if i.2.2=true then eW (t.kids.drop i.1) i.2.1 else(i.2.1,false))/\i.2.1.length<=b.length+fO (t.kids.take i.1)) (fun i=>t.kids.length - i.1) (0,b,true) ⟨Nat.zero_le _,rfl,Nat.le_add_right _ _⟩ (bf.d1 _ (aS rfl) ag rfl ?_) ?_
  ·dsimp only
   exact cN
  rintro⟨k,b',is⟩ ⟨hk,hv,hlen⟩
  simp only at hk hv hlen
  have qy:=Tm.hZ t
  have fin:is=false\/t.kids.length<=k->eW t.kids b=(b',is):=by
   intro h
   cases is with
   |false=>rw[hv];rfl
   |true=>
    have h:t.kids.length<=k:=by simpa using h
    rw[hv,List.drop_eq_nil_of_le h];rfl
  refine bc ?_
  cases is with
  |false=>
   refine bc ?_
   rw[fin (.inl rfl)]
  |true=>
   refine bc ?_
   refine ai (fun h2=> ?_) (fun h2=> ?_)
   ·simp at h2
    obtain⟨x,hx⟩:=aB h2
    have eC:=List.mem_of_getElem? hx
    have dh:fO (t.kids.take (k+1))=fO (t.kids.take k)+x.sz:=by
     rw[List.take_add_one,hx];simp[fO]
    have hle:fO t.kids=fO (t.kids.take (k+1))+fO (t.kids.drop (k+1)):=by
     conv=>lhs;rw[<- List.take_append_drop (k+1) t.kids]
     exact J2
    have hdr:t.kids.drop k=x::t.kids.drop (k+1):=by
     exact MN
    refine gD hx ?_
    refine bz (ih x eC (ht.Y9 eC) b' ag) ?_
    refine bc ?_
    refine aj (k+1,(fl x b').1,(fl x b').2) ⟨h2, ?_, ?_⟩ nQ (bf.d1 _ (aS rfl) ag rfl ?_)
    ·dsimp only
     rw[hv,if_pos rfl,hdr]
     simp only[eW]
    ·dsimp only
     have:=FB x b'
     omega
    ·exact cN
   ·simp at h2
    refine bc ?_
    rw[fin (.inr h2)]
theorem FK(t:Tm)(ht:t.Cg):aR Tryz.prog 110 [t.d] (.ret [.bool ((fl t []).2&&fM t)]):=by
 have ho:=SP t ht [] (by have:=ht.size;rw[Tm.oS]at this;simp;omega)
 simp only[List.map_nil]at ho
 refine aR.aG mix XH aK ?_
 rw[XG]
 refine bc ?_
 refine bz ho ?_
 refine bc ?_
 refine eT (dX [.bool (fM t)] ?_ ?_)
 ·refine bc ?_
  exact fun _=>LX t ht.fits
 exact yc
def IC.snd:IC->IC
 | .seq _ y=>y
 |c=>c
def IC.fst:IC->IC
 | .seq x _=>x
 | .block _ x=>x
 | .loop x=>x
 | .cond _ x _=>x
 |c=>c
theorem cw{c:Nat}{G:List Gr}{so:Nat->ab}{gone:Nat->Prop}{x x' y y':ab}(h:x=y)(h':x'=y')(hs:tg c G so gone y y'):tg c G so gone x x':=by rw[h,h'];exact hs
theorem fR{l:List Tm}{k:Tm}(h:k∈l):k.sz<=fO l:=by
 induction l with
 |nil=>cases h
 |cons x l ih=>
  rw[fL]
  rcases List.mem_cons.1 h with e|e
  ·subst e;omega
  ·have:=ih e;omega
theorem tO:∀t:Tm,t.la<=t.sz:=by
 refine Tm.dy fun t ih=> ?_
 rw[Tm.Ch,Tm.hZ]
 have:=(rO t.kids (fO t.kids)).2 fun k hk=>Nat.le_trans (ih k hk) (fR hk)
 omega
theorem Tm.Cg.Cv {t:Tm}(hf:t.fits)(h:t.sz<=900000):t.Cg:=⟨⟨hf,Nat.le_trans (tO t) h⟩,by rw[Tm.oS];omega⟩
theorem tP(l:List Tm)(h:∀k∈l,(dg k).length<=k.sz):(cB l).length<=fO l:=by
 induction l with
 |nil=>simp[cB]
 |cons k l ih=>
  rw[cB,List.length_append,fL]
  have:=h k aK
  have:=ih fun x hx=>h x mQ
  omega
theorem ql:∀t:Tm,(dg t).length<=t.sz:=by
 refine Tm.dy fun t ih=> ?_
 have:=tP t.kids ih
 rw[qh,List.length_append,Tm.hZ]
 split<;>simp<;>omega
theorem uI(a b:List Tm):cB (a++b)=cB a++cB b:=by
 induction a with
 |nil=>simp[cB]
 |cons k a ih=>simp[cB,ih]
def Jj:IC:=Lq.snd.snd.snd.fst.snd.fst.fst
theorem tQ{t:Tm}(hf:t.fits)(hz:t.sz<=1000000)(ih:∀k∈t.kids,k.fits->k.sz<=1000000->aR Tryz.prog 154 [k.d] (.ret [.sl ((dg k).map .i)]))(p:List Int)(hp:p.length<=1){e:Nat->V}{o:Nat->ab}{nx:Nat}{Q:eK->S->Prop}
 (hs:bf 0 ⟨e,o,nx⟩ ⟨aW [.aa, .ptr 0 0, .aa, .osl 1 0, .d (.i 0)],aA (aA (fun _=> .no) 0 (.row t.row)) 1 (.arr 0 3 1 (p.map .i)),2⟩)
 (hQ:∀e' n',e' 3= .osl 1 0->Q (.exit 0) ⟨e',aA (aA (fun _=> .no) 0 (.row t.row)) 1 (.arr 0 3 1 ((p++cB t.kids).map .i)),n'⟩):
 sR 0 (fun Q s=>kN Tryz.prog 29 0 false Jj Q s) Q ⟨e,o,nx⟩:=by
 have jG:=(Tm.bg _).1 hf
 have qy:=Tm.hZ t
 refine aC (fun i:Nat=>⟨aW [.aa, .ptr 0 0, .aa, .osl 1 0, .d (.i i)],aA (aA (fun _=> .no) 0 (.row t.row)) 1 (.arr 0 3 1 ((p++cB (t.kids.take i)).map .i)),2⟩)
  (fun i=>i<=t.kids.length) (fun i=>t.kids.length - i) 0 (Nat.zero_le _) ?_ fun k hk=> ?_
 ·simpa[cB]using hs
 replace hk:k<=t.kids.length:=hk
 simp only[Jj,Lq,IC.snd,IC.fst]
 refine nk ?_
 refine ai (fun h2=> ?_) (fun h2=> ?_)
 ·simp at h2
  obtain⟨x,hx⟩:=aB h2
  have eC:=List.mem_of_getElem? hx
  have A4:t.kids.take (k+1)=t.kids.take k++[x]:=by rw[List.take_add_one,hx];rfl
  have uv:(cB (t.kids.take k)).length<=fO (t.kids.take k):=tP _ fun y _=>ql y
  have dh:fO t.kids=fO (t.kids.take k)+fO (t.kids.drop k):=by
   conv=>lhs;rw[<- List.take_append_drop k t.kids]
   exact J2
  have Bp:=fR eC
  have Vc:=ql x
  have ZA:(p++cB (t.kids.take k)).length<=1000001:=by rw[List.length_append];omega
  refine ll hx ?_
  refine bz (ih x eC (jG.2 x eC) ag) ?_
  refine ll hx ?_
  refine aj (k+1) h2 ag (bf.iK (fun j=>j=1) (.osl 1 1) 1 _ ag (FZ (cw (y:= .row t.row) eO eO (bw rfl lA))) (ad _ _ _) (.inr ⟨1,1,rfl,rfl,by(repeat(first|rfl|rw[ad]|rw[af _ _ _ _ (by omega)]));rw[A4,uI, <- List.append_assoc,List.map_append];simp[cB]⟩) (fun j hj=>by(repeat(first|rfl|rw[ad]|rw[af _ _ _ _ (by omega)]))) (fun j h h2=>ag) ?_)
  exact qp
 ·simp at h2
  have Ej:k=t.kids.length:=ag
  exact PV
theorem LY:∀t:Tm,t.fits->t.sz<=1000000->aR Tryz.prog 154 [t.d] (.ret [.sl ((dg t).map .i)]):=by
 refine Tm.dy fun t ih hf hz=> ?_
 refine aR.aG mix Yy aK ?_
 rw[Lq,qh]
 by_cases h8:t.op=8
 ·have h8':(t.op==8)=true:=by simpa using h8
  refine gD h8' ?_
  rw[if_pos h8]
  refine tQ hf hz ih [t.n] aK ?_ fun e' n' he=> ?_
  ·refine bf.iK (fun j=>1<=j) _ 1 _ ag (FZ (cw (y:= .row t.row) eO eO (bw rfl lA))) (ad _ _ _) (.inr ⟨_,_, ?_,rfl,by(repeat(first|rfl|rw[ad]|rw[af _ _ _ _ (by omega)]))⟩) (fun j hj=>by(repeat(first|rfl|rw[ad]|rw[af _ _ _ _ (by omega)]))) (fun j h h2=>ag) ?_
   ·decide
   ·exact qp
  ·exact D8 he
 ·have h8':(t.op==8)=false:=by simpa using h8
  refine gD h8' ?_
  rw[if_neg h8]
  refine tQ hf hz ih [] aK ?_ fun e' n' he=> ?_
  ·exact Vg
  ·exact D8 he
theorem Jk(l:List Int)(n:Int)(hl:l.length<=1000000):aR Tryz.prog 155 [.sl (l.map .i), .i n] (.ret [.i (l.count n)]):=by
 refine aR.aG mix YA aK ?_
 rw[Yz]
 refine bc ?_
 refine aC (fun k:Nat=>⟨aW [.d (.sl (l.map .i)), .d (.i n), .aa, .aa, .aa, .d (.i ((l.take k).count n)), .d (.i k)],fun _=> .no,0⟩)
  (fun k=>k<=l.length) (fun k=>l.length - k) 0 (Nat.zero_le _) (bf.d0 _ ?_) (fun k hk=> ?_)
 ·exact cN
 replace hk:k<=l.length:=hk
 have hc:(l.take k).count n<=1000000:=by have:=List.count_le_length (a:=n) (l:=l.take k);rw[List.length_take]at this;omega
 refine nk ?_
 refine ai (fun h2=> ?_) (fun h2=> ?_)
 ·simp at h2
  obtain⟨x,hx⟩:=aB h2
  have A4:(l.take (k+1)).count n=(l.take k).count n+if x=n then 1 else 0:=by rw[List.take_add_one,hx,List.count_append];simp[List.count_singleton]
  refine ll hx ?_
  refine ai (fun h3=> ?_) (fun h3=> ?_)
  ·have mU:x=n:=by simpa using h3
   rw[if_pos mU]at A4
   exact PO
  ·have mU: ¬x=n:=by simpa using h3
   rw[if_neg mU]at A4
   exact PO
 ·simp at h2
  refine bc ?_
  rw[List.take_of_length_le h2]
theorem qY(n:Int):∀l:List Tm,gO n l=l.all (dO n)
 |[]=>rfl
 |k::l=>by simp[gO,qY n l]
theorem AG(n:Int):∀t:Tm,t.fits->aR Tryz.prog 111 [t.d, .i n] (.ret [.bool (dO n t)]):=by
 refine Tm.dy fun t ih hf=> ?_
 have jG:=(Tm.bg _).1 hf
 refine aR.aG mix XJ aK ?_
 rw[XI,tF,qY]
 refine bc ?_
 refine aC (fun k:Nat=>⟨aW [.aa, .d (.i n), .ptr 0 0, .aa, .aa, .d (.i k)],hU t.row,1⟩)
  (fun k=>k<=t.kids.length/\(t.kids.take k).all (dO n)=true) (fun k=>t.kids.length - k) 0 ⟨Nat.zero_le _,aK⟩ (bf.d1 _ (aS rfl) ag rfl ?_) (fun k hk=> ?_)
 ·exact cN
 refine bc ?_
 refine ai (fun h2=> ?_) (fun h2=> ?_)
 ·simp at h2
  obtain⟨x,hx⟩:=aB h2
  have eC:=List.mem_of_getElem? hx
  refine gD hx ?_
  refine aD (ih x eC (jG.2 x eC)) rfl ?_
  refine bc ?_
  refine ai (fun h3=> ?_) (fun h3=> ?_)
  ·refine bc ?_
   simp at h3
   rw[cj hx h3];rfl
  ·exact Vt
 ·simp at h2
  rw[dY hk.2 h2,Bool.true_and]
  exact yc
theorem AH(l:List Tm):aR Tryz.prog 115 [.sl (l.map Tm.d)] (.ret [(Tm.mk 0 0 l).d]):=by
 refine aR.aG mix XR aK ?_
 rw[XQ,Tm.K5]
 exact yc
structure Jl (l:List Tm):Prop where
 len:l.length<=1000
 all:∀t∈l,t.fits/\t.sz<=500
theorem Jl.cnt {l:List Tm}(h:Jl l){t:Tm}(ht:t∈l):t.Cg:=Tm.Cg.Cv (h.all t ht).1 (by have:=(h.all t ht).2;omega)
theorem Jl.fO {l:List Tm}(h:Jl l):fO l<=500000:=by
 have:∀l:List Tm,(∀t∈l,t.sz<=500)->Go.Proofs.YtnkamdiiakdkgaaGreat.fO l<=500*l.length:=by
  intro l
  induction l with
  |nil=>intro _;simp[Go.Proofs.YtnkamdiiakdkgaaGreat.fO]
  |cons k l ih=>intro h;rw[fL,List.length_cons];have:=h k aK;have:=ih fun x hx=>h x mQ;omega
 have:=this l fun t ht=>(h.all t ht).2
 have:=h.len
 omega
theorem Jl.fits {l:List Tm}(h:Jl l):(Tm.mk 0 0 l).fits:=by
 rw[Tm.bg]
 exact⟨by have:=h.len;simp only[Tm.kids];omega,fun k hk=>(h.all k hk).1⟩
theorem Jl.whole {l:List Tm}(h:Jl l):(Tm.mk 0 0 l).Cg:=Tm.Cg.Cv h.fits (by have:=h.fO;rw[Tm.OS];omega)
theorem Jm(l:List Tm)(h:Jl l):aR Tryz.prog 112 [.sl (l.map Tm.d)] (.ret [.bool (Cp l)]):=by
 have hlen:=h.len
 refine aR.aG mix XL aK ?_
 rw[XK]
 refine bc ?_
 refine aC (fun k:Nat=>⟨aW [.d (.sl (l.map Tm.d)), .aa, .aa, .d (.i (((l.take k).map fun t=>(bK t).length).sum:Nat)), .d (.i k)],fun _=> .no,0⟩)
  (fun k=>k<=l.length) (fun k=>l.length - k) 0 (Nat.zero_le _) (bf.d0 _ ?_) (fun k hk=> ?_)
 ·exact cN
 replace hk:k<=l.length:=hk
 have hs:((l.take k).map fun t=>(bK t).length).sum<=500000:=by
  have h1:∀m:List Tm,(m.map fun t=>(bK t).length).sum<=Go.Proofs.YtnkamdiiakdkgaaGreat.fO m:=by
   intro m
   induction m with
   |nil=>simp[Go.Proofs.YtnkamdiiakdkgaaGreat.fO]
   |cons x m ih=>rw[List.map_cons,List.sum_cons,fL];have:=kn x;omega
  have h2:Go.Proofs.YtnkamdiiakdkgaaGreat.fO l=Go.Proofs.YtnkamdiiakdkgaaGreat.fO (l.take k)+Go.Proofs.YtnkamdiiakdkgaaGreat.fO (l.drop k):=by
   conv=>lhs;rw[<- List.take_append_drop k l]
   unfold Go.Proofs.YtnkamdiiakdkgaaGreat.fO;rw[List.map_append,List.sum_append]
  have:=h1 (l.take k)
  have:=h.fO
  omega
 refine nk ?_
 refine ai (fun h2=> ?_) (fun h2=> ?_)
 ·simp at h2
  obtain⟨x,hx⟩:=aB h2
  have eC:=List.mem_of_getElem? hx
  have hv:=kn x
  have hx5:=(h.all x eC).2
  have A4:((l.take (k+1)).map fun t=>(bK t).length).sum=((l.take k).map fun t=>(bK t).length).sum+(bK x).length:=by rw[List.take_add_one,hx,List.map_append,List.sum_append];simp
  refine ll hx ?_
  refine bz (rR x (h.cnt eC)) ?_
  exact PO
 ·simp at h2
  refine bc ?_
  refine bz (AH l) ?_
  refine bc ?_
  refine bz (rR _ h.whole) ?_
  rw[List.take_of_length_le h2]
  refine nk ?_
  congr 3
  rw[Cp,Bool.eq_iff_iff]
  simp
  omega
theorem LZ(t:Tm)(ht:t.Cg)(p:List Int)(hp:p.length<=1000000):aR Tryz.prog 113 [t.d, .sl (p.map .i)] (.ret [.bool (qi t p)]):=by
 have hz:t.sz<=1000000:=by have:=ht.size;rw[Tm.oS]at this;omega
 have hl:=ql t
 have hv:=kn t
 refine aR.aG mix XN aK ?_
 rw[XM]
 refine bc ?_
 refine cW (LY t ht.fits hz) ?_
 refine bc ?_
 refine cW (rR t ht) ?_
 refine bc ?_
 refine aO cl ?_
 refine bc ?_
 let q:Int->Bool:=fun v=> !(decide (1<((dg t).count v:Int))||p.contains v||(bK t).contains v)
 have hq:qi t p=(dg t).all q:=rfl
 rw[hq]
 refine aC (fun k:Nat=>⟨aW [.aa, .d (.sl (p.map .i)), .ptr 0 0, .aa, .aa, .d (.sl ((dg t).map .i)), .d (.sl ((bK t).map .i)), .d (.i k)],hU t.row,1⟩)
  (fun k=>k<=(dg t).length/\((dg t).take k).all q=true) (fun k=>(dg t).length - k) 0 ⟨Nat.zero_le _,aK⟩ (bf.d1 _ (aS rfl) ag rfl ?_) (fun k hk=> ?_)
 ·exact cN
 refine nk ?_
 refine ai (fun h2=> ?_) (fun h2=> ?_)
 ·simp at h2
  obtain⟨x,hx⟩:=aB h2
  have hqx:q x= !(decide (1<((dg t).count x:Int))||p.contains x||(bK t).contains x):=rfl
  refine ll hx ?_
  refine aD (Jk (dg t) x ag) rfl ?_
  cases h3:decide (1<((dg t).count x:Int))with
  |true=>
   refine A8 hx h3 ?_
   rw[cj hx (by rw[hqx,h3];rfl)]
  |false=>
   refine A8 hx h3 ?_
   refine aD (Ji p x ag) rfl ?_
   cases h4:p.contains x with
   |true=>
    refine A8 hx h3 ?_
    rw[cj hx (by rw[hqx,h3,h4];rfl)]
   |false=>
    refine A8 hx h3 ?_
    refine aD (Ji (bK t) x ag) rfl ?_
    cases h5:(bK t).contains x with
    |true=>
     refine A8 hx h3 ?_
     rw[cj hx (by rw[hqx,h3,h4,h5];rfl)]
    |false=>
     refine A8 hx h3 ?_
     refine aj (k+1) ⟨h2,eD hx hk.2 (by rw[hqx,h3,h4,h5];rfl)⟩ ag (bf.d1 _ (aS rfl) ag rfl ?_)
     exact cN
 ·simp at h2
  rw[dY hk.2 h2]
  exact yc
end Go.Proofs.YtnkamdiiakdkgaaGreat
