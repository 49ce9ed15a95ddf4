/-
  A PART OF THE PROOF. Conditions: none.
-/
import Derived.Shelf.Sort.Plain
import Derived.Shelf.Slices.In.SortNone
import Derived.Shelf.Slices.CompactI
import Derived.Test.YtnkamdiiakdkgaaGreatEu16
set_option linter.unusedSimpArgs false
set_option linter.unusedVariables false
namespace Go.Proofs.YtnkamdiiakdkgaaGreat
def r8(l:List (Tm×Int)):List Int:=(l.filter fun x=>x.1.op==1).map fun x=>x.1.n
theorem uh(a b:List (Tm×Int)):r8 (a++b)=r8 a++r8 b:=by simp[r8]
theorem ui(x:Tm×Int)(l:List (Tm×Int)):r8 (x::l)=(if x.1.op=1 then x.1.n::r8 l else r8 l):=by
 unfold r8
 by_cases h:x.1.op=1
 ·simp[h]
 ·simp[h]
theorem yk{l:List Tm}{d v:Int}:v∈r8 (l.flatMap fun k=>pre k d)↔∃k∈l,v∈r8 (pre k d):=by
 induction l with
 |nil=>simp[r8]
 |cons k l ih=>simp[uh,ih]
theorem yl{v op n:Int}(h:op≠8):∀ (l:List Tm) (i:Nat),oe v op n l i=l.any (fN v)
 |[],i=>rfl
 |k::l,i=>by
  have:(op==8)=false:=by simpa using h
  simp[oe,yl h l,this]
theorem T1:∀ (t:Tm) (d:Int),(∀x∈pre t d,x.1.op≠8)->(∀x∈pre t d,x.1.op=1->x.1.kids=[])->∀v,fN v t=true↔v∈r8 (pre t d):=by
 refine Tm.cl fun t ih d h8 h1 v=> ?_
 have hp:=je t d
 have ht8:t.op≠8:=h8 (t,d) (by rw[hp];simp)
 have jt:∀k∈t.kids,∀x∈pre k (d+1),x∈pre t d:=fun k hk x hx=>by rw[hp];exact List.mem_cons_of_mem _ (List.mem_flatMap.2 ⟨k,hk,hx⟩)
 rw[hp,ui,lr]
 by_cases h:t.op=1
 ·have hk:t.kids=[]:=h1 (t,d) (by rw[hp];simp) h
  simp only[if_pos h,hk,List.flatMap_nil]
  show(t.n==v)=true↔v∈[t.n]
  rw[beq_iff_eq,List.mem_singleton];exact eq_comm
 ·simp only[if_neg h]
  rw[yl ht8,yk,List.any_eq_true]
  constructor
  ·rintro⟨k,hk,hv⟩
   exact⟨k,hk,(ih k hk (d+1) (fun x hx=>h8 x (jt k hk x hx)) (fun x hx=>h1 x (jt k hk x hx)) v).1 hv⟩
  ·rintro⟨k,hk,hv⟩
   exact⟨k,hk,(ih k hk (d+1) (fun x hx=>h8 x (jt k hk x hx)) (fun x hx=>h1 x (jt k hk x hx)) v).2 hv⟩
theorem pD{s:aS}{t:Tm}(h:cN s t=true):∀x∈pre t 1,a7 s x.1=true:=by
 simp only[cN,Bool.and_eq_true,ua s t 1,List.all_eq_true]at h
 exact h.2
theorem uj{s:aS}{t:Tm}(h:a7 s t=true)(h1:t.op=1):t.kids=[]:=by
 simp[a7,h1]at h
 exact h.1
theorem uk:∀ (L:List (Tm×Int)) (l:List Int) (b:Bool),(aw (wz pJ kF) (l,b) L).2=true↔(∀x∈L,jX x.1=true)/\(r8 L).Nodup/\∀v∈r8 L,v∉l
 |[],l,b=>by simp[aw,r8]
 |x::L,l,b=>by
  have e1:∀c,rZ l x=c->wz pJ kF (l,b) x=((if c=true then l else if x.1.op=1 then rX l x.1.n else l, !c), !c):=fun c hc=>by
   show((if rZ l x=true then l else if x.1.op=1 then rX l x.1.n else l, !rZ l x),(pJ (if rZ l x=true then l else if x.1.op=1 then rX l x.1.n else l, !rZ l x)).isNone)=_
   rw[hc];cases c<;>rfl
  rw[aw,ui]
  cases hb:rZ l x with
  |true=>
   rw[e1 _ hb]
   simp only[Bool.not_true,Bool.false_eq_true,if_false,false_iff,not_and]
   intro hs hn hv
   have hsx:=hs x aI
   simp only[rZ,jX,Bool.or_eq_true,Bool.and_eq_true,bne_iff_ne,beq_iff_eq,ne_eq]at hb hsx
   rcases hb with⟨h1,h2⟩|⟨h1,h2⟩
   ·rcases hsx with h|h
    ·exact h1 h
    ·exact h2 h
   ·rw[if_pos h1]at hv
    exact hv x.1.n aI sI
  |false=>
   rw[e1 _ hb]
   simp only[Bool.not_false,if_true,Bool.false_eq_true,if_false]
   rw[uk L]
   simp only[rZ,Bool.or_eq_false_iff,Bool.and_eq_false_iff,bne_eq_false_iff_eq,beq_eq_false_iff_ne,ne_eq]at hb
   have hsx:jX x.1=true:=by simp only[jX,Bool.or_eq_true,beq_iff_eq];exact hb.1
   by_cases h1:x.1.op=1
   ·have u4:x.1.n∉l:=by
     rcases hb.2 with h|h
     ·exact absurd h1 h
     ·intro hm;rw[<- List.contains_iff_mem]at hm;rw[h]at hm;cases hm
    rw[if_pos h1,if_pos h1]
    simp only[List.mem_cons,forall_eq_or_imp,hsx,true_and,List.nodup_cons,mG,not_or]
    constructor
    ·rintro⟨a1,a2,a3⟩
     exact⟨a1,⟨fun hm=>(a3 _ hm).2 rfl,a2⟩,u4,fun v hv=>(a3 v hv).1⟩
    ·rintro⟨a1,⟨a2,a3⟩,a4,a5⟩
     exact⟨a1,a3,fun v hv=>⟨a5 v hv,fun e=>a2 (e ▸ hv)⟩⟩
   ·rw[if_neg h1,if_neg h1]
    simp only[List.mem_cons,forall_eq_or_imp,hsx,true_and]
theorem Gx:∀ (t:Tm) (d:Int),(∀x∈pre t d,x.1.op=1->x.1.kids=[])->∀b:List Int,((fI t b).2=true↔(r8 (pre t d)).Nodup/\∀v∈r8 (pre t d),v∉b)/\((fI t b).2=true->∀v,v∈(fI t b).1↔v∈b\/v∈r8 (pre t d)):=by
 refine Tm.cl fun t ih d h1 b=> ?_
 have hp:=je t d
 have jt:∀k∈t.kids,∀x∈pre k (d+1),x∈pre t d:=fun k hk x hx=>by rw[hp];exact List.mem_cons_of_mem _ (List.mem_flatMap.2 ⟨k,hk,hx⟩)
 have hs:∀ (l:List Tm) (b:List Int),(∀k∈l,k∈t.kids)->((ft l b).2=true↔(r8 (l.flatMap fun k=>pre k (d+1))).Nodup/\∀v∈r8 (l.flatMap fun k=>pre k (d+1)),v∉b)/\((ft l b).2=true->∀v,v∈(ft l b).1↔v∈b\/v∈r8 (l.flatMap fun k=>pre k (d+1))):=by
  intro l
  induction l with
  |nil=>intro b _;simp[ft,r8]
  |cons k l tT=>
   intro b hk
   obtain⟨k1,k2⟩:=ih k (hk k aI) (d+1) (fun x hx=>h1 x (jt k (hk k aI) x hx)) b
   obtain⟨l1,l2⟩:=tT (fI k b).1 (fun x hx=>hk x ng)
   simp only[ft,List.flatMap_cons,uh,List.nodup_append,List.mem_append]
   by_cases hc:(fI k b).2=true
   ·rw[if_pos hc]
    have hm:=k2 hc
    obtain⟨c1,c2⟩:=k1.1 hc
    constructor
    ·rw[l1]
     constructor
     ·rintro⟨a1,a2⟩
      refine⟨⟨c1,a1,fun x hx y hy e=>a2 y hy ((hm y).2 (.inr (e ▸ hx)))⟩, ?_⟩
      rintro v (hv|hv)
      ·exact c2 v hv
      ·exact fun hb=>a2 v hv ((hm v).2 (.inl hb))
     ·rintro⟨⟨a1,a2,a3⟩,a4⟩
      refine⟨a2,fun v hv LV=> ?_⟩
      rcases(hm v).1 LV with h|h
      ·exact a4 v (.inr hv) h
      ·exact a3 v h v hv rfl
    ·intro h v
     rw[l2 h v,hm v]
     constructor
     ·rintro((h|h)|h)
      ·exact .inl h
      ·exact .inr (.inl h)
      ·exact .inr (.inr h)
     ·rintro(h|h|h)
      ·exact .inl (.inl h)
      ·exact .inl (.inr h)
      ·exact .inr h
   ·rw[if_neg hc]
    simp only[Bool.false_eq_true,false_iff,false_implies,and_true,not_and]
    rintro⟨a1,a2,a3⟩ a4
    exact hc (k1.2 ⟨a1,fun v hv=>a4 v (.inl hv)⟩)
 rw[pC,hp,ui]
 by_cases h:t.op=1
 ·have hk:t.kids=[]:=h1 (t,d) (by rw[hp];simp) h
  simp only[if_pos h,hk,List.flatMap_nil]
  simp only[r8,List.filter_nil,List.map_nil,List.nodup_cons,List.not_mem_nil,not_false_eq_true,List.nodup_nil,and_self,true_and,List.mem_singleton,forall_eq,Bool.not_eq_true',pB]
  refine⟨?_,fun _ v=>trivial⟩
  rw[Bool.eq_false_iff,ne_eq,List.contains_iff_mem]
 ·simp only[if_neg h]
  exact hs t.kids b (fun _ h=>h)
theorem Gy:∀ (t:Tm) (d:Int),fq t=(pre t d).all fun x=>jX x.1:=by
 refine Tm.cl fun t ih d=> ?_
 rw[Et jX,qJ,Bool.and_comm]
 congr 1
 exact On
theorem JQ{s:aS}{t:Tm}(h:cN s t=true):ve t=((fI t []).2&&fq t):=by
 have h1:=(Gx t 1 (fun x hx ho=>uj (pD h x hx) ho) []).1
 rw[Bool.eq_iff_iff,Bool.and_eq_true,h1,ve,uk,Gy t 1,List.all_eq_true]
 constructor
 ·rintro⟨a,b,c⟩;exact⟨⟨b,fun v _=>aI⟩,a⟩
 ·rintro⟨⟨a,b⟩,c⟩;exact⟨c,a,fun v _=>aI⟩
theorem ym:∀ (t:Tm) (d:Int),(pre t d).map (·.1)=fM t:=by
 refine Tm.cl fun t ih d=> ?_
 have key:∀l:List Tm,(∀k∈l,k∈t.kids)->((l.flatMap fun k=>pre k (d+1)).map (·.1))=l.flatMap fM:=by
  intro l
  induction l with
  |nil=>intro _;rfl
  |cons k l tT=>
   intro hk
   rw[List.flatMap_cons,List.map_append,ih k (hk k (by simp)),tT (fun x hx=>hk x (by simp[hx])),List.flatMap_cons]
 rw[je,lj,List.map_cons,key t.kids (fun _ h=>h)]
theorem ED(t:Tm)(d:Int):r8 (pre t d)=JP t:=by
 unfold r8 JP
 rw[<- ym t d,List.filter_map,List.map_map]
 rfl
theorem M7{t x:Tm}(h:x∈fM t):∃y∈pre t 1,y.1=x:=by
 rw[<- ym t 1]at h
 obtain⟨y,h1,h2⟩:=List.mem_map.1 h
 exact⟨y,h1,h2⟩
theorem C9{s:aS}{t:Tm}(h:cN s t=true)(hp:ve t=true):wN t/\∀x∈fM t,x.op≠8:=by
 rw[ve,uk]at hp
 obtain⟨a,b,_⟩:=hp
 have h8:∀y∈pre t 1,y.1.op≠8:=fun y hy e=>by
  have:=a y hy
  simp[jX,e]at this
 refine⟨⟨by rw[<- ED t 1];exact b,fun v=> ?_⟩,fun x hx=> ?_⟩
 ·rw[<- ED t 1]
  exact T1 t 1 h8 (fun x hx ho=>uj (pD h x hx) ho) v
 ·obtain⟨y,h1,h2⟩:=M7 hx
  rw[<- h2];exact h8 y h1
def jm(s:aS)(r:Rl):Bool:=decide (0<=r.fn)&&(match s.bH[r.fn.toNat]? with|some f=>(r.ax.length:Int)==f.args|none=>false)&&decide (0<=r.vars)&&decide (r.vars<=20)
def eR(s:aS)(r:Rl):Bool:=(jm s r&&cN s r.rhs)&&(r.ax.all fun p=>(cN s p&&((fI p []).2&&fq p))&&ed r.vars p)&&(C8 r.ax&&ed r.vars r.rhs&&qI r.rhs (bN (.mk 0 0 r.ax)))
theorem M8(s:aS)(r:Rl)(hs:iG s=true)(h1:(m6 r.ax).length<=1000000)(h2:(m6 [r.rhs]).length<=1000000):eA s r=eR s r:=by
 have JR:∀t,eQ s [t]=cN s t:=fun t=>by unfold eQ;simp[hs,C2]
 have Bb:lB s r=true↔(jm s r=true/\(∀t∈r.ax,cN s t=true/\ve t=true))/\cN s r.rhs=true:=by
  have e:lB s r=((jm s r&&r.ax.all (jJ s))&&eQ s [r.rhs]):=rfl
  rw[e,JR,Bool.and_eq_true,Bool.and_eq_true,List.all_eq_true]
  simp only[jJ,JR,Bool.and_eq_true]
 have mono:∀t∈r.ax,∀v,0<jr 1 v (fM t)->0<jr 1 v (m6 r.ax):=fun t ht v h=>by
  obtain⟨x,a,b⟩:=(jK _ _ _).1 h
  exact(jK _ _ _).2 ⟨x,List.mem_flatMap.2 ⟨t,ht,a⟩,b⟩
 have split:∀v,0<jr 1 v (m6 r.ax)->∃t∈r.ax,0<jr 1 v (fM t):=fun v h=>by
  obtain⟨x,a,b⟩:=(jK _ _ _).1 h
  obtain⟨t,c,d⟩:=List.mem_flatMap.1 a
  exact⟨t,c,(jK _ _ _).2 ⟨x,d,b⟩⟩
 have Gz:∀ (t:Tm) (v:Int),v∈JP t↔0<jr 1 v (fM t):=fun t v=>by rw[<- ug,List.count_pos_iff];rfl
 have JS:(∀t∈r.ax,wN t)->∀v,v∈bN (.mk 0 0 r.ax)↔0<jr 1 v (m6 r.ax):=fun h v=>by
  rw[(jl _).2 v,Ba]
  constructor
  ·rintro⟨t,a,b⟩;exact mono t a v ((Gz t v).1 (((h t a).free v).1 b))
  ·intro a
   obtain⟨t,b,c⟩:=split v a
   exact⟨t,b,((h t b).free v).2 ((Gz t v).2 c)⟩
 rw[Bool.eq_iff_iff,Gu s r h1 h2,Bb]
 unfold eR
 simp only[Bool.and_eq_true,List.all_eq_true,C7,Gv,M6]
 constructor
 ·rintro⟨⟨⟨a,p⟩,rt⟩,A,B,C,D⟩
  have aZ:∀t∈r.ax,wN t:=fun t ht=>(C9 (p t ht).1 (p t ht).2).1
  refine⟨⟨⟨a,rt⟩,fun t ht=>⟨⟨(p t ht).1, ?_⟩,fun v hv=>(A v (mono t ht v hv)).2,fun v hv=> ?_⟩⟩,⟨(EC _ aZ).2 fun v=> ?_,B,fun v hv=>(C v hv).2.1⟩,fun v hv=>⟨(C v hv).1, ?_, ?_⟩⟩
  ·have:=(p t ht).2
   rw[JQ (p t ht).1,Bool.and_eq_true]at this
   exact this
  ·obtain⟨x,b,c,_⟩:=(jK _ _ _).1 hv
   exact absurd c ((C9 (p t ht).1 (p t ht).2).2 x b)
  ·by_cases h:0<jr 1 v (m6 r.ax)
   ·exact(A v h).1
   ·omega
  ·rw[JS aZ v];have:=(C v hv).2.2;omega
  ·cases hf:fN v r.rhs with
   |false=>rfl
   |true=>have:=D v hf;omega
 ·rintro⟨⟨⟨a,rt⟩,p⟩,⟨l,B,B2⟩,C⟩
  have hp:∀t∈r.ax,cN s t=true/\ve t=true:=fun t ht=>⟨(p t ht).1.1,by
   rw[JQ (p t ht).1.1,Bool.and_eq_true];exact(p t ht).1.2⟩
  have aZ:∀t∈r.ax,wN t:=fun t ht=>(C9 (hp t ht).1 (hp t ht).2).1
  refine⟨⟨⟨a,hp⟩,rt⟩,fun v hv=>⟨(EC _ aZ).1 l v, ?_⟩,B,fun v hv=>⟨(C v hv).1,B2 v hv, ?_⟩,fun v hv=> ?_⟩
  ·obtain⟨t,b,c⟩:=split v hv
   exact(p t b).2.1 v c
  ·have:=(C v hv).2.1
   rw[JS aZ v]at this
   omega
  ·by_cases h:0<jr 8 v (fM r.rhs)
   ·have:=(C v h).2.2
    rw[hv]at this;cases this
   ·omega
theorem sB(t:Tm):(fM t).length=t.sz:=by rw[<- ym t 1,List.length_map];rfl
theorem yn:∀ (l:List Tm) (n:Nat),(∀t∈l,t.sz<=n)->(m6 l).length<=l.length*n
 |[],n,_=>by simp[m6]
 |t::l,n,h=>by
  have ih:=yn l n (fun x hx=>h x ng)
  have e:(m6 (t::l)).length=(fM t).length+(m6 l).length:=by simp[m6]
  have:=h t aI
  rw[e,sB,List.length_cons,Nat.add_mul];omega
def dT(p:Pg):Bool:=(iG p.sig&&decide (p.rules.length<=16))&&p.rules.all (eR p.sig)
def EE(p:Pg):Prop:=∀r∈p.rules,r.ax.length<=6/\(∀t∈r.ax,t.sz<=50)/\r.rhs.sz<=50
theorem M9(p:Pg)(h:EE p):pA p=dT p:=by
 unfold pA dT
 cases hs:iG p.sig with
 |false=>simp
 |true=>
  have e:p.rules.all (eA p.sig)=p.rules.all (eR p.sig):=by
   rw[Bool.eq_iff_iff,List.all_eq_true,List.all_eq_true]
   have k:∀r∈p.rules,eA p.sig r=eR p.sig r:=fun r hr=>by
    obtain⟨a,b,c⟩:=h r hr
    refine M8 p.sig r hs ?_ ?_
    ·have:=yn r.ax 50 b
     omega
    ·have:=yn [r.rhs] 50 (fun t ht=>by simp at ht;subst ht;exact c)
     simp at this;omega
   exact⟨fun a r hr=>(k r hr) ▸ a r hr,fun a r hr=>(k r hr).symm ▸ a r hr⟩
  rw[e];simp
mutual
def jY(t:Tm):Tm->Bool
 | .mk op n kids=>eV t (.mk op n kids)||EF t kids
def EF(t:Tm):List Tm->Bool
 |[]=>false
 |k::l=>jY t k||EF t l
end
theorem wO(t:Tm):∀l:List Tm,EF t l=l.any (jY t)
 |[]=>rfl
 |k::l=>by rw[EF,wO t l];rfl
theorem sC(t p:Tm):jY t p=(eV t p||p.kids.any (jY t)):=by cases p;rw[jY,wO];rfl
def r9(t p:Tm):Int:=if eV t p=true then 1 else if p.kids.any (jY t)=true then 2 else 0
theorem Na(t p:Tm):(r9 t p !=0)=jY t p:=by
 rw[sC];unfold r9
 cases eV t p<;>cases p.kids.any (jY t)<;>rfl
theorem JT(t p:Tm):0<=r9 t p/\r9 t p<=2:=by
 unfold r9;split
 ·decide
 ·split<;>decide
def np(ax kids:List Tm)(i j:Nat):Int:=match ax[i]?,kids[j]? with
 |some a,some b=>r9 b a
 |_,_=>0
def um(ax kids:List Tm):List Int:=(List.range 16).map fun p=>np ax kids (p/4) (p%4)
theorem JU(ax kids:List Tm)(i j:Nat):0<=np ax kids i j/\np ax kids i j<=2:=by
 unfold np;split
 ·exact JT _ _
 ·decide
theorem JV(ax kids:List Tm):Mat (um ax kids):=by
 refine⟨by simp[um],fun x hx=> ?_⟩
 obtain⟨p,_,rfl⟩:=List.mem_map.1 hx
 exact JU _ _ _ _
theorem Nb(ax kids:List Tm){i j:Nat}(hi:i<4)(hj:j<4):mg (um ax kids) i j=np ax kids i j:=by
 unfold mg um
 rw[List.getD_eq_getElem?_getD,List.getElem?_map,List.getElem?_range (by omega)]
 simp only[Option.map_some,Option.getD_some]
 exact NS
def uo(ax kids:List Tm)(i j:Nat):Option pV:=match ax[i]?,kids[j]? with
 |some a,some b=>if eV b a=true then some ⟨i,j,false⟩else if a.kids.any (jY b)=true then some ⟨i,j,true⟩else none
 |_,_=>none
def og(ax kids:List Tm)(i j:Nat):List pV:=(List.range j).filterMap (uo ax kids i)
def uq(ax kids:List Tm):List pV:=(List.range ax.length).flatMap fun i=>og ax kids i kids.length
theorem T2(ax kids:List Tm)(i j:Nat):(if np ax kids i j≠0 then some (⟨i,j,np ax kids i j==2⟩:pV)else none)=uo ax kids i j:=by
 unfold np uo
 cases ax[i]? with
 |none=>rfl
 |some a=>
  cases kids[j]? with
  |none=>rfl
  |some b=>
   dsimp only
   unfold r9
   by_cases h1:eV b a=true
   ·simp only[h1,if_true];rfl
   ·by_cases h2:a.kids.any (jY b)=true
    ·simp only[h1,h2,if_true,Bool.false_eq_true,if_false];rfl
    ·simp only[h1,h2,Bool.false_eq_true,if_false];rfl
theorem EG{β:Type}(f:Nat->Option β):∀n,(List.range (n*4)).filterMap f=(List.range n).flatMap fun i=>(List.range 4).filterMap fun j=>f (i*4+j)
 |0=>rfl
 |n+1=>by
  rw[Nat.add_mul,Nat.one_mul,List.range_add,List.filterMap_append,EG f n,List.range_succ (n:=n),List.flatMap_append,List.filterMap_map]
  simp only[List.flatMap_cons,List.flatMap_nil,List.append_nil,Function.comp_def]
theorem JW{β:Type}(f:Nat->Option β)(k:Nat)(h:∀j,k<=j->f j=none):∀n,k<=n->(List.range n).filterMap f=(List.range k).filterMap f
 |0,hk=>by rw[show k=0 by omega]
 |n+1,hk=>by
  rcases Nat.eq_or_lt_of_le hk with e|e
  ·rw[e]
  ·rw[List.range_succ,List.filterMap_append,JW f k h n (by omega)]
   simp[h n (by omega)]
theorem Bc{β:Type}(f:Nat->List β)(k:Nat)(h:∀j,k<=j->f j=[]):∀n,k<=n->(List.range n).flatMap f=(List.range k).flatMap f
 |0,hk=>by rw[show k=0 by omega]
 |n+1,hk=>by
  rcases Nat.eq_or_lt_of_le hk with e|e
  ·rw[e]
  ·rw[List.range_succ,List.flatMap_append,Bc f k h n (by omega)]
   simp[h n (by omega)]
theorem JX(ax kids:List Tm)(hp:ax.length<=4)(hk:kids.length<=4):tz (um ax kids) 16=uq ax kids:=by
 unfold tz
 rw[show(16:Nat)=4*4 from rfl,EG]
 have e:∀i∈List.range 4,((List.range 4).filterMap fun j=>if(um ax kids).getD (i*4+j) 0≠0 then some (⟨((i*4+j)/4:Nat),((i*4+j)%4:Nat),(um ax kids).getD (i*4+j) 0==2⟩:pV)else none)=og ax kids i kids.length:=by
  intro i hi
  have hi:i<4:=by simpa using hi
  unfold og
  rw[<- JW (uo ax kids i) kids.length (fun j hj=>by unfold uo;rw[List.getElem?_eq_none hj];cases ax[i]? <;>rfl) 4 hk]
  refine Aw fun j hj=> ?_
  have hj:j<4:=by simpa using hj
  rw[show(i*4+j)/4=i by omega,show(i*4+j)%4=j by omega, <- T2]
  have:=Nb ax kids hi hj
  unfold mg at this
  rw[this]
 unfold uq
 rw[<- Bc (fun i=>og ax kids i kids.length) ax.length (fun i hi=>by
  unfold og
  have:∀j,uo ax kids i j=none:=fun j=>by unfold uo;rw[List.getElem?_eq_none hi]
  rw[List.filterMap_eq_nil_iff];exact fun j _=>this j) 4 hp]
 unfold List.flatMap
 rw[List.map_congr_left e]
structure Cl where
 aaF:Int
 fr:Int
 to:Int
 path:List Int
 bare:Bool
 oh:List pV
@[reducible] def Cl.d (c:Cl):D:= .agg [.i c.aaF, .i c.fr, .i c.to, .sl (c.path.map .i), .bool c.bare, .sl (c.oh.map pV.d)]
theorem Cl.CJ (a b c:Int)(d:List Int)(e:Bool)(f:List pV):(Cl.mk a b c d e f).d= .agg [.i a, .i b, .i c, .sl (d.map .i), .bool e, .sl (f.map pV.d)]:=rfl
def qK(op:Int)(b:Bool):Bool:=b&&op !=3&&op !=5
structure Sp where
 t:Tm
 path:List Int
 bare:Bool
mutual
def j6:Tm->List Int->Bool->List Sp
 | .mk op n kids,q,b=>⟨.mk op n kids,q,b⟩::gP kids 0 q (qK op b)
def gP:List Tm->Int->List Int->Bool->List Sp
 |[],_,_,_=>[]
 |k::l,i,q,b=>j6 k (q++[i]) b++gP l (i+1) q b
end
theorem yo(t:Tm)(q:List Int)(b:Bool):j6 t q b=⟨t,q,b⟩::gP t.kids 0 q (qK t.op b):=by cases t;rw[j6];rfl
theorem rD:∀ (l l':List Tm) (i:Int) (q:List Int) (b:Bool),gP (l++l') i q b=gP l i q b++gP l' (i+l.length) q b
 |[],l',i,q,b=>by simp[gP]
 |k::l,l',i,q,b=>by
  rw[List.cons_append,gP,gP,rD l l',List.append_assoc,List.length_cons]
  congr 3
  push_cast;omega
def Fa(ps:List Int)(n:Int)(r:Rl)(x:Sp):List Cl:=
 if x.t.op=4 then [⟨n,r.fn,x.t.n,x.path,x.bare,uq r.ax x.t.kids⟩]else if x.t.op=6 then ps.map fun to=>⟨n,r.fn,to,x.path,x.bare,[]⟩else []
def ruC(ps:List Int)(n:Int)(r:Rl):List Cl:=(j6 r.rhs [] true).flatMap (Fa ps n r)
def qL(t:Tm):List Int:=((fM t).filter (fun x=>x.op==5)).map Tm.n
def ur(p:Pg):List Int:=((List.range p.sig.bH.length).map fun n:Nat=>(n:Int)).filter fun n=>(p.rules.flatMap fun r=>qL r.rhs).contains n
def jv(p:Pg)(ps:List Int)(k:Nat):List Cl:=(List.range k).flatMap fun n:Nat=>match p.rules[n]? with
 |some r=>ruC ps n r
 |none=>[]
def jZ(p:Pg):List Cl:=jv p (ur p) p.rules.length
theorem wP(p:Pg)(ps:List Int){k:Nat}{r:Rl}(h:p.rules[k]? =some r):jv p ps (k+1)=jv p ps k++ruC ps k r:=by
 unfold jv
 rw[List.range_succ,List.flatMap_append]
 simp[h]
theorem Bd:∀ {a b:List Int},a.Pairwise (· <·)->b.Pairwise (· <·)->(∀x,x∈a↔x∈b)->a=b
 |[],[],_,_,_=>rfl
 |[],y::b,_,_,h=>absurd ((h y).2 aI) aI
 |x::a,[],_,_,h=>absurd ((h x).1 aI) aI
 |x::a,y::b,ha,hb,h=>by
  rw[List.pairwise_cons]at ha hb
  have e:x=y:=by
   have h1:=(h x).1 aI
   have h2:=(h y).2 aI
   rcases List.mem_cons.1 h1 with g|g
   ·exact g
   ·rcases List.mem_cons.1 h2 with g'|g'
    ·exact g'.symm
    ·have:=hb.1 x g;have:=ha.1 y g';omega
  subst e
  congr 1
  refine Bd ha.2 hb.2 fun z=> ?_
  have:=h z
  simp only[List.mem_cons]at this
  constructor
  ·intro hz
   rcases this.1 (.inr hz)with g|g
   ·subst g;exact absurd (ha.1 z hz) ah
   ·exact g
  ·intro hz
   rcases this.2 (.inr hz)with g|g
   ·subst g;exact absurd (hb.1 z hz) ah
   ·exact g
end Go.Proofs.YtnkamdiiakdkgaaGreat
section
namespace Go.Proofs.YtnkamdiiakdkgaaGreat
open Go.Sort Go.RowKit
def Be(P:Program)(g:FuncId):Prop:=∀ (c8 off cap:Nat) (zs:List Int) (w:World),Holds (Value.int .i64) w c8 off zs.toArray->c8<w.heap.size->zs.length<4611686018427387904->
    Calls P g #[.slice (some ⟨c8,off,none⟩) zs.length cap] w fun e w'=>
     e= .returned (.tuple #[])/\∃n os,w'=grow (putRow (Value.int .i64) (Sort.ahead w n) c8 off (zs.mergeSort fun x y=>decide (x<=y)).toArray) os
def dL(l:List Int):List Int:=l.mergeSort fun x y=>decide (x<=y)
theorem pE{B:Nat->Prop}{w:World}:∀ (zs:List Int) (xs:List Value),fb B w 1 (zs.map (D.int .i64)) xs↔xs=zs.map (Value.int .i64):=by
 have hd:∀ (zs:List Int) (evs:List Value),D.aC B w (zs.map (D.int .i64)) evs↔evs=zs.map (Value.int .i64):=by
  intro zs
  induction zs with
  |nil=>intro evs;simp[D.aC]
  |cons z zs ih=>
   intro evs
   simp only[List.map_cons,D.aC]
   constructor
   ·rintro⟨v,vs,rfl,h1,h2⟩
    rw[(ih vs).1 h2]
    simp only[D.den]at h1
    rw[h1]
   ·intro h
    exact⟨_,_,h,rfl,(ih _).2 rfl⟩
 have hf:∀zs:List Int,(zs.map (Value.int .i64)).flatMap (·.cells.toList)=zs.map (Value.int .i64):=by
  intro zs
  induction zs with
  |nil=>rfl
  |cons z zs ih=>simp only[List.map_cons,List.flatMap_cons,ih];rfl
 intro zs xs
 constructor
 ·rintro⟨evs,h1,h2,h3⟩
  rw[h1,(hd zs evs).1 h3,hf]
 ·intro h
  subst h
  exact⟨_,(hf zs).symm,fun ev c0=>by
   obtain⟨z,_,rfl⟩:=List.mem_map.1 c0
   rfl,(hd zs _).2 rfl⟩
theorem JY{P:Program}{g:FuncId}(hE:Enters P g)(hS:Be P g){o:Nat->ab}{nx id ep:Nat}{ty:TypeId}{zs:List Int}(ho:o id= .arr ep ty 1 (zs.map (D.int .i64)))
 (hn:∀p cap w,Calls P g #[.slice p 0 cap] w fun e w'=>e= .returned (.tuple #[])/\w'=w)
 (hlen:zs.length<4611686018427387904) {K X:V->(Nat->ab)->Nat->Prop} (hK:K (.bS []) (aF o id (.arr ep ty 1 ((dL zs).map (D.int .i64)))) nx):de P g [.osl id ep] o nx K X:=by
 refine⟨hE,fun M φ w vals hH hd=> ?_⟩
 obtain⟨val,us,j9,⟨v0,v1,v2⟩,dQ⟩:=hd
 have dQ:us=[]:=dQ
 subst dQ
 have dH:val=φ id:=(v2 ep (by show(o id).bW=some ep;rw[ho];rfl)).2 rfl
 have Gz:vals=#[φ id]:=by rw[<- dH];exact Array.ext' (by simpa using j9)
 subst Gz
 have CM:=hH.ok id
 unfold aO at CM
 rw[show(hp o nx).o id= .arr ep ty 1 (zs.map (D.int .i64))from ho]at CM
 obtain⟨_,xs,dc,bJ⟩:=CM
 have DE:=(pE zs xs).1 bJ
 subst DE
 simp only[List.length_map]at dc
 obtain⟨hl,H6|⟨b,cap,cur,dN,_,hg,kp,xi,hcs,JZ⟩⟩:=dc
 ·obtain⟨h1,h2⟩:=H6
  have hz:zs=[]:=List.length_eq_zero_iff.1 h2
  subst hz
  rw[h1]
  refine(hn none 0 w).mono ?_
  rintro e w' ⟨rfl,rfl⟩
  have Ie:aF o id (.arr ep ty 1 ((dL []).map (D.int .i64)))=o:=by
   funext j
   by_cases e:j=id
   ·subst e;rw[ae,ho,show dL []=[] by simp[dL]]
   ·rw[ai _ _ _ _ e]
  rw[Ie]at hK
  exact⟨φ,o,nx, .bS [],hH,Trans.refl _ _ _,⟨#[],rfl,rfl⟩,hK⟩
 ·rw[dN]
  have hb:b<w.heap.size:=(Array.getElem?_eq_some_iff.1 hg).1
  have N2:∀j,j<zs.length->cur[j]? =some (.int .i64 zs[j]!):=by
   intro j hj
   have h1:(cur.toList.take (zs.length*1))[j]? =(zs.map (Value.int .i64))[j]? :=by rw[JZ]
   rw[List.getElem?_take_of_lt (by omega),List.getElem?_map,List.getElem?_eq_getElem hj]at h1
   simp only[Option.map_some]at h1
   rw[getElem!_pos zs j hj]
   simpa using h1
  refine(hS b 0 cap zs w (fun j hj=> ?_) hb hlen).mono ?_
  ·simp only[List.size_toArray]at hj
   refine⟨?_, ?_⟩
   ·exact W6
   ·unfold World.frozen?
    simp[hg]
  rintro e w' ⟨rfl,n,os,rfl⟩
  have Sr:(dL zs).length=zs.length:=List.length_mergeSort zs
  have tR:∀k,k<w.heap.size->(grow (putRow (Value.int .i64) (Sort.ahead w n) b 0 (dL zs).toArray) os).heap[k]? =(w.heap.modify b (onCells (putCells (Value.int .i64) 0 (dL zs).toArray)))[k]? :=by
   intro k hk
   unfold grow putRow mapBlock Sort.ahead
   simp only
   rw[Array.getElem?_append_left (by simpa using hk)]
  have re:dx (· =b) w (grow (putRow (Value.int .i64) (Sort.ahead w n) b 0 (dL zs).toArray) os):=by
   refine⟨rfl,rfl,rfl, ?_,fun k hk kK=> ?_⟩
   ·unfold grow putRow mapBlock Sort.ahead;simp
   ·rw[tR k hk,Array.getElem?_modify,if_neg (fun e=>kK e.symm)]
  have cz:((hp o nx).o id).live=true:=by show(o id).live=true;rw[ho];rfl
  have xP:c8 (φ id)=some b:=by rw[dN];rfl
  have H3:(grow (putRow (Value.int .i64) (Sort.ahead w n) b 0 (dL zs).toArray) os).heap[b]? =some (.cells (putCells (Value.int .i64) 0 (dL zs).toArray cur) ty (0,0)):=by
   rw[tR b hb,Array.getElem?_modify,if_pos rfl,hg];rfl
  have fh:(hp o nx).put [(id, .arr ep ty 1 ((dL zs).map (D.int .i64)))]=hp (aF o id (.arr ep ty 1 ((dL zs).map (D.int .i64)))) nx:=by
   have dQ:id<nx:=v1
   simp only[Hp.put,hp]
   congr 1
   funext j
   simp only[List.map_cons,List.map_nil,List.mem_singleton,eq_iff_iff]
   exact⟨fun h=>h.elim (fun h=>h) (fun e=>e ▸ dQ), .inl⟩
  have sS:aO M φ ((hp o nx).put [(id, .arr ep ty 1 ((dL zs).map (D.int .i64)))]) (grow (putRow (Value.int .i64) (Sort.ahead w n) b 0 (dL zs).toArray) os) id:=by
   unfold aO
   rw[show((hp o nx).put [(id, .arr ep ty 1 ((dL zs).map (D.int .i64)))]).o id= .arr ep ty 1 ((dL zs).map (D.int .i64)) by simp]
   refine⟨cG,(dL zs).map (Value.int .i64), ?_,(pE _ _).2 rfl⟩
   simp only[List.length_map,Sr]
   refine⟨by simp[Sr], .inr ⟨b,cap,_,dN,Nat.zero_le _,H3,kp,xi, ?_, ?_⟩⟩
   ·unfold putCells;simpa using hcs
   ·apply List.ext_getElem?
    intro j
    by_cases hj:j<zs.length
    ·rw[List.getElem?_take_of_lt (by omega),List.getElem?_map,List.getElem?_eq_getElem (l:=dL zs) (by omega)]
     have RB:j<cur.size:=ah
     unfold putCells
     simp only[Array.getElem?_toList,Array.getElem?_mapIdx,Option.map_some]
     rw[Array.getElem?_eq_getElem RB]
     simp only[Option.map_some,Nat.zero_le,true_and,Nat.zero_add,List.size_toArray,Nat.sub_zero]
     rw[if_pos (by omega)]
     rw[getElem!_pos _ j (by simp;omega)]
     simp
    ·rw[List.getElem?_eq_none (by rw[List.length_take,Nat.mul_one];exact Nat.le_trans (Nat.min_le_left _ _) (Nat.not_lt.1 hj)),List.getElem?_eq_none (by rw[List.length_map,Sr];exact Nat.not_lt.1 hj)]
  have Qk:=gz hH (id:=id) v1 cz xP re (.arr ep ty 1 ((dL zs).map (D.int .i64))) Lt Lt sS
  have Pk:=ek (φ:=φ) (H:=hp o nx) (id:=id) v1 cz xP re (.arr ep ty 1 ((dL zs).map (D.int .i64))) Lt Lt
  rw[fh]at Qk Pk
  exact⟨φ,_,nx, .bS [],Qk,Pk,⟨#[],rfl,rfl⟩,hK⟩
end Go.Proofs.YtnkamdiiakdkgaaGreat
end
section
namespace Go.Proofs.YtnkamdiiakdkgaaGreat
open Go.Sort Go.RowKit
def mK(P:Program)(g:FuncId):Prop:=∀ (c8 off cap:Nat) (zs:List Int) (w:World),Holds (Value.int .i64) w c8 off zs.toArray->zs.length<=9223372036854775807->zs.length<=cap->
    Calls P g #[.slice (some ⟨c8,off,none⟩) zs.length cap] w fun e w'=>
     e= .returned (.slice (some ⟨c8,off,none⟩) (Lib.compact zs).length cap)/\∃q,w'=putRow (Value.int .i64) (Sort.ahead w q) c8 off (Lib.compact zs++List.replicate (zs.length - (Lib.compact zs).length) 0).toArray
theorem J0(zs:List Int):(Lib.compact zs).length<=zs.length:=by
 unfold Lib.compact Lib.compactUpTo
 rw[List.length_map]
 have:=List.length_filter_le (Lib.keeps zs.toArray) (List.range zs.length)
 simpa using this
theorem yp{P:Program}{g:FuncId}(hS:mK P g)(hn:∀p cap w,Calls P g #[.slice p 0 cap] w fun e w'=>e= .returned (.slice p 0 cap)/\w'=w){M:Nat->Prop}{φ:Place}{H:Hp}{w:World}(hH:ay M φ H w)
 {id ep:Nat} {ty:TypeId} {zs:List Int} (v1:H.us id) (ho:H.o id= .arr ep ty 1 (zs.map (D.int .i64))) (hlen:zs.length<=9223372036854775807):
 Calls P g #[φ id] w fun e w'=>∃val aD,e= .returned val/\ay M aD (H.put [(id, .arr (ep+1) ty 1 ((Lib.compact zs).map (D.int .i64)))]) w'/\Trans φ H w aD (H.put [(id, .arr (ep+1) ty 1 ((Lib.compact zs).map (D.int .i64)))]) w'/\
  V.den (ak M aD (H.put [(id, .arr (ep+1) ty 1 ((Lib.compact zs).map (D.int .i64)))])) aD (H.put [(id, .arr (ep+1) ty 1 ((Lib.compact zs).map (D.int .i64)))]) w' (.osl id (ep+1)) val:=by
 have CM:=hH.ok id
 unfold aO at CM
 rw[ho]at CM
 obtain⟨_,xs,dc,bJ⟩:=CM
 have DE:=(pE zs xs).1 bJ
 subst DE
 simp only[List.length_map]at dc
 obtain⟨hl,H6|⟨b,cap,cur,dN,_,hg,kp,xi,hcs,JZ⟩⟩:=dc
 ·obtain⟨h1,h2⟩:=H6
  have hz:zs=[]:=List.length_eq_zero_iff.1 h2
  subst hz
  rw[h1]
  refine(hn none 0 w).mono ?_
  rintro e w' ⟨rfl,rfl⟩
  have J1:w'.ownsRow 0 ty 1 (.slice none 0 0) (([]:List Int).map (D.int .i64)).length (([]:List Int).map (Value.int .i64)):=⟨rfl, .inl ⟨rfl,rfl⟩⟩
  have T3:=lZ (M:=M) hH (id:=id) (ep:=ep) v1 ho (val:= .slice none 0 0) (es':=([]:List Int).map (D.int .i64)) (dx.refl (fun _=>False) w') (fun _ h=>h.elim) (fun b h=>by simp[c8]at h) J1 ((pE _ _).2 rfl)
  exact⟨_,_,rfl,T3.1,T3.2.1,T3.2.2⟩
 ·rw[dN]
  have hb:b<w.heap.size:=(Array.getElem?_eq_some_iff.1 hg).1
  have N2:∀j,j<zs.length->cur[j]? =some (.int .i64 zs[j]!):=by
   intro j hj
   have h1:(cur.toList.take (zs.length*1))[j]? =(zs.map (Value.int .i64))[j]? :=by rw[JZ]
   rw[List.getElem?_take_of_lt (by omega),List.getElem?_map,List.getElem?_eq_getElem hj]at h1
   simp only[Option.map_some]at h1
   rw[getElem!_pos zs j hj]
   simpa using h1
  refine(hS b 0 cap zs w (fun j hj=> ?_) hlen ah).mono ?_
  ·simp only[List.size_toArray]at hj
   refine⟨?_, ?_⟩
   ·exact W6
   ·unfold World.frozen?
    simp[hg]
  rintro e w' ⟨rfl,n,rfl⟩
  have ni:=J0 zs
  generalize xw:Lib.compact zs=rs at ni|-
  have tR:∀k:Nat,(putRow (Value.int .i64) (Sort.ahead w n) b 0 (rs++List.replicate (zs.length - rs.length) 0).toArray).heap[k]? =(w.heap.modify b (onCells (putCells (Value.int .i64) 0 (rs++List.replicate (zs.length - rs.length) 0).toArray)))[k]? :=by
   intro k
   unfold putRow mapBlock Sort.ahead
   rfl
  have re:dx (· =b) w (putRow (Value.int .i64) (Sort.ahead w n) b 0 (rs++List.replicate (zs.length - rs.length) 0).toArray):=by
   refine⟨rfl,rfl,rfl, ?_,fun k hk kK=> ?_⟩
   ·unfold putRow mapBlock Sort.ahead;simp
   ·rw[tR k,Array.getElem?_modify,if_neg (fun e=>kK e.symm)]
  have xP:c8 (φ id)=some b:=by rw[dN];rfl
  have H3:(putRow (Value.int .i64) (Sort.ahead w n) b 0 (rs++List.replicate (zs.length - rs.length) 0).toArray).heap[b]? =some (.cells (putCells (Value.int .i64) 0 (rs++List.replicate (zs.length - rs.length) 0).toArray cur) ty (0,0)):=by
   rw[tR b,Array.getElem?_modify,if_pos rfl,hg];rfl
  have J1:(putRow (Value.int .i64) (Sort.ahead w n) b 0 (rs++List.replicate (zs.length - rs.length) 0).toArray).ownsRow 0 ty 1 (.slice (some ⟨b,0,none⟩) rs.length cap) (rs.map (D.int .i64)).length (rs.map (Value.int .i64)):=by
   rw[List.length_map]
   refine⟨aI, .inr ⟨b,cap,_,rfl,Nat.zero_le _,H3,ah,xi, ?_, ?_⟩⟩
   ·unfold putCells;simpa using hcs
   ·apply List.ext_getElem?
    intro j
    by_cases hj:j<rs.length
    ·rw[List.getElem?_take_of_lt (by omega),List.getElem?_map,List.getElem?_eq_getElem (l:=rs) (by omega)]
     have RB:j<cur.size:=ah
     unfold putCells
     simp only[Array.getElem?_toList,Array.getElem?_mapIdx,Option.map_some]
     rw[Array.getElem?_eq_getElem RB]
     simp only[Option.map_some,Nat.zero_le,true_and,Nat.zero_add,List.size_toArray,Nat.sub_zero]
     rw[if_pos (by rw[List.length_append];omega)]
     rw[getElem!_pos _ j (by simp;omega)]
     simp[List.getElem_append_left hj]
    ·rw[List.getElem?_eq_none (by rw[List.length_take,Nat.mul_one];exact Nat.le_trans (Nat.min_le_left _ _) (Nat.not_lt.1 hj)),List.getElem?_eq_none (by rw[List.length_map];exact Nat.not_lt.1 hj)]
  have T3:=lZ (M:=M) hH (id:=id) (ep:=ep) v1 ho (val:= .slice (some ⟨b,0,none⟩) rs.length cap) (es':=rs.map (D.int .i64)) re (fun c hc=>hc ▸ xP) (fun c hc=> .inl (by simp[c8]at hc;rw[<- hc];exact xP)) J1 ((pE _ _).2 rfl)
  exact⟨_,_,rfl,T3.1,T3.2.1,T3.2.2⟩
theorem GA{P:Program}{g:FuncId}(hE:Enters P g)(hS:mK P g){o:Nat->ab}{fr id ep:Nat}{ty:TypeId}{zs:List Int}(ho:o id= .arr ep ty 1 (zs.map (D.int .i64)))
 (hn:∀p cap w,Calls P g #[.slice p 0 cap] w fun e w'=>e= .returned (.slice p 0 cap)/\w'=w)
 (hlen:zs.length<=9223372036854775807):xJ P g [.osl id ep] [id] o fr (.osl id (ep+1)) [(id, .arr (ep+1) ty 1 ((Lib.compact zs).map (D.int .i64)))]:=by
 refine⟨hE,fun o' us M φ w vals hag cO hH hd=> ?_⟩
 obtain⟨ha,hu⟩:=hag id aI
 have vm:o' id= .arr ep ty 1 (zs.map (D.int .i64)):=ha.trans ho
 obtain⟨val,us',j9,⟨v0,v1,v2⟩,dQ⟩:=hd
 have dQ:us'=[]:=dQ
 subst dQ
 have dH:val=φ id:=(v2 ep (by show(o' id).bW=some ep;rw[vm];rfl)).2 rfl
 have Gz:vals=#[φ id]:=by rw[<- dH];exact Array.ext' (by simpa using j9)
 subst Gz
 refine(yp hS hn hH hu vm hlen).mono ?_
 rintro e w' ⟨val,aD,rfl,h1,h2,h3⟩
 obtain⟨k1,k2⟩:=iC h1 (us':=fun j=>us j\/j=fr) (fun j hj=>by
  simp only[Hp.put]at hj
  rcases hj with hj|hj
  ·exact .inl hj
  ·simp at hj;subst hj;exact .inl hu)
 have fh:(⟨((⟨o',us⟩:Hp).put [(id, .arr (ep+1) ty 1 ((Lib.compact zs).map (D.int .i64)))]).o,fun j=>us j\/j=fr⟩:Hp)=⟨put o' [(id, .arr (ep+1) ty 1 ((Lib.compact zs).map (D.int .i64)))],fun j=>us j\/j=fr⟩:=rfl
 rw[fh]at k1 k2
 exact⟨aD,k1,h2.trans k2,_,rfl,V.aM k2 _ _ h3⟩
end Go.Proofs.YtnkamdiiakdkgaaGreat
end
namespace Go.Proofs.YtnkamdiiakdkgaaGreat
theorem T4{L:List iu}{n:Int}{k:Nat}(hn:0<=n/\n<=(L.length:Int) - 1)(ha:∀x∈L,0<=x.args/\x.args<=4):fj L n<=4:=by
 unfold fj
 rw[List.getElem?_eq_getElem (by omega)]
 exact(ha _ (List.getElem_mem _)).2
theorem EH:∀ {l:List iu} {a b:List (List UInt8)},bR l a=some b->∀x∈l,0<=x.args/\x.args<=4
 |[],_,_,_,x,hx=>by cases hx
 |y::l,a,b,h,x,hx=>by
  unfold bR at h
  split at h
  ·cases h
  ·split at h
   ·cases h
   ·rename_i h2
    rcases List.mem_cons.1 hx with e|e
    ·subst e
     simp[dP]at h2
     exact⟨h2.2.1,h2.2.2⟩
    ·exact EH h x e
theorem Ql{s:aS}(h:iG s=true):∀x∈s.bH,0<=x.args/\x.args<=4:=by
 unfold iG at h
 split at h
 ·cases h
 ·split at h
  ·split at h
   ·cases h
   ·split at h
    ·cases h
    ·rename_i l _
     cases h2:bR s.bH l with
     |none=>rw[h2]at h;cases h
     |some B=>exact EH h2
  ·cases h
theorem J2{s:aS}:∀t:Tm,fW s t=true->∀x∈fM t,a7 s x=true:=by
 refine Tm.cl fun t ih h x hx=> ?_
 rw[iO,Bool.and_eq_true,List.all_eq_true]at h
 rw[lj]at hx
 rcases List.mem_cons.1 hx with e|e
 ·rw[e];exact h.1
 ·obtain⟨k,hk,hx⟩:=List.mem_flatMap.1 e
  exact ih k hk (h.2 k hk) x hx
theorem T5:∀t:Tm,t.fits->∀x∈fM t,x.fits:=by
 refine Tm.cl fun t ih h x hx=> ?_
 rw[lj]at hx
 rcases List.mem_cons.1 hx with e|e
 ·rw[e];exact h
 ·obtain⟨k,hk,hx⟩:=List.mem_flatMap.1 e
  exact ih k hk (((Tm.aX t).1 h).2 k hk) x hx
theorem Bf:∀ (l:List Tm) (i:Int) (q:List Int) (b:Bool) (x:Sp),x∈gP l i q b->∃k∈l,∃j:Int,x∈j6 k (q++[j]) b
 |[],_,_,_,x,h=>by simp[gP]at h
 |k::l,i,q,b,x,h=>by
  rw[gP,List.mem_append]at h
  rcases h with h|h
  ·exact⟨k,aI,i,h⟩
  ·obtain⟨k',h1,h2⟩:=Bf l _ _ _ _ h
   exact⟨k',by simp[h1],h2⟩
theorem sD:∀ (t:Tm) (q:List Int) (b:Bool),∀x∈j6 t q b,x.t∈fM t/\x.path.length+x.t.mm<=q.length+t.mm:=by
 refine Tm.cl fun t ih q b x hx=> ?_
 rw[yo]at hx
 rw[lj]
 rcases List.mem_cons.1 hx with e|e
 ·subst e;exact⟨aI,Nat.le_refl _⟩
 ·obtain⟨k,hk,j,h⟩:=Bf _ _ _ _ _ e
  obtain⟨h1,h2⟩:=ih k hk _ _ x h
  refine⟨List.mem_cons_of_mem _ (List.mem_flatMap.2 ⟨k,hk,h1⟩), ?_⟩
  have:=Tm.pg hk
  rw[List.length_append]at h2
  simp at h2;omega
structure Rk (p:Pg) (r:Rl):Prop where
 fn:0<=r.fn/\r.fn<=(p.sig.bH.length:Int) - 1
 len:r.ax.length<=4
 term:cN p.sig r.rhs=true
theorem yq{p:Pg}(h:dT p=true):iG p.sig=true:=by simp only[dT,Bool.and_eq_true]at h;exact h.1.1
theorem pF{p:Pg}(h:dT p=true){r:Rl}(hr:r∈p.rules):Rk p r:=by
 have hs:=Ql (yq h)
 simp only[dT,Bool.and_eq_true,List.all_eq_true]at h
 have h2:=h.2 r hr
 simp only[eR,jm,Bool.and_eq_true,decide_eq_true_eq]at h2
 obtain⟨⟨⟨⟨⟨⟨h3,h4⟩,h5⟩,h6⟩,h7⟩,h8⟩,h9⟩:=h2
 cases e:p.sig.bH[r.fn.toNat]? with
 |none=>rw[e]at h4;cases h4
 |some f=>
  rw[e]at h4
  simp only[beq_iff_eq]at h4
  have:=hs f (List.mem_of_getElem? e)
  have hl:=(List.getElem?_eq_some_iff.1 e).1
  exact⟨⟨h3,ah⟩,ah,h7⟩
theorem Rk.node {p:Pg}{r:Rl}(h:Rk p r){x:Sp}(hx:x∈j6 r.rhs [] true):a7 p.sig x.t=true/\x.path.length<=12:=by
 have ht:=h.term
 simp only[cN,Bool.and_eq_true,decide_eq_true_eq]at ht
 obtain⟨h1,h2⟩:=sD _ _ _ x hx
 have:=((mE r.rhs 40 12).1 ht.1).2
 refine⟨J2 _ ht.2 _ h1, ?_⟩
 simp at h2;omega
theorem Rk.kids {p:Pg}{r:Rl}(h:Rk p r)(hs:iG p.sig=true){x:Sp}(hx:x∈j6 r.rhs [] true)(h4:x.t.op=4):x.t.kids.length<=4:=by
 have hn:=(h.node hx).1
 simp[a7,h4,dP]at hn
 have:=T4 (k:=0) hn.1 (Ql hs)
 omega
theorem Rk.parts {p:Pg}{r:Rl}(h:Rk p r){n:Int}(hn:n∈qL r.rhs):0<=n/\n<=(p.sig.bH.length:Int) - 1:=by
 have ht:=h.term
 simp only[cN,Bool.and_eq_true]at ht
 unfold qL at hn
 obtain⟨x,h1,rfl⟩:=List.mem_map.1 hn
 obtain⟨h2,h3⟩:=List.mem_filter.1 h1
 simp only[beq_iff_eq]at h3
 have:=J2 _ ht.2 x h2
 simp[a7,h3,dP]at this
 exact this.1
theorem J3(p:Pg):(ur p).Pairwise (· <·):=by
 unfold ur
 refine List.Pairwise.filter _ ?_
 rw[List.pairwise_map]
 exact List.pairwise_lt_range.imp (fun h=>ah)
theorem Nc{p:Pg}(h:∀r∈p.rules,Rk p r)(n:Int):n∈ur p↔n∈p.rules.flatMap fun r=>qL r.rhs:=by
 unfold ur
 rw[List.mem_filter,List.mem_map,List.contains_iff_mem]
 constructor
 ·exact fun h=>h.2
 ·intro hn
  refine⟨?_,hn⟩
  obtain⟨r,hr,h1⟩:=List.mem_flatMap.1 hn
  have:=(h r hr).parts h1
  exact⟨n.toNat,by rw[List.mem_range];omega,ah⟩
theorem GC(zs:List Int)(h:zs.Pairwise (· <=·)):(Lib.compact zs).Pairwise (· <·):=by
 unfold Lib.compact Lib.compactUpTo
 rw[List.pairwise_map]
 have hle:∀i j,i<=j->j<zs.length->zs.toArray[i]! <=zs.toArray[j]! :=fun i j RK hj=>by
  rcases Nat.eq_or_lt_of_le RK with e|e
  ·rw[e];exact Int.le_refl _
  ·have:=List.pairwise_iff_getElem.1 h i j ah hj e
   simpa[getElem!_pos,hj,show i<zs.length by omega]using this
 refine List.Pairwise.imp_of_mem (fun {a b} ha hb hab=> ?_) (List.Pairwise.filter (R:=(· <·)) _ List.pairwise_lt_range)
 obtain⟨Cf,hb2⟩:=List.mem_filter.1 hb
 have Cf:=List.mem_range.1 Cf
 simp only[Lib.keeps,decide_eq_true_eq]at hb2
 have h1:=hle a (b - 1) ah ah
 have h2:=hle (b - 1) b ah Cf
 rcases hb2 with g|g
 ·omega
 ·have g':zs.toArray[b - 1]! ≠zs.toArray[b]! :=Ne.symm g
  omega
theorem J4(zs:List Int)(n:Int):n∈Lib.compact zs↔n∈zs:=by
 unfold Lib.compact Lib.compactUpTo
 rw[List.mem_map]
 constructor
 ·rintro⟨i,hi,rfl⟩
  have:=List.mem_range.1 (List.mem_filter.1 hi).1
  rw[getElem!_pos zs.toArray i (by simpa using this)]
  simp
 ·intro hn
  obtain⟨i,hi,rfl⟩:=List.getElem_of_mem hn
  have key:∀i,i<zs.length->∃j,j<=i/\Lib.keeps zs.toArray j=true/\zs.toArray[j]! =zs.toArray[i]! :=by
   intro i
   induction i with
   |zero=>intro _;exact⟨0,Nat.le_refl _,by simp[Lib.keeps],rfl⟩
   |succ i ih=>
    intro hi
    by_cases hk:Lib.keeps zs.toArray (i+1)=true
    ·exact⟨i+1,Nat.le_refl _,hk,rfl⟩
    ·obtain⟨j,h1,h2,h3⟩:=ih ah
     refine⟨j,ah,h2, ?_⟩
     simp only[Lib.keeps,decide_eq_true_eq,not_or,Decidable.not_not]at hk
     rw[h3,hk.2];rfl
  obtain⟨j,h1,h2,h3⟩:=key i hi
  refine⟨j,List.mem_filter.2 ⟨List.mem_range.2 ah,h2⟩, ?_⟩
  rw[h3,getElem!_pos zs.toArray i (by simpa using hi)]
  simp
theorem J5(l:List Int):(dL l).Pairwise (· <=·):=by
 have:=List.pairwise_mergeSort (le:=fun x y:Int=>decide (x<=y)) (fun a b c h1 h2=>by simp at*;omega) (fun a b=>by simp;omega) l
 exact this.imp (fun h=>by simpa using h)
theorem T6{p:Pg}(h:∀r∈p.rules,Rk p r):Lib.compact (dL (p.rules.flatMap fun r=>qL r.rhs))=ur p:=by
 refine Bd (GC _ (J5 _)) (J3 p) fun n=> ?_
 rw[J4,Nc h]
 unfold dL
 exact(List.mergeSort_perm _ _).mem_iff
end Go.Proofs.YtnkamdiiakdkgaaGreat
namespace Go.Proofs.YtnkamdiiakdkgaaGreat
theorem J6:∀a:Tm,a.fits->∀b:Tm,b.fits->aW Tryz.prog 105 [a.d,b.d] (.ret [.bool (eV a b)]):=by
 refine Tm.cl fun a ih ha b hb=> ?_
 have VK:=(Tm.aX _).1 ha
 have LD:=(Tm.aX _).1 hb
 refine aW.aH mix Pw aI ?_
 rw[SW,pt]
 refine br ?_
 refine Aq (aj (fun h1=> ?_) (fun h1=> ?_))
 ·rw[h1]
  refine gk h1 ?_
  refine bA (JG a.kids b.kids VK.1 LD.1 105 (fun x hx y hy=>ih x hx (VK.2 x hx) y (LD.2 y hy)) _ _ eL _ _ fun o2 n2 m1 m2 m3=> ?_)
  exact wY h1
 ·rw[h1]
  exact wY h1
theorem ac0{t:Tm}{k:Tm}(hr:aW Tryz.prog 75 [t.d,k.d] (.ret [.i (r9 t k)])){base tb:Nat}(BX:tb<base){h:Nat->ab}(ht:h tb= .row t.row):
 j7 Tryz.prog 107 [.d k.d, .ptr tb 0] base h h (.d (.bool (jY t k))):=by
 intro o nx hI K X hK
 have hle:=hI.le
 have ot:o tb= .row t.row:=by rw[hI.eq tb BX,ht]
 have y1:tb≠nx:=ah
 have y2:∀k,tb≠nx+k:=fun k=>ah
 refine de.aH mix Py aI ?_
 rw[SY]
 refine QG ot y1 y2 ?_
 refine aB hr rfl ?_
 simp+contextual (disch:=first|omega|simp only[go_sem,false_implies]) only[go_sem,wrap64,if_pos,Na]
 exact hK _ _ ah (hI.aF ah ah ah rfl) fun id i1 i2=>by(repeat(first|rfl|rw[ae]|rw[ai _ _ _ _ (by omega)]))
theorem Da(t:Tm)(ht:t.fits):∀p:Tm,p.fits->aW Tryz.prog 75 [t.d,p.d] (.ret [.i (r9 t p)]):=by
 refine Tm.cl fun p ih hp=> ?_
 have hp':=(Tm.aX _).1 hp
 refine aW.aH mix YY aI ?_
 rw[c75]
 unfold r9
 refine br ?_
 refine aB (J6 t ht p hp) rfl ?_
 cases h1:eV t p with
 |true=>exact wY h1
 |false=>
  refine gk h1 ?_
  refine bA (rz p.kids hp'.1 107 [.ptr 0 0] 1 (fun _:Unit=>aF (fun _=> .no) 0 (.row t.row)) (fun _ k=>((), !jY t k)) oq (fun _=>True) (fun _ _ _ _ _=>trivial) (fun x hx _ _=>by
   have:=ac0 (ih x hx (hp'.2 x hx)) (base:=1) (tb:=0) ah (h:=aF (fun _=> .no) 0 (.row t.row)) (ae _ _ _)
   simpa using this) () trivial _ _ ⟨eL,ah,fun id au=> ?_⟩ _ _ fun o2 n2 m1 m2 m3=> ?_)
  ·exact eY
  have e:(aw (fun(_:Unit) k=>((), !jY t k)) () p.kids).2= !(p.kids.any (jY t)):=by
   rw[pZ]
   rw[List.not_any_eq_all_not]
  rw[e,Bool.not_not]
  cases h2:p.kids.any (jY t)with
  |true=>exact wY h2
  |false=>exact wY h2
@[reducible] def mD (m:List Int):D:= .agg (m.map D.i)
theorem uu:∀l:List D,xd (l.map V.d)=some l
 |[]=>rfl
 |x::l=>by simp[xd,uu l]
theorem J7(m:List Int)(h:m.length=16):List.take 16 ((m.map D.i).map V.d)=(m.map D.i).map V.d:=List.take_of_length_le (by simp[h])
theorem EI(m:List Int)(h:m.length=16):((m.map D.i).map V.d).length=16:=by simp[h]
theorem T7(m:List Int)(k:Nat)(v:Int)(h:k<m.length):List.take k ((m.map D.i).map V.d)++[V.d (D.i v)]++List.drop (k+1) ((m.map D.i).map V.d)=((m.set k v).map D.i).map V.d:=by
 rw[List.set_eq_take_append_cons_drop,if_pos h]
 simp[List.map_take,List.map_drop]
theorem GD(l:List D):(D.agg l).cells=l:=rfl
@[reducible] def mR (m:List Int):ab:= .row ((m.map D.i).map V.d)
theorem EJ:∀l:List D,V.aL (l.map V.d)=[]
 |[]=>rfl
 |x::l=>by simp[V.aL,V.refs,EJ l]
theorem Qm(m:List Int)(n:Nat):(mR m).refs.all (fun r=>decide (r<n))=true:=by
 show(V.aL ((m.map D.i).map V.d)).all _=true
 rw[EJ];rfl
theorem aaG(cs:List D)(k:Nat):gV Tryz.prog 3 cs k=cs[k]? :=by
 have h:cS Tryz.prog 3=some false:=ag
 unfold gV;rw[h]
def rowOf(m:List Int)(i:Nat):List Int:=(m.drop (i*4)).take 4
theorem J8(m:List Int)(i:Nat):List.take 4 (List.drop (i*4) ((m.map D.i).map V.d))=((rowOf m i).map D.i).map V.d:=by simp[rowOf,List.map_take,List.map_drop]
theorem GF{m:List Int}(hm:m.length=16){i k:Nat}(hi:i<4)(hk:k<4):((rowOf m i).map D.i)[k]? =some (D.i (m.getD (i*4+k) 0)):=by
 unfold rowOf
 rw[List.getElem?_map,List.getElem?_take_of_lt hk,List.getElem?_drop,List.getD_eq_getElem?_getD]
 have:i*4+k<m.length:=ah
 rw[List.getElem?_eq_getElem this];rfl
theorem Bg{c:Nat}{G:List Gr}{so:Nat->ab}{gone:Nat->Prop}{x x' y y':ab}(h:x=y)(h':x'=y')(hs:qy c G so gone y y'):qy c G so gone x x':=Dt
def K5(m:List Int)(c:Nat)(l:List pV):Nat->ab:=aF (aF (fun _=> .no) 0 (mR m)) c (.arr 0 64 3 (l.map pV.d))
theorem pG(m:List Int)(l:List pV):Good (K5 m 4 l) 5:=(Good.nil.aF ah (Qm _ _)).aF ah rfl
theorem lsH_0(m:List Int)(l:List pV):K5 m 4 l 0=mR m:=by unfold K5;rw[ai _ _ _ _ (by omega),ae]
theorem lsH_4(m:List Int)(l:List pV):K5 m 4 l 4= .arr 0 64 3 (l.map pV.d):=by unfold K5;rw[ae]
theorem T8(m:List Int)(hm:m.length=16):aW Tryz.prog 67 [mD m] (.ret [.sl ((tz m 16).map pV.d)]):=by
 refine aW.aH mix YV aI ?_
 rw[c67]
 refine br ?_
 have hg:Good (aF (fun _=> .no) 0 (mR m)) 4:=Good.nil.aF ah (Qm _ _)
 refine aE (fun i:Nat=>⟨ba [.aa, .ptr 0 0, .aa, .osl 4 0, .aa, .aa, .aa, .d (.i i)],K5 m 4 (tz m (i*4)),5⟩)
  (fun i=>i<=4) (fun i=>4 - i) 0 (Nat.zero_le _) (bC.ya (ty:=64) (sz:=3) (es:=[]) (fun _=>False) .bw 4 _ ah (fun j hj=> ?_) (by unfold K5;rw[ae];rfl) (.inl ⟨rfl,rfl,cG⟩) (fun j hj=> ?_) (fun _ h=>h.elim) ?_) (fun i hi=> ?_)
 ·exact Bg (y:=aF (fun _=> .no) 0 (mR m) j) rfl (by unfold K5;rw[ai _ _ _ _ (by omega)]) (dg rfl (fun r hr=>hg.refs j r hr))
 ·exact Lo
 ·exact E5
 replace hi:i<=4:=hi
 refine br ?_
 refine aj (fun h1=> ?_) (fun h1=> ?_)
 ·replace h1:i<4:=by simp at h1;omega
  have li:i*4+4<=((m.map D.i).map V.d).length:=by rw[EI m hm];omega
  simp+contextual (disch:=first|omega|simp only[go_sem,false_implies]) only[go_sem,wrap64,if_pos,lsH_0,Int.toNat_natCast,J8,uu,if_pos li]
  refine aE (fun j:Nat=>⟨ba [.aa, .ptr 0 0, .aa, .osl 4 0, .d (.i i), .aa, .aa, .d (.i i), .aa, .aa, .aa, .aa, .d (.agg ((rowOf m i).map D.i)), .d (.i j)],K5 m 4 (tz m (i*4+j)),5⟩)
   (fun j=>j<=4) (fun j=>4 - j) 0 (Nat.zero_le _) (bC.bB _ (show 0<=5 from ah) ah (pG _ _) (fun j hj=>rfl) ?_) (fun j hj=> ?_)
  ·exact cE
  replace hj:j<=4:=hj
  refine br ?_
  refine aj (fun h2=> ?_) (fun h2=> ?_)
  ·replace h2:j<4:=by simp at h2;omega
   have hx:=GF hm h1 h2
   have hls:=IP m (i*4+j)
   have e1:(i*4+j)/4=i:=ah
   have e2:(i*4+j)%4=j:=ah
   rw[e1,e2]at hls
   simp+contextual (disch:=first|omega|simp only[go_sem,false_implies]) only[go_sem,wrap64,if_pos,Int.toNat_natCast,Nat.mul_one,aaG,hx,Option.map_some]
   have hlen:=Mo m (i*4+j)
   refine aj (fun h3=> ?_) (fun h3=> ?_)
   ·have lF:m.getD (i*4+j) 0≠0:=by simpa using h3
    rw[if_pos lF]at hls
    simp+contextual (disch:=first|omega|simp only[go_sem,false_implies]) only[go_sem,wrap64,if_pos,lsH_4,List.length_map]
    have hgl:=pG m (tz m (i*4+j))
    refine aq (j+1) h2 ah (bC.ya (fun j=>j=4) (.osl 4 1) 4 _ ah (fun q hq=> ?_) (lsH_4 _ _) (.inr ⟨4,1,rfl,rfl, ?_⟩) (fun q hq=> ?_) (fun q h h2=>ah) ?_)
    ·exact Bg (y:=aF (fun _=> .no) 0 (mR m) q) Lo Lo (dg rfl (fun r hr=>hg.refs q r hr))
    ·(repeat(first|rfl|rw[ae]|rw[ai _ _ _ _ (by omega)]))
     rw[<- Nat.add_assoc,hls,List.map_append];rfl
    ·exact Lo
    ·exact E5
   ·have lF: ¬m.getD (i*4+j) 0≠0:=by simpa using h3
    rw[if_neg lF,List.append_nil]at hls
    refine br ?_
    refine aq (j+1) h2 ah (bC.bB _ (show 0<=5 from ah) ah (pG _ _) (fun q hq=> ?_) ?_)
    ·rw[<- Nat.add_assoc,hls]
    ·exact cE
  ·have uZ:j=4:=by simp at h2;omega
   subst uZ
   refine br ?_
   refine aq (i+1) h1 ah (bC.bB _ (show 0<=5 from ah) ah (pG _ _) (fun q hq=> ?_) ?_)
   ·rw[show(i+1)*4=i*4+4 by omega]
   ·exact cE
 ·have jq:i=4:=by simp at h1;omega
  subst jq
  simp+contextual (disch:=first|omega|simp only[go_sem,false_implies]) only[go_sem,wrap64,if_pos,lsH_4]
theorem J9(l:List Int)(n:Int)(hl:l.length<=1000000):aW Tryz.prog 124 [.sl (l.map .i), .i n] (.ret [.bool (l.contains n)]):=by
 refine aW.aH mix Zx aI ?_
 rw[Zw]
 refine br ?_
 refine aE (fun k:Nat=>⟨ba [.d (.sl (l.map .i)), .d (.i n), .aa, .aa, .aa, .d (.i k)],fun _=> .no,0⟩)
  (fun k=>k<=l.length/\(l.take k).contains n=false) (fun k=>l.length - k) 0 ⟨Nat.zero_le _,aI⟩ (bC.d0 _ ?_) (fun k hk=> ?_)
 ·exact cE
 refine br ?_
 refine aj (fun h2=> ?_) (fun h2=> ?_)
 ·simp at h2
  obtain⟨x,hx⟩:=az h2
  refine gk hx ?_
  refine aj (fun h3=> ?_) (fun h3=> ?_)
  ·refine br ?_
   have:l.contains n=true:=by
    rw[List.contains_iff_mem, <- (by simpa using h3:x=n)];exact List.mem_of_getElem? hx
   rw[this]
  ·refine br ?_
   refine aq (k+1) ⟨h2, ?_⟩ ah (bC.d0 _ ?_)
   ·have h4: ¬n=x:=fun e=>by subst e;simp at h3
    have h5:=hk.2
    rw[List.take_add_one,hx]
    rw[Bool.eq_false_iff]at h5|-
    intro hc;apply h5
    rw[List.contains_iff_mem]at hc|-
    rcases List.mem_append.1 hc with hc|hc
    ·exact hc
    ·simp at hc;exact absurd hc h4
   ·exact cE
 ·simp at h2
  refine br ?_
  have:=hk.2
  rw[List.take_of_length_le (by omega)]at this
  rw[this]
theorem uv:∀ (l:List Int) (n:Int),∃k,k<=l.length/\(∀x∈l.take k,x<n)/\(∀x,l[k]? =some x-> ¬x<n)/\jk l n=if l[k]? =some n then l else l.take k++n::l.drop k
 |[],n=>⟨0,Nat.zero_le _,aI,aI,by simp[jk]⟩
 |x::l,n=>by
  obtain⟨k,h1,h2,h3,h4⟩:=uv l n
  by_cases hx:x<n
  ·refine⟨k+1,by simp;omega, ?_,by simpa using h3, ?_⟩
   ·intro y hy
    simp only[List.take_succ_cons,List.mem_cons]at hy
    rcases hy with rfl|hy
    ·exact hx
    ·exact h2 y hy
   ·simp only[jk,if_pos hx,h4,List.getElem?_cons_succ,List.take_succ_cons,List.drop_succ_cons]
    split<;>simp
  ·refine⟨0,Nat.zero_le _,aI,by simpa using hx, ?_⟩
   simp only[jk,if_neg hx]
   by_cases e:x=n
   ·subst e;simp
   ·simp[e]
theorem HJ(l:List Int)(n:Int)(hl:l.length<=1000000):aW Tryz.prog 92 [.sl (l.map .i), .i n] (.ret [.sl ((jk l n).map .i)]):=by
 obtain⟨j,j1,j2,j3,j4⟩:=uv l n
 have tk:∀ (i:Nat) (l:List Int),List.take i (l.map D.i)=(l.take i).map D.i:=fun i l=>List.map_take.symm
 have dr:∀ (i:Nat) (l:List Int),List.drop i (l.map D.i)=(l.drop i).map D.i:=fun i l=>List.map_drop.symm
 have ap:∀ (a b:List Int),a.map D.i++[D.i n]++b.map D.i=(a++n::b).map D.i:=fun a b=>aI
 refine aW.aH mix acO aI ?_
 rw[c92]
 refine br ?_
 refine aE (fun k:Nat=>⟨ba [.d (.sl (l.map .i)), .d (.i n), .aa, .aa, .aa, .d (.i k)],fun _=> .no,0⟩)
  (fun k=>k<=j) (fun k=>l.length - k) 0 (Nat.zero_le _) (bC.d0 _ ?_) (fun k hk=> ?_)
 ·exact cE
 by_cases hkj:k=j
 ·subst hkj
  by_cases h5:k<l.length
  ·obtain⟨x,hx⟩:=az h5
   have h6:=j3 x hx
   have nJ:(k:Int)<l.length:=ah
   refine BQ hx nJ h6 ?_
   refine aj (fun h3=> ?_) (fun h3=> ?_)
   ·refine br ?_
    have e:x=n:=by simpa using h3
    rw[j4,if_pos (by rw[hx,e])]
   ·have e: ¬x=n:=by simpa using h3
    rw[j4,if_neg (by rw[hx];simpa using e)]
    refine QD hx nJ h6 tk dr ?_
    rw[ap]
    exact Ly
  ·have nJ: ¬ (k:Int)<l.length:=ah
   have hx:l[k]? =none:=by simp;omega
   rw[j4,if_neg (by rw[hx];simp)]
   refine QE nJ tk dr ?_
   rw[ap]
   exact Ly
 ·have b8:k<l.length:=ah
  obtain⟨x,hx⟩:=az b8
  have nJ:(k:Int)<l.length:=ah
  have h6:x<n:=j2 x (List.mem_of_getElem? (i:=k) (by rw[List.getElem?_take_of_lt (by omega)];exact hx))
  refine BQ hx nJ h6 ?_
  refine aq (k+1) ah ah (bC.d0 _ ?_)
  exact cE
theorem p6{op n:Int}{i:Nat}{l:List Int}{k:Nat}{v:Int}(h:l[k]? =some v)(out:List Int):lu op n i (l.take (k+1)) out=if(op !=8||(i:Int)!=1||v !=n)=true then jk (lu op n i (l.take k) out) v else lu op n i (l.take k) out:=by
 unfold lu
 rw[List.take_add_one,h,List.foldl_append]
 rfl
theorem sE:∀t:Tm,t.C0->aW Tryz.prog 114 [t.d] (.ret [.sl ((bN t).map .i)]):=by
 refine Tm.cl fun t ih ht=> ?_
 have lK:=(Tm.aX _).1 ht.fits
 refine aW.aH mix Zl aI ?_
 rw[Zk]
 by_cases h1:t.op=1
 ·refine gk h1 ?_
  rw[mH,if_pos h1]
  rfl
 ·have jq:(t.op==1)=false:=by simpa using h1
  refine gk jq ?_
  rw[mH,if_neg h1]
  refine aE (fun i:Nat×List Int=>⟨ba [.aa, .ptr 0 0, .aa, .d (.sl (i.2.map .i)), .d (.i i.1)],gf t.row,1⟩)
   (fun i=>i.1<=t.kids.length/\iw t.op t.n t.kids 0 []=iw t.op t.n (t.kids.drop i.1) i.1 i.2/\i.2.length<=eC (t.kids.take i.1)) (fun i=>t.kids.length - i.1) (0,[]) ⟨Nat.zero_le _,rfl,Nat.zero_le _⟩
   (bC.aao (fun _=>False) 1 _ ah (lt1 (dg rfl pX)) (fun j hj=>ai _ _ _ _ ah) (fun _ h=>h.elim) ?_) ?_
  ·try dsimp only
   exact E5
  rintro⟨k,out⟩ ⟨hk,hv,hlen⟩
  simp only at hk hv hlen
  refine br ?_
  refine aj (fun h2=> ?_) (fun h2=> ?_)
  ·simp at h2
   obtain⟨x,hx⟩:=az h2
   have eg:=List.mem_of_getElem? hx
   have dw:eC (t.kids.take (k+1))=eC (t.kids.take k)+x.sz:=by
    rw[List.take_add_one,hx];simp[eC]
   have hle:eC (t.kids.take (k+1))<=eC t.kids:=by
    have:eC t.kids=eC (t.kids.take (k+1))+eC (t.kids.drop (k+1)):=by
     conv=>lhs;rw[<- List.take_append_drop (k+1) t.kids]
     exact Hn
    omega
   have qX:eC t.kids<=1000000:=by have:=ht.size;rw[Tm.kC,Tm.gv]at this;omega
   have UG:=kG x
   have hdr:t.kids.drop k=x::t.kids.drop (k+1):=by
    exact Rp
   refine gk hx ?_
   refine bn (ih x eg (ht.wD eg)) ?_
   refine gk hx ?_
   refine aE (fun j:Nat=>⟨ba [.aa, .ptr 0 0, .aa, .d (.sl ((lu t.op t.n k ((bN x).take j) out).map .i)), .d (.i k), .d (.sl ((bN x).map .i)), .d (.i j)],gf t.row,1⟩)
    (fun j=>j<=(bN x).length) (fun j=>(bN x).length - j) 0 (Nat.zero_le _) (bC.d1 _ (aT rfl) ah rfl ?_) (fun j hj=> ?_)
   ·exact cE
   refine br ?_
   refine aj (fun h3=> ?_) (fun h3=> ?_)
   ·simp at h3
    obtain⟨v,uL⟩:=az h3
    have JL:=mI t.op t.n k ((bN x).take j) out
    have htl:((bN x).take j).length<=(bN x).length:=by rw[List.length_take];omega
    cases b1:(t.op !=8)with
    |true=>
     have hc:(t.op !=8||(k:Int)!=1||v !=t.n)=true:=by rw[b1];rfl
     refine G8 uL b1 ?_
     exact WN
    |false=>
     cases b2:((k:Int)!=1)with
     |true=>
      have hc:(t.op !=8||(k:Int)!=1||v !=t.n)=true:=by rw[b1,b2];rfl
      refine BQ uL b1 b2 ?_
      exact WN
     |false=>
      refine BQ uL b1 b2 ?_
      refine aN cG ?_
      refine gk uL ?_
      refine aj (fun h4=> ?_) (fun h4=> ?_)
      ·have hc:(t.op !=8||(k:Int)!=1||v !=t.n)=true:=by rw[h4];simp
       refine gk uL ?_
       refine bn (HJ _ v ah) ?_
       refine br ?_
       refine aq (j+1) h3 ah (bC.d1 _ (aT rfl) ah rfl ?_)
       rw[p6 uL,if_pos hc]
       exact cE
      ·have hc: ¬ (t.op !=8||(k:Int)!=1||v !=t.n)=true:=by rw[b1,b2,h4];simp
       refine gk uL ?_
       refine aq (j+1) h3 ah (bC.d1 _ (aT rfl) ah rfl ?_)
       rw[p6 uL,if_neg hc]
       exact cE
   ·simp at h3
    refine br ?_
    rw[List.take_of_length_le (by omega)]
    refine aq (k+1,lu t.op t.n k (bN x) out) ⟨h2,by rw[hv,hdr];rfl, ?_⟩ nb (bC.d1 _ (aT rfl) ah rfl ?_)
    ·dsimp only
     have:=mI t.op t.n k (bN x) out
     omega
    ·exact cE
  ·simp at h2
   refine br ?_
   rw[hv,List.drop_eq_nil_of_le (by omega)]
   rfl
theorem Nd:∀t:Tm,t.fits->aW Tryz.prog 153 [t.d] (.ret [.bool (fq t)]):=by
 refine Tm.cl fun t ih hf=> ?_
 have lK:=(Tm.aX _).1 hf
 refine aW.aH mix ZZ aI ?_
 rw[ZY,qJ]
 refine br ?_
 refine aE (fun k:Nat=>⟨ba [.aa, .ptr 0 0, .aa, .d (.i k)],gf t.row,1⟩)
  (fun k=>k<=t.kids.length/\(t.kids.take k).all fq=true) (fun k=>t.kids.length - k) 0 ⟨Nat.zero_le _,aI⟩ (bC.d1 _ (aT rfl) ah rfl ?_) (fun k hk=> ?_)
 ·exact cE
 refine br ?_
 refine aj (fun h2=> ?_) (fun h2=> ?_)
 ·simp at h2
  obtain⟨x,hx⟩:=az h2
  have eg:=List.mem_of_getElem? hx
  refine gk hx ?_
  refine aB (ih x eg (lK.2 x eg)) rfl ?_
  refine br ?_
  refine aj (fun h3=> ?_) (fun h3=> ?_)
  ·refine br ?_
   simp at h3
   rw[cf hx h3];rfl
  ·exact WZ
 ·refine br ?_
  simp at h2
  rw[dK hk.2 h2];rfl
theorem T9:∀t:Tm,t.C0->∀b:List Int,b.length+t.sz<=1000000->aW Tryz.prog 152 [t.d, .sl (b.map .i)] (.ret [.sl ((fI t b).1.map .i), .bool (fI t b).2]):=by
 refine Tm.cl fun t ih ht b hb=> ?_
 have lK:=(Tm.aX _).1 ht.fits
 refine aW.aH mix ZX aI ?_
 rw[ZW]
 by_cases h1:t.op=1
 ·rw[pC,if_pos h1]
  refine gk h1 ?_
  refine c7 (HJ _ _ ah) ?_
  refine br ?_
  refine aQ (J9 _ _ ah) rfl ?_
  refine br ?_
  exact Ly
 ·have jq:(t.op==1)=false:=by simpa using h1
  rw[pC,if_neg h1]
  refine gk jq ?_
  refine aE (fun i:Nat×List Int×Bool=>⟨ba [.aa, .d (.sl (i.2.1.map .i)), .ptr 0 0, .aa, .aa, .aa, .d (.bool i.2.2), .d (.i i.1)],gf t.row,1⟩)
   (fun i=>i.1<=t.kids.length/\ft t.kids b=(if i.2.2=true then ft (t.kids.drop i.1) i.2.1 else(i.2.1,false))/\i.2.1.length<=b.length+eC (t.kids.take i.1)) (fun i=>t.kids.length - i.1) (0,b,true) ⟨Nat.zero_le _,rfl,Nat.le_add_right _ _⟩ (bC.d1 _ (aT rfl) ah rfl ?_) ?_
  ·dsimp only
   exact cE
  rintro⟨k,b',is⟩ ⟨hk,hv,hlen⟩
  simp only at hk hv hlen
  have qX:=Tm.gv t
  have fin:is=false\/t.kids.length<=k->ft t.kids b=(b',is):=by
   intro h
   cases is with
   |false=>rw[hv];rfl
   |true=>
    have h:t.kids.length<=k:=by simpa using h
    rw[hv,List.drop_eq_nil_of_le h];rfl
  refine br ?_
  cases is with
  |false=>
   refine br ?_
   rw[fin (.inl rfl)]
  |true=>
   refine br ?_
   refine aj (fun h2=> ?_) (fun h2=> ?_)
   ·simp at h2
    obtain⟨x,hx⟩:=az h2
    have eg:=List.mem_of_getElem? hx
    have dw:eC (t.kids.take (k+1))=eC (t.kids.take k)+x.sz:=by
     rw[List.take_add_one,hx];simp[eC]
    have hle:eC t.kids=eC (t.kids.take (k+1))+eC (t.kids.drop (k+1)):=by
     conv=>lhs;rw[<- List.take_append_drop (k+1) t.kids]
     exact Hn
    have hdr:t.kids.drop k=x::t.kids.drop (k+1):=by
     exact Rp
    refine gk hx ?_
    refine bn (ih x eg (ht.wD eg) b' ah) ?_
    refine br ?_
    refine aq (k+1,(fI x b').1,(fI x b').2) ⟨h2, ?_, ?_⟩ nb (bC.d1 _ (aT rfl) ah rfl ?_)
    ·dsimp only
     rw[hv,if_pos rfl,hdr]
     simp only[ft]
    ·dsimp only
     have:=Gw x b'
     omega
    ·exact cE
   ·simp at h2
    refine br ?_
    rw[fin (.inr h2)]
theorem GG(t:Tm)(ht:t.C0):aW Tryz.prog 110 [t.d] (.ret [.bool ((fI t []).2&&fq t)]):=by
 have ho:=T9 t ht [] (by have:=ht.size;rw[Tm.kC]at this;simp;omega)
 simp only[List.map_nil]at ho
 refine aW.aH mix Zd aI ?_
 rw[Zc]
 refine br ?_
 refine bn ho ?_
 refine br ?_
 refine fi (ew [.bool (fq t)] ?_ ?_)
 ·refine br ?_
  exact fun _=>Nd t ht.fits
 exact pW
def IC.snd:IC->IC
 | .seq _ y=>y
 |c=>c
def IC.fst:IC->IC
 | .seq x _=>x
 | .block _ x=>x
 | .loop x=>x
 | .cond _ x _=>x
 |c=>c
theorem Bh{c:Nat}{G:List Gr}{so:Nat->ab}{gone:Nat->Prop}{x x' y y':ab}(h:x=y)(h':x'=y')(hs:qy c G so gone y y'):qy c G so gone x x':=Dt
theorem fu{l:List Tm}{k:Tm}(h:k∈l):k.sz<=eC l:=by
 induction l with
 |nil=>cases h
 |cons x l ih=>
  rw[ez]
  rcases List.mem_cons.1 h with e|e
  ·subst e;omega
  ·have:=ih e;omega
theorem yr:∀t:Tm,t.mm<=t.sz:=by
 refine Tm.cl fun t ih=> ?_
 rw[Tm.C1,Tm.gv]
 have:=(sy t.kids (eC t.kids)).2 fun k hk=>Nat.le_trans (ih k hk) (fu hk)
 omega
theorem Tm.C0.Db {t:Tm}(hf:t.fits)(h:t.sz<=900000):t.C0:=⟨⟨hf,Nat.le_trans (yr t) h⟩,by rw[Tm.kC];omega⟩
theorem uw(l:List Tm)(h:∀k∈l,(dv k).length<=k.sz):(cD l).length<=eC l:=by
 induction l with
 |nil=>simp[cD]
 |cons k l ih=>
  rw[cD,List.length_append,ez]
  have:=h k aI
  have:=ih fun x hx=>h x ng
  omega
theorem qM:∀t:Tm,(dv t).length<=t.sz:=by
 refine Tm.cl fun t ih=> ?_
 have:=uw t.kids ih
 rw[qH,List.length_append,Tm.gv]
 split<;>simp<;>omega
theorem vg(a b:List Tm):cD (a++b)=cD a++cD b:=by
 induction a with
 |nil=>simp[cD]
 |cons k a ih=>simp[cD,ih]
def Ka:IC:=MG.snd.snd.snd.fst.snd.fst.fst
theorem ux{t:Tm}(hf:t.fits)(hz:t.sz<=1000000)(ih:∀k∈t.kids,k.fits->k.sz<=1000000->aW Tryz.prog 154 [k.d] (.ret [.sl ((dv k).map .i)]))(p:List Int)(hp:p.length<=1){e:Nat->V}{o:Nat->ab}{nx:Nat}{Q:eS->S->Prop}
 (hs:bC 0 ⟨e,o,nx⟩ ⟨ba [.aa, .ptr 0 0, .aa, .osl 1 0, .d (.i 0)],aF (aF (fun _=> .no) 0 (.row t.row)) 1 (.arr 0 3 1 (p.map .i)),2⟩)
 (hQ:∀e' n',e' 3= .osl 1 0->Q (.exit 0) ⟨e',aF (aF (fun _=> .no) 0 (.row t.row)) 1 (.arr 0 3 1 ((p++cD t.kids).map .i)),n'⟩):
 An 0 (fun Q s=>kL Tryz.prog 29 0 false Ka Q s) Q ⟨e,o,nx⟩:=by
 have lK:=(Tm.aX _).1 hf
 have qX:=Tm.gv t
 refine aE (fun i:Nat=>⟨ba [.aa, .ptr 0 0, .aa, .osl 1 0, .d (.i i)],aF (aF (fun _=> .no) 0 (.row t.row)) 1 (.arr 0 3 1 ((p++cD (t.kids.take i)).map .i)),2⟩)
  (fun i=>i<=t.kids.length) (fun i=>t.kids.length - i) 0 (Nat.zero_le _) ?_ fun k hk=> ?_
 ·simpa[cD]using hs
 replace hk:k<=t.kids.length:=hk
 simp only[Ka,MG,IC.snd,IC.fst]
 refine lN ?_
 refine aj (fun h2=> ?_) (fun h2=> ?_)
 ·simp at h2
  obtain⟨x,hx⟩:=az h2
  have eg:=List.mem_of_getElem? hx
  have K7:t.kids.take (k+1)=t.kids.take k++[x]:=by rw[List.take_add_one,hx];rfl
  have vI:(cD (t.kids.take k)).length<=eC (t.kids.take k):=uw _ fun y _=>qM y
  have dw:eC t.kids=eC (t.kids.take k)+eC (t.kids.drop k):=by
   conv=>lhs;rw[<- List.take_append_drop k t.kids]
   exact Hn
  have DE:=fu eg
  have hl2:=qM x
  have hl3:(p++cD (t.kids.take k)).length<=1000001:=by rw[List.length_append];omega
  refine lM hx ?_
  refine bn (ih x eg (lK.2 x eg) ah) ?_
  refine lM hx ?_
  refine aq (k+1) h2 ah (bC.ya (fun j=>j=1) (.osl 1 1) 1 _ ah (lt1 (Bh (y:= .row t.row) eY eY (dg rfl pX))) (ae _ _ _) (.inr ⟨1,1,rfl,rfl,by(repeat(first|rfl|rw[ae]|rw[ai _ _ _ _ (by omega)]));rw[K7,vg, <- List.append_assoc,List.map_append];simp[cD]⟩) (fun j hj=>by(repeat(first|rfl|rw[ae]|rw[ai _ _ _ _ (by omega)]))) (fun j h h2=>ah) ?_)
  exact E5
 ·simp at h2
  have JL:k=t.kids.length:=ah
  subst JL
  rw[List.take_length]
  refine lN ?_
  exact hQ _ _ rfl
theorem Nf:∀t:Tm,t.fits->t.sz<=1000000->aW Tryz.prog 154 [t.d] (.ret [.sl ((dv t).map .i)]):=by
 refine Tm.cl fun t ih hf hz=> ?_
 refine aW.aH mix Z0 aI ?_
 rw[MG,qH]
 by_cases h8:t.op=8
 ·have h8':(t.op==8)=true:=by simpa using h8
  refine gk h8' ?_
  rw[if_pos h8]
  refine ux hf hz ih [t.n] aI ?_ fun e' n' he=> ?_
  ·refine bC.ya (fun j=>1<=j) _ 1 _ ah (lt1 (Bh (y:= .row t.row) eY eY (dg rfl pX))) (ae _ _ _) (.inr ⟨_,_, ?_,rfl,by(repeat(first|rfl|rw[ae]|rw[ai _ _ _ _ (by omega)]))⟩) (fun j hj=>by(repeat(first|rfl|rw[ae]|rw[ai _ _ _ _ (by omega)]))) (fun j h h2=>ah) ?_
   ·decide
   ·exact E5
  ·exact wY he
 ·have h8':(t.op==8)=false:=by simpa using h8
  refine gk h8' ?_
  rw[if_neg h8]
  refine ux hf hz ih [] aI ?_ fun e' n' he=> ?_
  ·refine bC.ya (fun _=>False) .bw 1 _ ah (lt1 (dg rfl pX)) (ae _ _ _) (.inl ⟨rfl,rfl,cG⟩) (fun j hj=>by(repeat(first|rfl|rw[ae]|rw[ai _ _ _ _ (by omega)]))) (fun _ h=>h.elim) ?_
   exact E5
  ·exact wY he
theorem Kc(l:List Int)(n:Int)(hl:l.length<=1000000):aW Tryz.prog 155 [.sl (l.map .i), .i n] (.ret [.i (l.count n)]):=by
 refine aW.aH mix Z2 aI ?_
 rw[Z1]
 refine br ?_
 refine aE (fun k:Nat=>⟨ba [.d (.sl (l.map .i)), .d (.i n), .aa, .aa, .aa, .d (.i ((l.take k).count n)), .d (.i k)],fun _=> .no,0⟩)
  (fun k=>k<=l.length) (fun k=>l.length - k) 0 (Nat.zero_le _) (bC.d0 _ ?_) (fun k hk=> ?_)
 ·exact cE
 replace hk:k<=l.length:=hk
 have hc:(l.take k).count n<=1000000:=by have:=List.count_le_length (a:=n) (l:=l.take k);rw[List.length_take]at this;omega
 refine lN ?_
 refine aj (fun h2=> ?_) (fun h2=> ?_)
 ·simp at h2
  obtain⟨x,hx⟩:=az h2
  have K7:(l.take (k+1)).count n=(l.take k).count n+if x=n then 1 else 0:=by rw[List.take_add_one,hx,List.count_append];simp[List.count_singleton]
  refine lM hx ?_
  refine aj (fun h3=> ?_) (fun h3=> ?_)
  ·have lF:x=n:=by simpa using h3
   rw[if_pos lF]at K7
   exact Rg
  ·have lF: ¬x=n:=by simpa using h3
   rw[if_neg lF]at K7
   exact Rg
 ·simp at h2
  refine br ?_
  rw[List.take_of_length_le h2]
theorem rE(n:Int):∀l:List Tm,hZ n l=l.all (ed n)
 |[]=>rfl
 |k::l=>by simp[hZ,rE n l]
theorem Bi(n:Int):∀t:Tm,t.fits->aW Tryz.prog 111 [t.d, .i n] (.ret [.bool (ed n t)]):=by
 refine Tm.cl fun t ih hf=> ?_
 have lK:=(Tm.aX _).1 hf
 refine aW.aH mix Zf aI ?_
 rw[Ze,uf,rE]
 refine br ?_
 refine aE (fun k:Nat=>⟨ba [.aa, .d (.i n), .ptr 0 0, .aa, .aa, .d (.i k)],gf t.row,1⟩)
  (fun k=>k<=t.kids.length/\(t.kids.take k).all (ed n)=true) (fun k=>t.kids.length - k) 0 ⟨Nat.zero_le _,aI⟩ (bC.d1 _ (aT rfl) ah rfl ?_) (fun k hk=> ?_)
 ·exact cE
 refine br ?_
 refine aj (fun h2=> ?_) (fun h2=> ?_)
 ·simp at h2
  obtain⟨x,hx⟩:=az h2
  have eg:=List.mem_of_getElem? hx
  refine gk hx ?_
  refine aB (ih x eg (lK.2 x eg)) rfl ?_
  refine br ?_
  refine aj (fun h3=> ?_) (fun h3=> ?_)
  ·refine br ?_
   simp at h3
   rw[cf hx h3];rfl
  ·exact WZ
 ·simp at h2
  rw[dK hk.2 h2,Bool.true_and]
  exact pW
theorem Bj(l:List Tm):aW Tryz.prog 115 [.sl (l.map Tm.d)] (.ret [(Tm.mk 0 0 l).d]):=by
 refine aW.aH mix Zn aI ?_
 rw[Zm,Tm.CJ]
 exact pW
structure Kd (l:List Tm):Prop where
 len:l.length<=1000
 all:∀t∈l,t.fits/\t.sz<=500
theorem Kd.cnt {l:List Tm}(h:Kd l){t:Tm}(ht:t∈l):t.C0:=Tm.C0.Db (h.all t ht).1 (by have:=(h.all t ht).2;omega)
theorem Kd.eC {l:List Tm}(h:Kd l):eC l<=500000:=by
 have:∀l:List Tm,(∀t∈l,t.sz<=500)->Go.Proofs.YtnkamdiiakdkgaaGreat.eC l<=500*l.length:=by
  intro l
  induction l with
  |nil=>intro _;simp[Go.Proofs.YtnkamdiiakdkgaaGreat.eC]
  |cons k l ih=>intro h;rw[ez,List.length_cons];have:=h k aI;have:=ih fun x hx=>h x ng;omega
 have:=this l fun t ht=>(h.all t ht).2
 have:=h.len
 omega
theorem Kd.fits {l:List Tm}(h:Kd l):(Tm.mk 0 0 l).fits:=by
 rw[Tm.aX]
 exact⟨by have:=h.len;simp only[Tm.kids];omega,fun k hk=>(h.all k hk).1⟩
theorem Kd.whole {l:List Tm}(h:Kd l):(Tm.mk 0 0 l).C0:=Tm.C0.Db h.fits (by have:=h.eC;rw[Tm.AZ];omega)
theorem Ke(l:List Tm)(h:Kd l):aW Tryz.prog 112 [.sl (l.map Tm.d)] (.ret [.bool (C8 l)]):=by
 have hlen:=h.len
 refine aW.aH mix Zh aI ?_
 rw[Zg]
 refine br ?_
 refine aE (fun k:Nat=>⟨ba [.d (.sl (l.map Tm.d)), .aa, .aa, .d (.i (((l.take k).map fun t=>(bN t).length).sum:Nat)), .d (.i k)],fun _=> .no,0⟩)
  (fun k=>k<=l.length) (fun k=>l.length - k) 0 (Nat.zero_le _) (bC.d0 _ ?_) (fun k hk=> ?_)
 ·exact cE
 replace hk:k<=l.length:=hk
 have hs:((l.take k).map fun t=>(bN t).length).sum<=500000:=by
  have h1:∀m:List Tm,(m.map fun t=>(bN t).length).sum<=Go.Proofs.YtnkamdiiakdkgaaGreat.eC m:=by
   intro m
   induction m with
   |nil=>simp[Go.Proofs.YtnkamdiiakdkgaaGreat.eC]
   |cons x m ih=>rw[List.map_cons,List.sum_cons,ez];have:=kG x;omega
  have h2:Go.Proofs.YtnkamdiiakdkgaaGreat.eC l=Go.Proofs.YtnkamdiiakdkgaaGreat.eC (l.take k)+Go.Proofs.YtnkamdiiakdkgaaGreat.eC (l.drop k):=by
   conv=>lhs;rw[<- List.take_append_drop k l]
   unfold Go.Proofs.YtnkamdiiakdkgaaGreat.eC;rw[List.map_append,List.sum_append]
  have:=h1 (l.take k)
  have:=h.eC
  omega
 refine lN ?_
 refine aj (fun h2=> ?_) (fun h2=> ?_)
 ·simp at h2
  obtain⟨x,hx⟩:=az h2
  have eg:=List.mem_of_getElem? hx
  have hv:=kG x
  have hx5:=(h.all x eg).2
  have K7:((l.take (k+1)).map fun t=>(bN t).length).sum=((l.take k).map fun t=>(bN t).length).sum+(bN x).length:=by rw[List.take_add_one,hx,List.map_append,List.sum_append];simp
  refine lM hx ?_
  refine bn (sE x (h.cnt eg)) ?_
  exact Rg
 ·simp at h2
  refine br ?_
  refine bn (Bj l) ?_
  refine br ?_
  refine bn (sE _ h.whole) ?_
  rw[List.take_of_length_le h2]
  refine lN ?_
  congr 3
  rw[C8,Bool.eq_iff_iff]
  simp
  omega
theorem Ng(t:Tm)(ht:t.C0)(p:List Int)(hp:p.length<=1000000):aW Tryz.prog 113 [t.d, .sl (p.map .i)] (.ret [.bool (qI t p)]):=by
 have hz:t.sz<=1000000:=by have:=ht.size;rw[Tm.kC]at this;omega
 have hl:=qM t
 have hv:=kG t
 refine aW.aH mix Zj aI ?_
 rw[Zi]
 refine br ?_
 refine c7 (Nf t ht.fits hz) ?_
 refine br ?_
 refine c7 (sE t ht) ?_
 refine br ?_
 refine aN cG ?_
 refine br ?_
 let q:Int->Bool:=fun v=> !(decide (1<((dv t).count v:Int))||p.contains v||(bN t).contains v)
 have hq:qI t p=(dv t).all q:=rfl
 rw[hq]
 refine aE (fun k:Nat=>⟨ba [.aa, .d (.sl (p.map .i)), .ptr 0 0, .aa, .aa, .d (.sl ((dv t).map .i)), .d (.sl ((bN t).map .i)), .d (.i k)],gf t.row,1⟩)
  (fun k=>k<=(dv t).length/\((dv t).take k).all q=true) (fun k=>(dv t).length - k) 0 ⟨Nat.zero_le _,aI⟩ (bC.d1 _ (aT rfl) ah rfl ?_) (fun k hk=> ?_)
 ·exact cE
 refine lN ?_
 refine aj (fun h2=> ?_) (fun h2=> ?_)
 ·simp at h2
  obtain⟨x,hx⟩:=az h2
  have hqx:q x= !(decide (1<((dv t).count x:Int))||p.contains x||(bN t).contains x):=rfl
  refine lM hx ?_
  refine aB (Kc (dv t) x ah) rfl ?_
  cases h3:decide (1<((dv t).count x:Int))with
  |true=>
   refine BO hx h3 ?_
   rw[cf hx (by rw[hqx,h3];rfl)]
  |false=>
   refine BO hx h3 ?_
   refine aB (J9 p x ah) rfl ?_
   cases h4:p.contains x with
   |true=>
    refine BO hx h3 ?_
    rw[cf hx (by rw[hqx,h3,h4];rfl)]
   |false=>
    refine BO hx h3 ?_
    refine aB (J9 (bN t) x ah) rfl ?_
    cases h5:(bN t).contains x with
    |true=>
     refine BO hx h3 ?_
     rw[cf hx (by rw[hqx,h3,h4,h5];rfl)]
    |false=>
     refine BO hx h3 ?_
     refine aq (k+1) ⟨h2,eh hx hk.2 (by rw[hqx,h3,h4,h5];rfl)⟩ ah (bC.d1 _ (aT rfl) ah rfl ?_)
     exact cE
 ·simp at h2
  rw[dK hk.2 h2]
  exact pW
theorem de.pH {P:Program}{g:FuncId}{x:V}{d:D}{rest:List V}{o:Nat->ab}{nx:Nat}{K X:V->(Nat->ab)->Nat->Prop}(hx:dA o x=some d)
 (h:de P g (.d d::rest) (put o (cc o x.ids)) nx K X):de P g (x::rest) o nx K X:=by
 refine⟨h.1,fun M φ w vals hH hd=> ?_⟩
 have hd0:=hd
 obtain⟨val,us,j9,hv,dQ⟩:=hd
 have hu:=fun id au=>cA x val hv id au
 obtain⟨f1,f2,f3,f4,f5⟩:=cC (H:=hp o nx) hH x.ids hu
 have fh:(hp o nx).put (cc o x.ids)=hp (put o (cc o x.ids)) nx:=TT (fun y hy=>by
  simp only[cc,List.mem_map]at hy
  obtain⟨id,au,rfl⟩:=hy
  exact hu id au)
 have Lg:=f1;have JM:=f2
 rw[show cc (hp o nx).o x.ids=cc o x.ids from rfl,fh]at Lg JM
 have hB1:∀k,cy φ ((hp o nx).put (cc o x.ids)) k->cy φ (hp o nx) k:=by
  rintro k ⟨id,g1,g2⟩
  by_cases au:id∈x.ids
  ·have:=f3 id au
   rw[show((hp o nx).put (cc o x.ids)).o id=_ from this]at g1
   refine⟨id, ?_,g2⟩
   revert g1
   cases(hp o nx).o id<;>simp[ab.fz,ab.live]
  ·have:=f4 id au
   rw[show((hp o nx).put (cc o x.ids)).o id=_ from this]at g1
   exact⟨id,g1,g2⟩
 have Qn:∀j,my (((hp o nx).put (cc o x.ids)).o j) ((hp o nx).o j):=fun j=>by
  by_cases hm:j∈x.ids
  ·rw[show((hp o nx).put (cc o x.ids)).o j=_ from f3 j hm];exact my.fz _
  ·rw[show((hp o nx).put (cc o x.ids)).o j=_ from f4 j hm];exact my.rfl' rfl
 have h4:=V.mz (H:=hp o nx) (H':=(hp o nx).put (cc o x.ids)) (B:=ak M φ (hp o nx)) (B':=ak M φ ((hp o nx).put (cc o x.ids))) (fun k h h'=>h (h'.imp id (hB1 k))) x val (fun id au=>⟨Qn id,rfl,(f5 id).2 ((V.mZ x val hv) id au)⟩) hv
 have h5:=eH f1 (o:=o) x d val (fun id au=>f3 id au) hx h4
 have h6:=V.gK (H:=hp o nx) (H':=(hp o nx).put (cc o x.ids)) (B:=ak M φ (hp o nx)) (B':=ak M φ ((hp o nx).put (cc o x.ids))) (fun k h h'=>h (h'.imp id (hB1 k))) rest us (fun id au=>⟨Qn id,rfl,(f5 id).2 ((V.gL rest us dQ) id au)⟩) dQ
 rw[show(hp o nx).put (cc (hp o nx).o x.ids)=hp (put o (cc o x.ids)) nx from fh]at h5
 rw[fh]at h6
 refine(h.2 M φ w vals Lg ⟨val,us,j9,h5,h6⟩).mono ?_
 rintro e w' ⟨aD,o',nx',v,k1,k2,k3⟩
 exact⟨aD,o',nx',v,k1,JM.trans k2,k3⟩
end Go.Proofs.YtnkamdiiakdkgaaGreat
