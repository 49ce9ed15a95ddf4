/-
  A PART OF THE PROOF. Conditions: none.
-/
import Derived.OpenShut
import Derived.Carry
import Derived.Handed
import Derived.JoinedOf
import Derived.ProofKit
import Derived.Test.YtonbelhklnmjnaaGreatLp17
set_option linter.unusedSimpArgs false
set_option linter.unusedVariables false
namespace Go.Proofs.YtonbelhklnmjnaaGreat
def kO(op v:Int)(xs:List Tm):Nat:=xs.countP fun x=>x.op==op&&x.n==v
theorem Hl:∀ (m:List (Int×Int)) (v w u:Int),lk (lG m v w) u=if v=u then some w else lk m u
 |[],v,w,u=>by simp only[lG,lk]
 |p::m,v,w,u=>by
  have ih:=Hl m v w u
  unfold lG
  by_cases h:p.1=v
  ·rw[if_pos h]
   simp only[lk]
   by_cases h2:v=u
   ·simp[h2]
   ·have: ¬p.1=u:=by rw[h];exact h2
    simp[h2,this]
  ·rw[if_neg h]
   simp only[lk]
   by_cases h2:p.1=u
   ·have: ¬v=u:=by intro e;exact h (h2.trans e.symm)
    simp[h2,this]
   ·simp only[h2,if_false];exact ih
theorem DB:∀ (m:List (Int×Int)) (v w u:Int),u∈(lG m v w).map (·.1)↔u=v\/u∈m.map (·.1)
 |[],v,w,u=>by simp[lG]
 |p::m,v,w,u=>by
  have ih:=DB m v w u
  unfold lG
  by_cases h:p.1=v
  ·rw[if_pos h];simp[h]
  ·rw[if_neg h,List.map_cons,List.mem_cons,ih,List.map_cons,List.mem_cons]
   constructor
   ·rintro(h1|h1|h1)<;>simp[h1]
   ·rintro(h1|h1|h1)<;>simp[h1]
theorem zg:∀ (m:List (Int×Int)) (v w:Int),tX m->tX (lG m v w)
 |[],v,w,_=>by simp[lG,tX]
 |p::m,v,w,hk=>by
  have BP:p.1∉m.map (·.1)/\tX m:=by
   unfold tX at hk|-
   rwa [List.map_cons,List.nodup_cons]at hk
  have ih:=zg m v w BP.2
  unfold lG
  by_cases h:p.1=v
  ·rw[if_pos h]
   unfold tX
   rw[List.map_cons,List.nodup_cons]
   exact⟨by rw[<- h];exact BP.1,BP.2⟩
  ·rw[if_neg h]
   unfold tX
   rw[List.map_cons,List.nodup_cons]
   exact⟨fun hm=>by
    rcases(DB m v w p.1).1 hm with e|e
    ·exact h e
    ·exact BP.1 e,ih⟩
theorem FB(op:Int):∀ (xs:List Tm) (m:List (Int×Int)) (c:Int->Nat),tX m->(∀v,lk m v=if c v=0 then none else some (c v:Int))->(∀v,c v+xs.length<=1000000)->
 tX (xs.foldl (ej op) m)/\∀v,lk (xs.foldl (ej op) m) v=if c v+kO op v xs=0 then none else some ((c v+kO op v xs:Nat):Int)
 |[],m,c,hk,hl,_=>⟨hk,fun v=>by rw[List.foldl_nil,hl v];rfl⟩
 |x::xs,m,c,hk,hl,hb=>by
  simp only[List.foldl_cons]
  by_cases h:x.op=op
  ·have hg:il m x.n=(c x.n:Int):=by
    unfold il;rw[hl];split
    ·next h0=>rw[h0];rfl
    ·rfl
   have OM:=hb x.n
   simp only[List.length_cons]at OM hb
   have e1:ej op m x=lG m x.n ((c x.n+1:Nat):Int):=by
    unfold ej tY
    rw[if_pos h,hg,wrap64 (by omega) (by omega)]
    push_cast;rfl
   rw[e1]
   have ih:=FB op xs (lG m x.n ((c x.n+1:Nat):Int)) (fun v=>c v+if x.n=v then 1 else 0) (zg _ _ _ hk) (fun v=>by
    rw[Hl]
    by_cases e:x.n=v
    ·subst e;simp
    ·simp[e,hl v]) (fun v=>by have:=hb v;split<;>omega)
   refine⟨ih.1,fun v=> ?_⟩
   rw[ih.2 v]
   have e2:(c v+if x.n=v then 1 else 0)+kO op v xs=c v+kO op v (x::xs):=by
    unfold kO
    rw[List.countP_cons]
    by_cases e:x.n=v<;>simp[h,e]<;>omega
   rw[e2]
  ·have e1:ej op m x=m:=by unfold ej;rw[if_neg h]
   rw[e1]
   have ih:=FB op xs m c hk hl (fun v=>by have:=hb v;simp at this;omega)
   refine⟨ih.1,fun v=> ?_⟩
   rw[ih.2 v]
   have e2:kO op v (x::xs)=kO op v xs:=by
    unfold kO
    rw[List.countP_cons];simp[h]
   rw[e2]
def oH(l:List Tm):List Tm:=l.flatMap iP
theorem Hn(op:Int)(l:List Tm)(hb:(oH l).length<=1000000):tX (eo op l)/\∀v,lk (eo op l) v=if kO op v (oH l)=0 then none else some (kO op v (oH l):Int):=by
 have:=FB op (oH l) [] (fun _=>0) List.nodup_nil (fun v=>by simp[lk]) (fun v=>by simpa using hb)
 refine⟨this.1,fun v=> ?_⟩
 have h:=this.2 v
 rw[Nat.zero_add]at h
 exact h
theorem DC(op:Int)(l:List Tm)(hb:(oH l).length<=1000000)(v:Int):il (eo op l) v=(kO op v (oH l):Int):=by
 unfold il
 rw[(Hn op l hb).2 v]
 split
 ·next h=>rw[h];rfl
 ·rfl
theorem we(op:Int)(l:List Tm)(hb:(oH l).length<=1000000)(p:Int×Int->Bool):(eo op l).all p=true↔∀v,0<kO op v (oH l)->p (v,(kO op v (oH l):Int))=true:=by
 obtain⟨hk,hl⟩:=Hn op l hb
 rw[List.all_eq_true]
 constructor
 ·intro h v hv
  refine h _ ((Hg hk).1 ?_)
  rw[hl v,if_neg (by omega)]
 ·rintro h ⟨v,c⟩ hm
  have h1:=(Hg hk).2 hm
  rw[hl v]at h1
  split at h1
  ·cases h1
  ·next h0=>
   injection h1 with h1
   have:=h v ah
   rw[h1]at this
   exact this
theorem QN(m:List (Int×Int)):∀ (t:Tm) (oG:List Int),A4 m t oG=true↔∀v,sG v t=true->il m v=0\/v∈oG:=by
 refine Tm.bW fun t ih oG=> ?_
 have key:∀ (l:List Tm) (i:Nat),(∀k∈l,k∈t.kids)->(qY m t.op t.n l i oG=true↔∀v,im v t.op t.n l i=true->il m v=0\/v∈oG):=by
  intro l
  induction l with
  |nil=>intro i _;simp[qY,im]
  |cons k l mX=>
   intro i hk
   have h1:=ih k (hk k ao) (if t.op=8/\i=1 then oG++[t.n]else oG)
   have h2:=mX (i+1) (fun x hx=>hk x lJ)
   simp only[qY,im,Bool.and_eq_true,h1,h2,Bool.or_eq_true]
   by_cases hc:t.op=8/\i=1
   ·simp only[hc,and_self,if_true,List.mem_append,List.mem_singleton]
    constructor
    ·rintro⟨a,b⟩ v (⟨c,d⟩|c)
     ·rcases a v c with e|e|e
      ·exact .inl e
      ·exact .inr e
      ·subst e;simp at d
     ·exact b v c
    ·intro a
     refine⟨fun v c=> ?_,fun v c=>a v (.inr c)⟩
     by_cases e:v=t.n
     ·exact .inr (.inr e)
     ·rcases a v (.inl ⟨c,by simp;exact fun e2=>e e2.symm⟩)with g|g
      ·exact .inl g
      ·exact .inr (.inl g)
   ·have hb:(t.op==8&&i==1)=false:=by
     cases h:(t.op==8&&i==1)with
     |false=>rfl
     |true=>simp at h;exact absurd h hc
    simp only[hc,if_false,hb,Bool.false_and,Bool.not_false,and_true]
    constructor
    ·rintro⟨a,b⟩ v (c|c)
     ·exact a v c
     ·exact b v c
    ·intro a
     exact⟨fun v c=>a v (.inl c),fun v c=>a v (.inr c)⟩
 rw[Hh]
 by_cases h:t.op=1
 ·rw[if_pos h]
  simp only[gU,h,if_true]
  simp
 ·rw[if_neg h,key t.kids 0 (fun _ h=>h)]
  simp only[gU,h,if_false]
theorem Jr(s:aO)(r:Rl)(h1:(oH r.bg).length<=1000000)(h2:(oH [r.rhs]).length<=1000000):fD s r=true↔mO s r=true/\
 (∀v,0<kO 1 v (oH r.bg)->kO 1 v (oH r.bg)<=1/\v<r.vars)/\(∀v,0<kO 1 v (oH [r.rhs])->v<r.vars)/\
 (∀v,0<kO 8 v (oH [r.rhs])->kO 8 v (oH [r.rhs])<=1/\v<r.vars/\kO 1 v (oH r.bg)=0)/\(∀v,sG v r.rhs=true->kO 8 v (oH [r.rhs])=0):=by
 unfold fD
 simp only[Bool.and_eq_true,we 1 r.bg h1,we 1 [r.rhs] h2,we 8 [r.rhs] h2,QN,DC 1 r.bg h1,DC 8 [r.rhs] h2,decide_eq_true_eq]
 constructor
 ·rintro⟨⟨⟨⟨a,b⟩,c⟩,d⟩,e⟩
  refine⟨a,fun v hv=> ?_,c,fun v hv=> ?_,fun v hv=> ?_⟩
  ·have:=b v hv;omega
  ·have:=d v hv;omega
  ·rcases e v hv with g|g
   ·omega
   ·cases g
 ·rintro⟨a,b,c,d,e⟩
  refine⟨⟨⟨⟨a,fun v hv=> ?_⟩,c⟩,fun v hv=> ?_⟩,fun v hv=> .inl ?_⟩
  ·have:=b v hv;omega
  ·have:=d v hv;omega
  ·have:=e v hv;omega
def kI:List Int->Int->List Int
 |[],n=>[n]
 |x::l,n=>if x<n then x::kI l n else if x=n then x::l else n::x::l
def mG(op n:Int)(i:Nat)(l out:List Int):List Int:=l.foldl (fun out v=>if(op !=8||(i:Int)!=1||v !=n)=true then kI out v else out) out
mutual
def bM:Tm->List Int
 | .mk op n kids=>if op=1 then [n]else jM op n kids 0 []
def jM(op n:Int):List Tm->Nat->List Int->List Int
 |[],_,out=>out
 |k::l,i,out=>jM op n l (i+1) (mG op n i (bM k) out)
end
theorem n6(t:Tm):bM t=if t.op=1 then [t.n]else jM t.op t.n t.kids 0 []:=by cases t;rfl
theorem ra:∀ (l:List Int) (n v:Int),v∈kI l n↔v∈l\/v=n
 |[],n,v=>by simp[kI]
 |x::l,n,v=>by
  simp only[kI]
  split
  ·simp only[List.mem_cons,ra l n v];constructor
   ·rintro(h|h|h)
    ·exact .inl (.inl h)
    ·exact .inl (.inr h)
    ·exact .inr h
   ·rintro((h|h)|h)
    ·exact .inl h
    ·exact .inr (.inl h)
    ·exact .inr (.inr h)
  ·split
   ·rename_i h;subst h;simp only[List.mem_cons];constructor
    ·exact .inl
    ·rintro(h|h)
     ·exact h
     ·exact .inl h
   ·simp only[List.mem_cons];constructor
    ·rintro(h|h)
     ·exact .inr h
     ·exact .inl h
    ·rintro(h|h)
     ·exact .inr h
     ·exact .inl h
abbrev OR(l:List Int):Prop:=l.Pairwise (· <·)
theorem DD:∀ {l:List Int} (n:Int),OR l->OR (kI l n)
 |[],n,_=>by simp[kI]
 |x::l,n,h=>by
  have h1:=List.pairwise_cons.1 h
  simp only[kI]
  split
  ·rename_i hx
   refine List.pairwise_cons.2 ⟨fun y hy=> ?_,DD n h1.2⟩
   rcases(ra l n y).1 hy with hy|hy
   ·exact h1.1 y hy
   ·omega
  ·split
   ·exact h
   ·refine List.pairwise_cons.2 ⟨fun y hy=> ?_,h⟩
    rcases List.mem_cons.1 hy with hy|hy
    ·omega
    ·have:=h1.1 y hy;omega
theorem sK(op n:Int)(i:Nat):∀ (l out:List Int),OR out->OR (mG op n i l out)/\∀v,v∈mG op n i l out↔v∈out\/(v∈l/\ ¬ (op=8/\i=1/\n=v))
 |[],out,h=>⟨h,fun v=>by simp[mG]⟩
 |x::l,out,h=>by
  have hk:mG op n i (x::l) out=mG op n i l (if(op !=8||(i:Int)!=1||x !=n)=true then kI out x else out):=rfl
  rw[hk]
  by_cases hc:(op !=8||(i:Int)!=1||x !=n)=true
  ·rw[if_pos hc]
   have ih:=sK op n i l (kI out x) (DD x h)
   refine⟨ih.1,fun v=> ?_⟩
   rw[ih.2 v,ra,List.mem_cons]
   have uZ: ¬ (op=8/\i=1/\n=x):=by
    rintro⟨h1,h2,h3⟩;subst h1;subst h2;subst h3;simp at hc
   constructor
   ·rintro((h|h)|h)
    ·exact .inl h
    ·subst h;exact .inr ⟨.inl rfl,uZ⟩
    ·exact .inr ⟨.inr h.1,h.2⟩
   ·rintro(h|⟨h|h,h2⟩)
    ·exact .inl (.inl h)
    ·exact .inl (.inr h)
    ·exact .inr ⟨h,h2⟩
  ·rw[if_neg hc]
   have ih:=sK op n i l out h
   refine⟨ih.1,fun v=> ?_⟩
   rw[ih.2 v,List.mem_cons]
   have uZ:op=8/\i=1/\n=x:=by simp at hc;exact⟨hc.1.1,ah,hc.2.symm⟩
   constructor
   ·rintro(h|h)
    ·exact .inl h
    ·exact .inr ⟨.inr h.1,h.2⟩
   ·rintro(h|⟨h|h,h2⟩)
    ·exact .inl h
    ·subst h;exact absurd uZ h2
    ·exact .inr ⟨h,h2⟩
theorem dO:∀t:Tm,OR (bM t)/\∀v,v∈bM t↔sG v t=true:=by
 refine Tm.bW fun t ih=> ?_
 have hs:∀ (l:List Tm) (i:Nat) (out:List Int),(∀k∈l,k∈t.kids)->OR out->OR (jM t.op t.n l i out)/\∀v,v∈jM t.op t.n l i out↔v∈out\/im v t.op t.n l i=true:=by
  intro l
  induction l with
  |nil=>intro i out _ h;exact⟨h,fun v=>by simp[jM,im]⟩
  |cons k l mX=>
   intro i out hk h
   have h1:=ih k (hk k ao)
   have h2:=sK t.op t.n i (bM k) out h
   have h3:=mX (i+1) _ (fun x hx=>hk x lJ) h2.1
   refine⟨h3.1,fun v=> ?_⟩
   show v∈jM t.op t.n l (i+1) (mG t.op t.n i (bM k) out)↔_
   rw[h3.2 v,h2.2 v,h1.2 v,im]
   simp only[Bool.or_eq_true,Bool.and_eq_true,Bool.not_eq_true',Bool.and_eq_false_iff,beq_eq_false_iff_ne,ne_eq,not_and]
   have:(∀ (_:t.op=8) (_:i=1), ¬t.n=v)↔((¬t.op=8\/ ¬i=1)\/ ¬t.n=v):=by
    constructor
    ·intro h
     by_cases c1:t.op=8
     ·by_cases c2:i=1
      ·exact .inr (h c1 c2)
      ·exact .inl (.inr c2)
     ·exact .inl (.inl c1)
    ·rintro((h|h)|h) c1 c2
     ·exact absurd c1 h
     ·exact absurd c2 h
     ·exact h
   rw[this]
   constructor
   ·rintro((h|h)|h)
    ·exact .inl h
    ·exact .inr (.inl h)
    ·exact .inr (.inr h)
   ·rintro(h|h|h)
    ·exact .inl (.inl h)
    ·exact .inl (.inr h)
    ·exact .inr h
 by_cases h1:t.op=1
 ·rw[n6,if_pos h1]
  refine⟨ao,fun v=> ?_⟩
  rw[gU,if_pos h1]
  simp only[List.mem_singleton,beq_iff_eq]
  exact eq_comm
 ·rw[n6,if_neg h1]
  have:=hs t.kids 0 [] (fun _ h=>h) ao
  refine⟨this.1,fun v=> ?_⟩
  rw[this.2 v,gU,if_neg h1]
  simp
theorem Nt:∀ {l l':List Int},OR l->OR l'->(∀v,v∈l↔v∈l')->l=l'
 |[],[],_,_,_=>rfl
 |[],y::l',_,_,h=>by have:=(h y).2 ao;cases this
 |x::l,[],_,_,h=>by have:=(h x).1 ao;cases this
 |x::l,y::l',h1,h2,h=>by
  have g1:=List.pairwise_cons.1 h1
  have g2:=List.pairwise_cons.1 h2
  have e:x=y:=by
   rcases List.mem_cons.1 ((h x).1 ao)with e|e
   ·exact e
   ·rcases List.mem_cons.1 ((h y).2 ao)with e2|e2
    ·exact e2.symm
    ·have:=g2.1 x e;have:=g1.1 y e2;omega
  subst e
  rw[Nt g1.2 g2.2 fun v=> ?_]
  constructor
  ·intro hv
   rcases List.mem_cons.1 ((h v).1 (by simp[hv]))with e|e
   ·subst e;exact absurd (g1.1 v hv) ah
   ·exact e
  ·intro hv
   rcases List.mem_cons.1 ((h v).2 (by simp[hv]))with e|e
   ·subst e;exact absurd (g2.1 v hv) ah
   ·exact e
theorem FC{α:Type}{l:List α}{i:Nat}{n:α}(h:l[i]? =some n):(n::l.eraseIdx i).Perm l:=by
 obtain⟨hi,e⟩:=List.getElem?_eq_some_iff.1 h
 have uX:l=l.take i++n::l.drop (i+1):=by rw[<- e,List.getElem_cons_drop,List.take_append_drop]
 rw[List.eraseIdx_eq_take_drop_succ]
 conv=>rhs;rw[uX]
 exact List.perm_middle.symm
theorem wg:∀ (l:List Int) (n:Int),(kI l n).length<=l.length+1
 |[],n=>by simp[kI]
 |x::l,n=>by
  have:=wg l n
  simp only[kI]
  split
  ·simp;omega
  ·split<;>simp
theorem n7(op n:Int)(i:Nat):∀ (l out:List Int),(mG op n i l out).length<=out.length+l.length
 |[],out=>by simp[mG]
 |x::l,out=>by
  have hk:mG op n i (x::l) out=mG op n i l (if(op !=8||(i:Int)!=1||x !=n)=true then kI out x else out):=rfl
  rw[hk]
  have h1:=wg out x
  split
  ·have:=n7 op n i l (kI out x);simp;omega
  ·have:=n7 op n i l out;simp;omega
theorem jk:∀t:Tm,(bM t).length<=t.sz:=by
 refine Tm.bW fun t ih=> ?_
 have hs:∀ (l:List Tm) (i:Nat) (out:List Int),(∀k∈l,k∈t.kids)->(jM t.op t.n l i out).length<=out.length+fR l:=by
  intro l
  induction l with
  |nil=>intro i out _;simp[jM]
  |cons k l mX=>
   intro i out hk
   have h1:=ih k (hk k ao)
   have h2:=n7 t.op t.n i (bM k) out
   have h3:=mX (i+1) (mG t.op t.n i (bM k) out) (fun x hx=>hk x lJ)
   rw[db]
   show(jM t.op t.n l (i+1) (mG t.op t.n i (bM k) out)).length<=_
   omega
 rw[n6,Tm.ig]
 split
 ·simp
 ·have:=hs t.kids 0 [] (fun _ h=>h);simp at this;omega
theorem Js{s:aO}{l:List Tm}(h:cV s l=true):∀t∈l,t.sz<=40/\t.iN<=12:=by
 intro t ht
 rw[Je]at h
 simp only[Ft,Bool.and_eq_true,List.all_eq_true,ei,decide_eq_true_eq,dv]at h
 have:=(h.2 t ht).1
 omega
theorem QO(t:Tm):oH [t]=iP t:=by simp[oH]
theorem DE(op v:Int)(x:Tm)(l:List Tm):kO op v (x::l)=kO op v l+if x.op=op/\x.n=v then 1 else 0:=by
 unfold kO
 rw[List.countP_cons]
 by_cases h:x.op=op/\x.n=v
 ·simp[h]
 ·rw[if_neg h,if_neg (by simpa using h)]
theorem FE(op v:Int)(a b:List Tm):kO op v (a++b)=kO op v a+kO op v b:=by unfold kO;rw[List.countP_append]
theorem jT(op v:Int)(l:List Tm):0<kO op v l↔∃x∈l,x.op=op/\x.n=v:=by
 unfold kO
 rw[List.countP_pos_iff]
 simp
mutual
def cI:Tm->List Int
 | .mk op n kids=>(if op=8 then [n]else [])++bH kids
def bH:List Tm->List Int
 |[]=>[]
 |k::l=>cI k++bH l
end
theorem jl(t:Tm):cI t=(if t.op=8 then [t.n]else [])++bH t.kids:=by cases t;rw[cI];rfl
theorem n8:∀ (t:Tm) (v:Int),(cI t).count v=kO 8 v (iP t):=by
 refine Tm.bW fun t ih v=> ?_
 have key:∀l:List Tm,(∀k∈l,k∈t.kids)->(bH l).count v=kO 8 v (l.flatMap iP):=by
  intro l
  induction l with
  |nil=>intro _;rfl
  |cons k l mX=>
   intro hk
   rw[bH,List.count_append,ih k (hk k (by simp)) v,mX (fun x hx=>hk x (by simp[hx])),List.flatMap_cons,FE]
 rw[jl,List.count_append,key t.kids (fun _ h=>h),nY,DE]
 by_cases h:t.op=8
 ·by_cases h2:t.n=v
  ·simp[h,h2];omega
  ·simp[h,h2]
 ·simp[h]
theorem sL(t:Tm)(v:Int):v∈cI t↔0<kO 8 v (iP t):=by
 rw[<- n8,List.count_pos_iff]
mutual
def dz(n:Int):Tm->Bool
 | .mk op k kids=>gy n kids&&((op !=1&&op !=8)||decide (k<n))
def gy(n:Int):List Tm->Bool
 |[]=>true
 |k::l=>dz n k&&gy n l
end
theorem pU(n:Int)(t:Tm):dz n t=(gy n t.kids&&((t.op !=1&&t.op !=8)||decide (t.n<n))):=by cases t;rw[dz];rfl
theorem pV(n:Int):∀t:Tm,dz n t=true↔∀x∈iP t,x.op=1\/x.op=8->x.n<n:=by
 refine Tm.bW fun t ih=> ?_
 have key:∀l:List Tm,(∀k∈l,k∈t.kids)->(gy n l=true↔∀x∈l.flatMap iP,x.op=1\/x.op=8->x.n<n):=by
  intro l
  induction l with
  |nil=>intro _;simp[gy]
  |cons k l mX=>
   intro hk
   rw[gy,Bool.and_eq_true,ih k (hk k (by simp)),mX (fun x hx=>hk x (by simp[hx])),List.flatMap_cons]
   simp only[List.mem_append]
   constructor
   ·rintro⟨a,b⟩ x (h|h)
    ·exact a x h
    ·exact b x h
   ·intro a
    exact⟨fun x h=>a x (.inl h),fun x h=>a x (.inr h)⟩
 rw[pU,Bool.and_eq_true,key t.kids (fun _ h=>h),nY]
 simp only[List.mem_cons,Bool.or_eq_true,Bool.and_eq_true,bne_iff_ne,decide_eq_true_eq]
 constructor
 ·rintro⟨a,b⟩ x (h|h) h2
  ·subst h
   rcases b with⟨b1,b2⟩|b
   ·rcases h2 with e|e
    ·exact absurd e b1
    ·exact absurd e b2
   ·exact b
  ·exact a x h h2
 ·intro a
  refine⟨fun x h=>a x (.inr h), ?_⟩
  by_cases h:t.op=1\/t.op=8
  ·exact .inr (a t (.inl rfl) h)
  ·exact .inl ⟨fun e=>h (.inl e),fun e=>h (.inr e)⟩
theorem FF(n:Int)(t:Tm):dz n t=true↔(∀v,0<kO 1 v (iP t)->v<n)/\∀v,0<kO 8 v (iP t)->v<n:=by
 rw[pV]
 constructor
 ·intro a
  refine⟨fun v h=> ?_,fun v h=> ?_⟩<;>(obtain⟨x,h1,h2,h3⟩:=(jT _ _ _).1 h;rw[<- h3];exact a x h1 (by simp[h2]))
 ·rintro⟨a,b⟩ x h (h2|h2)
  ·exact a _ ((jT _ _ _).2 ⟨x,h,h2,rfl⟩)
  ·exact b _ ((jT _ _ _).2 ⟨x,h,h2,rfl⟩)
def pW(t:Tm)(bg:List Int):Bool:=(cI t).all fun v=> !(decide (1<((cI t).count v:Int))||bg.contains v||(bM t).contains v)
theorem Jt(t:Tm)(bg:List Int):pW t bg=true↔∀v,0<kO 8 v (iP t)->kO 8 v (iP t)<=1/\v∉bg/\sG v t=false:=by
 unfold pW
 rw[List.all_eq_true]
 have hv:∀v,(bM t).contains v=sG v t:=fun v=>by
  rw[Bool.eq_iff_iff,List.contains_iff_mem,(dO t).2 v]
 constructor
 ·intro a v h
  have:=a v ((sL t v).2 h)
  rw[n8,hv]at this
  simp at this
  exact⟨ah,this.1.2,this.2⟩
 ·intro a v h
  obtain⟨a1,a2,a3⟩:=a v ((sL t v).1 h)
  rw[n8,hv,a3]
  simp
  exact⟨ah,a2⟩
theorem oI:∀ (W A:List Int),A.Nodup->(∀v,v∈A↔v∈W)->A.length<=W.length/\(A.length=W.length↔W.Nodup)
 |[],A,hA,h=>by
  have:A=[]:=List.eq_nil_iff_forall_not_mem.2 fun v hv=>by simpa using(h v).1 hv
  subst this;simp
 |x::W,A,hA,h=>by
  by_cases hx:x∈W
  ·have ih:=(oI W A hA fun v=>by
    rw[h v,List.mem_cons]
    exact⟨fun e=>e.elim (fun e=>e ▸ hx) id, .inr⟩).1
   refine⟨by simp;omega, ?_⟩
   rw[List.length_cons,List.nodup_cons]
   exact⟨fun e=>ah,fun e=>absurd hx e.1⟩
  ·have hxA:x∈A:=(h x).2 ao
   have ih:=oI W (A.erase x) (hA.erase x) fun v=>by
    rw[hA.mem_erase_iff,h v,List.mem_cons]
    constructor
    ·rintro⟨a,b|b⟩
     ·exact absurd b a
     ·exact b
    ·intro a
     exact⟨fun e=>hx (e ▸ a), .inr a⟩
   have hl:(A.erase x).length=A.length - 1:=List.length_erase_of_mem hxA
   have hp:0<A.length:=List.length_pos_of_mem hxA
   rw[hl]at ih
   rw[List.length_cons,List.nodup_cons]
   refine⟨ah, ?_⟩
   constructor
   ·intro e;exact⟨hx,ih.2.1 ah⟩
   ·intro e
    have:=ih.2.2 e.2
    omega
def Nu(t:Tm):List Int:=((iP t).filter fun x=>x.op==1).map Tm.n
theorem wh(l:List Tm)(v:Int):((l.filter fun x=>x.op==1).map Tm.n).count v=kO 1 v l:=by
 induction l with
 |nil=>rfl
 |cons x l ih=>
  rw[DE, <- ih]
  by_cases h:x.op=1
  ·have h':(x.op==1)=true:=by simpa using h
   have e:(x::l).filter (fun x=>x.op==1)=x::l.filter (fun x=>x.op==1):=by rw[List.filter_cons,if_pos h']
   rw[e,List.map_cons,List.count_cons]
   by_cases h2:x.n=v
   ·simp[h,h2]
   ·simp[h2]
  ·have h': ¬ (x.op==1)=true:=by simpa using h
   have e:(x::l).filter (fun x=>x.op==1)=l.filter (fun x=>x.op==1):=by rw[List.filter_cons,if_neg h']
   rw[e]
   simp[h]
structure zh (t:Tm):Prop where
 once:(Nu t).Nodup
 free:∀v,sG v t=true↔v∈Nu t
theorem tE(t:Tm):(bM t).Nodup:=(dO t).1.imp fun {a b} h=>ah
theorem ZL{t:Tm}(h:zh t):(bM t).length=(Nu t).length:=
 ((oI (Nu t) (bM t) (tE t) fun v=>by rw[(dO t).2 v,h.free v]).2).2 h.once
def DF(l:List Tm):Bool:=(l.map fun t=>(bM t).length).sum==(bM (.mk 0 0 l)).length
theorem DG(l:List Tm)(v:Int):sG v (.mk 0 0 l)=true↔∃t∈l,sG v t=true:=by
 have key:∀ (l:List Tm) (i:Nat),im v 0 0 l i=l.any (sG v):=by
  intro l
  induction l with
  |nil=>intro i;rfl
  |cons k l ih=>intro i;simp[im,ih]
 have e:sG v (.mk 0 0 l)=im v 0 0 l 0:=rfl
 rw[e,key,List.any_eq_true]
theorem Ho(l:List Tm)(h:∀t∈l,zh t):DF l=true↔∀v,kO 1 v (oH l)<=1:=by
 have hW:((oH l).filter fun x=>x.op==1).map Tm.n=l.flatMap Nu:=by
  unfold oH
  induction l with
  |nil=>rfl
  |cons t l ih=>
   rw[List.flatMap_cons,List.filter_append,List.map_append,List.flatMap_cons,ih (fun x hx=>h x (by simp[hx]))];rfl
 have hlen:(l.map fun t=>(bM t).length).sum=(l.flatMap Nu).length:=by
  clear hW
  induction l with
  |nil=>rfl
  |cons t l ih=>
   rw[List.map_cons,List.sum_cons,List.flatMap_cons,List.length_append,ih (fun x hx=>h x (by simp[hx])),ZL (h t (by simp))]
 have hm:∀v,v∈bM (.mk 0 0 l)↔v∈l.flatMap Nu:=fun v=>by
  rw[(dO _).2 v,DG,List.mem_flatMap]
  constructor
  ·rintro⟨t,h1,h2⟩;exact⟨t,h1,((h t h1).free v).1 h2⟩
  ·rintro⟨t,h1,h2⟩;exact⟨t,h1,((h t h1).free v).2 h2⟩
 have hn:=(oI (l.flatMap Nu) (bM (.mk 0 0 l)) (tE _) hm).2
 unfold DF
 rw[hlen,beq_iff_eq,eq_comm,hn,List.nodup_iff_count]
 constructor
 ·intro a v;rw[<- wh,hW];exact a v
 ·intro a v;rw[<- hW,wh];exact a v
def mH(t:Tm):Bool:=t.op==1||t.op==3
mutual
def gV:Tm->Bool
 | .mk op n kids=>uB kids&&mH (.mk op n kids)
def uB:List Tm->Bool
 |[]=>true
 |k::l=>gV k&&uB l
end
theorem zi(t:Tm):gV t=(t.kids.all gV&&mH t):=by
 have:∀l:List Tm,uB l=l.all gV:=fun l=>by
  induction l with
  |nil=>rfl
  |cons k l ih=>simp[uB,ih]
 cases t;simp only[gV,this,Tm.kids]
mutual
def gz:Tm->List Int->List Int×Bool
 | .mk op n kids,b=>if op=1 then(kI b n, !b.contains n)else gW kids b
def gW:List Tm->List Int->List Int×Bool
 |[],b=>(b,true)
 |k::l,b=>if(gz k b).2=true then gW l (gz k b).1 else((gz k b).1,false)
end
theorem re(t:Tm)(b:List Int):gz t b=if t.op=1 then(kI b t.n, !b.contains t.n)else gW t.kids b:=by cases t;rfl
theorem Ju:∀ (t:Tm) (b:List Int),(gz t b).1.length<=b.length+t.sz:=by
 refine Tm.bW fun t ih b=> ?_
 have hs:∀ (l:List Tm) (b:List Int),(∀k∈l,k∈t.kids)->(gW l b).1.length<=b.length+fR l:=by
  intro l
  induction l with
  |nil=>intro b _;simp[gW,fR]
  |cons k l mX=>
   intro b hk
   have h1:=ih k (hk k ao) b
   have h2:=mX (gz k b).1 (fun x hx=>hk x lJ)
   rw[db]
   simp only[gW]
   split
   ·omega
   ·simp only;omega
 rw[re,Tm.ig]
 have h3:=wg b t.n
 have h4:=hs t.kids b (fun _ h=>h)
 split
 ·simp only;omega
 ·omega
def ub(l:List (Tm×Int)):List Int:=(l.filter fun x=>x.1.op==1).map fun x=>x.1.n
theorem wk(a b:List (Tm×Int)):ub (a++b)=ub a++ub b:=by simp[ub]
theorem wm(x:Tm×Int)(l:List (Tm×Int)):ub (x::l)=(if x.1.op=1 then x.1.n::ub l else ub l):=by
 unfold ub
 by_cases h:x.1.op=1
 ·simp[h]
 ·simp[h]
theorem A8{l:List Tm}{d v:Int}:v∈ub (l.flatMap fun k=>pre k d)↔∃k∈l,v∈ub (pre k d):=by
 induction l with
 |nil=>simp[ub]
 |cons k l ih=>simp[wk,ih]
theorem Hq{v op n:Int}(h:op≠8):∀ (l:List Tm) (i:Nat),im v op n l i=l.any (sG v)
 |[],i=>rfl
 |k::l,i=>by
  have:(op==8)=false:=by simpa using h
  simp[im,Hq h l,this]
theorem ZM:∀ (t:Tm) (d:Int),(∀x∈pre t d,x.1.op≠8)->(∀x∈pre t d,x.1.op=1->x.1.kids=[])->∀v,sG v t=true↔v∈ub (pre t d):=by
 refine Tm.bW fun t ih d h8 h1 v=> ?_
 have hp:=jK t d
 have ht8:t.op≠8:=h8 (t,d) (by rw[hp];simp)
 have me:∀k∈t.kids,∀x∈pre k (d+1),x∈pre t d:=fun k hk x hx=>by rw[hp];exact List.mem_cons_of_mem _ (List.mem_flatMap.2 ⟨k,hk,hx⟩)
 rw[hp,wm,gU]
 by_cases h:t.op=1
 ·have hk:t.kids=[]:=h1 (t,d) (by rw[hp];simp) h
  simp only[if_pos h,hk,List.flatMap_nil]
  show(t.n==v)=true↔v∈[t.n]
  rw[beq_iff_eq,List.mem_singleton];exact eq_comm
 ·simp only[if_neg h]
  rw[Hq ht8,A8,List.any_eq_true]
  constructor
  ·rintro⟨k,hk,hv⟩
   exact⟨k,hk,(ih k hk (d+1) (fun x hx=>h8 x (me k hk x hx)) (fun x hx=>h1 x (me k hk x hx)) v).1 hv⟩
  ·rintro⟨k,hk,hv⟩
   exact⟨k,hk,(ih k hk (d+1) (fun x hx=>h8 x (me k hk x hx)) (fun x hx=>h1 x (me k hk x hx)) v).2 hv⟩
theorem rh{s:aO}{t:Tm}(h:ei s t=true):∀x∈pre t 1,bz s x.1=true:=by
 simp only[ei,Bool.and_eq_true,vY s t 1,List.all_eq_true]at h
 exact h.2
theorem DH{s:aO}{t:Tm}(h:bz s t=true)(h1:t.op=1):t.kids=[]:=by
 simp[bz,h1]at h
 exact h.1
theorem wo:∀ (L:List (Tm×Int)) (l:List Int) (b:Bool),(aB (yQ pJ l7) (l,b) L).2=true↔(∀x∈L,mH x.1=true)/\(ub L).Nodup/\∀v∈ub L,v∉l
 |[],l,b=>by simp[aB,ub]
 |x::L,l,b=>by
  have e1:∀c,ua l x=c->yQ pJ l7 (l,b) x=((if c=true then l else if x.1.op=1 then sD l x.1.n else l, !c), !c):=fun c hc=>by
   show((if ua l x=true then l else if x.1.op=1 then sD l x.1.n else l, !ua l x),(pJ (if ua l x=true then l else if x.1.op=1 then sD l x.1.n else l, !ua l x)).isNone)=_
   rw[hc];cases c<;>rfl
  rw[aB,wm]
  cases hb:ua l x with
  |true=>
   rw[e1 _ hb]
   simp only[Bool.not_true,Bool.false_eq_true,if_false,false_iff,not_and]
   intro hs hn hv
   have hsx:=hs x ao
   simp only[ua,mH,Bool.or_eq_true,Bool.and_eq_true,bne_iff_ne,beq_iff_eq,ne_eq]at hb hsx
   rcases hb with⟨h1,h2⟩|⟨h1,h2⟩
   ·rcases hsx with h|h
    ·exact h1 h
    ·exact h2 h
   ·rw[if_pos h1]at hv
    exact hv x.1.n ao qa
  |false=>
   rw[e1 _ hb]
   simp only[Bool.not_false,if_true,Bool.false_eq_true,if_false]
   rw[wo L]
   simp only[ua,Bool.or_eq_false_iff,Bool.and_eq_false_iff,bne_eq_false_iff_eq,beq_eq_false_iff_ne,ne_eq]at hb
   have hsx:mH x.1=true:=by simp only[mH,Bool.or_eq_true,beq_iff_eq];exact hb.1
   by_cases h1:x.1.op=1
   ·have xh:x.1.n∉l:=by
     rcases hb.2 with h|h
     ·exact absurd h1 h
     ·intro hm;rw[<- List.contains_iff_mem]at hm;rw[h]at hm;cases hm
    rw[if_pos h1,if_pos h1]
    simp only[List.mem_cons,forall_eq_or_imp,hsx,true_and,List.nodup_cons,wa,not_or]
    constructor
    ·rintro⟨a1,a2,a3⟩
     exact⟨a1,⟨fun hm=>(a3 _ hm).2 rfl,a2⟩,xh,fun v hv=>(a3 v hv).1⟩
    ·rintro⟨a1,⟨a2,a3⟩,a4,a5⟩
     exact⟨a1,a3,fun v hv=>⟨a5 v hv,fun e=>a2 (e ▸ hv)⟩⟩
   ·rw[if_neg h1,if_neg h1]
    simp only[List.mem_cons,forall_eq_or_imp,hsx,true_and]
theorem Jv:∀ (t:Tm) (d:Int),(∀x∈pre t d,x.1.op=1->x.1.kids=[])->∀b:List Int,((gz t b).2=true↔(ub (pre t d)).Nodup/\∀v∈ub (pre t d),v∉b)/\((gz t b).2=true->∀v,v∈(gz t b).1↔v∈b\/v∈ub (pre t d)):=by
 refine Tm.bW fun t ih d h1 b=> ?_
 have hp:=jK t d
 have me:∀k∈t.kids,∀x∈pre k (d+1),x∈pre t d:=fun k hk x hx=>by rw[hp];exact List.mem_cons_of_mem _ (List.mem_flatMap.2 ⟨k,hk,hx⟩)
 have hs:∀ (l:List Tm) (b:List Int),(∀k∈l,k∈t.kids)->((gW l b).2=true↔(ub (l.flatMap fun k=>pre k (d+1))).Nodup/\∀v∈ub (l.flatMap fun k=>pre k (d+1)),v∉b)/\((gW l b).2=true->∀v,v∈(gW l b).1↔v∈b\/v∈ub (l.flatMap fun k=>pre k (d+1))):=by
  intro l
  induction l with
  |nil=>intro b _;simp[gW,ub]
  |cons k l mX=>
   intro b hk
   obtain⟨k1,k2⟩:=ih k (hk k ao) (d+1) (fun x hx=>h1 x (me k (hk k ao) x hx)) b
   obtain⟨l1,l2⟩:=mX (gz k b).1 (fun x hx=>hk x lJ)
   simp only[gW,List.flatMap_cons,wk,List.nodup_append,List.mem_append]
   by_cases hc:(gz k b).2=true
   ·rw[if_pos hc]
    have hm:=k2 hc
    obtain⟨c1,c2⟩:=k1.1 hc
    constructor
    ·rw[l1]
     constructor
     ·rintro⟨a1,a2⟩
      refine⟨⟨c1,a1,fun x hx y hy e=>a2 y hy ((hm y).2 (.inr (e ▸ hx)))⟩, ?_⟩
      rintro v (hv|hv)
      ·exact c2 v hv
      ·exact fun hb=>a2 v hv ((hm v).2 (.inl hb))
     ·rintro⟨⟨a1,a2,a3⟩,a4⟩
      refine⟨a2,fun v hv OH=> ?_⟩
      rcases(hm v).1 OH with h|h
      ·exact a4 v (.inr hv) h
      ·exact a3 v h v hv rfl
    ·intro h v
     rw[l2 h v,hm v]
     constructor
     ·rintro((h|h)|h)
      ·exact .inl h
      ·exact .inr (.inl h)
      ·exact .inr (.inr h)
     ·rintro(h|h|h)
      ·exact .inl (.inl h)
      ·exact .inl (.inr h)
      ·exact .inr h
   ·rw[if_neg hc]
    simp only[Bool.false_eq_true,false_iff,false_implies,and_true,not_and]
    rintro⟨a1,a2,a3⟩ a4
    exact hc (k1.2 ⟨a1,fun v hv=>a4 v (.inl hv)⟩)
 rw[re,hp,wm]
 by_cases h:t.op=1
 ·have hk:t.kids=[]:=h1 (t,d) (by rw[hp];simp) h
  simp only[if_pos h,hk,List.flatMap_nil]
  simp only[ub,List.filter_nil,List.map_nil,List.nodup_cons,List.not_mem_nil,not_false_eq_true,List.nodup_nil,and_self,true_and,List.mem_singleton,forall_eq,Bool.not_eq_true',ra]
  refine⟨?_,fun _ v=>trivial⟩
  rw[Bool.eq_false_iff,ne_eq,List.contains_iff_mem]
 ·simp only[if_neg h]
  exact hs t.kids b (fun _ h=>h)
theorem Jw:∀ (t:Tm) (d:Int),gV t=(pre t d).all fun x=>mH x.1:=by
 refine Tm.bW fun t ih d=> ?_
 rw[G8 mH,zi,Bool.and_comm]
 congr 1
 exact SM
theorem Nv{s:aO}{t:Tm}(h:ei s t=true):xu t=((gz t []).2&&gV t):=by
 have h1:=(Jv t 1 (fun x hx ho=>DH (rh h x hx) ho) []).1
 rw[Bool.eq_iff_iff,Bool.and_eq_true,h1,xu,wo,Jw t 1,List.all_eq_true]
 constructor
 ·rintro⟨a,b,c⟩;exact⟨⟨b,fun v _=>ao⟩,a⟩
 ·rintro⟨⟨a,b⟩,c⟩;exact⟨c,a,fun v _=>ao⟩
theorem A9:∀ (t:Tm) (d:Int),(pre t d).map (·.1)=iP t:=by
 refine Tm.bW fun t ih d=> ?_
 have key:∀l:List Tm,(∀k∈l,k∈t.kids)->((l.flatMap fun k=>pre k (d+1)).map (·.1))=l.flatMap iP:=by
  intro l
  induction l with
  |nil=>intro _;rfl
  |cons k l mX=>
   intro hk
   rw[List.flatMap_cons,List.map_append,ih k (hk k (by simp)),mX (fun x hx=>hk x (by simp[hx])),List.flatMap_cons]
 rw[jK,nY,List.map_cons,key t.kids (fun _ h=>h)]
theorem Hr(t:Tm)(d:Int):ub (pre t d)=Nu t:=by
 unfold ub Nu
 rw[<- A9 t d,List.filter_map,List.map_map]
 rfl
theorem QP{t x:Tm}(h:x∈iP t):∃y∈pre t 1,y.1=x:=by
 rw[<- A9 t 1]at h
 obtain⟨y,h1,h2⟩:=List.mem_map.1 h
 exact⟨y,h1,h2⟩
theorem FG{s:aO}{t:Tm}(h:ei s t=true)(hp:xu t=true):zh t/\∀x∈iP t,x.op≠8:=by
 rw[xu,wo]at hp
 obtain⟨a,b,_⟩:=hp
 have h8:∀y∈pre t 1,y.1.op≠8:=fun y hy e=>by
  have:=a y hy
  simp[mH,e]at this
 refine⟨⟨by rw[<- Hr t 1];exact b,fun v=> ?_⟩,fun x hx=> ?_⟩
 ·rw[<- Hr t 1]
  exact ZM t 1 h8 (fun x hx ho=>DH (rh h x hx) ho) v
 ·obtain⟨y,h1,h2⟩:=QP hx
  rw[<- h2];exact h8 y h1
def kJ(s:aO)(r:Rl):Bool:=decide (0<=r.fn)&&(match s.bR[r.fn.toNat]? with|some f=>(r.bg.length:Int)==f.args|none=>false)&&decide (0<=r.vars)&&decide (r.vars<=20)
def gh(s:aO)(r:Rl):Bool:=(kJ s r&&ei s r.rhs)&&(r.bg.all fun p=>(ei s p&&((gz p []).2&&gV p))&&dz r.vars p)&&(DF r.bg&&dz r.vars r.rhs&&pW r.rhs (bM (.mk 0 0 r.bg)))
theorem QQ(s:aO)(r:Rl)(hs:kE s=true)(h1:(oH r.bg).length<=1000000)(h2:(oH [r.rhs]).length<=1000000):fD s r=gh s r:=by
 have Nw:∀t,cV s [t]=ei s t:=fun t=>by unfold cV;simp[hs,pR]
 have DI:mO s r=true↔(kJ s r=true/\(∀t∈r.bg,ei s t=true/\xu t=true))/\ei s r.rhs=true:=by
  have e:mO s r=((kJ s r&&r.bg.all (ll s))&&cV s [r.rhs]):=rfl
  rw[e,Nw,Bool.and_eq_true,Bool.and_eq_true,List.all_eq_true]
  simp only[ll,Nw,Bool.and_eq_true]
 have mono:∀t∈r.bg,∀v,0<kO 1 v (iP t)->0<kO 1 v (oH r.bg):=fun t ht v h=>by
  obtain⟨x,a,b⟩:=(jT _ _ _).1 h
  exact(jT _ _ _).2 ⟨x,List.mem_flatMap.2 ⟨t,ht,a⟩,b⟩
 have split:∀v,0<kO 1 v (oH r.bg)->∃t∈r.bg,0<kO 1 v (iP t):=fun v h=>by
  obtain⟨x,a,b⟩:=(jT _ _ _).1 h
  obtain⟨t,c,d⟩:=List.mem_flatMap.1 a
  exact⟨t,c,(jT _ _ _).2 ⟨x,d,b⟩⟩
 have hvs:∀ (t:Tm) (v:Int),v∈Nu t↔0<kO 1 v (iP t):=fun t v=>by rw[<- wh,List.count_pos_iff];rfl
 have Nx:(∀t∈r.bg,zh t)->∀v,v∈bM (.mk 0 0 r.bg)↔0<kO 1 v (oH r.bg):=fun h v=>by
  rw[(dO _).2 v,DG]
  constructor
  ·rintro⟨t,a,b⟩;exact mono t a v ((hvs t v).1 (((h t a).free v).1 b))
  ·intro a
   obtain⟨t,b,c⟩:=split v a
   exact⟨t,b,((h t b).free v).2 ((hvs t v).2 c)⟩
 rw[Bool.eq_iff_iff,Jr s r h1 h2,DI]
 unfold gh
 simp only[Bool.and_eq_true,List.all_eq_true,FF,Jt,QO]
 constructor
 ·rintro⟨⟨⟨a,p⟩,rt⟩,A,B,C,D⟩
  have bn:∀t∈r.bg,zh t:=fun t ht=>(FG (p t ht).1 (p t ht).2).1
  refine⟨⟨⟨a,rt⟩,fun t ht=>⟨⟨(p t ht).1, ?_⟩,fun v hv=>(A v (mono t ht v hv)).2,fun v hv=> ?_⟩⟩,⟨(Ho _ bn).2 fun v=> ?_,B,fun v hv=>(C v hv).2.1⟩,fun v hv=>⟨(C v hv).1, ?_, ?_⟩⟩
  ·have:=(p t ht).2
   rw[Nv (p t ht).1,Bool.and_eq_true]at this
   exact this
  ·obtain⟨x,b,c,_⟩:=(jT _ _ _).1 hv
   exact absurd c ((FG (p t ht).1 (p t ht).2).2 x b)
  ·by_cases h:0<kO 1 v (oH r.bg)
   ·exact(A v h).1
   ·omega
  ·rw[Nx bn v];have:=(C v hv).2.2;omega
  ·cases hf:sG v r.rhs with
   |false=>rfl
   |true=>have:=D v hf;omega
 ·rintro⟨⟨⟨a,rt⟩,p⟩,⟨l,B,B2⟩,C⟩
  have hp:∀t∈r.bg,ei s t=true/\xu t=true:=fun t ht=>⟨(p t ht).1.1,by
   rw[Nv (p t ht).1.1,Bool.and_eq_true];exact(p t ht).1.2⟩
  have bn:∀t∈r.bg,zh t:=fun t ht=>(FG (hp t ht).1 (hp t ht).2).1
  refine⟨⟨⟨a,hp⟩,rt⟩,fun v hv=>⟨(Ho _ bn).1 l v, ?_⟩,B,fun v hv=>⟨(C v hv).1,B2 v hv, ?_⟩,fun v hv=> ?_⟩
  ·obtain⟨t,b,c⟩:=split v hv
   exact(p t b).2.1 v c
  ·have:=(C v hv).2.1
   rw[Nx bn v]at this
   omega
  ·by_cases h:0<kO 8 v (iP r.rhs)
   ·have:=(C v h).2.2
    rw[hv]at this;cases this
   ·omega
theorem QR(t:Tm):(iP t).length=t.sz:=by rw[<- A9 t 1,List.length_map];rfl
theorem Ba:∀ (l:List Tm) (n:Nat),(∀t∈l,t.sz<=n)->(oH l).length<=l.length*n
 |[],n,_=>by simp[oH]
 |t::l,n,h=>by
  have ih:=Ba l n (fun x hx=>h x lJ)
  have e:(oH (t::l)).length=(iP t).length+(oH l).length:=by simp[oH]
  have:=h t ao
  rw[e,QR,List.length_cons,Nat.add_mul];omega
def gk(p:Pg):Bool:=(kE p.sig&&decide (p.rules.length<=16))&&p.rules.all (gh p.sig)
def Hs(p:Pg):Prop:=∀r∈p.rules,r.bg.length<=6/\(∀t∈r.bg,t.sz<=50)/\r.rhs.sz<=50
theorem QS(p:Pg)(h:Hs p):nZ p=gk p:=by
 unfold nZ gk
 cases hs:kE p.sig with
 |false=>simp
 |true=>
  have e:p.rules.all (fD p.sig)=p.rules.all (gh p.sig):=by
   rw[Bool.eq_iff_iff,List.all_eq_true,List.all_eq_true]
   have k:∀r∈p.rules,fD p.sig r=gh p.sig r:=fun r hr=>by
    obtain⟨a,b,c⟩:=h r hr
    refine QQ p.sig r hs ?_ ?_
    ·have:=Ba r.bg 50 b
     omega
    ·have:=Ba [r.rhs] 50 (fun t ht=>by simp at ht;subst ht;exact c)
     simp at this;omega
   exact⟨fun a r hr=>(k r hr) ▸ a r hr,fun a r hr=>(k r hr).symm ▸ a r hr⟩
  rw[e];simp
def ez:Tm:= .mk 16 0 []
def fQ(b:Bool):Tm:= .mk 3 (if b=true then 1 else 0) []
mutual
def fU(l:List Tm):Tm->Tm
 | .mk op n kids=>if op=1 then(l[n.toNat]?).getD ez else .mk op n (Bb l kids)
def Bb(l:List Tm):List Tm->List Tm
 |[]=>[]
 |k::ks=>fU l k::Bb l ks
end
theorem wq(l:List Tm):∀ks:List Tm,Bb l ks=ks.map (fU l)
 |[]=>rfl
 |k::ks=>by simp[Bb,wq l ks]
theorem n9(l:List Tm)(t:Tm):fU l t=if t.op=1 then(l[t.n.toNat]?).getD ez else .mk t.op t.n (t.kids.map (fU l)):=by cases t;rw[fU,wq];rfl
def mZ(r:Rl)(b:List Tm):List Tm:=b.mapIdx fun i x=>if(cI r.rhs).contains (i:Int)=true then ez else x
def gA(env:List Tm)(n:Int)(v:Tm):List Tm:=(env++List.replicate (n.toNat+1 - env.length) ez).set n.toNat v
def ri(s:aO)(f:Int):Tm:= .mk 4 f ((List.range (dN s.bR f).toNat).map fun i:Nat=> .mk 1 (i:Int) [])
def lH(t:Tm)(i:Nat):Tm:=(t.kids[i]?).getD ez
def bu(l:List Pf)(i:Nat):Tm:=((l[i]?).map Pf.val).getD ez
def pn(l:List (List Tm->Tm->Bool))(i:Nat):List Tm->Tm->Bool:=(l[i]?).getD fun _ _=>false
def lI(l:List (List Tm->Tm->Bool))(env es:List Tm):Bool:=l.length==es.length&&(l.zip es).all fun x=>x.1 env x.2
def wu(op a b:Int):Tm:=if op=15 then fQ (decide (a<b))else .mk 2 (if op=14 then a - b else a+b) []
def xy(r:Int)(e v a b:Tm):Bool:=
 if r=10 then e.op==9&&(aU a (fQ true)&&aU b v)
 else if r=11 then e.op==10&&(aU a (fQ true)&&aU b (fQ true)&&aU v (fQ true))
 else if r=12 then e.op==11&&(aU a b&&bS 16 a&&aU v (fQ true))
 else if r=13 then e.op==12&&((bS 16 a&&bS 1 a)&&(bS 16 b&&bS 1 b)&&aU v (fQ (aU a b)))
 else if r=14 then(e.op==13||e.op==14||e.op==15)&&(a.op==2&&b.op==2&&aU v (wu e.op a.n b.n))
 else false
def od(p:Pg)(r:Int)(v:Tm)(n:Int)(b:List Tm)(ks:List Pf)(g:List (List Tm->Tm->Bool))(env:List Tm)(e:Tm):Bool:=
 if r=1 then ks.length==0&&v.op==16
 else if r=2 then e.op==1&&(ks.length==0&&Eh v ((env[e.n.toNat]?).getD ez))
 else if r=3 then e.op==2&&(ks.length==0&&aU v e)
 else if r=4 then e.op==3&&(aU v (.mk e.op e.n (ks.map Pf.val))&&lI g env e.kids)
 else if r=5 then e.op==5&&(aU v (.mk e.op e.n (ks.map Pf.val))&&lI g env e.kids)
 else if r=6 then e.op==4&&decide (0<=n)&&match p.rules[n.toNat]? with
  |none=>false
  |some ru=>(ru.fn==e.n&&(b.length:Int)==ru.vars&&ks.length==e.kids.length+1&&v.op !=16&&aU (bu ks e.kids.length) v)&&
   (aU (.mk 0 0 ((ks.take e.kids.length).map Pf.val)) (.mk 0 0 (ru.bg.map (fU b)))&&lI (g.take e.kids.length) env e.kids&&pn g e.kids.length (mZ ru b) ru.rhs)
 else if r=7 then e.op==7&&(ks.length==1&&aU (bu ks 0) v&&pn g 0 env (lH e 0))
 else if r=8 then e.op==7&&(ks.length==1&&aU (bu ks 0) v&&pn g 0 env (lH e 1))
 else if r=9 then e.op==8&&(ks.length==2&&aU (bu ks 1) v&&pn g 0 env (lH e 0)&&pn g 1 (gA env e.n (bu ks 0)) (lH e 1))
 else if r=15 then e.op==6&&(ks.length==2||ks.length==3)&&(pn g 0 env (lH e 0)&&pn g 1 env (lH e 1)&&(bu ks 0).op==5)&&
  (if((bu ks 0).kids.length:Int)+1<dN p.sig.bR (bu ks 0).n then ks.length==2&&aU v (.mk 5 (bu ks 0).n ((bu ks 0).kids++[bu ks 1]))
   else ks.length==3&&aU (bu ks 2) v&&pn g 2 ((bu ks 0).kids++[bu ks 1]) (ri p.sig (bu ks 0).n))
 else ks.length==2&&xy r e v (bu ks 0) (bu ks 1)&&(pn g 0 env (lH e 0)&&pn g 1 env (lH e 1))
mutual
def bd(p:Pg):Pf->List Tm->Tm->Bool
 | .mk r v n b ks=>od p r v n b ks (Ht p ks)
def Ht(p:Pg):List Pf->List (List Tm->Tm->Bool)
 |[]=>[]
 |k::l=>bd p k::Ht p l
end
theorem zj(p:Pg):∀l:List Pf,Ht p l=l.map (bd p)
 |[]=>rfl
 |k::l=>by simp[Ht,zj p l]
theorem fi(p:Pg)(f:Pf):bd p f=od p f.bG f.val f.num f.binds f.kids (f.kids.map (bd p)):=by cases f;rw[bd,zj];rfl
mutual
def Pf.sh:Pf->Tm
 | .mk _ _ _ _ kids=> .mk 0 0 (Pf.shs kids)
def Pf.shs:List Pf->List Tm
 |[]=>[]
 |k::l=>k.sh::Pf.shs l
end
theorem Pf.Hu:∀l:List Pf,Pf.shs l=l.map Pf.sh
 |[]=>rfl
 |k::l=>by simp[Pf.shs,Pf.Hu l]
theorem Pf.Ny (f:Pf):f.sh= .mk 0 0 (f.kids.map Pf.sh):=by cases f;rw[Pf.sh,Pf.Hu];rfl
theorem Pf.mI (f:Pf):f.sh.kids=f.kids.map Pf.sh:=by rw[Pf.Ny];rfl
theorem Hv:∀ (f:Pf) (d:Int),(dD f d).map (fun x=>(x.1.sh,x.2))=pre f.sh d:=by
 refine Pf.bW fun f ih d=> ?_
 rw[qZ,jK,List.map_cons,Pf.mI,List.map_flatMap,List.flatMap_map]
 congr 1
 have:∀l:List Pf,(∀k∈l,k∈f.kids)->(l.flatMap fun k=>(dD k (d+1)).map fun x=>(x.1.sh,x.2))=l.flatMap fun k=>pre k.sh (d+1):=by
  intro l
  induction l with
  |nil=>intro _;rfl
  |cons k l mX=>intro h;rw[List.flatMap_cons,List.flatMap_cons,ih k (h k (by simp)),mX fun x hx=>h x (by simp[hx])]
 exact this f.kids fun _ h=>h
theorem Nz(f:Pf)(d:Int):(dD f d).length=f.sh.sz:=by
 rw[<- List.length_map (f:=fun x:Pf×Int=>(x.1.sh,x.2)),Hv]
 exact nW _ _ _
theorem FH:∀f:Pf,f.sh.iN=f.iN:=by
 refine Pf.bW fun f ih=> ?_
 have:∀l:List Pf,(∀k∈l,k∈f.kids)->Tm.fZ (l.map Pf.sh)=Pf.fZ l:=by
  intro l
  induction l with
  |nil=>intro _;rfl
  |cons k l mX=>intro h;rw[List.map_cons,oF,Pf.fZ,ih k (h k (by simp)),mX fun x hx=>h x (by simp[hx])]
 rw[Tm.vX,Pf.mI,this f.kids fun _ h=>h]
 cases f;rfl
def fe(s:aO)(f:Pf):Bool:=(p8 s f.val&&jS s f.binds)&&(f.bG==6||(f.num==0&&f.binds.length==0))
mutual
def gr(s:aO):Pf->Bool
 | .mk r v n b kids=>fe s (.mk r v n b kids)&&uC s kids
def uC(s:aO):List Pf->Bool
 |[]=>true
 |k::l=>gr s k&&uC s l
end
theorem ij(s:aO)(f:Pf):gr s f=(fe s f&&f.kids.all (gr s)):=by
 have:∀l:List Pf,uC s l=l.all (gr s):=fun l=>by
  induction l with
  |nil=>rfl
  |cons k l ih=>simp[uC,ih]
 cases f;rw[gr,this];rfl
theorem Jx(s:aO):∀ (f:Pf) (d:Int),gr s f=true↔∀x∈dD f d,fe s x.1=true:=by
 refine Pf.bW fun f ih d=> ?_
 rw[ij,qZ,Bool.and_eq_true,List.all_eq_true]
 simp only[List.mem_cons,forall_eq_or_imp,List.mem_flatMap]
 constructor
 ·rintro⟨a,b⟩
  refine⟨a, ?_⟩
  rintro x ⟨k,hk,hx⟩
  exact(ih k hk _).1 (b k hk) x hx
 ·rintro⟨a,b⟩
  exact⟨a,fun k hk=>(ih k hk (d+1)).2 fun x hx=>b x ⟨k,hk,hx⟩⟩
def dS(s:aO)(f:Pf):Bool:=decide (0<=eB f.sh 500 150)&&gr s f
theorem uD(s:aO)(f:Pf):mP s f=dS s f:=by
 rw[Bool.eq_iff_iff,Ns,dS,Bool.and_eq_true,decide_eq_true_eq,dv,Jx s f 1,Nz]
 have hd:(∀x∈dD f 1,x.2<=150)↔f.sh.iN<=150:=by
  have:=yV f.sh 1 150
  rw[<- Hv]at this
  simp only[List.mem_map,forall_exists_index,and_imp,forall_apply_eq_imp_iff₂]at this
  rw[this];omega
 have hn:∀x:Pf×Int,FA s x=true↔x.2<=150/\fe s x.1=true:=fun x=>by
  simp only[FA,fe,Bool.and_eq_true,decide_eq_true_eq,and_assoc]
 simp only[hn]
 constructor
 ·rintro⟨a,b⟩
  exact⟨⟨ah,by have:=hd.1 fun x hx=>(b x hx).1;omega⟩,fun x hx=>(b x hx).2⟩
 ·rintro⟨⟨a,b⟩,c⟩
  exact⟨ah,fun x hx=>⟨hd.2 ah x hx,c x hx⟩⟩
def FI(s:aO)(t:Tm):Prop:=t.fits/\Pn s t
theorem FI.kH {s:aO}{t k:Tm}(h:FI s t)(hk:k∈t.kids):FI s k:=⟨((Tm.aH t).1 h.1).2 k hk,h.2.kH hk⟩
theorem Bc(s:aO):FI s ez:=⟨by simp[ez,Tm.fits,Tm.kC],by rw[pS];exact⟨rfl,fun k hk=>by cases hk⟩⟩
structure dP (s:aO) (env:List Tm):Prop where
 len:env.length<=20
 all:∀t∈env,FI s t
structure cW (s:aO) (n:Nat) (e:Tm):Prop where
 fits:e.fits
 node:eL s e=true
 vars:∀v,sG v e=true->0<=v/\v<n
theorem cW.node1 {s:aO}{n:Nat}{e:Tm}(h:cW s n e):bz s e=true:=by
 have:=h.node;rw[dG,Bool.and_eq_true]at this;exact this.1
theorem uE{v op n:Int}:∀ {l:List Tm} {i j:Nat} {k:Tm},l[i]? =some k->sG v k=true-> ¬ (op=8/\i+j=1/\n=v)->im v op n l j=true
 |[],_,_,_,h,_,_=>by simp at h
 |x::l,0,j,k,h,hv,hn=>by
  simp at h;subst h
  simp only[im,Bool.or_eq_true,Bool.and_eq_true]
  left
  refine⟨hv, ?_⟩
  cases hb:(op==8&&j==1&&n==v)with
  |false=>rfl
  |true=>simp at hb;exact absurd ⟨hb.1.1,ah,hb.2⟩ hn
 |x::l,i+1,j,k,h,hv,hn=>by
  simp only[im,Bool.or_eq_true]
  right
  exact uE (i:=i) (j:=j+1) xO hv (by rw[show i+(j+1)=i+1+j by omega];exact hn)
theorem cW.kH {s:aO}{n:Nat}{e k:Tm}(h:cW s n e)(h1:e.op≠1)(h8:e.op≠8)(hk:k∈e.kids):cW s n k:=by
 refine⟨((Tm.aH e).1 h.fits).2 k hk, ?_,fun v hv=>h.vars v ?_⟩
 ·have:=h.node;rw[dG,Bool.and_eq_true,List.all_eq_true]at this;exact this.2 k hk
 ·rw[gU,if_neg h1]
  obtain⟨i,hi⟩:=List.getElem?_of_mem hk
  exact uE hi hv fun e=>h8 e.1
theorem cW.agY {s:aO}{n:Nat}{e k:Tm}(h:cW s n e)(h8:e.op=8)(hk:e.kids[0]? =some k):cW s n k:=by
 have ZN:=List.mem_of_getElem? hk
 refine⟨((Tm.aH e).1 h.fits).2 k ZN, ?_,fun v hv=>h.vars v ?_⟩
 ·have:=h.node;rw[dG,Bool.and_eq_true,List.all_eq_true]at this;exact this.2 k ZN
 ·rw[gU,if_neg (by omega)]
  exact uE hk hv fun e=>absurd e.2.1 ah
theorem cW.agZ {s:aO}{n m:Nat}{e k:Tm}(h:cW s n e)(h8:e.op=8)(hk:e.kids[1]? =some k)(hm:n<=m)(OH:e.n<m):cW s m k:=by
 have ZN:=List.mem_of_getElem? hk
 have hn:=h.node1
 simp[bz,h8,cF]at hn
 refine⟨((Tm.aH e).1 h.fits).2 k ZN, ?_,fun v hv=> ?_⟩
 ·have:=h.node;rw[dG,Bool.and_eq_true,List.all_eq_true]at this;exact this.2 k ZN
 ·by_cases hc:e.n=v
  ·omega
  ·have:=h.vars v (by
    rw[gU,if_neg (by omega)]
    exact uE hk hv fun e=>hc e.2.2)
   omega
theorem cW.var {s:aO}{n:Nat}{e:Tm}(h:cW s n e)(h1:e.op=1):0<=e.n/\e.n<n:=h.vars e.n (by rw[gU,if_pos h1];simp)
theorem zl(env:List Tm)(n:Int)(v:Tm):(gA env n v).length=max env.length (n.toNat+1):=by
 simp[gA];omega
theorem NA{s:aO}{env:List Tm}{n:Int}{v:Tm}(h:dP s env)(hn:n<=19)(hv:FI s v):dP s (gA env n v):=by
 refine⟨by rw[zl];have:=h.len;omega,fun t ht=> ?_⟩
 rcases List.mem_or_eq_of_mem_set ht with h1|h1
 ·rcases List.mem_append.1 h1 with h2|h2
  ·exact h.all t h2
  ·rw[(List.mem_replicate.1 h2).2];exact Bc s
 ·rw[h1];exact hv
theorem DJ(r:Rl)(b:List Tm):(mZ r b).length=b.length:=by simp[mZ]
theorem QT{s:aO}{r:Rl}{b:List Tm}(h:dP s b):dP s (mZ r b):=by
 refine⟨by rw[DJ];exact h.len,fun t ht=> ?_⟩
 simp only[mZ,List.mem_mapIdx]at ht
 obtain⟨i,hi,e⟩:=ht
 rw[<- e]
 split
 ·exact Bc s
 ·exact h.all _ (List.getElem_mem hi)
structure ph (s:aO) (f:Pf):Prop where
 fits:f.fits
 plain:gr s f=true
 size:f.sh.sz<=1000
theorem og:∀l:List Tm,l.length<=fR l
 |[]=>ao
 |k::l=>by rw[db,List.length_cons];have:=og l;have:=Tm.sB k;omega
theorem NB{l:List Tm}{k:Tm}(h:k∈l):k.sz<=fR l:=by
 induction l with
 |nil=>cases h
 |cons x l ih=>
  rw[db]
  rcases List.mem_cons.1 h with e|e
  ·subst e;omega
  ·have:=ih e;omega
theorem ph.kH {s:aO}{f k:Pf}(h:ph s f)(hk:k∈f.kids):ph s k:=by
 refine⟨((Pf.aH f).1 h.1).2.2.2.2 k hk, ?_, ?_⟩
 ·have:=h.2;rw[ij,Bool.and_eq_true,List.all_eq_true]at this;exact this.2 k hk
 ·have h3:=h.3
  rw[Tm.ig,Pf.mI]at h3
  have:=NB (List.mem_map.2 ⟨k,hk,rfl⟩:k.sh∈f.kids.map Pf.sh)
  omega
theorem ph.len {s:aO}{f:Pf}(h:ph s f):f.kids.length<=1000:=by
 have h3:=h.3
 rw[Tm.ig,Pf.mI]at h3
 have:=og (f.kids.map Pf.sh)
 rw[List.length_map]at this
 omega
theorem ph.nd {s:aO}{f:Pf}(h:ph s f):fe s f=true:=by
 have:=h.2;rw[ij,Bool.and_eq_true]at this;exact this.1
theorem ph.val {s:aO}{f:Pf}(h:ph s f):FI s f.val/\f.val.sz<=80/\p8 s f.val=true:=by
 have:=h.nd
 simp only[fe,Bool.and_eq_true]at this
 have h2:=this.1.1
 simp only[p8,Bool.and_eq_true,decide_eq_true_eq,dv]at h2
 exact⟨⟨((Pf.aH f).1 h.1).1,h2.2⟩,ah,this.1.1⟩
theorem NC{s:aO}{l:List Tm}(hf:∀t∈l,t.fits)(h:jS s l=true):dP s l:=by
 simp only[jS,Bool.and_eq_true,decide_eq_true_eq,List.all_eq_true]at h
 refine⟨h.1,fun t ht=>⟨hf t ht, ?_⟩⟩
 have h2:=h.2 t ht
 simp only[p8,Bool.and_eq_true]at h2
 exact h2.2
theorem ph.env {s:aO}{f:Pf}(h:ph s f):dP s f.binds:=by
 have:=h.nd
 simp only[fe,Bool.and_eq_true]at this
 exact NC ((Pf.aH f).1 h.1).2.2.1 this.1.2
structure kK (p:Pg):Prop where
 fin:p.Fin
 is:gk p=true
theorem kK.bG {p:Pg}(h:kK p){r:Rl}(hr:r∈p.rules):gh p.sig r=true:=by
 have:=h.is;simp only[gk,Bool.and_eq_true,List.all_eq_true]at this;exact this.2 r hr
structure sM (s:aO) (r:Rl):Prop where
 ahj:0<=r.vars
 ahk:r.vars<=20
 fn0:0<=r.fn
 fn:∃f,s.bR[r.fn.toNat]? =some f/\(r.bg.length:Int)=f.args
 rhs:ei s r.rhs=true
 small:dz r.vars r.rhs=true
 bg:∀p∈r.bg,ei s p=true/\gV p=true/\(gz p []).2=true/\dz r.vars p=true
 apart:pW r.rhs (bM (.mk 0 0 r.bg))=true
 lin:DF r.bg=true
theorem kK.rl {p:Pg}(h:kK p){r:Rl}(hr:r∈p.rules):sM p.sig r:=by
 have:=h.bG hr
 simp only[gh,kJ,Bool.and_eq_true,decide_eq_true_eq,List.all_eq_true]at this
 obtain⟨⟨⟨⟨⟨⟨a,b⟩,c⟩,d⟩,e⟩,f⟩,⟨g,h1⟩,h2⟩:=this
 refine⟨c,d,a, ?_,e,h1,fun p hp=> ?_,h2,g⟩
 ·cases hf:p.sig.bR[r.fn.toNat]? with
  |none=>rw[hf]at b;cases b
  |some f=>rw[hf]at b;exact⟨f,rfl,by simpa using b⟩
 ·obtain⟨⟨x,y,z⟩,w⟩:=f p hp
  exact⟨x,z,y,w⟩
theorem jm{s:aO}{t:Tm}(h:ei s t=true):eL s t=true:=by simp only[ei,Bool.and_eq_true]at h;exact h.2
theorem FJ{s:aO}{n:Int}{t:Tm}(h:eL s t=true)(hs:dz n t=true):∀v,sG v t=true->0<=v/\v<n:=by
 have key:∀t:Tm,eL s t=true->dz n t=true->∀v,sG v t=true->0<=v/\v<n:=by
  refine Tm.bW fun t ih h hs v hv=> ?_
  rw[dG,Bool.and_eq_true,List.all_eq_true]at h
  rw[pU,Bool.and_eq_true]at hs
  rw[gU]at hv
  by_cases h1:t.op=1
  ·rw[if_pos h1]at hv
   have e:t.n=v:=by simpa using hv
   have hn:=h.1
   simp[bz,h1,cF]at hn
   have:=hs.2
   simp[h1]at this
   omega
  ·rw[if_neg h1]at hv
   have:∀ (l:List Tm) (i:Nat),(∀k∈l,k∈t.kids)->gy n l=true->im v t.op t.n l i=true->0<=v/\v<n:=by
    intro l
    induction l with
    |nil=>intro i _ _ h;simp[im]at h
    |cons k l mX=>
     intro i hk hs hv
     simp only[gy,Bool.and_eq_true]at hs
     simp only[im,Bool.or_eq_true,Bool.and_eq_true]at hv
     rcases hv with hv|hv
     ·exact ih k (hk k ao) (h.2 k (hk k ao)) hs.1 v hv.1
     ·exact mX _ (fun x hx=>hk x lJ) hs.2 hv
   exact this t.kids 0 (fun _ h=>h) hs.1 hv
 exact key t h hs
theorem sM.ZO {s:aO}{r:Rl}(h:sM s r)(hf:r.rhs.fits){n:Nat}(hn:(n:Int)=r.vars):cW s n r.rhs:=
 ⟨hf,jm h.rhs,fun v hv=>by have:=FJ (jm h.rhs) h.small v hv;omega⟩
def DK(a b:List Tm):Prop:=∀i:Nat,Eh ((a[i]?).getD ez) ((b[i]?).getD ez)=true
theorem zm(env:List Tm)(n:Int)(v:Tm)(i:Nat):((gA env n v)[i]?).getD ez=if i=n.toNat then v else(env[i]?).getD ez:=by
 have hl:n.toNat<(env++List.replicate (n.toNat+1 - env.length) ez).length:=by simp;omega
 unfold gA
 by_cases h:i=n.toNat
 ·subst h
  rw[if_pos rfl,List.getElem?_set_self hl];rfl
 ·rw[if_neg h,List.getElem?_set_ne (fun e=>h e.symm)]
  by_cases h2:i<env.length
  ·rw[List.getElem?_append_left h2]
  ·rw[List.getElem?_append_right (by omega),List.getElem?_eq_none (l:=env) (by omega),List.getElem?_replicate]
   split<;>rfl
theorem DK.with {a b:List Tm}(h:DK a b)(n:Int)(v:Tm):DK (gA a n v) (gA b n v):=fun i=>by
 rw[zm,zm]
 split
 ·exact AY v
 ·exact h i
theorem DK.rfl' (a:List Tm):DK a a:=fun i=>AY _
theorem Hw{p:Pg}{ks:List Pf}{i:Nat}{x:Pf}(h:ks[i]? =some x):pn (ks.map (bd p)) i=bd p x:=KH
theorem ND{p:Pg}{ks:List Pf}{env es:List Tm}{i:Nat}{x:Pf}(H:lI (ks.map (bd p)) env es=true)(h:ks[i]? =some x):∃y,es[i]? =some y/\bd p x env y=true:=by
 unfold lI at H
 rw[Bool.and_eq_true,List.all_eq_true,beq_iff_eq,List.length_map]at H
 have cM:=(List.getElem?_eq_some_iff.1 h).1
 obtain⟨y,hy⟩:∃y,es[i]? =some y:=⟨es[i]'ah,ao⟩
 have hz:((ks.map (bd p)).zip es)[i]? =some (bd p x,y):=by rw[List.getElem?_zip_eq_some,List.getElem?_map,h];exact⟨rfl,hy⟩
 exact⟨y,hy,H.2 _ (List.mem_of_getElem? hz)⟩
end Go.Proofs.YtonbelhklnmjnaaGreat
section
namespace Go.Proofs.YtonbelhklnmjnaaGreat
open Go.ChangeShapes Go.WideShapes Go.RowKit
def wv(P:Program)(rec:TypeId->Option (List TypeId)):Nat->List Field->Option (List TypeId)
 |_,[]=>some []
 |off,f::fs=>if f.offset=off then match rec f.type with
  |some l=>if P.cellsOf f.type=l.length then(wv P rec (off+l.length) fs).map (l++·)else none
  |none=>none else none
def mQ(P:Program):Nat->TypeId->Option (List TypeId)
 |0,_=>none
 |n+1,t=>match P.underlying t with
  |some .bool|some (.int _)|some .string|some (.slice _)=>some [t]
  |some (.struct fs)=>wv P (mQ P n) 0 fs.toList
  |some (.array k e)=>match mQ P n e with
   |some l=>if P.cellsOf e=l.length then some (List.replicate k l).flatten else none
   |none=>none
  |_=>none
def isAgg(P:Program)(t:TypeId):Bool:=match P.underlying t with
 |some (.struct _)|some (.array _ _)=>true
 |_=>false
mutual
def D.jn (P:Program):D->TypeId->Prop
 | .int k n,t=>P.underlying t=some (.int k)/\(Lit.int k n).wf=true
 | .bool _,t=>P.underlying t=some .bool
 | .str l,t=>P.underlying t=some .string/\l.length<=maxLen
 | .sl es,t=>∃e,P.underlying t=some (.slice e)/\es.length<=maxLen/\D.FK P es e
 | .agg cs,t=>isAgg P t=true/\∃ls,mQ P 20 t=some ls/\D.jF P cs ls
 |_,_=>False
def D.FK (P:Program):List D->TypeId->Prop
 |[],_=>True
 |x::l,e=>D.jn P x e/\D.FK P l e
def D.jF (P:Program):List D->List TypeId->Prop
 |[],ts=>ts=[]
 |x::l,ts=>∃t r,ts=t::r/\D.jn P x t/\D.jF P l r
end
def uF(P:Program)(T:List TypeId):Bool:=T.all fun t=>match mQ P 20 t with
 |some l=>decide (l.length=P.cellsOf t)&&decide (0<l.length)&&l.all fun u=>match P.underlying u with
  |some (.slice e)=>T.contains e
  |_=>true
 |none=>false
theorem rj{P:Program}:∀ {xs ys:List D} {l r:List TypeId},D.jF P xs l->D.jF P ys r->D.jF P (xs++ys) (l++r)
 |[],_,_,_,h,h'=>by simp only[D.jF]at h;subst h;exact h'
 |x::xs,_,_,_,h,h'=>by
  obtain⟨t,r,rfl,h1,h2⟩:=h
  exact⟨t,_,rfl,h1,rj h2 h'⟩
theorem bF{B:Nat->Prop}{w:World}:∀ {xs ys:List D} {l r:List Value},D.aM B w xs l->D.aM B w ys r->D.aM B w (xs++ys) (l++r)
 |[],_,_,_,h,h'=>by simp only[D.aM]at h;subst h;exact h'
 |x::xs,_,_,_,h,h'=>by
  obtain⟨t,r,rfl,h1,h2⟩:=h
  exact⟨t,_,rfl,h1,bF h2 h'⟩
theorem Flat.append {l r:List Value}(h:Flat l)(h':Flat r):Flat (l++r):=fun u hu=>(List.mem_append.1 hu).elim (h u) (h' u)
abbrev ZP:Nat->Prop:=fun _=>False
section
variable {H:Type}{enc:TypeId×Value->H}{P:Program}{W:World}{T:List TypeId}{b0:Nat}
def dL(P:Program)(W:World)(l:List TypeId)(cs:List Value):Prop:=∃xs,D.jF P xs l/\D.aM ZP W xs cs/\Flat cs
theorem dL.append {l r:List TypeId}{cs ds:List Value}(h:dL P W l cs)(h':dL P W r ds):dL P W (l++r) (cs++ds):=by
 obtain⟨xs,a1,a2,a3⟩:=h
 obtain⟨ys,b1,b2,b3⟩:=h'
 exact⟨xs++ys,rj a1 b1,bF a2 b2,a3.append b3⟩
theorem dL.length {l:List TypeId}{cs:List Value}(h:dL P W l cs):cs.length=l.length:=by
 obtain⟨xs,a1,a2,_⟩:=h
 rw[D.aJ _ _ a2]
 clear a2
 induction xs generalizing l with
 |nil=>simp only[D.jF]at a1;simp[a1]
 |cons x xs ih=>obtain⟨t,r,rfl,_,h⟩:=a1;simp[ih h]
theorem dL.nil:dL P W [] []:=⟨[],rfl,rfl,fun _ h=>by cases h⟩
theorem DL{α:Type}(cs:List α)(o k:Nat):cs.drop o=(cs.drop o).take k++cs.drop (o+k):=by
 rw[<- List.drop_drop];exact(List.take_append_drop k _).symm
theorem rk{rec:TypeId->Option (List TypeId)}{cs:List Value}{rd:TypeId->List Value->Prop}
 (bL:∀t l vs,rec t=some l->(∀u∈l,∀e,P.underlying u=some (.slice e)->e∈T)->P.cellsOf t=l.length->rd t vs->dL P W l vs):
 ∀ (fs:List Field) (off:Nat) (l:List TypeId),wv P rec off fs=some l->(∀u∈l,∀e,P.underlying u=some (.slice e)->e∈T)->(∀f∈fs,rd f.type ((cs.drop f.offset).take (P.cellsOf f.type)))->
   off+l.length=cs.length->dL P W l (cs.drop off)
 |[],off,l,h,_,_,hl=>by
  simp only[wv,Option.some.injEq]at h
  subst h
  have:cs.drop off=[]:=List.drop_eq_nil_of_le (by simp at hl;omega)
  rw[this];exact dL.nil
 |f::fs,off,l,h,hT,hr,hl=>by
  simp only[wv]at h
  split at h
  ·rename_i ho
   split at h
   ·rename_i l1 h1
    split at h
    ·rename_i hc
     simp only[Option.map_eq_some_iff]at h
     obtain⟨r,h2,rfl⟩:=h
     have hd:=hr f ao
     rw[ho,hc]at hd
     rw[DL cs off l1.length]
     simp only[List.length_append]at hl
     exact(bL f.type l1 _ h1 (fun u hu=>hT u (by simp[hu])) hc hd).append (rk bL fs _ r h2 (fun u hu=>hT u (by simp[hu])) (fun f hf=>hr f (by simp[hf])) ah)
    ·cases h
   ·cases h
  ·cases h
theorem tF{l:List TypeId}{cs:List Value}:∀ (k i:Nat),(∀j,j<k->dL P W l ((cs.drop ((i+j)*l.length)).take l.length))->(i+k)*l.length=cs.length->dL P W (List.replicate k l).flatten (cs.drop (i*l.length))
 |0,i,_,hl=>by
  have:cs.drop (i*l.length)=[]:=List.drop_eq_nil_of_le (by simp at hl;omega)
  rw[this];exact dL.nil
 |k+1,i,h,hl=>by
  rw[List.replicate_succ,List.flatten_cons,DL cs (i*l.length) l.length]
  refine(by simpa using h 0 ah:dL P W l _).append ?_
  rw[show i*l.length+l.length=(i+1)*l.length by rw[Nat.add_mul];omega]
  refine tF k (i+1) (fun j hj=> ?_) (by rw[<- hl];congr 1;omega)
  have:=h (j+1) ah
  rwa [show i+(j+1)=i+1+j by omega]at this
theorem DM{e:TypeId}{l:List TypeId}{cs:List Value}(hl:mQ P 20 e=some l)(h:dL P W l cs):∃ (ev:Value) (x:D),ev.cells.toList=cs/\D.jn P x e/\D.den ZP W x ev/\(isAgg P e=true->ev= .agg cs.toArray)/\(isAgg P e=false->cs=[ev]/\ev.oneCell'=true):=by
 obtain⟨xs,h1,h2,h3⟩:=h
 cases ha:isAgg P e with
 |true=>exact⟨.agg cs.toArray, .agg xs,by simp[Value.cells],⟨ha,l,hl,h1⟩,⟨_,rfl,by simpa using h2,by simpa using h3⟩,fun _=>rfl,(fun h=>by cases h)⟩
 |false=>
  have:l=[e]:=by
   unfold mQ at hl
   unfold isAgg at ha
   split at hl<;>simp_all
  subst this
  obtain⟨t,r,e1,h4,h5⟩:∃x r,xs=x::r/\D.jn P x e/\D.jF P r []:=by
   cases xs with
   |nil=>simp[D.jF]at h1
   |cons x r=>obtain⟨t,r',e1,h4,h5⟩:=h1;injection e1 with e1 e2;subst e1;subst e2;exact⟨x,r,rfl,h4,h5⟩
  subst e1
  have:r=[]:=by cases r with
   |nil=>rfl
   |cons y r=>obtain⟨_,_,e,_⟩:=h5;cases e
  subst this
  obtain⟨u,us,rfl,h6,h7⟩:=h2
  simp only[D.aM]at h7
  subst h7
  have ho:=h3 u ao
  refine⟨u,t, ?_,h4,h6,(fun h=>by cases h),fun _=>⟨rfl,ho⟩⟩
  cases u<;>simp_all[Value.oneCell',Value.cells]
theorem DN(hp:uF P T=true){t:TypeId}(ht:t∈T):∃l,mQ P 20 t=some l/\l.length=P.cellsOf t/\0<l.length/\∀u∈l,∀e,P.underlying u=some (.slice e)->e∈T:=by
 have:=List.all_eq_true.1 hp t ht
 split at this
 ·rename_i l hl
  simp only[Bool.and_eq_true,decide_eq_true_eq,List.all_eq_true]at this
  refine⟨l,hl,this.1.1,this.1.2,fun u hu e he=> ?_⟩
  have:=this.2 u hu
  rw[he]at this
  simpa using this
 ·cases this
theorem FL(hp:uF P T=true):∀ (n m:Nat) (t:TypeId) (l:List TypeId) (cs:List Value) (x:DataW H×List MemPlace),mQ P m t=some l->(∀u∈l,∀e,P.underlying u=some (.slice e)->e∈T)->
 P.cellsOf t=l.length->DataW.trod enc P W 0 (fun _=>true) true n t cs=some x->dL P W l cs:=by
 intro n
 induction n with
 |zero=>intro m t l cs x _ _ _ h;simp[DataW.trod]at h
 |succ n ih=>
  intro m t l cs x hl hT hc h
  cases m with
  |zero=>simp[mQ]at hl
  |succ m=>
  unfold mQ at hl
  split at hl
  ·rename_i hu
   injection hl with hl;subst hl
   obtain⟨b,rfl,_⟩:=DataW.trod_bool hu h
   exact⟨[.bool b],⟨t,[],rfl,hu,rfl⟩,⟨_,_,rfl,rfl,rfl⟩,by simp[Flat,Value.oneCell']⟩
  ·rename_i k hu
   injection hl with hl;subst hl
   obtain⟨b,rfl,_,hw⟩:=DataW.trod_int hu h
   exact⟨[.int k b],⟨t,[],rfl,⟨hu,hw⟩,rfl⟩,⟨_,_,rfl,rfl,rfl⟩,by simp[Flat,Value.oneCell']⟩
  ·rename_i hu
   injection hl with hl;subst hl
   obtain⟨s,rfl,_,hw⟩:=DataW.trod_string hu h
   exact⟨[.str s.data.toList],⟨t,[],rfl,⟨hu,by simpa using hw⟩,rfl⟩,⟨_,_,rfl,⟨s,rfl,rfl⟩,rfl⟩,by simp[Flat,Value.oneCell']⟩
  ·rename_i e hu
   injection hl with hl;subst hl
   rcases DataW.trod_slice hu h with⟨rfl,_⟩|⟨a,len,cap,elems,rest,n',hn,rfl,_,_,h2,h3,h4,h5,h6,_⟩
   ·exact⟨[.sl []],⟨t,[],rfl,⟨e,hu,ao,trivial⟩,rfl⟩,⟨_,_,rfl,⟨none,0,0,rfl,rfl,ao,fun _=>rfl,0,(fun a ha=>by cases ha)⟩,rfl⟩,by simp[Flat,Value.oneCell']⟩
   ·injection hn with hn;subst hn
    obtain⟨l',g1,g2,g3,g4⟩:=DN hp (hT t ao e hu)
    have at':∀i,i<len->∃ev:Value,∃y:D,ev.cells.size=P.cellsOf e/\iw ZP W (a.add (i*P.cellsOf e)) ev.cells/\D.den ZP W y ev/\D.jn P y e:=by
     intro i hi
     have:=h5 i hi
     rw[List.getElem?_eq_getElem (by omega)]at this
     obtain⟨ci,k1,k2⟩:=Option.bind_eq_some_iff.1 this
     obtain⟨_,k3,k4⟩:=World.cells?_some k1
     have k5:=ih 20 e l' ci _ g1 g4 g2.symm k2
     obtain⟨ev,y,q1,q2,q3,_,_⟩:=DM g1 k5
     have q4:ev.cells=ci.toArray:=by rw[<- q1]
     refine⟨ev,y,by rw[q4];simp[k5.length,g2],fun j u hj=>⟨?_,fun h=>h⟩,q3,q2⟩
     rw[q4]at hj
     have J2:ci[j]? =some u:=by simpa using hj
     have cM:j<P.cellsOf e:=by rw[<- g2, <- k5.length];exact(List.getElem?_eq_some_iff.1 J2).1
     rw[k4 j cM];exact J2
    have list:∀k i,i+k=len->∃es,es.length=k/\D.FK P es e/\D.elems ZP W (P.cellsOf e) a i es:=by
     intro k
     induction k with
     |zero=>intro i _;exact⟨[],rfl,trivial,trivial⟩
     |succ k ihk=>
      intro i hi
      obtain⟨es,e1,e2,e3⟩:=ihk (i+1) ah
      obtain⟨ev,y,y1,y2,y3,y4⟩:=at' i ah
      exact⟨y::es,by simp[e1],⟨y4,e2⟩,⟨ev,y1,y2,y3⟩,e3⟩
    obtain⟨es,e1,e2,e3⟩:=list len 0 ah
    have aeI:cap≠0->a.spot=none:=by
     intro fN
     have Vv:∀z,(W.cells? 0 (a.add (0*P.cellsOf e)) (P.cellsOf e)).bind (DataW.trod enc P W 0 (fun _=>true) true n e)=some z->a.spot=none:=by
      intro z hz
      obtain⟨ci,k1,k2⟩:=Option.bind_eq_some_iff.1 hz
      obtain⟨_,k3,k4⟩:=World.cells?_some k1
      have k5:=k4 0 ah
      rw[List.getElem?_eq_getElem (by omega)]at k5
      simpa[Addr.add]using World.cell?_spot k5
     by_cases hlen:0<len
     ·have:=h5 0 hlen
      rw[List.getElem?_eq_getElem (by omega)]at this
      exact Vv _ this
     ·obtain⟨h7,h8⟩:=h6 rfl
      have:=h8 0 ah
      rw[List.getElem?_eq_getElem (by omega),show(len+0)=0 by omega]at this
      exact Vv _ this
    exact⟨[.sl es],⟨t,[],rfl,⟨e,hu,ah,e2⟩,rfl⟩,⟨_,_,rfl,⟨some a,len,cap,rfl,e1.symm,h2,(fun h=>by cases h),P.cellsOf e,(fun a' QF=>by injection QF with QF;subst QF;exact⟨aeI,e3⟩)⟩,rfl⟩,by simp[Flat,Value.oneCell']⟩
  ·rename_i fs hu
   obtain⟨xs,n',hn,_,h2,h3,h4⟩:=DataW.trod_struct hu h
   injection hn with hn;subst hn
   have:=rk (P:=P) (W:=W) (T:=T) (cs:=cs) (rd:=fun t vs=>∃y,DataW.trod enc P W 0 (fun _=>true) true n t vs=some y) (rec:=mQ P m) (fun t l vs q1 q2 q3 ⟨y,q4⟩=>ih m t l vs y q1 q2 q3 q4) fs.toList 0 l hl hT ?_ ah
   ·simpa using this
   ·intro f hf
    obtain⟨i,hi,hfi⟩:=List.getElem_of_mem hf
    have:=h4 i f (by simp at hi;simp[<- hfi,Array.getElem?_eq_getElem hi])
    rw[List.getElem?_eq_getElem (by simp at hi;omega)]at this
    exact⟨_,this⟩
  ·rename_i k e hu
   split at hl
   ·rename_i l' z8
    split at hl
    ·rename_i hce
     injection hl with hl;subst hl
     obtain⟨xs,n',hn,_,h2,h3,h4⟩:=DataW.trod_array hu h
     injection hn with hn;subst hn
     have hlen:cs.length=k*l'.length:=by rw[h2,hc];simp
     have hT':0<k->∀u∈l',∀e,P.underlying u=some (.slice e)->e∈T:=fun hk u hu=>hT u (List.mem_flatten.2 ⟨l',List.mem_replicate.2 ⟨ah,rfl⟩,hu⟩)
     have:=tF (P:=P) (W:=W) (l:=l') (cs:=cs) k 0 (fun j hj=> ?_) (by rw[hlen];simp)
     ·simpa using this
     ·have:=h4 j hj
      rw[hce,List.getElem?_eq_getElem (by omega)]at this
      rw[Nat.zero_add]
      exact ih m e l' _ _ z8 (hT' ah) hce this
    ·cases hl
   ·cases hl
  ·cases hl
theorem zp(hp:uF P T=true):∀ (ts:List TypeId) (vs:List Value) (ds:List (DataW H)) (p:List MemPlace),(∀t∈ts,t∈T)->DataW.TrodAll enc P W 0 (fun _=>true) true ts vs ds p->
 (∀ (j:Nat) t v,ts[j]? =some t->vs[j]? =some v->Value.okWide P W .any b0 t v)->∃xs,D.jF P xs ts/\D.aM ZP W xs vs
 |[],vs,ds,p,_,h,_=>by
  obtain⟨rfl,rfl,rfl⟩:=trodAll_nil h
  exact⟨[],rfl,rfl⟩
 |t::ts,vs,ds,p,hT,h,hv=>by
  obtain⟨v,vs',d,ds',p1,q1,rfl,rfl,rfl,⟨n,h1⟩,h2⟩:=trodAll_cons h
  obtain⟨xs,a1,a2⟩:=zp hp ts vs' ds' q1 (fun t ht=>hT t (by simp[ht])) h2 (fun j t v h1 h2=>hv (j+1) t v (by simpa using h1) qa)
  obtain⟨l,g1,g2,g3,g4⟩:=DN hp (hT t ao)
  obtain⟨ev,x,q1,q2,q3,q4,q5⟩:=DM g1 (FL hp n 20 t l _ _ g1 g4 g2.symm h1)
  have bn:=hv 0 t v rfl rfl
  have:ev=v:=by
   cases ha:isAgg P t with
   |true=>
    have:∃cs,v= .agg cs:=by
     unfold isAgg at ha
     unfold Value.okWide at bn
     split at ha
     ·rename_i hu;rw[hu]at bn;obtain⟨cs,rfl,_⟩:=bn;exact⟨cs,rfl⟩
     ·rename_i hu;rw[hu]at bn;obtain⟨cs,rfl,_⟩:=bn;exact⟨cs,rfl⟩
     ·cases ha
    obtain⟨cs,rfl⟩:=this
    rw[q4 ha]
    simp[Value.cells]
   |false=>
    obtain⟨q6,q7⟩:=q5 ha
    cases v with
    |agg cs=>
     exfalso
     unfold isAgg at ha
     unfold Value.okWide at bn
     split at bn
     ·rename_i hu;rw[hu]at ha;cases ha
     ·rename_i hu;rw[hu]at ha;cases ha
     ·unfold Cell.okWide at bn
      split at bn
      case h_8=>
       unfold Cell.ok at bn
       split at bn<;>first|exact bn|contradiction
      all_goals contradiction
    |_=>simp only[Value.cells,List.cons.injEq,and_true]at q6;exact q6.symm
  subst this
  exact⟨x::xs,⟨t,ts,rfl,q2,a1⟩,⟨_,_,rfl,q3,a2⟩⟩
theorem eT.below {w w':World}(h:eT (fun _=>False) w w'):Below w.heap.size w w':=⟨h.os,h.tape,h.output,h.size,fun k hk=>h.block k hk (fun h=>h)⟩
theorem zq(hl:laidOutB P=true){W':World}{sp:Nat->Bool}:∀ {ts:List TypeId} {vs:List Value} {ds:List (DataW H)} {p:List MemPlace},(∀t∈ts,P.readableRec t=true/\t<P.types.size)->DataW.TrodAll enc P W 0 (fun _=>true) true ts vs ds p->
 (∀x∈p,W.sameAt W' x/\sp x.block=true)->DataW.TrodAll enc P W' 0 sp true ts vs ds p
 |[],vs,ds,p,_,h,_=>by
  obtain⟨rfl,rfl,rfl⟩:=trodAll_nil h
  exact trodAll_mk0
 |t::ts,vs,ds,p,hr,h,hs=>by
  obtain⟨v,vs',d,ds',p1,q1,rfl,rfl,rfl,h1,h2⟩:=trodAll_cons h
  exact⟨p1,q1,WideElems.Trod_stays hl (hr t ao).1 (hr t ao).2 h1 (fun x hx=>(hs x lJ).1) (fun x hx=>(hs x lJ).2),zq hl (fun t ht=>hr t (by simp[ht])) h2 (fun x hx=>hs x lJ),rfl⟩
theorem NF{sp:Nat->Bool}:∀ {ts:List TypeId} {vs:List Value} {ds:List (DataW H)} {ps:List MemPlace},DataW.TrodAll enc P W 0 sp true ts vs ds ps->ds.length=ts.length
 |[],_,_,_,h=>by obtain⟨_,rfl,_⟩:=trodAll_nil h;rfl
 |_::_,_,_,_,h=>by
  obtain⟨_,_,_,_,_,_,_,rfl,_,_,h2⟩:=trodAll_cons h
  simp[NF h2]
theorem Bd{f:FuncId}{fn:Func}{s:ChangeSpec}{tb:TypeId}{fresh handsOn again:Bool}(Cr:fn.resultTypes=#[tb])(HZ:P.underlying tb=some .bool)(Vw:s.vars=[])
 (NG:∀ds:List (DataW H),ds.length=fn.params.toList.length->s.fn H ds={results:=[.lit (.bool true)],args:=ds}) (hp:uF P T=true) (hT:∀t∈fn.params.toList,t∈T) (hl:laidOutB P=true)
 (hr:∀t∈fn.params.toList,P.readableRec t=true/\t<P.types.size) (law:∀xs,D.jF P xs fn.params.toList->aR P f xs (.ret [.bool true]))
 (base:Nat) (args:Array Value) (ds gs:List (DataW H)) (before:List MemPlace)
 (gu:∀ (j:Nat) t v,fn.params[j]? =some t->args[j]? =some v->Value.okWide P W .any base t v) (hW:DataW.Whole enc P fn.params.toList s.vars false W args.toList ds gs before):
 Calls P f args W fun e W'=>∃v,e= .returned v/\s.post enc P fn false fresh handsOn again W args v W':=by
 have hW':=hW
 obtain⟨p,q,hA,hV,rfl,hfz,hnd⟩:=hW
 rw[Vw]at hV
 obtain⟨rfl,rfl⟩:=trodVars_none hV
 obtain⟨xs,a1,a2⟩:=zp (b0:=base) hp fn.params.toList args.toList ds p hT hA (fun j t v h1 h2=>gu j t v (by simpa using h1) qa)
 refine((law xs a1).2 ZP W args (fun _ h=>h.elim) a2).mono fun e W' ⟨hk,ho⟩=> ?_
 have hb:=hk.below
 cases e with
 |panicked ch=>exact ho.elim
 |outgrown=>exact ho.elim
 |returned v=>
  simp only[R.is,D.den]at ho
  subst ho
  refine⟨_,rfl, ?_⟩
  have hlen:ds.length=fn.params.toList.length:=(NF hA)
  have hold:∀x∈p,x.block<W.heap.size:=fun x hx=>by simpa using hW'.lt x xN
  have eA:∀sp:Nat->Bool,(∀x∈p,sp x.block=true)->DataW.TrodAll enc P W' 0 sp true fn.params.toList args.toList ds p:=fun sp uX=>zq hl hr hA fun x hx=>⟨hb.same (hold x hx),uX x hx⟩
  have Vx:∀ (b:Nat) (sp:Nat->Bool) (hd:Bool),DataW.TrodAll enc P W' b sp hd fn.resultTypes.toList ((Value.bool true).resultList fn.resultTypes.size) [.lit (.bool true)] []:=fun b sp hd=>by
   rw[Cr]
   exact trodAll_cons_mk (p:=[]) (p':=[]) ⟨1,by simp[DataW.trod,Value.cells,HZ]⟩ trodAll_mk0
  have NH:∀sp:Nat->Bool,DataW.TrodVars enc P W' sp s.vars [] []:=fun sp=>by rw[Vw];rfl
  refine⟨ds,[],p++[],[],p,[],hW', ?_, ?_, ?_,World.keptBut_mono (fun _ h=>h.elim) (hb.frame (fun _=>False)),fun _=>⟨?_,[.lit (.bool true)]++ds,[],([]++p)++[],⟨[]++p,[],trodAll_append (eA _ fun _ _=>rfl) (Vx 0 (fun _=>true) true),NH _,rfl, ?_,(fun h=>by cases h)⟩,fun x hx _=>by simpa using hx⟩⟩
  ·rw[List.append_nil,NG ds hlen];exact Vx _ _ _
  ·rw[List.append_nil,NG ds hlen];exact eA _ fun x hx=>by simpa using hold x hx
  ·rw[List.append_nil,NG ds hlen];exact NH _
  ·intro j t r h1 h2
   rw[Cr]at h1 h2
   match j,h1,h2 with
   |0,h1,h2=>
    simp[Value.resultList]at h1 h2
    subst h1;subst h2
    simp[Value.okWide,HZ,Cell.okWide,Cell.ok]
  ·intro b off hx
   rw[hb.frozen (by simpa[MemPlace.block]using hold _ (by simpa using hx))]
   exact hfz b off xN
end
section
variable {P:Program}{t e:TypeId}{x:D}
theorem wx{k:IntKind}(ht:P.underlying t=some (.int k))(h:D.jn P x t):∃n,x= .int k n/\(Lit.int k n).wf=true:=by
 cases x<;>simp only[D.jn]at h
 case int k' n=>
  rw[ht]at h
  obtain⟨h1,h2⟩:=h
  injection h1 with h1;injection h1 with h1;subst h1
  exact⟨n,rfl,h2⟩
 case bool=>rw[ht]at h;cases h
 case str=>rw[ht]at h;cases h.1
 case sl=>obtain⟨e,h,_⟩:=h;rw[ht]at h;cases h
 case agg=>have:=h.1;unfold isAgg at this;rw[ht]at this;cases this
theorem NI(ht:P.underlying t=some .string)(h:D.jn P x t):∃l,x= .str l/\l.length<=maxLen:=by
 cases x<;>simp only[D.jn]at h
 case int k' n=>rw[ht]at h;cases h.1
 case bool b=>rw[ht]at h;cases h
 case str l=>exact⟨l,rfl,h.2⟩
 case sl=>obtain⟨e,h,_⟩:=h;rw[ht]at h;cases h
 case agg=>have:=h.1;unfold isAgg at this;rw[ht]at this;cases this
theorem lq(ht:P.underlying t=some (.slice e))(h:D.jn P x t):∃es,x= .sl es/\es.length<=maxLen/\D.FK P es e:=by
 cases x<;>simp only[D.jn]at h
 case int k' n=>rw[ht]at h;cases h.1
 case bool b=>rw[ht]at h;cases h
 case str l=>rw[ht]at h;cases h.1
 case sl es=>
  obtain⟨e',h,h2,h3⟩:=h
  rw[ht]at h;injection h with h;injection h with h;subst h
  exact⟨es,rfl,h2,h3⟩
 case agg=>have:=h.1;unfold isAgg at this;rw[ht]at this;cases this
theorem l9{ls:List TypeId}(ha:isAgg P t=true)(hl:mQ P 20 t=some ls)(h:D.jn P x t):∃cs,x= .agg cs/\D.jF P cs ls:=by
 have no:∀u,P.underlying t=some u->(∀fs,u≠ .struct fs)->(∀k e,u≠ .array k e)->False:=by
  intro u hu h1 h2
  unfold isAgg at ha
  rw[hu]at ha
  split at ha
  ·rename_i e;injection e with e;exact h1 _ e
  ·rename_i e;injection e with e;exact h2 _ _ e
  ·cases ha
 cases x<;>simp only[D.jn]at h
 case int k' n=>exact(no _ h.1 (fun _ h=>by cases h) (fun _ _ h=>by cases h)).elim
 case bool b=>exact(no _ h (fun _ h=>by cases h) (fun _ _ h=>by cases h)).elim
 case str l=>exact(no _ h.1 (fun _ h=>by cases h) (fun _ _ h=>by cases h)).elim
 case sl es=>obtain⟨e',h,_⟩:=h;exact(no _ h (fun _ h=>by cases h) (fun _ _ h=>by cases h)).elim
 case agg cs=>
  obtain⟨_,ls',h1,h2⟩:=h
  rw[hl]at h1;injection h1 with h1;subst h1
  exact⟨cs,rfl,h2⟩
theorem bf{t:TypeId}{ts:List TypeId}{cs:List D}(h:D.jF P cs (t::ts)):∃x xs,cs=x::xs/\D.jn P x t/\D.jF P xs ts:=by
 cases cs with
 |nil=>simp[D.jF]at h
 |cons x xs=>obtain⟨_,_,e,h1,h2⟩:=h;injection e with e1 e2;subst e1;subst e2;exact⟨x,xs,rfl,h1,h2⟩
theorem jo{cs:List D}(h:D.jF P cs []):cs=[]:=by
 cases cs with
 |nil=>rfl
 |cons x xs=>obtain⟨_,_,e,_⟩:=h;cases e
theorem kL{α:Type}{f:α->D}{q:α->Prop}(hf:∀x,D.jn P x e->∃a,x=f a/\q a):∀ (es:List D),D.FK P es e->∃l:List α,es=l.map f/\∀a∈l,q a
 |[],_=>⟨[],rfl,fun _ h=>by cases h⟩
 |x::es,h=>by
  obtain⟨a,rfl,h1⟩:=hf x h.1
  obtain⟨l,rfl,h2⟩:=kL hf es h.2
  exact⟨a::l,rfl,fun b hb=>(List.mem_cons.1 hb).elim (fun e=>e ▸ h1) (h2 b)⟩
end
end Go.Proofs.YtonbelhklnmjnaaGreat
end
section
namespace Go.Proofs.YtonbelhklnmjnaaGreat
open Go.ChangeShapes Go.WideShapes Go.RowKit
theorem jU:maxLen<=9223372036854775807:=bE
theorem rm{x:D}(h:D.jn Tryz.prog x 3):∃n:Int,x= .i n:=by
 obtain⟨n,h,_⟩:=wx undT_3 h
 exact⟨n,h⟩
theorem QU{x:D}(h:D.jn Tryz.prog x 29):∃n:Int,x= .i n:=by
 obtain⟨n,h,_⟩:=wx undT_29 h
 exact⟨n,h⟩
theorem aeJ{x:D}(h:D.jn Tryz.prog x 104):∃r:kB,x=r.d/\r.name.length<=9223372036854775807:=by
 obtain⟨cs,rfl,hh⟩:=l9 af (ls:=[9,3]) af h
 clear h;have h:=hh;clear hh
 obtain⟨a,cs,rfl,ha,h⟩:=bf h
 obtain⟨b,cs,rfl,hb,h⟩:=bf h
 have:=jo h;subst this
 obtain⟨l,rfl,hl⟩:=NI af ha
 obtain⟨n,rfl⟩:=rm hb
 exact⟨⟨l,n⟩,rfl,by have:=jU;simp only;omega⟩
theorem NJ:∀ (n:Nat) (x:D),SizeOf.sizeOf x<=n->D.jn Tryz.prog x 31->∃t:Tm,x=t.d/\t.fits:=by
 intro n
 induction n with
 |zero=>intro x hx _;cases x<;>simp at hx
 |succ n ih=>
  intro x hx h
  obtain⟨cs,rfl,hh⟩:=l9 af (ls:=[29,3,28]) af h
  clear h;have h:=hh;clear hh
  obtain⟨a,cs,rfl,ha,h⟩:=bf h
  obtain⟨b,cs,rfl,hb,h⟩:=bf h
  obtain⟨c,cs,rfl,hc,h⟩:=bf h
  have:=jo h;subst this
  obtain⟨o,rfl⟩:=QU ha
  obtain⟨m,rfl⟩:=rm hb
  obtain⟨es,rfl,h1,h2⟩:=lq undT_28 hc
  have Eb:SizeOf.sizeOf es<=n:=by simp at hx;omega
  have:∀es:List D,SizeOf.sizeOf es<=n->D.FK Tryz.prog es 31->∃l:List Tm,es=l.map Tm.d/\∀k∈l,k.fits:=by
   intro es
   induction es with
   |nil=>intro _ _;exact⟨[],rfl,fun _ h=>by cases h⟩
   |cons y es ihe=>
    exact Sj
  obtain⟨l,rfl,hl⟩:=this es Eb h2
  refine⟨.mk o m l,by rw[Tm.m9], ?_⟩
  rw[Tm.aH]
  exact RF
theorem ZQ{x:D}(h:D.jn Tryz.prog x 31):∃t:Tm,x=t.d/\t.fits:=NJ _ x (Nat.le_refl _) h
end Go.Proofs.YtonbelhklnmjnaaGreat
end
section
namespace Go.Proofs.YtonbelhklnmjnaaGreat
open Go.ChangeShapes Go.WideShapes Go.RowKit
theorem DO{x:D}(h:D.jn Tryz.prog x 28):∃l:List Tm,x= .sl (l.map Tm.d)/\l.length<=9223372036854775807/\∀t∈l,t.fits:=by
 obtain⟨es,rfl,h1,h2⟩:=lq undT_28 h
 obtain⟨l,rfl,hl⟩:=kL (fun x h=>ZQ h) es h2
 have:=jU
 exact⟨l,rfl,by simp at h1;omega,hl⟩
structure Rl.Fits (r:Rl):Prop where
 bg:r.bg.length<=9223372036854775807
 all:∀t∈r.bg,t.fits
 rhs:r.rhs.fits
theorem ag0{x:D}(h:D.jn Tryz.prog x 106):∃r:Rl,x=r.d/\r.Fits:=by
 obtain⟨cs,rfl,hh⟩:=l9 af (ls:=[3,28,29,3,28,3]) af h
 clear h;have h:=hh;clear hh
 obtain⟨a,cs,rfl,ha,h⟩:=bf h
 obtain⟨b,cs,rfl,hb,h⟩:=bf h
 obtain⟨c,cs,rfl,hc,h⟩:=bf h
 obtain⟨d,cs,rfl,hd,h⟩:=bf h
 obtain⟨e,cs,rfl,he,h⟩:=bf h
 obtain⟨f,cs,rfl,hf,h⟩:=bf h
 have:=jo h;subst this
 obtain⟨m,rfl⟩:=rm ha
 obtain⟨l,rfl,l1,l2⟩:=DO hb
 obtain⟨o,rfl⟩:=QU hc
 obtain⟨n,rfl⟩:=rm hd
 obtain⟨k,rfl,k1,k2⟩:=DO he
 obtain⟨v,rfl⟩:=rm hf
 exact⟨⟨m,l, .mk o n k,v⟩,rfl,⟨l1,l2,(Tm.aH _).2 ⟨k1,k2⟩⟩⟩
structure Pg.Fits (p:Pg):Prop where
 sig:p.sig.Fits
 len:p.rules.length<=9223372036854775807
 all:∀r∈p.rules,r.Fits
theorem ag3{x:D}(h:D.jn Tryz.prog x 27):∃p:Pg,x=p.d/\p.Fits:=by
 obtain⟨cs,rfl,hh⟩:=l9 af (ls:=[22,22,25]) af h
 clear h;have h:=hh;clear hh
 obtain⟨a,cs,rfl,ha,h⟩:=bf h
 obtain⟨b,cs,rfl,hb,h⟩:=bf h
 obtain⟨c,cs,rfl,hc,h⟩:=bf h
 have:=jo h;subst this
 obtain⟨es,rfl,h1,h2⟩:=lq undT_22 ha
 obtain⟨l,rfl,hl⟩:=kL (fun x h=>aeJ h) es h2
 obtain⟨es',rfl,h3,h4⟩:=lq undT_22 hb
 obtain⟨l',rfl,z8⟩:=kL (fun x h=>aeJ h) es' h4
 obtain⟨es2,rfl,h5,h6⟩:=lq (e:=106) af hc
 obtain⟨q,rfl,hq⟩:=kL (fun x h=>ag0 h) es2 h6
 have:=jU
 exact⟨⟨⟨l,l'⟩,q⟩,rfl,⟨⟨by simp at h1;simp only;omega,by simp at h3;simp only;omega,hl,z8⟩,by simp at h5;simp only;omega,hq⟩⟩
end Go.Proofs.YtonbelhklnmjnaaGreat
end
namespace Go.Proofs.YtonbelhklnmjnaaGreat
def eZ(l:List Tm):Bool:=decide (l.length<=6)&&l.all iE
def gB(p:Pg):Bool:=(jg p.sig&&decide (p.rules.length<=20))&&p.rules.all fun r=>eZ r.bg&&iE r.rhs
theorem zr{p:Pg}(hf:p.Fits)(h:gB p=true):p.Fin/\Hs p:=by
 simp only[gB,eZ,Bool.and_eq_true,decide_eq_true_eq,List.all_eq_true,pQ]at h
 obtain⟨_,h⟩:=h
 refine⟨⟨hf.sig,hf.len,fun r hr=> ?_⟩,fun r hr=> ?_⟩
 ·obtain⟨⟨a,b⟩,c⟩:=h r hr
  have z7:=hf.all r hr
  exact⟨ah,fun t ht=>⟨z7.all t ht,by have:=(b t ht).2;omega⟩,⟨z7.rhs,by have:=c.2;omega⟩⟩
 ·obtain⟨⟨a,b⟩,c⟩:=h r hr
  exact⟨a,fun t ht=>(b t ht).1,c.1⟩
end Go.Proofs.YtonbelhklnmjnaaGreat
