/-
  A PART OF THE PROOF. Conditions: none.
-/
import Derived.OpenShut
import Derived.Carry
import Derived.Handed
import Derived.JoinedOf
import Derived.ProofKit
import Derived.Test.YtonbelhklnmjnaaGreatLl17
set_option linter.unusedSimpArgs false
set_option linter.unusedVariables false
namespace Go.Proofs.YtonbelhklnmjnaaGreat
def lq(op v:Int)(xs:List Tm):Nat:=xs.countP fun x=>x.op==op&&x.n==v
theorem Il:∀ (m:List (Int×Int)) (v w u:Int),lk (lU m v w) u=if v=u then some w else lk m u
 |[],v,w,u=>by simp only[lU,lk]
 |p::m,v,w,u=>by
  have ih:=Il m v w u
  unfold lU
  by_cases h:p.1=v
  ·rw[if_pos h]
   simp only[lk]
   by_cases h2:v=u
   ·simp[h2]
   ·have: ¬p.1=u:=by rw[h];exact h2
    simp[h2,this]
  ·rw[if_neg h]
   simp only[lk]
   by_cases h2:p.1=u
   ·have: ¬v=u:=by intro e;exact h (h2.trans e.symm)
    simp[h2,this]
   ·simp only[h2,if_false];exact ih
theorem En:∀ (m:List (Int×Int)) (v w u:Int),u∈(lU m v w).map (·.1)↔u=v\/u∈m.map (·.1)
 |[],v,w,u=>by simp[lU]
 |p::m,v,w,u=>by
  have ih:=En m v w u
  unfold lU
  by_cases h:p.1=v
  ·rw[if_pos h];simp[h]
  ·rw[if_neg h,List.map_cons,List.mem_cons,ih,List.map_cons,List.mem_cons]
   constructor
   ·rintro(h1|h1|h1)<;>simp[h1]
   ·rintro(h1|h1|h1)<;>simp[h1]
theorem z8:∀ (m:List (Int×Int)) (v w:Int),uG m->uG (lU m v w)
 |[],v,w,_=>by simp[lU,uG]
 |p::m,v,w,hk=>by
  have pv:p.1∉m.map (·.1)/\uG m:=by
   unfold uG at hk|-
   rwa [List.map_cons,List.nodup_cons]at hk
  have ih:=z8 m v w pv.2
  unfold lU
  by_cases h:p.1=v
  ·rw[if_pos h]
   unfold uG
   rw[List.map_cons,List.nodup_cons]
   exact⟨by rw[<- h];exact pv.1,pv.2⟩
  ·rw[if_neg h]
   unfold uG
   rw[List.map_cons,List.nodup_cons]
   exact⟨fun hm=>by
    rcases(En m v w p.1).1 hm with e|e
    ·exact h e
    ·exact pv.1 e,ih⟩
theorem Gp(op:Int):∀ (xs:List Tm) (m:List (Int×Int)) (c:Int->Nat),uG m->(∀v,lk m v=if c v=0 then none else some (c v:Int))->(∀v,c v+xs.length<=1000000)->
 uG (xs.foldl (eF op) m)/\∀v,lk (xs.foldl (eF op) m) v=if c v+lq op v xs=0 then none else some ((c v+lq op v xs:Nat):Int)
 |[],m,c,hk,hl,_=>⟨hk,fun v=>by rw[List.foldl_nil,hl v];rfl⟩
 |x::xs,m,c,hk,hl,hb=>by
  simp only[List.foldl_cons]
  by_cases h:x.op=op
  ·have hg:iE m x.n=(c x.n:Int):=by
    unfold iE;rw[hl];split
    ·next h0=>rw[h0];rfl
    ·rfl
   have Qf:=hb x.n
   simp only[List.length_cons]at Qf hb
   have e1:eF op m x=lU m x.n ((c x.n+1:Nat):Int):=by
    unfold eF uH
    rw[if_pos h,hg,wrap64 (by omega) (by omega)]
    push_cast;rfl
   rw[e1]
   have ih:=Gp op xs (lU m x.n ((c x.n+1:Nat):Int)) (fun v=>c v+if x.n=v then 1 else 0) (z8 _ _ _ hk) (fun v=>by
    rw[Il]
    by_cases e:x.n=v
    ·subst e;simp
    ·simp[e,hl v]) (fun v=>by have:=hb v;split<;>omega)
   refine⟨ih.1,fun v=> ?_⟩
   rw[ih.2 v]
   have e2:(c v+if x.n=v then 1 else 0)+lq op v xs=c v+lq op v (x::xs):=by
    unfold lq
    rw[List.countP_cons]
    by_cases e:x.n=v<;>simp[h,e]<;>omega
   rw[e2]
  ·have e1:eF op m x=m:=by unfold eF;rw[if_neg h]
   rw[e1]
   have ih:=Gp op xs m c hk hl (fun v=>by have:=hb v;simp at this;omega)
   refine⟨ih.1,fun v=> ?_⟩
   rw[ih.2 v]
   have e2:lq op v (x::xs)=lq op v xs:=by
    unfold lq
    rw[List.countP_cons];simp[h]
   rw[e2]
def o9(l:List Tm):List Tm:=l.flatMap ja
theorem Im(op:Int)(l:List Tm)(hb:(o9 l).length<=1000000):uG (eG op l)/\∀v,lk (eG op l) v=if lq op v (o9 l)=0 then none else some (lq op v (o9 l):Int):=by
 have:=Gp op (o9 l) [] (fun _=>0) List.nodup_nil (fun v=>by simp[lk]) (fun v=>by simpa using hb)
 refine⟨this.1,fun v=> ?_⟩
 have h:=this.2 v
 rw[Nat.zero_add]at h
 exact h
theorem Eo(op:Int)(l:List Tm)(hb:(o9 l).length<=1000000)(v:Int):iE (eG op l) v=(lq op v (o9 l):Int):=by
 unfold iE
 rw[(Im op l hb).2 v]
 split
 ·next h=>rw[h];rfl
 ·rfl
theorem wQ(op:Int)(l:List Tm)(hb:(o9 l).length<=1000000)(p:Int×Int->Bool):(eG op l).all p=true↔∀v,0<lq op v (o9 l)->p (v,(lq op v (o9 l):Int))=true:=by
 obtain⟨hk,hl⟩:=Im op l hb
 rw[List.all_eq_true]
 constructor
 ·intro h v hv
  refine h _ ((Ih hk).1 ?_)
  rw[hl v,if_neg (by omega)]
 ·rintro h ⟨v,c⟩ hm
  have h1:=(Ih hk).2 hm
  rw[hl v]at h1
  split at h1
  ·cases h1
  ·next h0=>
   injection h1 with h1
   have:=h v af
   rw[h1]at this
   exact this
theorem Sb(m:List (Int×Int)):∀ (t:Tm) (o7:List Int),BK m t o7=true↔∀v,tj v t=true->iE m v=0\/v∈o7:=by
 refine Tm.cc fun t ih o7=> ?_
 have key:∀ (l:List Tm) (i:Nat),(∀k∈l,k∈t.kids)->(rO m t.op t.n l i o7=true↔∀v,iF v t.op t.n l i=true->iE m v=0\/v∈o7):=by
  intro l
  induction l with
  |nil=>intro i _;simp[rO,iF]
  |cons k l nh=>
   intro i hk
   have h1:=ih k (hk k ao) (if t.op=8/\i=1 then o7++[t.n]else o7)
   have h2:=nh (i+1) (fun x hx=>hk x lW)
   simp only[rO,iF,Bool.and_eq_true,h1,h2,Bool.or_eq_true]
   by_cases hc:t.op=8/\i=1
   ·simp only[hc,and_self,if_true,List.mem_append,List.mem_singleton]
    constructor
    ·rintro⟨a,b⟩ v (⟨c,d⟩|c)
     ·rcases a v c with e|e|e
      ·exact .inl e
      ·exact .inr e
      ·subst e;simp at d
     ·exact b v c
    ·intro a
     refine⟨fun v c=> ?_,fun v c=>a v (.inr c)⟩
     by_cases e:v=t.n
     ·exact .inr (.inr e)
     ·rcases a v (.inl ⟨c,by simp;exact fun e2=>e e2.symm⟩)with g|g
      ·exact .inl g
      ·exact .inr (.inl g)
   ·have hb:(t.op==8&&i==1)=false:=by
     cases h:(t.op==8&&i==1)with
     |false=>rfl
     |true=>simp at h;exact absurd h hc
    simp only[hc,if_false,hb,Bool.false_and,Bool.not_false,and_true]
    constructor
    ·rintro⟨a,b⟩ v (c|c)
     ·exact a v c
     ·exact b v c
    ·intro a
     exact⟨fun v c=>a v (.inl c),fun v c=>a v (.inr c)⟩
 rw[Ii]
 by_cases h:t.op=1
 ·rw[if_pos h]
  simp only[hZ,h,if_true]
  simp
 ·rw[if_neg h,key t.kids 0 (fun _ h=>h)]
  simp only[hZ,h,if_false]
theorem Kk(s:aV)(r:Rl)(h1:(o9 r.aZ).length<=1000000)(h2:(o9 [r.rhs]).length<=1000000):fQ s r=true↔ni s r=true/\
 (∀v,0<lq 1 v (o9 r.aZ)->lq 1 v (o9 r.aZ)<=1/\v<r.vars)/\(∀v,0<lq 1 v (o9 [r.rhs])->v<r.vars)/\
 (∀v,0<lq 8 v (o9 [r.rhs])->lq 8 v (o9 [r.rhs])<=1/\v<r.vars/\lq 1 v (o9 r.aZ)=0)/\(∀v,tj v r.rhs=true->lq 8 v (o9 [r.rhs])=0):=by
 unfold fQ
 simp only[Bool.and_eq_true,wQ 1 r.aZ h1,wQ 1 [r.rhs] h2,wQ 8 [r.rhs] h2,Sb,Eo 1 r.aZ h1,Eo 8 [r.rhs] h2,decide_eq_true_eq]
 constructor
 ·rintro⟨⟨⟨⟨a,b⟩,c⟩,d⟩,e⟩
  refine⟨a,fun v hv=> ?_,c,fun v hv=> ?_,fun v hv=> ?_⟩
  ·have:=b v hv;omega
  ·have:=d v hv;omega
  ·rcases e v hv with g|g
   ·omega
   ·cases g
 ·rintro⟨a,b,c,d,e⟩
  refine⟨⟨⟨⟨a,fun v hv=> ?_⟩,c⟩,fun v hv=> ?_⟩,fun v hv=> .inl ?_⟩
  ·have:=b v hv;omega
  ·have:=d v hv;omega
  ·have:=e v hv;omega
def la:List Int->Int->List Int
 |[],n=>[n]
 |x::l,n=>if x<n then x::la l n else if x=n then x::l else n::x::l
def mU(op n:Int)(i:Nat)(l out:List Int):List Int:=l.foldl (fun out v=>if(op !=8||(i:Int)!=1||v !=n)=true then la out v else out) out
mutual
def bp:Tm->List Int
 | .mk op n kids=>if op=1 then [n]else jV op n kids 0 []
def jV(op n:Int):List Tm->Nat->List Int->List Int
 |[],_,out=>out
 |k::l,i,out=>jV op n l (i+1) (mU op n i (bp k) out)
end
theorem oD(t:Tm):bp t=if t.op=1 then [t.n]else jV t.op t.n t.kids 0 []:=by cases t;rfl
theorem rQ:∀ (l:List Int) (n v:Int),v∈la l n↔v∈l\/v=n
 |[],n,v=>by simp[la]
 |x::l,n,v=>by
  simp only[la]
  split
  ·simp only[List.mem_cons,rQ l n v];constructor
   ·rintro(h|h|h)
    ·exact .inl (.inl h)
    ·exact .inl (.inr h)
    ·exact .inr h
   ·rintro((h|h)|h)
    ·exact .inl h
    ·exact .inr (.inl h)
    ·exact .inr (.inr h)
  ·split
   ·rename_i h;subst h;simp only[List.mem_cons];constructor
    ·exact .inl
    ·rintro(h|h)
     ·exact h
     ·exact .inl h
   ·simp only[List.mem_cons];constructor
    ·rintro(h|h)
     ·exact .inr h
     ·exact .inl h
    ·rintro(h|h)
     ·exact .inr h
     ·exact .inl h
abbrev Qm(l:List Int):Prop:=l.Pairwise (· <·)
theorem Ep:∀ {l:List Int} (n:Int),Qm l->Qm (la l n)
 |[],n,_=>by simp[la]
 |x::l,n,h=>by
  have h1:=List.pairwise_cons.1 h
  simp only[la]
  split
  ·rename_i hx
   refine List.pairwise_cons.2 ⟨fun y hy=> ?_,Ep n h1.2⟩
   rcases(rQ l n y).1 hy with hy|hy
   ·exact h1.1 y hy
   ·omega
  ·split
   ·exact h
   ·refine List.pairwise_cons.2 ⟨fun y hy=> ?_,h⟩
    rcases List.mem_cons.1 hy with hy|hy
    ·omega
    ·have:=h1.1 y hy;omega
theorem tq(op n:Int)(i:Nat):∀ (l out:List Int),Qm out->Qm (mU op n i l out)/\∀v,v∈mU op n i l out↔v∈out\/(v∈l/\ ¬ (op=8/\i=1/\n=v))
 |[],out,h=>⟨h,fun v=>by simp[mU]⟩
 |x::l,out,h=>by
  have hk:mU op n i (x::l) out=mU op n i l (if(op !=8||(i:Int)!=1||x !=n)=true then la out x else out):=rfl
  rw[hk]
  by_cases hc:(op !=8||(i:Int)!=1||x !=n)=true
  ·rw[if_pos hc]
   have ih:=tq op n i l (la out x) (Ep x h)
   refine⟨ih.1,fun v=> ?_⟩
   rw[ih.2 v,rQ,List.mem_cons]
   have uw: ¬ (op=8/\i=1/\n=x):=by
    rintro⟨h1,h2,h3⟩;subst h1;subst h2;subst h3;simp at hc
   constructor
   ·rintro((h|h)|h)
    ·exact .inl h
    ·subst h;exact .inr ⟨.inl rfl,uw⟩
    ·exact .inr ⟨.inr h.1,h.2⟩
   ·rintro(h|⟨h|h,h2⟩)
    ·exact .inl (.inl h)
    ·exact .inl (.inr h)
    ·exact .inr ⟨h,h2⟩
  ·rw[if_neg hc]
   have ih:=tq op n i l out h
   refine⟨ih.1,fun v=> ?_⟩
   rw[ih.2 v,List.mem_cons]
   have uw:op=8/\i=1/\n=x:=by simp at hc;exact⟨hc.1.1,af,hc.2.symm⟩
   constructor
   ·rintro(h|h)
    ·exact .inl h
    ·exact .inr ⟨.inr h.1,h.2⟩
   ·rintro(h|⟨h|h,h2⟩)
    ·exact .inl h
    ·subst h;exact absurd uw h2
    ·exact .inr ⟨h,h2⟩
theorem dZ:∀t:Tm,Qm (bp t)/\∀v,v∈bp t↔tj v t=true:=by
 refine Tm.cc fun t ih=> ?_
 have hs:∀ (l:List Tm) (i:Nat) (out:List Int),(∀k∈l,k∈t.kids)->Qm out->Qm (jV t.op t.n l i out)/\∀v,v∈jV t.op t.n l i out↔v∈out\/iF v t.op t.n l i=true:=by
  intro l
  induction l with
  |nil=>intro i out _ h;exact⟨h,fun v=>by simp[jV,iF]⟩
  |cons k l nh=>
   intro i out hk h
   have h1:=ih k (hk k ao)
   have h2:=tq t.op t.n i (bp k) out h
   have h3:=nh (i+1) _ (fun x hx=>hk x lW) h2.1
   refine⟨h3.1,fun v=> ?_⟩
   show v∈jV t.op t.n l (i+1) (mU t.op t.n i (bp k) out)↔_
   rw[h3.2 v,h2.2 v,h1.2 v,iF]
   simp only[Bool.or_eq_true,Bool.and_eq_true,Bool.not_eq_true',Bool.and_eq_false_iff,beq_eq_false_iff_ne,ne_eq,not_and]
   have:(∀ (_:t.op=8) (_:i=1), ¬t.n=v)↔((¬t.op=8\/ ¬i=1)\/ ¬t.n=v):=by
    constructor
    ·intro h
     by_cases c1:t.op=8
     ·by_cases c2:i=1
      ·exact .inr (h c1 c2)
      ·exact .inl (.inr c2)
     ·exact .inl (.inl c1)
    ·rintro((h|h)|h) c1 c2
     ·exact absurd c1 h
     ·exact absurd c2 h
     ·exact h
   rw[this]
   constructor
   ·rintro((h|h)|h)
    ·exact .inl h
    ·exact .inr (.inl h)
    ·exact .inr (.inr h)
   ·rintro(h|h|h)
    ·exact .inl (.inl h)
    ·exact .inl (.inr h)
    ·exact .inr h
 by_cases h1:t.op=1
 ·rw[oD,if_pos h1]
  refine⟨ao,fun v=> ?_⟩
  rw[hZ,if_pos h1]
  simp only[List.mem_singleton,beq_iff_eq]
  exact eq_comm
 ·rw[oD,if_neg h1]
  have:=hs t.kids 0 [] (fun _ h=>h) ao
  refine⟨this.1,fun v=> ?_⟩
  rw[this.2 v,hZ,if_neg h1]
  simp
theorem OJ:∀ {l l':List Int},Qm l->Qm l'->(∀v,v∈l↔v∈l')->l=l'
 |[],[],_,_,_=>rfl
 |[],y::l',_,_,h=>by have:=(h y).2 ao;cases this
 |x::l,[],_,_,h=>by have:=(h x).1 ao;cases this
 |x::l,y::l',h1,h2,h=>by
  have g1:=List.pairwise_cons.1 h1
  have g2:=List.pairwise_cons.1 h2
  have e:x=y:=by
   rcases List.mem_cons.1 ((h x).1 ao)with e|e
   ·exact e
   ·rcases List.mem_cons.1 ((h y).2 ao)with e2|e2
    ·exact e2.symm
    ·have:=g2.1 x e;have:=g1.1 y e2;omega
  subst e
  rw[OJ g1.2 g2.2 fun v=> ?_]
  constructor
  ·intro hv
   rcases List.mem_cons.1 ((h v).1 (by simp[hv]))with e|e
   ·subst e;exact absurd (g1.1 v hv) af
   ·exact e
  ·intro hv
   rcases List.mem_cons.1 ((h v).2 (by simp[hv]))with e|e
   ·subst e;exact absurd (g2.1 v hv) af
   ·exact e
theorem Gq{α:Type}{l:List α}{i:Nat}{n:α}(h:l[i]? =some n):(n::l.eraseIdx i).Perm l:=by
 obtain⟨hi,e⟩:=List.getElem?_eq_some_iff.1 h
 have vF:l=l.take i++n::l.drop (i+1):=by rw[<- e,List.getElem_cons_drop,List.take_append_drop]
 rw[List.eraseIdx_eq_take_drop_succ]
 conv=>rhs;rw[vF]
 exact List.perm_middle.symm
theorem wR:∀ (l:List Int) (n:Int),(la l n).length<=l.length+1
 |[],n=>by simp[la]
 |x::l,n=>by
  have:=wR l n
  simp only[la]
  split
  ·simp;omega
  ·split<;>simp
theorem oE(op n:Int)(i:Nat):∀ (l out:List Int),(mU op n i l out).length<=out.length+l.length
 |[],out=>by simp[mU]
 |x::l,out=>by
  have hk:mU op n i (x::l) out=mU op n i l (if(op !=8||(i:Int)!=1||x !=n)=true then la out x else out):=rfl
  rw[hk]
  have h1:=wR out x
  split
  ·have:=oE op n i l (la out x);simp;omega
  ·have:=oE op n i l out;simp;omega
theorem fq:∀t:Tm,(bp t).length<=t.sz:=by
 refine Tm.cc fun t ih=> ?_
 have hs:∀ (l:List Tm) (i:Nat) (out:List Int),(∀k∈l,k∈t.kids)->(jV t.op t.n l i out).length<=out.length+fG l:=by
  intro l
  induction l with
  |nil=>intro i out _;simp[jV]
  |cons k l nh=>
   intro i out hk
   have h1:=ih k (hk k ao)
   have h2:=oE t.op t.n i (bp k) out
   have h3:=nh (i+1) (mU t.op t.n i (bp k) out) (fun x hx=>hk x lW)
   rw[eE]
   show(jV t.op t.n l (i+1) (mU t.op t.n i (bp k) out)).length<=_
   omega
 rw[oD,Tm.gw]
 split
 ·simp
 ·have:=hs t.kids 0 [] (fun _ h=>h);simp at this;omega
theorem Kl{s:aV}{l:List Tm}(h:dh s l=true):∀t∈l,t.sz<=40/\t.fR<=12:=by
 intro t ht
 rw[J4]at h
 simp only[Gf,Bool.and_eq_true,List.all_eq_true,eh,decide_eq_true_eq,dD]at h
 have:=(h.2 t ht).1
 omega
theorem Sc(t:Tm):o9 [t]=ja t:=by simp[o9]
theorem Er(op v:Int)(x:Tm)(l:List Tm):lq op v (x::l)=lq op v l+if x.op=op/\x.n=v then 1 else 0:=by
 unfold lq
 rw[List.countP_cons]
 by_cases h:x.op=op/\x.n=v
 ·simp[h]
 ·rw[if_neg h,if_neg (by simpa using h)]
theorem Gs(op v:Int)(a b:List Tm):lq op v (a++b)=lq op v a+lq op v b:=by unfold lq;rw[List.countP_append]
theorem kj(op v:Int)(l:List Tm):0<lq op v l↔∃x∈l,x.op=op/\x.n=v:=by
 unfold lq
 rw[List.countP_pos_iff]
 simp
mutual
def bQ:Tm->List Int
 | .mk op n kids=>(if op=8 then [n]else [])++bD kids
def bD:List Tm->List Int
 |[]=>[]
 |k::l=>bQ k++bD l
end
theorem iA(t:Tm):bQ t=(if t.op=8 then [t.n]else [])++bD t.kids:=by cases t;rw[bQ];rfl
theorem oF:∀ (t:Tm) (v:Int),(bQ t).count v=lq 8 v (ja t):=by
 refine Tm.cc fun t ih v=> ?_
 have key:∀l:List Tm,(∀k∈l,k∈t.kids)->(bD l).count v=lq 8 v (l.flatMap ja):=by
  intro l
  induction l with
  |nil=>intro _;rfl
  |cons k l nh=>
   intro hk
   rw[bD,List.count_append,ih k (hk k (by simp)) v,nh (fun x hx=>hk x (by simp[hx])),List.flatMap_cons,Gs]
 rw[iA,List.count_append,key t.kids (fun _ h=>h),nB,Er]
 by_cases h:t.op=8
 ·by_cases h2:t.n=v
  ·simp[h,h2];omega
  ·simp[h,h2]
 ·simp[h]
theorem pc(t:Tm)(v:Int):v∈bQ t↔0<lq 8 v (ja t):=by
 rw[<- oF,List.count_pos_iff]
mutual
def dJ(n:Int):Tm->Bool
 | .mk op k kids=>gK n kids&&((op !=1&&op !=8)||decide (k<n))
def gK(n:Int):List Tm->Bool
 |[]=>true
 |k::l=>dJ n k&&gK n l
end
theorem qs(n:Int)(t:Tm):dJ n t=(gK n t.kids&&((t.op !=1&&t.op !=8)||decide (t.n<n))):=by cases t;rw[dJ];rfl
theorem qt(n:Int):∀t:Tm,dJ n t=true↔∀x∈ja t,x.op=1\/x.op=8->x.n<n:=by
 refine Tm.cc fun t ih=> ?_
 have key:∀l:List Tm,(∀k∈l,k∈t.kids)->(gK n l=true↔∀x∈l.flatMap ja,x.op=1\/x.op=8->x.n<n):=by
  intro l
  induction l with
  |nil=>intro _;simp[gK]
  |cons k l nh=>
   intro hk
   rw[gK,Bool.and_eq_true,ih k (hk k (by simp)),nh (fun x hx=>hk x (by simp[hx])),List.flatMap_cons]
   simp only[List.mem_append]
   constructor
   ·rintro⟨a,b⟩ x (h|h)
    ·exact a x h
    ·exact b x h
   ·intro a
    exact⟨fun x h=>a x (.inl h),fun x h=>a x (.inr h)⟩
 rw[qs,Bool.and_eq_true,key t.kids (fun _ h=>h),nB]
 simp only[List.mem_cons,Bool.or_eq_true,Bool.and_eq_true,bne_iff_ne,decide_eq_true_eq]
 constructor
 ·rintro⟨a,b⟩ x (h|h) h2
  ·subst h
   rcases b with⟨b1,b2⟩|b
   ·rcases h2 with e|e
    ·exact absurd e b1
    ·exact absurd e b2
   ·exact b
  ·exact a x h h2
 ·intro a
  refine⟨fun x h=>a x (.inr h), ?_⟩
  by_cases h:t.op=1\/t.op=8
  ·exact .inr (a t (.inl rfl) h)
  ·exact .inl ⟨fun e=>h (.inl e),fun e=>h (.inr e)⟩
theorem Gt(n:Int)(t:Tm):dJ n t=true↔(∀v,0<lq 1 v (ja t)->v<n)/\∀v,0<lq 8 v (ja t)->v<n:=by
 rw[qt]
 constructor
 ·intro a
  refine⟨fun v h=> ?_,fun v h=> ?_⟩<;>(obtain⟨x,h1,h2,h3⟩:=(kj _ _ _).1 h;rw[<- h3];exact a x h1 (by simp[h2]))
 ·rintro⟨a,b⟩ x h (h2|h2)
  ·exact a _ ((kj _ _ _).2 ⟨x,h,h2,rfl⟩)
  ·exact b _ ((kj _ _ _).2 ⟨x,h,h2,rfl⟩)
def qu(t:Tm)(aZ:List Int):Bool:=(bQ t).all fun v=> !(decide (1<((bQ t).count v:Int))||aZ.contains v||(bp t).contains v)
theorem Aa(t:Tm)(aZ:List Int):qu t aZ=true↔∀v,0<lq 8 v (ja t)->lq 8 v (ja t)<=1/\v∉aZ/\tj v t=false:=by
 unfold qu
 rw[List.all_eq_true]
 have hv:∀v,(bp t).contains v=tj v t:=fun v=>by
  rw[Bool.eq_iff_iff,List.contains_iff_mem,(dZ t).2 v]
 constructor
 ·intro a v h
  have:=a v ((pc t v).2 h)
  rw[oF,hv]at this
  simp at this
  exact⟨af,this.1.2,this.2⟩
 ·intro a v h
  obtain⟨a1,a2,a3⟩:=a v ((pc t v).1 h)
  rw[oF,hv,a3]
  simp
  exact⟨af,a2⟩
theorem ph:∀ (W A:List Int),A.Nodup->(∀v,v∈A↔v∈W)->A.length<=W.length/\(A.length=W.length↔W.Nodup)
 |[],A,hA,h=>by
  have:A=[]:=List.eq_nil_iff_forall_not_mem.2 fun v hv=>by simpa using(h v).1 hv
  subst this;simp
 |x::W,A,hA,h=>by
  by_cases hx:x∈W
  ·have ih:=(ph W A hA fun v=>by
    rw[h v,List.mem_cons]
    exact⟨fun e=>e.elim (fun e=>e ▸ hx) id, .inr⟩).1
   refine⟨by simp;omega, ?_⟩
   rw[List.length_cons,List.nodup_cons]
   exact⟨fun e=>af,fun e=>absurd hx e.1⟩
  ·have hxA:x∈A:=(h x).2 ao
   have ih:=ph W (A.erase x) (hA.erase x) fun v=>by
    rw[hA.mem_erase_iff,h v,List.mem_cons]
    constructor
    ·rintro⟨a,b|b⟩
     ·exact absurd b a
     ·exact b
    ·intro a
     exact⟨fun e=>hx (e ▸ a), .inr a⟩
   have hl:(A.erase x).length=A.length - 1:=List.length_erase_of_mem hxA
   have hp:0<A.length:=List.length_pos_of_mem hxA
   rw[hl]at ih
   rw[List.length_cons,List.nodup_cons]
   refine⟨af, ?_⟩
   constructor
   ·intro e;exact⟨hx,ih.2.1 af⟩
   ·intro e
    have:=ih.2.2 e.2
    omega
def OK(t:Tm):List Int:=((ja t).filter fun x=>x.op==1).map Tm.n
theorem wS(l:List Tm)(v:Int):((l.filter fun x=>x.op==1).map Tm.n).count v=lq 1 v l:=by
 induction l with
 |nil=>rfl
 |cons x l ih=>
  rw[Er, <- ih]
  by_cases h:x.op=1
  ·have h':(x.op==1)=true:=by simpa using h
   have e:(x::l).filter (fun x=>x.op==1)=x::l.filter (fun x=>x.op==1):=by rw[List.filter_cons,if_pos h']
   rw[e,List.map_cons,List.count_cons]
   by_cases h2:x.n=v
   ·simp[h,h2]
   ·simp[h2]
  ·have h': ¬ (x.op==1)=true:=by simpa using h
   have e:(x::l).filter (fun x=>x.op==1)=l.filter (fun x=>x.op==1):=by rw[List.filter_cons,if_neg h']
   rw[e]
   simp[h]
structure Ab (t:Tm):Prop where
 once:(OK t).Nodup
 free:∀v,tj v t=true↔v∈OK t
theorem ue(t:Tm):(bp t).Nodup:=(dZ t).1.imp fun {a b} h=>af
theorem abb{t:Tm}(h:Ab t):(bp t).length=(OK t).length:=
 ((ph (OK t) (bp t) (ue t) fun v=>by rw[(dZ t).2 v,h.free v]).2).2 h.once
def Es(l:List Tm):Bool:=(l.map fun t=>(bp t).length).sum==(bp (.mk 0 0 l)).length
theorem Et(l:List Tm)(v:Int):tj v (.mk 0 0 l)=true↔∃t∈l,tj v t=true:=by
 have key:∀ (l:List Tm) (i:Nat),iF v 0 0 l i=l.any (tj v):=by
  intro l
  induction l with
  |nil=>intro i;rfl
  |cons k l ih=>intro i;simp[iF,ih]
 have e:tj v (.mk 0 0 l)=iF v 0 0 l 0:=rfl
 rw[e,key,List.any_eq_true]
theorem Io(l:List Tm)(h:∀t∈l,Ab t):Es l=true↔∀v,lq 1 v (o9 l)<=1:=by
 have hW:((o9 l).filter fun x=>x.op==1).map Tm.n=l.flatMap OK:=by
  unfold o9
  induction l with
  |nil=>rfl
  |cons t l ih=>
   rw[List.flatMap_cons,List.filter_append,List.map_append,List.flatMap_cons,ih (fun x hx=>h x (by simp[hx]))];rfl
 have hlen:(l.map fun t=>(bp t).length).sum=(l.flatMap OK).length:=by
  clear hW
  induction l with
  |nil=>rfl
  |cons t l ih=>
   rw[List.map_cons,List.sum_cons,List.flatMap_cons,List.length_append,ih (fun x hx=>h x (by simp[hx])),abb (h t (by simp))]
 have hm:∀v,v∈bp (.mk 0 0 l)↔v∈l.flatMap OK:=fun v=>by
  rw[(dZ _).2 v,Et,List.mem_flatMap]
  constructor
  ·rintro⟨t,h1,h2⟩;exact⟨t,h1,((h t h1).free v).1 h2⟩
  ·rintro⟨t,h1,h2⟩;exact⟨t,h1,((h t h1).free v).2 h2⟩
 have hn:=(ph (l.flatMap OK) (bp (.mk 0 0 l)) (ue _) hm).2
 unfold Es
 rw[hlen,beq_iff_eq,eq_comm,hn,List.nodup_iff_count]
 constructor
 ·intro a v;rw[<- wS,hW];exact a v
 ·intro a v;rw[<- hW,wS];exact a v
def mV(t:Tm):Bool:=t.op==1||t.op==3
mutual
def ig:Tm->Bool
 | .mk op n kids=>u6 kids&&mV (.mk op n kids)
def u6:List Tm->Bool
 |[]=>true
 |k::l=>ig k&&u6 l
end
theorem Ac(t:Tm):ig t=(t.kids.all ig&&mV t):=by
 have:∀l:List Tm,u6 l=l.all ig:=fun l=>by
  induction l with
  |nil=>rfl
  |cons k l ih=>simp[u6,ih]
 cases t;simp only[ig,this,Tm.kids]
mutual
def gL:Tm->List Int->List Int×Bool
 | .mk op n kids,b=>if op=1 then(la b n, !b.contains n)else ij kids b
def ij:List Tm->List Int->List Int×Bool
 |[],b=>(b,true)
 |k::l,b=>if(gL k b).2=true then ij l (gL k b).1 else((gL k b).1,false)
end
theorem rR(t:Tm)(b:List Int):gL t b=if t.op=1 then(la b t.n, !b.contains t.n)else ij t.kids b:=by cases t;rfl
theorem Km:∀ (t:Tm) (b:List Int),(gL t b).1.length<=b.length+t.sz:=by
 refine Tm.cc fun t ih b=> ?_
 have hs:∀ (l:List Tm) (b:List Int),(∀k∈l,k∈t.kids)->(ij l b).1.length<=b.length+fG l:=by
  intro l
  induction l with
  |nil=>intro b _;simp[ij,fG]
  |cons k l nh=>
   intro b hk
   have h1:=ih k (hk k ao) b
   have h2:=nh (gL k b).1 (fun x hx=>hk x lW)
   rw[eE]
   simp only[ij]
   split
   ·omega
   ·simp only;omega
 rw[rR,Tm.gw]
 have h3:=wR b t.n
 have h4:=hs t.kids b (fun _ h=>h)
 split
 ·simp only;omega
 ·omega
def uK(l:List (Tm×Int)):List Int:=(l.filter fun x=>x.1.op==1).map fun x=>x.1.n
theorem wT(a b:List (Tm×Int)):uK (a++b)=uK a++uK b:=by simp[uK]
theorem wU(x:Tm×Int)(l:List (Tm×Int)):uK (x::l)=(if x.1.op=1 then x.1.n::uK l else uK l):=by
 unfold uK
 by_cases h:x.1.op=1
 ·simp[h]
 ·simp[h]
theorem BP{l:List Tm}{d v:Int}:v∈uK (l.flatMap fun k=>pre k d)↔∃k∈l,v∈uK (pre k d):=by
 induction l with
 |nil=>simp[uK]
 |cons k l ih=>simp[wT,ih]
theorem Ip{v op n:Int}(h:op≠8):∀ (l:List Tm) (i:Nat),iF v op n l i=l.any (tj v)
 |[],i=>rfl
 |k::l,i=>by
  have:(op==8)=false:=by simpa using h
  simp[iF,Ip h l,this]
theorem abc:∀ (t:Tm) (d:Int),(∀x∈pre t d,x.1.op≠8)->(∀x∈pre t d,x.1.op=1->x.1.kids=[])->∀v,tj v t=true↔v∈uK (pre t d):=by
 refine Tm.cc fun t ih d h8 h1 v=> ?_
 have hp:=jT t d
 have ht8:t.op≠8:=h8 (t,d) (by rw[hp];simp)
 have mz:∀k∈t.kids,∀x∈pre k (d+1),x∈pre t d:=fun k hk x hx=>by rw[hp];exact List.mem_cons_of_mem _ (List.mem_flatMap.2 ⟨k,hk,hx⟩)
 rw[hp,wU,hZ]
 by_cases h:t.op=1
 ·have hk:t.kids=[]:=h1 (t,d) (by rw[hp];simp) h
  simp only[if_pos h,hk,List.flatMap_nil]
  show(t.n==v)=true↔v∈[t.n]
  rw[beq_iff_eq,List.mem_singleton];exact eq_comm
 ·simp only[if_neg h]
  rw[Ip ht8,BP,List.any_eq_true]
  constructor
  ·rintro⟨k,hk,hv⟩
   exact⟨k,hk,(ih k hk (d+1) (fun x hx=>h8 x (mz k hk x hx)) (fun x hx=>h1 x (mz k hk x hx)) v).1 hv⟩
  ·rintro⟨k,hk,hv⟩
   exact⟨k,hk,(ih k hk (d+1) (fun x hx=>h8 x (mz k hk x hx)) (fun x hx=>h1 x (mz k hk x hx)) v).2 hv⟩
theorem rS{s:aV}{t:Tm}(h:eh s t=true):∀x∈pre t 1,bz s x.1=true:=by
 simp only[eh,Bool.and_eq_true,wH s t 1,List.all_eq_true]at h
 exact h.2
theorem Eu{s:aV}{t:Tm}(h:bz s t=true)(h1:t.op=1):t.kids=[]:=by
 simp[bz,h1]at h
 exact h.1
theorem wV:∀ (L:List (Tm×Int)) (l:List Int) (b:Bool),(aC (zL pJ ml) (l,b) L).2=true↔(∀x∈L,mV x.1=true)/\(uK L).Nodup/\∀v∈uK L,v∉l
 |[],l,b=>by simp[aC,uK]
 |x::L,l,b=>by
  have e1:∀c,uJ l x=c->zL pJ ml (l,b) x=((if c=true then l else if x.1.op=1 then tf l x.1.n else l, !c), !c):=fun c hc=>by
   show((if uJ l x=true then l else if x.1.op=1 then tf l x.1.n else l, !uJ l x),(pJ (if uJ l x=true then l else if x.1.op=1 then tf l x.1.n else l, !uJ l x)).isNone)=_
   rw[hc];cases c<;>rfl
  rw[aC,wU]
  cases hb:uJ l x with
  |true=>
   rw[e1 _ hb]
   simp only[Bool.not_true,Bool.false_eq_true,if_false,false_iff,not_and]
   intro hs hn hv
   have hsx:=hs x ao
   simp only[uJ,mV,Bool.or_eq_true,Bool.and_eq_true,bne_iff_ne,beq_iff_eq,ne_eq]at hb hsx
   rcases hb with⟨h1,h2⟩|⟨h1,h2⟩
   ·rcases hsx with h|h
    ·exact h1 h
    ·exact h2 h
   ·rw[if_pos h1]at hv
    exact hv x.1.n ao qD
  |false=>
   rw[e1 _ hb]
   simp only[Bool.not_false,if_true,Bool.false_eq_true,if_false]
   rw[wV L]
   simp only[uJ,Bool.or_eq_false_iff,Bool.and_eq_false_iff,bne_eq_false_iff_eq,beq_eq_false_iff_ne,ne_eq]at hb
   have hsx:mV x.1=true:=by simp only[mV,Bool.or_eq_true,beq_iff_eq];exact hb.1
   by_cases h1:x.1.op=1
   ·have x7:x.1.n∉l:=by
     rcases hb.2 with h|h
     ·exact absurd h1 h
     ·intro hm;rw[<- List.contains_iff_mem]at hm;rw[h]at hm;cases hm
    rw[if_pos h1,if_pos h1]
    simp only[List.mem_cons,forall_eq_or_imp,hsx,true_and,List.nodup_cons,wN,not_or]
    constructor
    ·rintro⟨a1,a2,a3⟩
     exact⟨a1,⟨fun hm=>(a3 _ hm).2 rfl,a2⟩,x7,fun v hv=>(a3 v hv).1⟩
    ·rintro⟨a1,⟨a2,a3⟩,a4,a5⟩
     exact⟨a1,a3,fun v hv=>⟨a5 v hv,fun e=>a2 (e ▸ hv)⟩⟩
   ·rw[if_neg h1,if_neg h1]
    simp only[List.mem_cons,forall_eq_or_imp,hsx,true_and]
theorem Kn:∀ (t:Tm) (d:Int),(∀x∈pre t d,x.1.op=1->x.1.kids=[])->∀b:List Int,((gL t b).2=true↔(uK (pre t d)).Nodup/\∀v∈uK (pre t d),v∉b)/\((gL t b).2=true->∀v,v∈(gL t b).1↔v∈b\/v∈uK (pre t d)):=by
 refine Tm.cc fun t ih d h1 b=> ?_
 have hp:=jT t d
 have mz:∀k∈t.kids,∀x∈pre k (d+1),x∈pre t d:=fun k hk x hx=>by rw[hp];exact List.mem_cons_of_mem _ (List.mem_flatMap.2 ⟨k,hk,hx⟩)
 have hs:∀ (l:List Tm) (b:List Int),(∀k∈l,k∈t.kids)->((ij l b).2=true↔(uK (l.flatMap fun k=>pre k (d+1))).Nodup/\∀v∈uK (l.flatMap fun k=>pre k (d+1)),v∉b)/\((ij l b).2=true->∀v,v∈(ij l b).1↔v∈b\/v∈uK (l.flatMap fun k=>pre k (d+1))):=by
  intro l
  induction l with
  |nil=>intro b _;simp[ij,uK]
  |cons k l nh=>
   intro b hk
   obtain⟨k1,k2⟩:=ih k (hk k ao) (d+1) (fun x hx=>h1 x (mz k (hk k ao) x hx)) b
   obtain⟨l1,l2⟩:=nh (gL k b).1 (fun x hx=>hk x lW)
   simp only[ij,List.flatMap_cons,wT,List.nodup_append,List.mem_append]
   by_cases hc:(gL k b).2=true
   ·rw[if_pos hc]
    have hm:=k2 hc
    obtain⟨c1,c2⟩:=k1.1 hc
    constructor
    ·rw[l1]
     constructor
     ·rintro⟨a1,a2⟩
      refine⟨⟨c1,a1,fun x hx y hy e=>a2 y hy ((hm y).2 (.inr (e ▸ hx)))⟩, ?_⟩
      rintro v (hv|hv)
      ·exact c2 v hv
      ·exact fun hb=>a2 v hv ((hm v).2 (.inl hb))
     ·rintro⟨⟨a1,a2,a3⟩,a4⟩
      refine⟨a2,fun v hv Qb=> ?_⟩
      rcases(hm v).1 Qb with h|h
      ·exact a4 v (.inr hv) h
      ·exact a3 v h v hv rfl
    ·intro h v
     rw[l2 h v,hm v]
     constructor
     ·rintro((h|h)|h)
      ·exact .inl h
      ·exact .inr (.inl h)
      ·exact .inr (.inr h)
     ·rintro(h|h|h)
      ·exact .inl (.inl h)
      ·exact .inl (.inr h)
      ·exact .inr h
   ·rw[if_neg hc]
    simp only[Bool.false_eq_true,false_iff,false_implies,and_true,not_and]
    rintro⟨a1,a2,a3⟩ a4
    exact hc (k1.2 ⟨a1,fun v hv=>a4 v (.inl hv)⟩)
 rw[rR,hp,wU]
 by_cases h:t.op=1
 ·have hk:t.kids=[]:=h1 (t,d) (by rw[hp];simp) h
  simp only[if_pos h,hk,List.flatMap_nil]
  simp only[uK,List.filter_nil,List.map_nil,List.nodup_cons,List.not_mem_nil,not_false_eq_true,List.nodup_nil,and_self,true_and,List.mem_singleton,forall_eq,Bool.not_eq_true',rQ]
  refine⟨?_,fun _ v=>trivial⟩
  rw[Bool.eq_false_iff,ne_eq,List.contains_iff_mem]
 ·simp only[if_neg h]
  exact hs t.kids b (fun _ h=>h)
theorem Ko:∀ (t:Tm) (d:Int),ig t=(pre t d).all fun x=>mV x.1:=by
 refine Tm.cc fun t ih d=> ?_
 rw[H9 mV,Ac,Bool.and_comm]
 congr 1
 exact Um
theorem OL{s:aV}{t:Tm}(h:eh s t=true):yi t=((gL t []).2&&ig t):=by
 have h1:=(Kn t 1 (fun x hx ho=>Eu (rS h x hx) ho) []).1
 rw[Bool.eq_iff_iff,Bool.and_eq_true,h1,yi,wV,Ko t 1,List.all_eq_true]
 constructor
 ·rintro⟨a,b,c⟩;exact⟨⟨b,fun v _=>ao⟩,a⟩
 ·rintro⟨⟨a,b⟩,c⟩;exact⟨c,a,fun v _=>ao⟩
theorem BQ:∀ (t:Tm) (d:Int),(pre t d).map (·.1)=ja t:=by
 refine Tm.cc fun t ih d=> ?_
 have key:∀l:List Tm,(∀k∈l,k∈t.kids)->((l.flatMap fun k=>pre k (d+1)).map (·.1))=l.flatMap ja:=by
  intro l
  induction l with
  |nil=>intro _;rfl
  |cons k l nh=>
   intro hk
   rw[List.flatMap_cons,List.map_append,ih k (hk k (by simp)),nh (fun x hx=>hk x (by simp[hx])),List.flatMap_cons]
 rw[jT,nB,List.map_cons,key t.kids (fun _ h=>h)]
theorem Iq(t:Tm)(d:Int):uK (pre t d)=OK t:=by
 unfold uK OK
 rw[<- BQ t d,List.filter_map,List.map_map]
 rfl
theorem Sd{t x:Tm}(h:x∈ja t):∃y∈pre t 1,y.1=x:=by
 rw[<- BQ t 1]at h
 obtain⟨y,h1,h2⟩:=List.mem_map.1 h
 exact⟨y,h1,h2⟩
theorem Gu{s:aV}{t:Tm}(h:eh s t=true)(hp:yi t=true):Ab t/\∀x∈ja t,x.op≠8:=by
 rw[yi,wV]at hp
 obtain⟨a,b,_⟩:=hp
 have h8:∀y∈pre t 1,y.1.op≠8:=fun y hy e=>by
  have:=a y hy
  simp[mV,e]at this
 refine⟨⟨by rw[<- Iq t 1];exact b,fun v=> ?_⟩,fun x hx=> ?_⟩
 ·rw[<- Iq t 1]
  exact abc t 1 h8 (fun x hx ho=>Eu (rS h x hx) ho) v
 ·obtain⟨y,h1,h2⟩:=Sd hx
  rw[<- h2];exact h8 y h1
def lb(s:aV)(r:Rl):Bool:=decide (0<=r.fn)&&(match s.bR[r.fn.toNat]? with|some f=>(r.aZ.length:Int)==f.args|none=>false)&&decide (0<=r.vars)&&decide (r.vars<=20)
def gD(s:aV)(r:Rl):Bool:=(lb s r&&eh s r.rhs)&&(r.aZ.all fun p=>(eh s p&&((gL p []).2&&ig p))&&dJ r.vars p)&&(Es r.aZ&&dJ r.vars r.rhs&&qu r.rhs (bp (.mk 0 0 r.aZ)))
theorem Se(s:aV)(r:Rl)(hs:kU s=true)(h1:(o9 r.aZ).length<=1000000)(h2:(o9 [r.rhs]).length<=1000000):fQ s r=gD s r:=by
 have OM:∀t,dh s [t]=eh s t:=fun t=>by unfold dh;simp[hs,qo]
 have Ev:ni s r=true↔(lb s r=true/\(∀t∈r.aZ,eh s t=true/\yi t=true))/\eh s r.rhs=true:=by
  have e:ni s r=((lb s r&&r.aZ.all (lI s))&&dh s [r.rhs]):=rfl
  rw[e,OM,Bool.and_eq_true,Bool.and_eq_true,List.all_eq_true]
  simp only[lI,OM,Bool.and_eq_true]
 have mono:∀t∈r.aZ,∀v,0<lq 1 v (ja t)->0<lq 1 v (o9 r.aZ):=fun t ht v h=>by
  obtain⟨x,a,b⟩:=(kj _ _ _).1 h
  exact(kj _ _ _).2 ⟨x,List.mem_flatMap.2 ⟨t,ht,a⟩,b⟩
 have split:∀v,0<lq 1 v (o9 r.aZ)->∃t∈r.aZ,0<lq 1 v (ja t):=fun v h=>by
  obtain⟨x,a,b⟩:=(kj _ _ _).1 h
  obtain⟨t,c,d⟩:=List.mem_flatMap.1 a
  exact⟨t,c,(kj _ _ _).2 ⟨x,d,b⟩⟩
 have hvs:∀ (t:Tm) (v:Int),v∈OK t↔0<lq 1 v (ja t):=fun t v=>by rw[<- wS,List.count_pos_iff];rfl
 have ON:(∀t∈r.aZ,Ab t)->∀v,v∈bp (.mk 0 0 r.aZ)↔0<lq 1 v (o9 r.aZ):=fun h v=>by
  rw[(dZ _).2 v,Et]
  constructor
  ·rintro⟨t,a,b⟩;exact mono t a v ((hvs t v).1 (((h t a).free v).1 b))
  ·intro a
   obtain⟨t,b,c⟩:=split v a
   exact⟨t,b,((h t b).free v).2 ((hvs t v).2 c)⟩
 rw[Bool.eq_iff_iff,Kk s r h1 h2,Ev]
 unfold gD
 simp only[Bool.and_eq_true,List.all_eq_true,Gt,Aa,Sc]
 constructor
 ·rintro⟨⟨⟨a,p⟩,rt⟩,A,B,C,D⟩
  have bw:∀t∈r.aZ,Ab t:=fun t ht=>(Gu (p t ht).1 (p t ht).2).1
  refine⟨⟨⟨a,rt⟩,fun t ht=>⟨⟨(p t ht).1, ?_⟩,fun v hv=>(A v (mono t ht v hv)).2,fun v hv=> ?_⟩⟩,⟨(Io _ bw).2 fun v=> ?_,B,fun v hv=>(C v hv).2.1⟩,fun v hv=>⟨(C v hv).1, ?_, ?_⟩⟩
  ·have:=(p t ht).2
   rw[OL (p t ht).1,Bool.and_eq_true]at this
   exact this
  ·obtain⟨x,b,c,_⟩:=(kj _ _ _).1 hv
   exact absurd c ((Gu (p t ht).1 (p t ht).2).2 x b)
  ·by_cases h:0<lq 1 v (o9 r.aZ)
   ·exact(A v h).1
   ·omega
  ·rw[ON bw v];have:=(C v hv).2.2;omega
  ·cases hf:tj v r.rhs with
   |false=>rfl
   |true=>have:=D v hf;omega
 ·rintro⟨⟨⟨a,rt⟩,p⟩,⟨l,B,B2⟩,C⟩
  have hp:∀t∈r.aZ,eh s t=true/\yi t=true:=fun t ht=>⟨(p t ht).1.1,by
   rw[OL (p t ht).1.1,Bool.and_eq_true];exact(p t ht).1.2⟩
  have bw:∀t∈r.aZ,Ab t:=fun t ht=>(Gu (hp t ht).1 (hp t ht).2).1
  refine⟨⟨⟨a,hp⟩,rt⟩,fun v hv=>⟨(Io _ bw).1 l v, ?_⟩,B,fun v hv=>⟨(C v hv).1,B2 v hv, ?_⟩,fun v hv=> ?_⟩
  ·obtain⟨t,b,c⟩:=split v hv
   exact(p t b).2.1 v c
  ·have:=(C v hv).2.1
   rw[ON bw v]at this
   omega
  ·by_cases h:0<lq 8 v (ja r.rhs)
   ·have:=(C v h).2.2
    rw[hv]at this;cases this
   ·omega
theorem Sf(t:Tm):(ja t).length=t.sz:=by rw[<- BQ t 1,List.length_map];rfl
theorem BR:∀ (l:List Tm) (n:Nat),(∀t∈l,t.sz<=n)->(o9 l).length<=l.length*n
 |[],n,_=>by simp[o9]
 |t::l,n,h=>by
  have ih:=BR l n (fun x hx=>h x lW)
  have e:(o9 (t::l)).length=(ja t).length+(o9 l).length:=by simp[o9]
  have:=h t ao
  rw[e,Sf,List.length_cons,Nat.add_mul];omega
def eX(p:Pg):Bool:=(kU p.sig&&decide (p.rules.length<=16))&&p.rules.all (gD p.sig)
def Ir(p:Pg):Prop:=∀r∈p.rules,r.aZ.length<=6/\(∀t∈r.aZ,t.sz<=50)/\r.rhs.sz<=50
theorem Sg(p:Pg)(h:Ir p):rP p=eX p:=by
 unfold rP eX
 cases hs:kU p.sig with
 |false=>simp
 |true=>
  have e:p.rules.all (fQ p.sig)=p.rules.all (gD p.sig):=by
   rw[Bool.eq_iff_iff,List.all_eq_true,List.all_eq_true]
   have k:∀r∈p.rules,fQ p.sig r=gD p.sig r:=fun r hr=>by
    obtain⟨a,b,c⟩:=h r hr
    refine Se p.sig r hs ?_ ?_
    ·have:=BR r.aZ 50 b
     omega
    ·have:=BR [r.rhs] 50 (fun t ht=>by simp at ht;subst ht;exact c)
     simp at this;omega
   exact⟨fun a r hr=>(k r hr) ▸ a r hr,fun a r hr=>(k r hr).symm ▸ a r hr⟩
  rw[e];simp
def ec:Tm:= .mk 16 0 []
def ed(b:Bool):Tm:= .mk 3 (if b=true then 1 else 0) []
mutual
def fj(l:List Tm):Tm->Tm
 | .mk op n kids=>if op=1 then(l[n.toNat]?).getD ec else .mk op n (BS l kids)
def BS(l:List Tm):List Tm->List Tm
 |[]=>[]
 |k::ks=>fj l k::BS l ks
end
theorem wW(l:List Tm):∀ks:List Tm,BS l ks=ks.map (fj l)
 |[]=>rfl
 |k::ks=>by simp[BS,wW l ks]
theorem rT(l:List Tm)(t:Tm):fj l t=if t.op=1 then(l[t.n.toNat]?).getD ec else .mk t.op t.n (t.kids.map (fj l)):=by cases t;rw[fj,wW];rfl
def mW(r:Rl)(b:List Tm):List Tm:=b.mapIdx fun i x=>if(bQ r.rhs).contains (i:Int)=true then ec else x
def gx(env:List Tm)(n:Int)(v:Tm):List Tm:=(env++List.replicate (n.toNat+1 - env.length) ec).set n.toNat v
def lg(s:aV)(f:Int):Tm:= .mk 4 f ((List.range (cX s.bR f).toNat).map fun i:Nat=> .mk 1 (i:Int) [])
def cC(t:Tm)(i:Nat):Tm:=(t.kids[i]?).getD ec
def aX(l:List Pf)(i:Nat):Tm:=((l[i]?).map Pf.val).getD ec
def kG(l:List (List Tm->Tm->Bool))(i:Nat):List Tm->Tm->Bool:=(l[i]?).getD fun _ _=>false
def jW(l:List (List Tm->Tm->Bool))(env es:List Tm):Bool:=l.length==es.length&&(l.zip es).all fun x=>x.1 env x.2
def ns(op a b:Int):Tm:=if op=15 then ed (decide (a<b))else .mk 2 (if op=14 then a - b else a+b) []
def jX(r:Int)(e v a b:Tm):Bool:=
 if r=10 then e.op==9&&(aJ a (ed true)&&aJ b v)
 else if r=11 then e.op==10&&(aJ a (ed true)&&aJ b (ed true)&&aJ v (ed true))
 else if r=12 then e.op==11&&(aJ a b&&bS 16 a&&aJ v (ed true))
 else if r=13 then e.op==12&&((bS 16 a&&bS 1 a)&&(bS 16 b&&bS 1 b)&&aJ v (ed (aJ a b)))
 else if r=14 then(e.op==13||e.op==14||e.op==15)&&(a.op==2&&b.op==2&&aJ v (ns e.op a.n b.n))
 else false
def gM(p:Pg)(r:Int)(v:Tm)(n:Int)(b:List Tm)(ks:List Pf)(g:List (List Tm->Tm->Bool))(env:List Tm)(e:Tm):Bool:=
 if r=1 then ks.length==0&&v.op==16
 else if r=2 then e.op==1&&(ks.length==0&&pA v ((env[e.n.toNat]?).getD ec))
 else if r=3 then e.op==2&&(ks.length==0&&aJ v e)
 else if r=4 then e.op==3&&(aJ v (.mk e.op e.n (ks.map Pf.val))&&jW g env e.kids)
 else if r=5 then e.op==5&&(aJ v (.mk e.op e.n (ks.map Pf.val))&&jW g env e.kids)
 else if r=6 then e.op==4&&decide (0<=n)&&match p.rules[n.toNat]? with
  |none=>false
  |some ru=>(ru.fn==e.n&&(b.length:Int)==ru.vars&&ks.length==e.kids.length+1&&v.op !=16&&aJ (aX ks e.kids.length) v)&&
   (aJ (.mk 0 0 ((ks.take e.kids.length).map Pf.val)) (.mk 0 0 (ru.aZ.map (fj b)))&&jW (g.take e.kids.length) env e.kids&&kG g e.kids.length (mW ru b) ru.rhs)
 else if r=7 then e.op==7&&(ks.length==1&&aJ (aX ks 0) v&&kG g 0 env (cC e 0))
 else if r=8 then e.op==7&&(ks.length==1&&aJ (aX ks 0) v&&kG g 0 env (cC e 1))
 else if r=9 then e.op==8&&(ks.length==2&&aJ (aX ks 1) v&&kG g 0 env (cC e 0)&&kG g 1 (gx env e.n (aX ks 0)) (cC e 1))
 else if r=15 then e.op==6&&(ks.length==2||ks.length==3)&&(kG g 0 env (cC e 0)&&kG g 1 env (cC e 1)&&(aX ks 0).op==5)&&
  (if((aX ks 0).kids.length:Int)+1<cX p.sig.bR (aX ks 0).n then ks.length==2&&aJ v (.mk 5 (aX ks 0).n ((aX ks 0).kids++[aX ks 1]))
   else ks.length==3&&aJ (aX ks 2) v&&kG g 2 ((aX ks 0).kids++[aX ks 1]) (lg p.sig (aX ks 0).n))
 else ks.length==2&&jX r e v (aX ks 0) (aX ks 1)&&(kG g 0 env (cC e 0)&&kG g 1 env (cC e 1))
mutual
def aR(p:Pg):Pf->List Tm->Tm->Bool
 | .mk r v n b ks=>gM p r v n b ks (Is p ks)
def Is(p:Pg):List Pf->List (List Tm->Tm->Bool)
 |[]=>[]
 |k::l=>aR p k::Is p l
end
theorem Ad(p:Pg):∀l:List Pf,Is p l=l.map (aR p)
 |[]=>rfl
 |k::l=>by simp[Is,Ad p l]
theorem b7(p:Pg)(f:Pf):aR p f=gM p f.az f.val f.num f.binds f.kids (f.kids.map (aR p)):=by cases f;rw[aR,Ad];rfl
mutual
def Pf.sh:Pf->Tm
 | .mk _ _ _ _ kids=> .mk 0 0 (Pf.shs kids)
def Pf.shs:List Pf->List Tm
 |[]=>[]
 |k::l=>k.sh::Pf.shs l
end
theorem Pf.It:∀l:List Pf,Pf.shs l=l.map Pf.sh
 |[]=>rfl
 |k::l=>by simp[Pf.shs,Pf.It l]
theorem Pf.agW (f:Pf):f.sh= .mk 0 0 (f.kids.map Pf.sh):=by cases f;rw[Pf.sh,Pf.It];rfl
theorem Pf.mX (f:Pf):f.sh.kids=f.kids.map Pf.sh:=by rw[Pf.agW];rfl
theorem Iu:∀ (f:Pf) (d:Int),(dx f d).map (fun x=>(x.1.sh,x.2))=pre f.sh d:=by
 refine Pf.cc fun f ih d=> ?_
 rw[o8,jT,List.map_cons,Pf.mX,List.map_flatMap,List.flatMap_map]
 congr 1
 have:∀l:List Pf,(∀k∈l,k∈f.kids)->(l.flatMap fun k=>(dx k (d+1)).map fun x=>(x.1.sh,x.2))=l.flatMap fun k=>pre k.sh (d+1):=by
  intro l
  induction l with
  |nil=>intro _;rfl
  |cons k l nh=>intro h;rw[List.flatMap_cons,List.flatMap_cons,ih k (h k (by simp)),nh fun x hx=>h x (by simp[hx])]
 exact this f.kids fun _ h=>h
theorem Ew(f:Pf)(d:Int):(dx f d).length=f.sh.sz:=by
 rw[<- List.length_map (f:=fun x:Pf×Int=>(x.1.sh,x.2)),Iu]
 exact oB _ _ _
theorem Gv:∀f:Pf,f.sh.fR=f.fR:=by
 refine Pf.cc fun f ih=> ?_
 have:∀l:List Pf,(∀k∈l,k∈f.kids)->Tm.dN (l.map Pf.sh)=Pf.dN l:=by
  intro l
  induction l with
  |nil=>intro _;rfl
  |cons k l nh=>intro h;rw[List.map_cons,o6,Pf.dN,ih k (h k (by simp)),nh fun x hx=>h x (by simp[hx])]
 rw[Tm.oC,Pf.mX,this f.kids fun _ h=>h]
 cases f;rfl
def ee(s:aV)(f:Pf):Bool:=(mu s f.val&&lu s f.binds)&&(f.az==6||(f.num==0&&f.binds.length==0))
mutual
def fy(s:aV):Pf->Bool
 | .mk r v n b kids=>ee s (.mk r v n b kids)&&u7 s kids
def u7(s:aV):List Pf->Bool
 |[]=>true
 |k::l=>fy s k&&u7 s l
end
theorem dR(s:aV)(f:Pf):fy s f=(ee s f&&f.kids.all (fy s)):=by
 have:∀l:List Pf,u7 s l=l.all (fy s):=fun l=>by
  induction l with
  |nil=>rfl
  |cons k l ih=>simp[u7,ih]
 cases f;rw[fy,this];rfl
theorem Kp(s:aV):∀ (f:Pf) (d:Int),fy s f=true↔∀x∈dx f d,ee s x.1=true:=by
 refine Pf.cc fun f ih d=> ?_
 rw[dR,o8,Bool.and_eq_true,List.all_eq_true]
 simp only[List.mem_cons,forall_eq_or_imp,List.mem_flatMap]
 constructor
 ·rintro⟨a,b⟩
  refine⟨a, ?_⟩
  rintro x ⟨k,hk,hx⟩
  exact(ih k hk _).1 (b k hk) x hx
 ·rintro⟨a,b⟩
  exact⟨a,fun k hk=>(ih k hk (d+1)).2 fun x hx=>b x ⟨k,hk,hx⟩⟩
def ej(s:aV)(f:Pf):Bool:=decide (0<=eM f.sh 500 150)&&fy s f
theorem Sh(s:aV)(f:Pf):ud s f=ej s f:=by
 rw[Bool.eq_iff_iff,OI,ej,Bool.and_eq_true,decide_eq_true_eq,dD,Kp s f 1,Ew]
 have hd:(∀x∈dx f 1,x.2<=150)↔f.sh.fR<=150:=by
  have:=zP f.sh 1 150
  rw[<- Iu]at this
  simp only[List.mem_map,forall_exists_index,and_imp,forall_apply_eq_imp_iff₂]at this
  rw[this];omega
 have hn:∀x:Pf×Int,Gn s x=true↔x.2<=150/\ee s x.1=true:=fun x=>by
  simp only[Gn,ee,Bool.and_eq_true,decide_eq_true_eq,and_assoc]
 simp only[hn]
 constructor
 ·rintro⟨a,b⟩
  exact⟨⟨af,by have:=hd.1 fun x hx=>(b x hx).1;omega⟩,fun x hx=>(b x hx).2⟩
 ·rintro⟨⟨a,b⟩,c⟩
  exact⟨af,fun x hx=>⟨hd.2 af x hx,c x hx⟩⟩
def Gw(s:aV)(t:Tm):Prop:=t.fits/\Pn s t
theorem Gw.gE {s:aV}{t k:Tm}(h:Gw s t)(hk:k∈t.kids):Gw s k:=⟨((Tm.aF t).1 h.1).2 k hk,h.2.gE hk⟩
theorem BT(s:aV):Gw s ec:=⟨by simp[ec,Tm.fits,Tm.j7],by rw[qq];exact⟨rfl,fun k hk=>by cases hk⟩⟩
structure da (s:aV) (env:List Tm):Prop where
 len:env.length<=20
 all:∀t∈env,Gw s t
structure cy (s:aV) (n:Nat) (e:Tm):Prop where
 fits:e.fits
 node:eW s e=true
 vars:∀v,tj v e=true->0<=v/\v<n
theorem cy.node1 {s:aV}{n:Nat}{e:Tm}(h:cy s n e):bz s e=true:=by
 have:=h.node;rw[dQ,Bool.and_eq_true]at this;exact this.1
theorem u9{v op n:Int}:∀ {l:List Tm} {i j:Nat} {k:Tm},l[i]? =some k->tj v k=true-> ¬ (op=8/\i+j=1/\n=v)->iF v op n l j=true
 |[],_,_,_,h,_,_=>by simp at h
 |x::l,0,j,k,h,hv,hn=>by
  simp at h;subst h
  simp only[iF,Bool.or_eq_true,Bool.and_eq_true]
  left
  refine⟨hv, ?_⟩
  cases hb:(op==8&&j==1&&n==v)with
  |false=>rfl
  |true=>simp at hb;exact absurd ⟨hb.1.1,af,hb.2⟩ hn
 |x::l,i+1,j,k,h,hv,hn=>by
  simp only[iF,Bool.or_eq_true]
  right
  exact u9 (i:=i) (j:=j+1) yG hv (by rw[show i+(j+1)=i+1+j by omega];exact hn)
theorem cy.gE {s:aV}{n:Nat}{e k:Tm}(h:cy s n e)(h1:e.op≠1)(h8:e.op≠8)(hk:k∈e.kids):cy s n k:=by
 refine⟨((Tm.aF e).1 h.fits).2 k hk, ?_,fun v hv=>h.vars v ?_⟩
 ·have:=h.node;rw[dQ,Bool.and_eq_true,List.all_eq_true]at this;exact this.2 k hk
 ·rw[hZ,if_neg h1]
  obtain⟨i,hi⟩:=List.getElem?_of_mem hk
  exact u9 hi hv fun e=>h8 e.1
theorem cy.agX {s:aV}{n:Nat}{e k:Tm}(h:cy s n e)(h8:e.op=8)(hk:e.kids[0]? =some k):cy s n k:=by
 have Si:=List.mem_of_getElem? hk
 refine⟨((Tm.aF e).1 h.fits).2 k Si, ?_,fun v hv=>h.vars v ?_⟩
 ·have:=h.node;rw[dQ,Bool.and_eq_true,List.all_eq_true]at this;exact this.2 k Si
 ·rw[hZ,if_neg (by omega)]
  exact u9 hk hv fun e=>absurd e.2.1 af
theorem cy.agY {s:aV}{n m:Nat}{e k:Tm}(h:cy s n e)(h8:e.op=8)(hk:e.kids[1]? =some k)(hm:n<=m)(Qb:e.n<m):cy s m k:=by
 have Si:=List.mem_of_getElem? hk
 have hn:=h.node1
 simp[bz,h8,cF]at hn
 refine⟨((Tm.aF e).1 h.fits).2 k Si, ?_,fun v hv=> ?_⟩
 ·have:=h.node;rw[dQ,Bool.and_eq_true,List.all_eq_true]at this;exact this.2 k Si
 ·by_cases hc:e.n=v
  ·omega
  ·have:=h.vars v (by
    rw[hZ,if_neg (by omega)]
    exact u9 hk hv fun e=>hc e.2.2)
   omega
theorem cy.var {s:aV}{n:Nat}{e:Tm}(h:cy s n e)(h1:e.op=1):0<=e.n/\e.n<n:=h.vars e.n (by rw[hZ,if_pos h1];simp)
theorem tt(env:List Tm)(n:Int)(v:Tm):(gx env n v).length=max env.length (n.toNat+1):=by
 simp[gx];omega
theorem Ex{s:aV}{env:List Tm}{n:Int}{v:Tm}(h:da s env)(hn:n<=19)(hv:Gw s v):da s (gx env n v):=by
 refine⟨by rw[tt];have:=h.len;omega,fun t ht=> ?_⟩
 rcases List.mem_or_eq_of_mem_set ht with h1|h1
 ·rcases List.mem_append.1 h1 with h2|h2
  ·exact h.all t h2
  ·rw[(List.mem_replicate.1 h2).2];exact BT s
 ·rw[h1];exact hv
theorem wX(r:Rl)(b:List Tm):(mW r b).length=b.length:=by simp[mW]
theorem Iv{s:aV}{r:Rl}{b:List Tm}(h:da s b):da s (mW r b):=by
 refine⟨by rw[wX];exact h.len,fun t ht=> ?_⟩
 simp only[mW,List.mem_mapIdx]at ht
 obtain⟨i,hi,e⟩:=ht
 rw[<- e]
 split
 ·exact BT s
 ·exact h.all _ (List.getElem_mem hi)
structure mY (s:aV) (f:Pf):Prop where
 fits:f.fits
 plain:fy s f=true
 size:f.sh.sz<=1000
theorem rU:∀l:List Tm,l.length<=fG l
 |[]=>ao
 |k::l=>by rw[eE,List.length_cons];have:=rU l;have:=Tm.wG k;omega
theorem OO{l:List Tm}{k:Tm}(h:k∈l):k.sz<=fG l:=by
 induction l with
 |nil=>cases h
 |cons x l ih=>
  rw[eE]
  rcases List.mem_cons.1 h with e|e
  ·subst e;omega
  ·have:=ih e;omega
theorem mY.gE {s:aV}{f k:Pf}(h:mY s f)(hk:k∈f.kids):mY s k:=by
 refine⟨((Pf.aF f).1 h.1).2.2.2.2 k hk, ?_, ?_⟩
 ·have:=h.2;rw[dR,Bool.and_eq_true,List.all_eq_true]at this;exact this.2 k hk
 ·have h3:=h.3
  rw[Tm.gw,Pf.mX]at h3
  have:=OO (List.mem_map.2 ⟨k,hk,rfl⟩:k.sh∈f.kids.map Pf.sh)
  omega
theorem mY.len {s:aV}{f:Pf}(h:mY s f):f.kids.length<=1000:=by
 have h3:=h.3
 rw[Tm.gw,Pf.mX]at h3
 have:=rU (f.kids.map Pf.sh)
 rw[List.length_map]at this
 omega
theorem mY.nd {s:aV}{f:Pf}(h:mY s f):ee s f=true:=by
 have:=h.2;rw[dR,Bool.and_eq_true]at this;exact this.1
theorem mY.val {s:aV}{f:Pf}(h:mY s f):Gw s f.val/\f.val.sz<=80/\mu s f.val=true:=by
 have:=h.nd
 simp only[ee,Bool.and_eq_true]at this
 have h2:=this.1.1
 simp only[mu,Bool.and_eq_true,decide_eq_true_eq,dD]at h2
 exact⟨⟨((Pf.aF f).1 h.1).1,h2.2⟩,af,this.1.1⟩
theorem OP{s:aV}{l:List Tm}(hf:∀t∈l,t.fits)(h:lu s l=true):da s l:=by
 simp only[lu,Bool.and_eq_true,decide_eq_true_eq,List.all_eq_true]at h
 refine⟨h.1,fun t ht=>⟨hf t ht, ?_⟩⟩
 have h2:=h.2 t ht
 simp only[mu,Bool.and_eq_true]at h2
 exact h2.2
theorem mY.env {s:aV}{f:Pf}(h:mY s f):da s f.binds:=by
 have:=h.nd
 simp only[ee,Bool.and_eq_true]at this
 exact OP ((Pf.aF f).1 h.1).2.2.1 this.1.2
structure iV (p:Pg):Prop where
 fin:p.Fin
 is:eX p=true
theorem iV.az {p:Pg}(h:iV p){r:Rl}(hr:r∈p.rules):gD p.sig r=true:=by
 have:=h.is;simp only[eX,Bool.and_eq_true,List.all_eq_true]at this;exact this.2 r hr
structure oG (s:aV) (r:Rl):Prop where
 agZ:0<=r.vars
 ag0:r.vars<=20
 fn0:0<=r.fn
 fn:∃f,s.bR[r.fn.toNat]? =some f/\(r.aZ.length:Int)=f.args
 rhs:eh s r.rhs=true
 small:dJ r.vars r.rhs=true
 aZ:∀p∈r.aZ,eh s p=true/\ig p=true/\(gL p []).2=true/\dJ r.vars p=true
 apart:qu r.rhs (bp (.mk 0 0 r.aZ))=true
 lin:Es r.aZ=true
theorem iV.rl {p:Pg}(h:iV p){r:Rl}(hr:r∈p.rules):oG p.sig r:=by
 have:=h.az hr
 simp only[gD,lb,Bool.and_eq_true,decide_eq_true_eq,List.all_eq_true]at this
 obtain⟨⟨⟨⟨⟨⟨a,b⟩,c⟩,d⟩,e⟩,f⟩,⟨g,h1⟩,h2⟩:=this
 refine⟨c,d,a, ?_,e,h1,fun p hp=> ?_,h2,g⟩
 ·cases hf:p.sig.bR[r.fn.toNat]? with
  |none=>rw[hf]at b;cases b
  |some f=>rw[hf]at b;exact⟨f,rfl,by simpa using b⟩
 ·obtain⟨⟨x,y,z⟩,w⟩:=f p hp
  exact⟨x,z,y,w⟩
theorem jv{s:aV}{t:Tm}(h:eh s t=true):eW s t=true:=by simp only[eh,Bool.and_eq_true]at h;exact h.2
theorem Gx{s:aV}{n:Int}{t:Tm}(h:eW s t=true)(hs:dJ n t=true):∀v,tj v t=true->0<=v/\v<n:=by
 have key:∀t:Tm,eW s t=true->dJ n t=true->∀v,tj v t=true->0<=v/\v<n:=by
  refine Tm.cc fun t ih h hs v hv=> ?_
  rw[dQ,Bool.and_eq_true,List.all_eq_true]at h
  rw[qs,Bool.and_eq_true]at hs
  rw[hZ]at hv
  by_cases h1:t.op=1
  ·rw[if_pos h1]at hv
   have e:t.n=v:=by simpa using hv
   have hn:=h.1
   simp[bz,h1,cF]at hn
   have:=hs.2
   simp[h1]at this
   omega
  ·rw[if_neg h1]at hv
   have:∀ (l:List Tm) (i:Nat),(∀k∈l,k∈t.kids)->gK n l=true->iF v t.op t.n l i=true->0<=v/\v<n:=by
    intro l
    induction l with
    |nil=>intro i _ _ h;simp[iF]at h
    |cons k l nh=>
     intro i hk hs hv
     simp only[gK,Bool.and_eq_true]at hs
     simp only[iF,Bool.or_eq_true,Bool.and_eq_true]at hv
     rcases hv with hv|hv
     ·exact ih k (hk k ao) (h.2 k (hk k ao)) hs.1 v hv.1
     ·exact nh _ (fun x hx=>hk x lW) hs.2 hv
   exact this t.kids 0 (fun _ h=>h) hs.1 hv
 exact key t h hs
theorem oG.OQ {s:aV}{r:Rl}(h:oG s r)(hf:r.rhs.fits){n:Nat}(hn:(n:Int)=r.vars):cy s n r.rhs:=
 ⟨hf,jv h.rhs,fun v hv=>by have:=Gx (jv h.rhs) h.small v hv;omega⟩
end Go.Proofs.YtonbelhklnmjnaaGreat
section
namespace Go.Proofs.YtonbelhklnmjnaaGreat
open Go.ChangeShapes Go.WideShapes Go.RowKit
def wY(P:Program)(rec:TypeId->Option (List TypeId)):Nat->List Field->Option (List TypeId)
 |_,[]=>some []
 |off,f::fs=>if f.offset=off then match rec f.type with
  |some l=>if P.cellsOf f.type=l.length then(wY P rec (off+l.length) fs).map (l++·)else none
  |none=>none else none
def nj(P:Program):Nat->TypeId->Option (List TypeId)
 |0,_=>none
 |n+1,t=>match P.underlying t with
  |some .bool|some (.int _)|some .string|some (.slice _)=>some [t]
  |some (.struct fs)=>wY P (nj P n) 0 fs.toList
  |some (.array k e)=>match nj P n e with
   |some l=>if P.cellsOf e=l.length then some (List.replicate k l).flatten else none
   |none=>none
  |_=>none
def isAgg(P:Program)(t:TypeId):Bool:=match P.underlying t with
 |some (.struct _)|some (.array _ _)=>true
 |_=>false
mutual
def D.jY (P:Program):D->TypeId->Prop
 | .int k n,t=>P.underlying t=some (.int k)/\(Lit.int k n).wf=true
 | .bool _,t=>P.underlying t=some .bool
 | .str l,t=>P.underlying t=some .string/\l.length<=maxLen
 | .sl es,t=>∃e,P.underlying t=some (.slice e)/\es.length<=maxLen/\D.Gy P es e
 | .agg cs,t=>isAgg P t=true/\∃ls,nj P 20 t=some ls/\D.jL P cs ls
 |_,_=>False
def D.Gy (P:Program):List D->TypeId->Prop
 |[],_=>True
 |x::l,e=>D.jY P x e/\D.Gy P l e
def D.jL (P:Program):List D->List TypeId->Prop
 |[],ts=>ts=[]
 |x::l,ts=>∃t r,ts=t::r/\D.jY P x t/\D.jL P l r
end
def va(P:Program)(T:List TypeId):Bool:=T.all fun t=>match nj P 20 t with
 |some l=>decide (l.length=P.cellsOf t)&&decide (0<l.length)&&l.all fun u=>match P.underlying u with
  |some (.slice e)=>T.contains e
  |_=>true
 |none=>false
theorem rV{P:Program}:∀ {xs ys:List D} {l r:List TypeId},D.jL P xs l->D.jL P ys r->D.jL P (xs++ys) (l++r)
 |[],_,_,_,h,h'=>by simp only[D.jL]at h;subst h;exact h'
 |x::xs,_,_,_,h,h'=>by
  obtain⟨t,r,rfl,h1,h2⟩:=h
  exact⟨t,_,rfl,h1,rV h2 h'⟩
theorem bN{B:Nat->Prop}{w:World}:∀ {xs ys:List D} {l r:List Value},D.aP B w xs l->D.aP B w ys r->D.aP B w (xs++ys) (l++r)
 |[],_,_,_,h,h'=>by simp only[D.aP]at h;subst h;exact h'
 |x::xs,_,_,_,h,h'=>by
  obtain⟨t,r,rfl,h1,h2⟩:=h
  exact⟨t,_,rfl,h1,bN h2 h'⟩
theorem Flat.append {l r:List Value}(h:Flat l)(h':Flat r):Flat (l++r):=fun u hu=>(List.mem_append.1 hu).elim (h u) (h' u)
abbrev noB:Nat->Prop:=fun _=>False
section
variable {H:Type}{enc:TypeId×Value->H}{P:Program}{W:World}{T:List TypeId}{b0:Nat}
def dV(P:Program)(W:World)(l:List TypeId)(cs:List Value):Prop:=∃xs,D.jL P xs l/\D.aP noB W xs cs/\Flat cs
theorem dV.append {l r:List TypeId}{cs ds:List Value}(h:dV P W l cs)(h':dV P W r ds):dV P W (l++r) (cs++ds):=by
 obtain⟨xs,a1,a2,a3⟩:=h
 obtain⟨ys,b1,b2,b3⟩:=h'
 exact⟨xs++ys,rV a1 b1,bN a2 b2,a3.append b3⟩
theorem dV.length {l:List TypeId}{cs:List Value}(h:dV P W l cs):cs.length=l.length:=by
 obtain⟨xs,a1,a2,_⟩:=h
 rw[D.aL _ _ a2]
 clear a2
 induction xs generalizing l with
 |nil=>simp only[D.jL]at a1;simp[a1]
 |cons x xs ih=>obtain⟨t,r,rfl,_,h⟩:=a1;simp[ih h]
theorem dV.nil:dV P W [] []:=⟨[],rfl,rfl,fun _ h=>by cases h⟩
theorem Ey{α:Type}(cs:List α)(o k:Nat):cs.drop o=(cs.drop o).take k++cs.drop (o+k):=by
 rw[<- List.drop_drop];exact(List.take_append_drop k _).symm
theorem rW{rec:TypeId->Option (List TypeId)}{cs:List Value}{rd:TypeId->List Value->Prop}
 (bU:∀t l vs,rec t=some l->(∀u∈l,∀e,P.underlying u=some (.slice e)->e∈T)->P.cellsOf t=l.length->rd t vs->dV P W l vs):
 ∀ (fs:List Field) (off:Nat) (l:List TypeId),wY P rec off fs=some l->(∀u∈l,∀e,P.underlying u=some (.slice e)->e∈T)->(∀f∈fs,rd f.type ((cs.drop f.offset).take (P.cellsOf f.type)))->
   off+l.length=cs.length->dV P W l (cs.drop off)
 |[],off,l,h,_,_,hl=>by
  simp only[wY,Option.some.injEq]at h
  subst h
  have:cs.drop off=[]:=List.drop_eq_nil_of_le (by simp at hl;omega)
  rw[this];exact dV.nil
 |f::fs,off,l,h,hT,hr,hl=>by
  simp only[wY]at h
  split at h
  ·rename_i ho
   split at h
   ·rename_i l1 h1
    split at h
    ·rename_i hc
     simp only[Option.map_eq_some_iff]at h
     obtain⟨r,h2,rfl⟩:=h
     have hd:=hr f ao
     rw[ho,hc]at hd
     rw[Ey cs off l1.length]
     simp only[List.length_append]at hl
     exact(bU f.type l1 _ h1 (fun u hu=>hT u (by simp[hu])) hc hd).append (rW bU fs _ r h2 (fun u hu=>hT u (by simp[hu])) (fun f hf=>hr f (by simp[hf])) af)
    ·cases h
   ·cases h
  ·cases h
theorem uf{l:List TypeId}{cs:List Value}:∀ (k i:Nat),(∀j,j<k->dV P W l ((cs.drop ((i+j)*l.length)).take l.length))->(i+k)*l.length=cs.length->dV P W (List.replicate k l).flatten (cs.drop (i*l.length))
 |0,i,_,hl=>by
  have:cs.drop (i*l.length)=[]:=List.drop_eq_nil_of_le (by simp at hl;omega)
  rw[this];exact dV.nil
 |k+1,i,h,hl=>by
  rw[List.replicate_succ,List.flatten_cons,Ey cs (i*l.length) l.length]
  refine(by simpa using h 0 af:dV P W l _).append ?_
  rw[show i*l.length+l.length=(i+1)*l.length by rw[Nat.add_mul];omega]
  refine uf k (i+1) (fun j hj=> ?_) (by rw[<- hl];congr 1;omega)
  have:=h (j+1) af
  rwa [show i+(j+1)=i+1+j by omega]at this
theorem Ez{e:TypeId}{l:List TypeId}{cs:List Value}(hl:nj P 20 e=some l)(h:dV P W l cs):∃ (ev:Value) (x:D),ev.cells.toList=cs/\D.jY P x e/\D.den noB W x ev/\(isAgg P e=true->ev= .agg cs.toArray)/\(isAgg P e=false->cs=[ev]/\ev.oneCell'=true):=by
 obtain⟨xs,h1,h2,h3⟩:=h
 cases ha:isAgg P e with
 |true=>exact⟨.agg cs.toArray, .agg xs,by simp[Value.cells],⟨ha,l,hl,h1⟩,⟨_,rfl,by simpa using h2,by simpa using h3⟩,fun _=>rfl,(fun h=>by cases h)⟩
 |false=>
  have:l=[e]:=by
   unfold nj at hl
   unfold isAgg at ha
   split at hl<;>simp_all
  subst this
  obtain⟨t,r,e1,h4,h5⟩:∃x r,xs=x::r/\D.jY P x e/\D.jL P r []:=by
   cases xs with
   |nil=>simp[D.jL]at h1
   |cons x r=>obtain⟨t,r',e1,h4,h5⟩:=h1;injection e1 with e1 e2;subst e1;subst e2;exact⟨x,r,rfl,h4,h5⟩
  subst e1
  have:r=[]:=by cases r with
   |nil=>rfl
   |cons y r=>obtain⟨_,_,e,_⟩:=h5;cases e
  subst this
  obtain⟨u,us,rfl,h6,h7⟩:=h2
  simp only[D.aP]at h7
  subst h7
  have ho:=h3 u ao
  refine⟨u,t, ?_,h4,h6,(fun h=>by cases h),fun _=>⟨rfl,ho⟩⟩
  cases u<;>simp_all[Value.oneCell',Value.cells]
theorem EA(hp:va P T=true){t:TypeId}(ht:t∈T):∃l,nj P 20 t=some l/\l.length=P.cellsOf t/\0<l.length/\∀u∈l,∀e,P.underlying u=some (.slice e)->e∈T:=by
 have:=List.all_eq_true.1 hp t ht
 split at this
 ·rename_i l hl
  simp only[Bool.and_eq_true,decide_eq_true_eq,List.all_eq_true]at this
  refine⟨l,hl,this.1.1,this.1.2,fun u hu e he=> ?_⟩
  have:=this.2 u hu
  rw[he]at this
  simpa using this
 ·cases this
theorem Gz(hp:va P T=true):∀ (n m:Nat) (t:TypeId) (l:List TypeId) (cs:List Value) (x:DataW H×List MemPlace),nj P m t=some l->(∀u∈l,∀e,P.underlying u=some (.slice e)->e∈T)->
 P.cellsOf t=l.length->DataW.trod enc P W 0 (fun _=>true) true n t cs=some x->dV P W l cs:=by
 intro n
 induction n with
 |zero=>intro m t l cs x _ _ _ h;simp[DataW.trod]at h
 |succ n ih=>
  intro m t l cs x hl hT hc h
  cases m with
  |zero=>simp[nj]at hl
  |succ m=>
  unfold nj at hl
  split at hl
  ·rename_i hu
   injection hl with hl;subst hl
   obtain⟨b,rfl,_⟩:=DataW.trod_bool hu h
   exact⟨[.bool b],⟨t,[],rfl,hu,rfl⟩,⟨_,_,rfl,rfl,rfl⟩,by simp[Flat,Value.oneCell']⟩
  ·rename_i k hu
   injection hl with hl;subst hl
   obtain⟨b,rfl,_,hw⟩:=DataW.trod_int hu h
   exact⟨[.int k b],⟨t,[],rfl,⟨hu,hw⟩,rfl⟩,⟨_,_,rfl,rfl,rfl⟩,by simp[Flat,Value.oneCell']⟩
  ·rename_i hu
   injection hl with hl;subst hl
   obtain⟨s,rfl,_,hw⟩:=DataW.trod_string hu h
   exact⟨[.str s.data.toList],⟨t,[],rfl,⟨hu,by simpa using hw⟩,rfl⟩,⟨_,_,rfl,⟨s,rfl,rfl⟩,rfl⟩,by simp[Flat,Value.oneCell']⟩
  ·rename_i e hu
   injection hl with hl;subst hl
   rcases DataW.trod_slice hu h with⟨rfl,_⟩|⟨a,len,cap,elems,rest,n',hn,rfl,_,_,h2,h3,h4,h5,h6,_⟩
   ·exact⟨[.sl []],⟨t,[],rfl,⟨e,hu,ao,trivial⟩,rfl⟩,⟨_,_,rfl,⟨none,0,0,rfl,rfl,ao,fun _=>rfl,0,(fun a ha=>by cases ha)⟩,rfl⟩,by simp[Flat,Value.oneCell']⟩
   ·injection hn with hn;subst hn
    obtain⟨l',g1,g2,g3,g4⟩:=EA hp (hT t ao e hu)
    have at':∀i,i<len->∃ev:Value,∃y:D,ev.cells.size=P.cellsOf e/\iI noB W (a.add (i*P.cellsOf e)) ev.cells/\D.den noB W y ev/\D.jY P y e:=by
     intro i hi
     have:=h5 i hi
     rw[List.getElem?_eq_getElem (by omega)]at this
     obtain⟨ci,k1,k2⟩:=Option.bind_eq_some_iff.1 this
     obtain⟨_,k3,k4⟩:=World.cells?_some k1
     have k5:=ih 20 e l' ci _ g1 g4 g2.symm k2
     obtain⟨ev,y,q1,q2,q3,_,_⟩:=Ez g1 k5
     have q4:ev.cells=ci.toArray:=by rw[<- q1]
     refine⟨ev,y,by rw[q4];simp[k5.length,g2],fun j u hj=>⟨?_,fun h=>h⟩,q3,q2⟩
     rw[q4]at hj
     have La:ci[j]? =some u:=by simpa using hj
     have cD:j<P.cellsOf e:=by rw[<- g2, <- k5.length];exact(List.getElem?_eq_some_iff.1 La).1
     rw[k4 j cD];exact La
    have list:∀k i,i+k=len->∃es,es.length=k/\D.Gy P es e/\D.elems noB W (P.cellsOf e) a i es:=by
     intro k
     induction k with
     |zero=>intro i _;exact⟨[],rfl,trivial,trivial⟩
     |succ k ihk=>
      intro i hi
      obtain⟨es,e1,e2,e3⟩:=ihk (i+1) af
      obtain⟨ev,y,y1,y2,y3,y4⟩:=at' i af
      exact⟨y::es,by simp[e1],⟨y4,e2⟩,⟨ev,y1,y2,y3⟩,e3⟩
    obtain⟨es,e1,e2,e3⟩:=list len 0 af
    have ag3:cap≠0->a.spot=none:=by
     intro fZ
     have W2:∀z,(W.cells? 0 (a.add (0*P.cellsOf e)) (P.cellsOf e)).bind (DataW.trod enc P W 0 (fun _=>true) true n e)=some z->a.spot=none:=by
      intro z hz
      obtain⟨ci,k1,k2⟩:=Option.bind_eq_some_iff.1 hz
      obtain⟨_,k3,k4⟩:=World.cells?_some k1
      have k5:=k4 0 af
      rw[List.getElem?_eq_getElem (by omega)]at k5
      simpa[Addr.add]using World.cell?_spot k5
     by_cases hlen:0<len
     ·have:=h5 0 hlen
      rw[List.getElem?_eq_getElem (by omega)]at this
      exact W2 _ this
     ·obtain⟨h7,h8⟩:=h6 rfl
      have:=h8 0 af
      rw[List.getElem?_eq_getElem (by omega),show(len+0)=0 by omega]at this
      exact W2 _ this
    exact⟨[.sl es],⟨t,[],rfl,⟨e,hu,af,e2⟩,rfl⟩,⟨_,_,rfl,⟨some a,len,cap,rfl,e1.symm,h2,(fun h=>by cases h),P.cellsOf e,(fun a' R3=>by injection R3 with R3;subst R3;exact⟨ag3,e3⟩)⟩,rfl⟩,by simp[Flat,Value.oneCell']⟩
  ·rename_i fs hu
   obtain⟨xs,n',hn,_,h2,h3,h4⟩:=DataW.trod_struct hu h
   injection hn with hn;subst hn
   have:=rW (P:=P) (W:=W) (T:=T) (cs:=cs) (rd:=fun t vs=>∃y,DataW.trod enc P W 0 (fun _=>true) true n t vs=some y) (rec:=nj P m) (fun t l vs q1 q2 q3 ⟨y,q4⟩=>ih m t l vs y q1 q2 q3 q4) fs.toList 0 l hl hT ?_ af
   ·simpa using this
   ·intro f hf
    obtain⟨i,hi,hfi⟩:=List.getElem_of_mem hf
    have:=h4 i f (by simp at hi;simp[<- hfi,Array.getElem?_eq_getElem hi])
    rw[List.getElem?_eq_getElem (by simp at hi;omega)]at this
    exact⟨_,this⟩
  ·rename_i k e hu
   split at hl
   ·rename_i l' jZ
    split at hl
    ·rename_i hce
     injection hl with hl;subst hl
     obtain⟨xs,n',hn,_,h2,h3,h4⟩:=DataW.trod_array hu h
     injection hn with hn;subst hn
     have hlen:cs.length=k*l'.length:=by rw[h2,hc];simp
     have hT':0<k->∀u∈l',∀e,P.underlying u=some (.slice e)->e∈T:=fun hk u hu=>hT u (List.mem_flatten.2 ⟨l',List.mem_replicate.2 ⟨af,rfl⟩,hu⟩)
     have:=uf (P:=P) (W:=W) (l:=l') (cs:=cs) k 0 (fun j hj=> ?_) (by rw[hlen];simp)
     ·simpa using this
     ·have:=h4 j hj
      rw[hce,List.getElem?_eq_getElem (by omega)]at this
      rw[Nat.zero_add]
      exact ih m e l' _ _ jZ (hT' af) hce this
    ·cases hl
   ·cases hl
  ·cases hl
theorem Ae(hp:va P T=true):∀ (ts:List TypeId) (vs:List Value) (ds:List (DataW H)) (p:List MemPlace),(∀t∈ts,t∈T)->DataW.TrodAll enc P W 0 (fun _=>true) true ts vs ds p->
 (∀ (j:Nat) t v,ts[j]? =some t->vs[j]? =some v->Value.okWide P W .any b0 t v)->∃xs,D.jL P xs ts/\D.aP noB W xs vs
 |[],vs,ds,p,_,h,_=>by
  obtain⟨rfl,rfl,rfl⟩:=trodAll_nil h
  exact⟨[],rfl,rfl⟩
 |t::ts,vs,ds,p,hT,h,hv=>by
  obtain⟨v,vs',d,ds',p1,q1,rfl,rfl,rfl,⟨n,h1⟩,h2⟩:=trodAll_cons h
  obtain⟨xs,a1,a2⟩:=Ae hp ts vs' ds' q1 (fun t ht=>hT t (by simp[ht])) h2 (fun j t v h1 h2=>hv (j+1) t v (by simpa using h1) qD)
  obtain⟨l,g1,g2,g3,g4⟩:=EA hp (hT t ao)
  obtain⟨ev,x,q1,q2,q3,q4,q5⟩:=Ez g1 (Gz hp n 20 t l _ _ g1 g4 g2.symm h1)
  have bw:=hv 0 t v rfl rfl
  have:ev=v:=by
   cases ha:isAgg P t with
   |true=>
    have:∃cs,v= .agg cs:=by
     unfold isAgg at ha
     unfold Value.okWide at bw
     split at ha
     ·rename_i hu;rw[hu]at bw;obtain⟨cs,rfl,_⟩:=bw;exact⟨cs,rfl⟩
     ·rename_i hu;rw[hu]at bw;obtain⟨cs,rfl,_⟩:=bw;exact⟨cs,rfl⟩
     ·cases ha
    obtain⟨cs,rfl⟩:=this
    rw[q4 ha]
    simp[Value.cells]
   |false=>
    obtain⟨q6,q7⟩:=q5 ha
    cases v with
    |agg cs=>
     exfalso
     unfold isAgg at ha
     unfold Value.okWide at bw
     split at bw
     ·rename_i hu;rw[hu]at ha;cases ha
     ·rename_i hu;rw[hu]at ha;cases ha
     ·unfold Cell.okWide at bw
      split at bw
      case h_8=>
       unfold Cell.ok at bw
       split at bw<;>first|exact bw|contradiction
      all_goals contradiction
    |_=>simp only[Value.cells,List.cons.injEq,and_true]at q6;exact q6.symm
  subst this
  exact⟨x::xs,⟨t,ts,rfl,q2,a1⟩,⟨_,_,rfl,q3,a2⟩⟩
theorem fg.below {w w':World}(h:fg (fun _=>False) w w'):Below w.heap.size w w':=⟨h.os,h.tape,h.output,h.size,fun k hk=>h.block k hk (fun h=>h)⟩
theorem Af(hl:laidOutB P=true){W':World}{sp:Nat->Bool}:∀ {ts:List TypeId} {vs:List Value} {ds:List (DataW H)} {p:List MemPlace},(∀t∈ts,P.readableRec t=true/\t<P.types.size)->DataW.TrodAll enc P W 0 (fun _=>true) true ts vs ds p->
 (∀x∈p,W.sameAt W' x/\sp x.block=true)->DataW.TrodAll enc P W' 0 sp true ts vs ds p
 |[],vs,ds,p,_,h,_=>by
  obtain⟨rfl,rfl,rfl⟩:=trodAll_nil h
  exact trodAll_mk0
 |t::ts,vs,ds,p,hr,h,hs=>by
  obtain⟨v,vs',d,ds',p1,q1,rfl,rfl,rfl,h1,h2⟩:=trodAll_cons h
  exact⟨p1,q1,WideElems.Trod_stays hl (hr t ao).1 (hr t ao).2 h1 (fun x hx=>(hs x lW).1) (fun x hx=>(hs x lW).2),Af hl (fun t ht=>hr t (by simp[ht])) h2 (fun x hx=>hs x lW),rfl⟩
theorem OR{sp:Nat->Bool}:∀ {ts:List TypeId} {vs:List Value} {ds:List (DataW H)} {ps:List MemPlace},DataW.TrodAll enc P W 0 sp true ts vs ds ps->ds.length=ts.length
 |[],_,_,_,h=>by obtain⟨_,rfl,_⟩:=trodAll_nil h;rfl
 |_::_,_,_,_,h=>by
  obtain⟨_,_,_,_,_,_,_,rfl,_,_,h2⟩:=trodAll_cons h
  simp[OR h2]
theorem BU{f:FuncId}{fn:Func}{s:ChangeSpec}{tb:TypeId}{fresh handsOn again:Bool}(Db:fn.resultTypes=#[tb])(I4:P.underlying tb=some .bool)(W3:s.vars=[])
 (OS:∀ds:List (DataW H),ds.length=fn.params.toList.length->s.fn H ds={results:=[.lit (.bool true)],args:=ds}) (hp:va P T=true) (hT:∀t∈fn.params.toList,t∈T) (hl:laidOutB P=true)
 (hr:∀t∈fn.params.toList,P.readableRec t=true/\t<P.types.size) (law:∀xs,D.jL P xs fn.params.toList->aQ P f xs (.ret [.bool true]))
 (base:Nat) (args:Array Value) (ds gs:List (DataW H)) (before:List MemPlace)
 (gG:∀ (j:Nat) t v,fn.params[j]? =some t->args[j]? =some v->Value.okWide P W .any base t v) (hW:DataW.Whole enc P fn.params.toList s.vars false W args.toList ds gs before):
 Calls P f args W fun e W'=>∃v,e= .returned v/\s.post enc P fn false fresh handsOn again W args v W':=by
 have hW':=hW
 obtain⟨p,q,hA,hV,rfl,hfz,hnd⟩:=hW
 rw[W3]at hV
 obtain⟨rfl,rfl⟩:=trodVars_none hV
 obtain⟨xs,a1,a2⟩:=Ae (b0:=base) hp fn.params.toList args.toList ds p hT hA (fun j t v h1 h2=>gG j t v (by simpa using h1) qD)
 refine((law xs a1).2 noB W args (fun _ h=>h.elim) a2).mono fun e W' ⟨hk,ho⟩=> ?_
 have hb:=hk.below
 cases e with
 |panicked ch=>exact ho.elim
 |outgrown=>exact ho.elim
 |returned v=>
  simp only[R.is,D.den]at ho
  subst ho
  refine⟨_,rfl, ?_⟩
  have hlen:ds.length=fn.params.toList.length:=(OR hA)
  have hold:∀x∈p,x.block<W.heap.size:=fun x hx=>by simpa using hW'.lt x yF
  have eL:∀sp:Nat->Bool,(∀x∈p,sp x.block=true)->DataW.TrodAll enc P W' 0 sp true fn.params.toList args.toList ds p:=fun sp vF=>Af hl hr hA fun x hx=>⟨hb.same (hold x hx),vF x hx⟩
  have W4:∀ (b:Nat) (sp:Nat->Bool) (hd:Bool),DataW.TrodAll enc P W' b sp hd fn.resultTypes.toList ((Value.bool true).resultList fn.resultTypes.size) [.lit (.bool true)] []:=fun b sp hd=>by
   rw[Db]
   exact trodAll_cons_mk (p:=[]) (p':=[]) ⟨1,by simp[DataW.trod,Value.cells,I4]⟩ trodAll_mk0
  have OT:∀sp:Nat->Bool,DataW.TrodVars enc P W' sp s.vars [] []:=fun sp=>by rw[W3];rfl
  refine⟨ds,[],p++[],[],p,[],hW', ?_, ?_, ?_,World.keptBut_mono (fun _ h=>h.elim) (hb.frame (fun _=>False)),fun _=>⟨?_,[.lit (.bool true)]++ds,[],([]++p)++[],⟨[]++p,[],trodAll_append (eL _ fun _ _=>rfl) (W4 0 (fun _=>true) true),OT _,rfl, ?_,(fun h=>by cases h)⟩,fun x hx _=>by simpa using hx⟩⟩
  ·rw[List.append_nil,OS ds hlen];exact W4 _ _ _
  ·rw[List.append_nil,OS ds hlen];exact eL _ fun x hx=>by simpa using hold x hx
  ·rw[List.append_nil,OS ds hlen];exact OT _
  ·intro j t r h1 h2
   rw[Db]at h1 h2
   match j,h1,h2 with
   |0,h1,h2=>
    simp[Value.resultList]at h1 h2
    subst h1;subst h2
    simp[Value.okWide,I4,Cell.okWide,Cell.ok]
  ·intro b off hx
   rw[hb.frozen (by simpa[MemPlace.block]using hold _ (by simpa using hx))]
   exact hfz b off yF
end
section
variable {P:Program}{t e:TypeId}{x:D}
theorem wZ{k:IntKind}(ht:P.underlying t=some (.int k))(h:D.jY P x t):∃n,x= .int k n/\(Lit.int k n).wf=true:=by
 cases x<;>simp only[D.jY]at h
 case int k' n=>
  rw[ht]at h
  obtain⟨h1,h2⟩:=h
  injection h1 with h1;injection h1 with h1;subst h1
  exact⟨n,rfl,h2⟩
 case bool=>rw[ht]at h;cases h
 case str=>rw[ht]at h;cases h.1
 case sl=>obtain⟨e,h,_⟩:=h;rw[ht]at h;cases h
 case agg=>have:=h.1;unfold isAgg at this;rw[ht]at this;cases this
theorem OU(ht:P.underlying t=some .string)(h:D.jY P x t):∃l,x= .str l/\l.length<=maxLen:=by
 cases x<;>simp only[D.jY]at h
 case int k' n=>rw[ht]at h;cases h.1
 case bool b=>rw[ht]at h;cases h
 case str l=>exact⟨l,rfl,h.2⟩
 case sl=>obtain⟨e,h,_⟩:=h;rw[ht]at h;cases h
 case agg=>have:=h.1;unfold isAgg at this;rw[ht]at this;cases this
theorem pj(ht:P.underlying t=some (.slice e))(h:D.jY P x t):∃es,x= .sl es/\es.length<=maxLen/\D.Gy P es e:=by
 cases x<;>simp only[D.jY]at h
 case int k' n=>rw[ht]at h;cases h.1
 case bool b=>rw[ht]at h;cases h
 case str l=>rw[ht]at h;cases h.1
 case sl es=>
  obtain⟨e',h,h2,h3⟩:=h
  rw[ht]at h;injection h with h;injection h with h;subst h
  exact⟨es,rfl,h2,h3⟩
 case agg=>have:=h.1;unfold isAgg at this;rw[ht]at this;cases this
theorem oH{ls:List TypeId}(ha:isAgg P t=true)(hl:nj P 20 t=some ls)(h:D.jY P x t):∃cs,x= .agg cs/\D.jL P cs ls:=by
 have no:∀u,P.underlying t=some u->(∀fs,u≠ .struct fs)->(∀k e,u≠ .array k e)->False:=by
  intro u hu h1 h2
  unfold isAgg at ha
  rw[hu]at ha
  split at ha
  ·rename_i e;injection e with e;exact h1 _ e
  ·rename_i e;injection e with e;exact h2 _ _ e
  ·cases ha
 cases x<;>simp only[D.jY]at h
 case int k' n=>exact(no _ h.1 (fun _ h=>by cases h) (fun _ _ h=>by cases h)).elim
 case bool b=>exact(no _ h (fun _ h=>by cases h) (fun _ _ h=>by cases h)).elim
 case str l=>exact(no _ h.1 (fun _ h=>by cases h) (fun _ _ h=>by cases h)).elim
 case sl es=>obtain⟨e',h,_⟩:=h;exact(no _ h (fun _ h=>by cases h) (fun _ _ h=>by cases h)).elim
 case agg cs=>
  obtain⟨_,ls',h1,h2⟩:=h
  rw[hl]at h1;injection h1 with h1;subst h1
  exact⟨cs,rfl,h2⟩
theorem bA{t:TypeId}{ts:List TypeId}{cs:List D}(h:D.jL P cs (t::ts)):∃x xs,cs=x::xs/\D.jY P x t/\D.jL P xs ts:=by
 cases cs with
 |nil=>simp[D.jL]at h
 |cons x xs=>obtain⟨_,_,e,h1,h2⟩:=h;injection e with e1 e2;subst e1;subst e2;exact⟨x,xs,rfl,h1,h2⟩
theorem kB{cs:List D}(h:D.jL P cs []):cs=[]:=by
 cases cs with
 |nil=>rfl
 |cons x xs=>obtain⟨_,_,e,_⟩:=h;cases e
theorem oI{α:Type}{f:α->D}{q:α->Prop}(hf:∀x,D.jY P x e->∃a,x=f a/\q a):∀ (es:List D),D.Gy P es e->∃l:List α,es=l.map f/\∀a∈l,q a
 |[],_=>⟨[],rfl,fun _ h=>by cases h⟩
 |x::es,h=>by
  obtain⟨a,rfl,h1⟩:=hf x h.1
  obtain⟨l,rfl,h2⟩:=oI hf es h.2
  exact⟨a::l,rfl,fun b hb=>(List.mem_cons.1 hb).elim (fun e=>e ▸ h1) (h2 b)⟩
end
end Go.Proofs.YtonbelhklnmjnaaGreat
end
section
namespace Go.Proofs.YtonbelhklnmjnaaGreat
open Go.ChangeShapes Go.WideShapes Go.RowKit
theorem mn:maxLen<=9223372036854775807:=bG
theorem w7{x:D}(h:D.jY Tryz.prog x 3):∃n:Int,x= .i n:=by
 obtain⟨n,h,_⟩:=wZ undT_3 h
 exact⟨n,h⟩
theorem abd{x:D}(h:D.jY Tryz.prog x 29):∃n:Int,x= .i n:=by
 obtain⟨n,h,_⟩:=wZ undT_29 h
 exact⟨n,h⟩
theorem ag4{x:D}(h:D.jY Tryz.prog x 104):∃r:ki,x=r.d/\r.name.length<=9223372036854775807:=by
 obtain⟨cs,rfl,hh⟩:=oH ag (ls:=[9,3]) ag h
 clear h;have h:=hh;clear hh
 obtain⟨a,cs,rfl,ha,h⟩:=bA h
 obtain⟨b,cs,rfl,hb,h⟩:=bA h
 have:=kB h;subst this
 obtain⟨l,rfl,hl⟩:=OU ag ha
 obtain⟨n,rfl⟩:=w7 hb
 exact⟨⟨l,n⟩,rfl,by have:=mn;simp only;omega⟩
theorem OV:∀ (n:Nat) (x:D),SizeOf.sizeOf x<=n->D.jY Tryz.prog x 31->∃t:Tm,x=t.d/\t.fits:=by
 intro n
 induction n with
 |zero=>intro x hx _;cases x<;>simp at hx
 |succ n ih=>
  intro x hx h
  obtain⟨cs,rfl,hh⟩:=oH ag (ls:=[29,3,28]) ag h
  clear h;have h:=hh;clear hh
  obtain⟨a,cs,rfl,ha,h⟩:=bA h
  obtain⟨b,cs,rfl,hb,h⟩:=bA h
  obtain⟨c,cs,rfl,hc,h⟩:=bA h
  have:=kB h;subst this
  obtain⟨o,rfl⟩:=abd ha
  obtain⟨m,rfl⟩:=w7 hb
  obtain⟨es,rfl,h1,h2⟩:=pj undT_28 hc
  have E1:SizeOf.sizeOf es<=n:=by simp at hx;omega
  have:∀es:List D,SizeOf.sizeOf es<=n->D.Gy Tryz.prog es 31->∃l:List Tm,es=l.map Tm.d/\∀k∈l,k.fits:=by
   intro es
   induction es with
   |nil=>intro _ _;exact⟨[],rfl,fun _ h=>by cases h⟩
   |cons y es ihe=>
    exact TV
  obtain⟨l,rfl,hl⟩:=this es E1 h2
  refine⟨.mk o m l,by rw[Tm.jS], ?_⟩
  rw[Tm.aF]
  exact⟨by have:=mn;simp at h1;simp only[Tm.kids];omega,hl⟩
theorem abe{x:D}(h:D.jY Tryz.prog x 31):∃t:Tm,x=t.d/\t.fits:=OV _ x (Nat.le_refl _) h
end Go.Proofs.YtonbelhklnmjnaaGreat
end
section
namespace Go.Proofs.YtonbelhklnmjnaaGreat
open Go.ChangeShapes Go.WideShapes Go.RowKit
theorem EB{x:D}(h:D.jY Tryz.prog x 28):∃l:List Tm,x= .sl (l.map Tm.d)/\l.length<=9223372036854775807/\∀t∈l,t.fits:=by
 obtain⟨es,rfl,h1,h2⟩:=pj undT_28 h
 obtain⟨l,rfl,hl⟩:=oI (fun x h=>abe h) es h2
 have:=mn
 exact⟨l,rfl,by simp at h1;omega,hl⟩
structure Rl.Fits (r:Rl):Prop where
 aZ:r.aZ.length<=9223372036854775807
 all:∀t∈r.aZ,t.fits
 rhs:r.rhs.fits
theorem ajk{x:D}(h:D.jY Tryz.prog x 106):∃r:Rl,x=r.d/\r.Fits:=by
 obtain⟨cs,rfl,hh⟩:=oH ag (ls:=[3,28,29,3,28,3]) ag h
 clear h;have h:=hh;clear hh
 obtain⟨a,cs,rfl,ha,h⟩:=bA h
 obtain⟨b,cs,rfl,hb,h⟩:=bA h
 obtain⟨c,cs,rfl,hc,h⟩:=bA h
 obtain⟨d,cs,rfl,hd,h⟩:=bA h
 obtain⟨e,cs,rfl,he,h⟩:=bA h
 obtain⟨f,cs,rfl,hf,h⟩:=bA h
 have:=kB h;subst this
 obtain⟨m,rfl⟩:=w7 ha
 obtain⟨l,rfl,l1,l2⟩:=EB hb
 obtain⟨o,rfl⟩:=abd hc
 obtain⟨n,rfl⟩:=w7 hd
 obtain⟨k,rfl,k1,k2⟩:=EB he
 obtain⟨v,rfl⟩:=w7 hf
 exact⟨⟨m,l, .mk o n k,v⟩,rfl,⟨l1,l2,(Tm.aF _).2 ⟨k1,k2⟩⟩⟩
structure Pg.Fits (p:Pg):Prop where
 sig:p.sig.Fits
 len:p.rules.length<=9223372036854775807
 all:∀r∈p.rules,r.Fits
theorem ajl{x:D}(h:D.jY Tryz.prog x 27):∃p:Pg,x=p.d/\p.Fits:=by
 obtain⟨cs,rfl,hh⟩:=oH ag (ls:=[22,22,25]) ag h
 clear h;have h:=hh;clear hh
 obtain⟨a,cs,rfl,ha,h⟩:=bA h
 obtain⟨b,cs,rfl,hb,h⟩:=bA h
 obtain⟨c,cs,rfl,hc,h⟩:=bA h
 have:=kB h;subst this
 obtain⟨es,rfl,h1,h2⟩:=pj undT_22 ha
 obtain⟨l,rfl,hl⟩:=oI (fun x h=>ag4 h) es h2
 obtain⟨es',rfl,h3,h4⟩:=pj undT_22 hb
 obtain⟨l',rfl,jZ⟩:=oI (fun x h=>ag4 h) es' h4
 obtain⟨es2,rfl,h5,h6⟩:=pj (e:=106) ag hc
 obtain⟨q,rfl,hq⟩:=oI (fun x h=>ajk h) es2 h6
 have:=mn
 exact⟨⟨⟨l,l'⟩,q⟩,rfl,⟨⟨by simp at h1;simp only;omega,by simp at h3;simp only;omega,hl,jZ⟩,by simp at h5;simp only;omega,hq⟩⟩
end Go.Proofs.YtonbelhklnmjnaaGreat
end
namespace Go.Proofs.YtonbelhklnmjnaaGreat
def ft(l:List Tm):Bool:=decide (l.length<=6)&&l.all iO
def gN(p:Pg):Bool:=(jr p.sig&&decide (p.rules.length<=20))&&p.rules.all fun r=>ft r.aZ&&iO r.rhs
theorem Ag{p:Pg}(hf:p.Fits)(h:gN p=true):p.Fin/\Ir p:=by
 simp only[gN,ft,Bool.and_eq_true,decide_eq_true_eq,List.all_eq_true,qn]at h
 obtain⟨_,h⟩:=h
 refine⟨⟨hf.sig,hf.len,fun r hr=> ?_⟩,fun r hr=> ?_⟩
 ·obtain⟨⟨a,b⟩,c⟩:=h r hr
  have AV:=hf.all r hr
  exact⟨af,fun t ht=>⟨AV.all t ht,by have:=(b t ht).2;omega⟩,⟨AV.rhs,by have:=c.2;omega⟩⟩
 ·obtain⟨⟨a,b⟩,c⟩:=h r hr
  exact⟨a,fun t ht=>(b t ht).1,c.1⟩
end Go.Proofs.YtonbelhklnmjnaaGreat
