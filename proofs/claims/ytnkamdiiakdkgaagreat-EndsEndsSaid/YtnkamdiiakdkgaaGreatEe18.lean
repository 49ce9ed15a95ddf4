/-
  A PART. Conditions: none.
-/
import Derived.Shelf.Sort.Plain
import Derived.Shelf.Slices.In.SortNone
import Derived.Shelf.Slices.CompactI
import Derived.Test.YtnkamdiiakdkgaaGreatEe17
set_option linter.unusedSimpArgs false
set_option linter.unusedVariables false
set_option maxHeartbeats 8000000
namespace Go.Proofs.YtnkamdiiakdkgaaGreat
theorem Te(m:List (Int×Int)):∀ (t:Tm) (pO:List Int),Cs m t pO=true↔∀v,HE v t=true->iy m v=0\/v∈pO:=by
 refine Tm.eJ fun t ih pO=> ?_
 have key:∀ (l:List Tm) (i:Nat),(∀k∈l,k∈t.kids)->(sE m t.op t.n l i pO=true↔∀v,sF v t.op t.n l i=true->iy m v=0\/v∈pO):=by
  intro l
  induction l with
  |nil=>intro i _;simp[sE,sF]
  |cons k l xP=>
   intro i hk
   have h1:=ih k (hk k aJ) (if t.op=8/\i=1 then pO++[t.n]else pO)
   have h2:=xP (i+1) (fun x hx=>hk x oh)
   simp only[sE,sF,Bool.and_eq_true,h1,h2,Bool.or_eq_true]
   by_cases hc:t.op=8/\i=1
   ·simp only[hc,and_self,if_true,List.mem_append,List.mem_singleton]
    constructor
    ·rintro⟨a,b⟩ v (⟨c,d⟩|c)
     ·rcases a v c with e|e|e
      ·exact .inl e
      ·exact .inr e
      ·subst e;simp at d
     ·exact b v c
    ·intro a
     refine⟨fun v c=> ?_,fun v c=>a v (.inr c)⟩
     by_cases e:v=t.n
     ·exact .inr (.inr e)
     ·rcases a v (.inl ⟨c,by simp;exact fun e2=>e e2.symm⟩)with g|g
      ·exact .inl g
      ·exact .inr (.inl g)
   ·have hb:(t.op==8&&i==1)=false:=by
     cases h:(t.op==8&&i==1)with
     |false=>rfl
     |true=>simp at h;exact absurd h hc
    simp only[hc,if_false,hb,Bool.false_and,Bool.not_false,and_true]
    constructor
    ·rintro⟨a,b⟩ v (c|c)
     ·exact a v c
     ·exact b v c
    ·intro a
     exact⟨fun v c=>a v (.inl c),fun v c=>a v (.inr c)⟩
 rw[JR]
 by_cases h:t.op=1
 ·rw[if_pos h]
  simp only[x6,h,if_true]
  simp
 ·rw[if_neg h,key t.kids 0 (fun _ h=>h)]
  simp only[x6,h,if_false]
theorem L5(s:cB)(r:Rl)(h1:(pP r.aC).length<=1000000)(h2:(pP [r.rhs]).length<=1000000):fG s r=true↔nM s r=true/\
 (∀v,0<lA 1 v (pP r.aC)->lA 1 v (pP r.aC)<=1/\v<r.vars)/\(∀v,0<lA 1 v (pP [r.rhs])->v<r.vars)/\
 (∀v,0<lA 8 v (pP [r.rhs])->lA 8 v (pP [r.rhs])<=1/\v<r.vars/\lA 1 v (pP r.aC)=0)/\(∀v,HE v r.rhs=true->lA 8 v (pP [r.rhs])=0):=by
 unfold fG
 simp only[Bool.and_eq_true,x7 1 r.aC h1,x7 1 [r.rhs] h2,x7 8 [r.rhs] h2,Te,E7 1 r.aC h1,E7 8 [r.rhs] h2,decide_eq_true_eq]
 constructor
 ·rintro⟨⟨⟨⟨a,b⟩,c⟩,d⟩,e⟩
  refine⟨a,fun v hv=> ?_,c,fun v hv=> ?_,fun v hv=> ?_⟩
  ·have:=b v hv;omega
  ·have:=d v hv;omega
  ·rcases e v hv with g|g
   ·omega
   ·cases g
 ·rintro⟨a,b,c,d,e⟩
  refine⟨⟨⟨⟨a,fun v hv=> ?_⟩,c⟩,fun v hv=> ?_⟩,fun v hv=> .inl ?_⟩
  ·have:=b v hv;omega
  ·have:=d v hv;omega
  ·have:=e v hv;omega
def lh:List Int->Int->List Int
 |[],n=>[n]
 |x::l,n=>if x<n then x::lh l n else if x=n then x::l else n::x::l
def nB(op n:Int)(i:Nat)(l out:List Int):List Int:=l.foldl (fun out v=>if(op !=8||(i:Int)!=1||v !=n)=true then lh out v else out) out
mutual
def cl:Tm->List Int
 | .mk op n kids=>if op=1 then [n]else jT op n kids 0 []
def jT(op n:Int):List Tm->Nat->List Int->List Int
 |[],_,out=>out
 |k::l,i,out=>jT op n l (i+1) (nB op n i (cl k) out)
end
theorem o9(t:Tm):cl t=if t.op=1 then [t.n]else jT t.op t.n t.kids 0 []:=by cases t;rfl
theorem sG:∀ (l:List Int) (n v:Int),v∈lh l n↔v∈l\/v=n
 |[],n,v=>by simp[lh]
 |x::l,n,v=>by
  simp only[lh]
  split
  ·simp only[List.mem_cons,sG l n v];constructor
   ·rintro(h|h|h)
    ·exact .inl (.inl h)
    ·exact .inl (.inr h)
    ·exact .inr h
   ·rintro((h|h)|h)
    ·exact .inl h
    ·exact .inr (.inl h)
    ·exact .inr (.inr h)
  ·split
   ·rename_i h;subst h;simp only[List.mem_cons];constructor
    ·exact .inl
    ·rintro(h|h)
     ·exact h
     ·exact .inl h
   ·simp only[List.mem_cons];constructor
    ·rintro(h|h)
     ·exact .inr h
     ·exact .inl h
    ·rintro(h|h)
     ·exact .inr h
     ·exact .inl h
abbrev Inc(l:List Int):Prop:=l.Pairwise (· <·)
theorem E8:∀ {l:List Int} (n:Int),Inc l->Inc (lh l n)
 |[],n,_=>by simp[lh]
 |x::l,n,h=>by
  have h1:=List.pairwise_cons.1 h
  simp only[lh]
  split
  ·rename_i hx
   refine List.pairwise_cons.2 ⟨fun y hy=> ?_,E8 n h1.2⟩
   rcases(sG l n y).1 hy with hy|hy
   ·exact h1.1 y hy
   ·omega
  ·split
   ·exact h
   ·refine List.pairwise_cons.2 ⟨fun y hy=> ?_,h⟩
    rcases List.mem_cons.1 hy with hy|hy
    ·omega
    ·have:=h1.1 y hy;omega
theorem ub(op n:Int)(i:Nat):∀ (l out:List Int),Inc out->Inc (nB op n i l out)/\∀v,v∈nB op n i l out↔v∈out\/(v∈l/\ ¬ (op=8/\i=1/\n=v))
 |[],out,h=>⟨h,fun v=>by simp[nB]⟩
 |x::l,out,h=>by
  have hk:nB op n i (x::l) out=nB op n i l (if(op !=8||(i:Int)!=1||x !=n)=true then lh out x else out):=rfl
  rw[hk]
  by_cases hc:(op !=8||(i:Int)!=1||x !=n)=true
  ·rw[if_pos hc]
   have ih:=ub op n i l (lh out x) (E8 x h)
   refine⟨ih.1,fun v=> ?_⟩
   rw[ih.2 v,sG,List.mem_cons]
   have uE: ¬ (op=8/\i=1/\n=x):=by
    rintro⟨h1,h2,h3⟩;subst h1;subst h2;subst h3;simp at hc
   constructor
   ·rintro((h|h)|h)
    ·exact .inl h
    ·subst h;exact .inr ⟨.inl rfl,uE⟩
    ·exact .inr ⟨.inr h.1,h.2⟩
   ·rintro(h|⟨h|h,h2⟩)
    ·exact .inl (.inl h)
    ·exact .inl (.inr h)
    ·exact .inr ⟨h,h2⟩
  ·rw[if_neg hc]
   have ih:=ub op n i l out h
   refine⟨ih.1,fun v=> ?_⟩
   rw[ih.2 v,List.mem_cons]
   have uE:op=8/\i=1/\n=x:=by simp at hc;exact⟨hc.1.1,ae,hc.2.symm⟩
   constructor
   ·rintro(h|h)
    ·exact .inl h
    ·exact .inr ⟨.inr h.1,h.2⟩
   ·rintro(h|⟨h|h,h2⟩)
    ·exact .inl h
    ·subst h;exact absurd uE h2
    ·exact .inr ⟨h,h2⟩
theorem lj:∀t:Tm,Inc (cl t)/\∀v,v∈cl t↔HE v t=true:=by
 refine Tm.eJ fun t ih=> ?_
 have hs:∀ (l:List Tm) (i:Nat) (out:List Int),(∀k∈l,k∈t.kids)->Inc out->Inc (jT t.op t.n l i out)/\∀v,v∈jT t.op t.n l i out↔v∈out\/sF v t.op t.n l i=true:=by
  intro l
  induction l with
  |nil=>intro i out _ h;exact⟨h,fun v=>by simp[jT,sF]⟩
  |cons k l xP=>
   intro i out hk h
   have h1:=ih k (hk k aJ)
   have h2:=ub t.op t.n i (cl k) out h
   have h3:=xP (i+1) _ (fun x hx=>hk x oh) h2.1
   refine⟨h3.1,fun v=> ?_⟩
   show v∈jT t.op t.n l (i+1) (nB t.op t.n i (cl k) out)↔_
   rw[h3.2 v,h2.2 v,h1.2 v,sF]
   simp only[Bool.or_eq_true,Bool.and_eq_true,Bool.not_eq_true',Bool.and_eq_false_iff,beq_eq_false_iff_ne,ne_eq,not_and]
   have:(∀ (_:t.op=8) (_:i=1), ¬t.n=v)↔((¬t.op=8\/ ¬i=1)\/ ¬t.n=v):=by
    constructor
    ·intro h
     by_cases c1:t.op=8
     ·by_cases c2:i=1
      ·exact .inr (h c1 c2)
      ·exact .inl (.inr c2)
     ·exact .inl (.inl c1)
    ·rintro((h|h)|h) c1 c2
     ·exact absurd c1 h
     ·exact absurd c2 h
     ·exact h
   rw[this]
   constructor
   ·rintro((h|h)|h)
    ·exact .inl h
    ·exact .inr (.inl h)
    ·exact .inr (.inr h)
   ·rintro(h|h|h)
    ·exact .inl (.inl h)
    ·exact .inl (.inr h)
    ·exact .inr h
 by_cases h1:t.op=1
 ·rw[o9,if_pos h1]
  refine⟨aJ,fun v=> ?_⟩
  rw[x6,if_pos h1]
  simp only[List.mem_singleton,beq_iff_eq]
  exact eq_comm
 ·rw[o9,if_neg h1]
  have:=hs t.kids 0 [] (fun _ h=>h) aJ
  refine⟨this.1,fun v=> ?_⟩
  rw[this.2 v,x6,if_neg h1]
  simp
theorem x8:∀ (l:List Int) (n:Int),(lh l n).length<=l.length+1
 |[],n=>by simp[lh]
 |x::l,n=>by
  have:=x8 l n
  simp only[lh]
  split
  ·simp;omega
  ·split<;>simp
theorem pb(op n:Int)(i:Nat):∀ (l out:List Int),(nB op n i l out).length<=out.length+l.length
 |[],out=>by simp[nB]
 |x::l,out=>by
  have hk:nB op n i (x::l) out=nB op n i l (if(op !=8||(i:Int)!=1||x !=n)=true then lh out x else out):=rfl
  rw[hk]
  have h1:=x8 out x
  split
  ·have:=pb op n i l (lh out x);simp;omega
  ·have:=pb op n i l out;simp;omega
theorem mP:∀t:Tm,(cl t).length<=t.sz:=by
 refine Tm.eJ fun t ih=> ?_
 have hs:∀ (l:List Tm) (i:Nat) (out:List Int),(∀k∈l,k∈t.kids)->(jT t.op t.n l i out).length<=out.length+iT l:=by
  intro l
  induction l with
  |nil=>intro i out _;simp[jT]
  |cons k l xP=>
   intro i out hk
   have h1:=ih k (hk k aJ)
   have h2:=pb t.op t.n i (cl k) out
   have h3:=xP (i+1) (nB t.op t.n i (cl k) out) (fun x hx=>hk x oh)
   rw[iP]
   show(jT t.op t.n l (i+1) (nB t.op t.n i (cl k) out)).length<=_
   omega
 rw[o9,Tm.jU]
 split
 ·simp
 ·have:=hs t.kids 0 [] (fun _ h=>h);simp at this;omega
theorem Tf(t:Tm):pP [t]=gK t:=by simp[pP]
theorem E9(op v:Int)(x:Tm)(l:List Tm):lA op v (x::l)=lA op v l+if x.op=op/\x.n=v then 1 else 0:=by
 unfold lA
 rw[List.countP_cons]
 by_cases h:x.op=op/\x.n=v
 ·simp[h]
 ·rw[if_neg h,if_neg (by simpa using h)]
theorem HI(op v:Int)(a b:List Tm):lA op v (a++b)=lA op v a+lA op v b:=by unfold lA;rw[List.countP_append]
theorem lV(op v:Int)(l:List Tm):0<lA op v l↔∃x∈l,x.op=op/\x.n=v:=by
 unfold lA
 rw[List.countP_pos_iff]
 simp
mutual
def ez:Tm->List Int
 | .mk op n kids=>(if op=8 then [n]else [])++dp kids
def dp:List Tm->List Int
 |[]=>[]
 |k::l=>ez k++dp l
end
theorem uc(t:Tm):ez t=(if t.op=8 then [t.n]else [])++dp t.kids:=by cases t;rw[ez];rfl
theorem pf:∀ (t:Tm) (v:Int),(ez t).count v=lA 8 v (gK t):=by
 refine Tm.eJ fun t ih v=> ?_
 have key:∀l:List Tm,(∀k∈l,k∈t.kids)->(dp l).count v=lA 8 v (l.flatMap gK):=by
  intro l
  induction l with
  |nil=>intro _;rfl
  |cons k l xP=>
   intro hk
   rw[dp,List.count_append,ih k (hk k (by simp)) v,xP (fun x hx=>hk x (by simp[hx])),List.flatMap_cons,HI]
 rw[uc,List.count_append,key t.kids (fun _ h=>h),jL,E9]
 by_cases h:t.op=8
 ·by_cases h2:t.n=v
  ·simp[h,h2];omega
  ·simp[h,h2]
 ·simp[h]
theorem AQ(t:Tm)(v:Int):v∈ez t↔0<lA 8 v (gK t):=by
 rw[<- pf,List.count_pos_iff]
mutual
def fi(n:Int):Tm->Bool
 | .mk op k kids=>jC n kids&&((op !=1&&op !=8)||decide (k<n))
def jC(n:Int):List Tm->Bool
 |[]=>true
 |k::l=>fi n k&&jC n l
end
theorem x9(n:Int)(t:Tm):fi n t=(jC n t.kids&&((t.op !=1&&t.op !=8)||decide (t.n<n))):=by cases t;rw[fi];rfl
theorem HJ(n:Int):∀t:Tm,fi n t=true↔∀x∈gK t,x.op=1\/x.op=8->x.n<n:=by
 refine Tm.eJ fun t ih=> ?_
 have key:∀l:List Tm,(∀k∈l,k∈t.kids)->(jC n l=true↔∀x∈l.flatMap gK,x.op=1\/x.op=8->x.n<n):=by
  intro l
  induction l with
  |nil=>intro _;simp[jC]
  |cons k l xP=>
   intro hk
   rw[jC,Bool.and_eq_true,ih k (hk k (by simp)),xP (fun x hx=>hk x (by simp[hx])),List.flatMap_cons]
   simp only[List.mem_append]
   constructor
   ·rintro⟨a,b⟩ x (h|h)
    ·exact a x h
    ·exact b x h
   ·intro a
    exact⟨fun x h=>a x (.inl h),fun x h=>a x (.inr h)⟩
 rw[x9,Bool.and_eq_true,key t.kids (fun _ h=>h),jL]
 simp only[List.mem_cons,Bool.or_eq_true,Bool.and_eq_true,bne_iff_ne,decide_eq_true_eq]
 constructor
 ·rintro⟨a,b⟩ x (h|h) h2
  ·subst h
   rcases b with⟨b1,b2⟩|b
   ·rcases h2 with e|e
    ·exact absurd e b1
    ·exact absurd e b2
   ·exact b
  ·exact a x h h2
 ·intro a
  refine⟨fun x h=>a x (.inr h), ?_⟩
  by_cases h:t.op=1\/t.op=8
  ·exact .inr (a t (.inl rfl) h)
  ·exact .inl ⟨fun e=>h (.inl e),fun e=>h (.inr e)⟩
theorem HK(n:Int)(t:Tm):fi n t=true↔(∀v,0<lA 1 v (gK t)->v<n)/\∀v,0<lA 8 v (gK t)->v<n:=by
 rw[HJ]
 constructor
 ·intro a
  refine⟨fun v h=> ?_,fun v h=> ?_⟩<;>(obtain⟨x,h1,h2,h3⟩:=(lV _ _ _).1 h;rw[<- h3];exact a x h1 (by simp[h2]))
 ·rintro⟨a,b⟩ x h (h2|h2)
  ·exact a _ ((lV _ _ _).2 ⟨x,h,h2,rfl⟩)
  ·exact b _ ((lV _ _ _).2 ⟨x,h,h2,rfl⟩)
def ud(t:Tm)(aC:List Int):Bool:=(ez t).all fun v=> !(decide (1<((ez t).count v:Int))||aC.contains v||(cl t).contains v)
theorem L6(t:Tm)(aC:List Int):ud t aC=true↔∀v,0<lA 8 v (gK t)->lA 8 v (gK t)<=1/\v∉aC/\HE v t=false:=by
 unfold ud
 rw[List.all_eq_true]
 have hv:∀v,(cl t).contains v=HE v t:=fun v=>by
  rw[Bool.eq_iff_iff,List.contains_iff_mem,(lj t).2 v]
 constructor
 ·intro a v h
  have:=a v ((AQ t v).2 h)
  rw[pf,hv]at this
  simp at this
  exact⟨ae,this.1.2,this.2⟩
 ·intro a v h
  obtain⟨a1,a2,a3⟩:=a v ((AQ t v).1 h)
  rw[pf,hv,a3]
  simp
  exact⟨ae,a2⟩
theorem pQ:∀ (W A:List Int),A.Nodup->(∀v,v∈A↔v∈W)->A.length<=W.length/\(A.length=W.length↔W.Nodup)
 |[],A,hA,h=>by
  have:A=[]:=List.eq_nil_iff_forall_not_mem.2 fun v hv=>by simpa using(h v).1 hv
  subst this;simp
 |x::W,A,hA,h=>by
  by_cases hx:x∈W
  ·have ih:=(pQ W A hA fun v=>by
    rw[h v,List.mem_cons]
    exact⟨fun e=>e.elim (fun e=>e ▸ hx) id, .inr⟩).1
   refine⟨by simp;omega, ?_⟩
   rw[List.length_cons,List.nodup_cons]
   exact⟨fun e=>ae,fun e=>absurd hx e.1⟩
  ·have hxA:x∈A:=(h x).2 aJ
   have ih:=pQ W (A.erase x) (hA.erase x) fun v=>by
    rw[hA.mem_erase_iff,h v,List.mem_cons]
    constructor
    ·rintro⟨a,b|b⟩
     ·exact absurd b a
     ·exact b
    ·intro a
     exact⟨fun e=>hx (e ▸ a), .inr a⟩
   have hl:(A.erase x).length=A.length - 1:=List.length_erase_of_mem hxA
   have hp:0<A.length:=List.length_pos_of_mem hxA
   rw[hl]at ih
   rw[List.length_cons,List.nodup_cons]
   refine⟨ae, ?_⟩
   constructor
   ·intro e;exact⟨hx,ih.2.1 ae⟩
   ·intro e
    have:=ih.2.2 e.2
    omega
def PU(t:Tm):List Int:=((gK t).filter fun x=>x.op==1).map Tm.n
theorem ya(l:List Tm)(v:Int):((l.filter fun x=>x.op==1).map Tm.n).count v=lA 1 v l:=by
 induction l with
 |nil=>rfl
 |cons x l ih=>
  rw[E9, <- ih]
  by_cases h:x.op=1
  ·have h':(x.op==1)=true:=by simpa using h
   have e:(x::l).filter (fun x=>x.op==1)=x::l.filter (fun x=>x.op==1):=by rw[List.filter_cons,if_pos h']
   rw[e,List.map_cons,List.count_cons]
   by_cases h2:x.n=v
   ·simp[h,h2]
   ·simp[h2]
  ·have h': ¬ (x.op==1)=true:=by simpa using h
   have e:(x::l).filter (fun x=>x.op==1)=l.filter (fun x=>x.op==1):=by rw[List.filter_cons,if_neg h']
   rw[e]
   simp[h]
structure AR (t:Tm):Prop where
 once:(PU t).Nodup
 free:∀v,HE v t=true↔v∈PU t
theorem u5(t:Tm):(cl t).Nodup:=(lj t).1.imp fun {a b} h=>ae
theorem aaQ{t:Tm}(h:AR t):(cl t).length=(PU t).length:=
 ((pQ (PU t) (cl t) (u5 t) fun v=>by rw[(lj t).2 v,h.free v]).2).2 h.once
def HL(l:List Tm):Bool:=(l.map fun t=>(cl t).length).sum==(cl (.mk 0 0 l)).length
theorem Fa(l:List Tm)(v:Int):HE v (.mk 0 0 l)=true↔∃t∈l,HE v t=true:=by
 have key:∀ (l:List Tm) (i:Nat),sF v 0 0 l i=l.any (HE v):=by
  intro l
  induction l with
  |nil=>intro i;rfl
  |cons k l ih=>intro i;simp[sF,ih]
 have e:HE v (.mk 0 0 l)=sF v 0 0 l 0:=rfl
 rw[e,key,List.any_eq_true]
theorem JW(l:List Tm)(h:∀t∈l,AR t):HL l=true↔∀v,lA 1 v (pP l)<=1:=by
 have hW:((pP l).filter fun x=>x.op==1).map Tm.n=l.flatMap PU:=by
  unfold pP
  induction l with
  |nil=>rfl
  |cons t l ih=>
   rw[List.flatMap_cons,List.filter_append,List.map_append,List.flatMap_cons,ih (fun x hx=>h x (by simp[hx]))];rfl
 have hlen:(l.map fun t=>(cl t).length).sum=(l.flatMap PU).length:=by
  clear hW
  induction l with
  |nil=>rfl
  |cons t l ih=>
   rw[List.map_cons,List.sum_cons,List.flatMap_cons,List.length_append,ih (fun x hx=>h x (by simp[hx])),aaQ (h t (by simp))]
 have hm:∀v,v∈cl (.mk 0 0 l)↔v∈l.flatMap PU:=fun v=>by
  rw[(lj _).2 v,Fa,List.mem_flatMap]
  constructor
  ·rintro⟨t,h1,h2⟩;exact⟨t,h1,((h t h1).free v).1 h2⟩
  ·rintro⟨t,h1,h2⟩;exact⟨t,h1,((h t h1).free v).2 h2⟩
 have hn:=(pQ (l.flatMap PU) (cl (.mk 0 0 l)) (u5 _) hm).2
 unfold HL
 rw[hlen,beq_iff_eq,eq_comm,hn,List.nodup_iff_count]
 constructor
 ·intro a v;rw[<- ya,hW];exact a v
 ·intro a v;rw[<- hW,ya];exact a v
def nC(t:Tm):Bool:=t.op==1||t.op==3
mutual
def iQ:Tm->Bool
 | .mk op n kids=>v7 kids&&nC (.mk op n kids)
def v7:List Tm->Bool
 |[]=>true
 |k::l=>iQ k&&v7 l
end
theorem AS(t:Tm):iQ t=(t.kids.all iQ&&nC t):=by
 have:∀l:List Tm,v7 l=l.all iQ:=fun l=>by
  induction l with
  |nil=>rfl
  |cons k l ih=>simp[v7,ih]
 cases t;simp only[iQ,this,Tm.kids]
mutual
def iq:Tm->List Int->List Int×Bool
 | .mk op n kids,b=>if op=1 then(lh b n, !b.contains n)else gX kids b
def gX:List Tm->List Int->List Int×Bool
 |[],b=>(b,true)
 |k::l,b=>if(iq k b).2=true then gX l (iq k b).1 else((iq k b).1,false)
end
theorem sH(t:Tm)(b:List Int):iq t b=if t.op=1 then(lh b t.n, !b.contains t.n)else gX t.kids b:=by cases t;rfl
theorem L7:∀ (t:Tm) (b:List Int),(iq t b).1.length<=b.length+t.sz:=by
 refine Tm.eJ fun t ih b=> ?_
 have hs:∀ (l:List Tm) (b:List Int),(∀k∈l,k∈t.kids)->(gX l b).1.length<=b.length+iT l:=by
  intro l
  induction l with
  |nil=>intro b _;simp[gX,iT]
  |cons k l xP=>
   intro b hk
   have h1:=ih k (hk k aJ) b
   have h2:=xP (iq k b).1 (fun x hx=>hk x oh)
   rw[iP]
   simp only[gX]
   split
   ·omega
   ·simp only;omega
 rw[sH,Tm.jU]
 have h3:=x8 b t.n
 have h4:=hs t.kids b (fun _ h=>h)
 split
 ·simp only;omega
 ·omega
def vC(l:List (Tm×Int)):List Int:=(l.filter fun x=>x.1.op==1).map fun x=>x.1.n
theorem yc(a b:List (Tm×Int)):vC (a++b)=vC a++vC b:=by simp[vC]
theorem yd(x:Tm×Int)(l:List (Tm×Int)):vC (x::l)=(if x.1.op=1 then x.1.n::vC l else vC l):=by
 unfold vC
 by_cases h:x.1.op=1
 ·simp[h]
 ·simp[h]
theorem Cv{l:List Tm}{d v:Int}:v∈vC (l.flatMap fun k=>pre k d)↔∃k∈l,v∈vC (pre k d):=by
 induction l with
 |nil=>simp[vC]
 |cons k l ih=>simp[yc,ih]
theorem JX{v op n:Int}(h:op≠8):∀ (l:List Tm) (i:Nat),sF v op n l i=l.any (HE v)
 |[],i=>rfl
 |k::l,i=>by
  have:(op==8)=false:=by simpa using h
  simp[sF,JX h l,this]
theorem aaR:∀ (t:Tm) (d:Int),(∀x∈pre t d,x.1.op≠8)->(∀x∈pre t d,x.1.op=1->x.1.kids=[])->∀v,HE v t=true↔v∈vC (pre t d):=by
 refine Tm.eJ fun t ih d h8 h1 v=> ?_
 have hp:=kS t d
 have ht8:t.op≠8:=h8 (t,d) (by rw[hp];simp)
 have dH:∀k∈t.kids,∀x∈pre k (d+1),x∈pre t d:=fun k hk x hx=>by rw[hp];exact List.mem_cons_of_mem _ (List.mem_flatMap.2 ⟨k,hk,hx⟩)
 rw[hp,yd,x6]
 by_cases h:t.op=1
 ·have hk:t.kids=[]:=h1 (t,d) (by rw[hp];simp) h
  simp only[if_pos h,hk,List.flatMap_nil]
  show(t.n==v)=true↔v∈[t.n]
  rw[beq_iff_eq,List.mem_singleton];exact eq_comm
 ·simp only[if_neg h]
  rw[JX ht8,Cv,List.any_eq_true]
  constructor
  ·rintro⟨k,hk,hv⟩
   exact⟨k,hk,(ih k hk (d+1) (fun x hx=>h8 x (dH k hk x hx)) (fun x hx=>h1 x (dH k hk x hx)) v).1 hv⟩
  ·rintro⟨k,hk,hv⟩
   exact⟨k,hk,(ih k hk (d+1) (fun x hx=>h8 x (dH k hk x hx)) (fun x hx=>h1 x (dH k hk x hx)) v).2 hv⟩
theorem sI{s:cB}{t:Tm}(h:gD s t=true):∀x∈pre t 1,bJ s x.1=true:=by
 simp only[gD,Bool.and_eq_true,xY s t 1,List.all_eq_true]at h
 exact h.2
theorem Fb{s:cB}{t:Tm}(h:bJ s t=true)(h1:t.op=1):t.kids=[]:=by
 simp[bJ,h1]at h
 exact h.1
theorem ye:∀ (L:List (Tm×Int)) (l:List Int) (b:Bool),(aA (vX pJ mO) (l,b) L).2=true↔(∀x∈L,nC x.1=true)/\(vC L).Nodup/\∀v∈vC L,v∉l
 |[],l,b=>by simp[aA,vC]
 |x::L,l,b=>by
  have e1:∀c,vB l x=c->vX pJ mO (l,b) x=((if c=true then l else if x.1.op=1 then Cr l x.1.n else l, !c), !c):=fun c hc=>by
   show((if vB l x=true then l else if x.1.op=1 then Cr l x.1.n else l, !vB l x),(pJ (if vB l x=true then l else if x.1.op=1 then Cr l x.1.n else l, !vB l x)).isNone)=_
   rw[hc];cases c<;>rfl
  rw[aA,yd]
  cases hb:vB l x with
  |true=>
   rw[e1 _ hb]
   simp only[Bool.not_true,Bool.false_eq_true,if_false,false_iff,not_and]
   intro hs hn hv
   have hsx:=hs x aJ
   simp only[vB,nC,Bool.or_eq_true,Bool.and_eq_true,bne_iff_ne,beq_iff_eq,ne_eq]at hb hsx
   rcases hb with⟨h1,h2⟩|⟨h1,h2⟩
   ·rcases hsx with h|h
    ·exact h1 h
    ·exact h2 h
   ·rw[if_pos h1]at hv
    exact hv x.1.n aJ wv
  |false=>
   rw[e1 _ hb]
   simp only[Bool.not_false,if_true,Bool.false_eq_true,if_false]
   rw[ye L]
   simp only[vB,Bool.or_eq_false_iff,Bool.and_eq_false_iff,bne_eq_false_iff_eq,beq_eq_false_iff_ne,ne_eq]at hb
   have hsx:nC x.1=true:=by simp only[nC,Bool.or_eq_true,beq_iff_eq];exact hb.1
   by_cases h1:x.1.op=1
   ·have tJ:x.1.n∉l:=by
     rcases hb.2 with h|h
     ·exact absurd h1 h
     ·intro hm;rw[<- List.contains_iff_mem]at hm;rw[h]at hm;cases hm
    rw[if_pos h1,if_pos h1]
    simp only[List.mem_cons,forall_eq_or_imp,hsx,true_and,List.nodup_cons,PI,not_or]
    constructor
    ·rintro⟨a1,a2,a3⟩
     exact⟨a1,⟨fun hm=>(a3 _ hm).2 rfl,a2⟩,tJ,fun v hv=>(a3 v hv).1⟩
    ·rintro⟨a1,⟨a2,a3⟩,a4,a5⟩
     exact⟨a1,a3,fun v hv=>⟨a5 v hv,fun e=>a2 (e ▸ hv)⟩⟩
   ·rw[if_neg h1,if_neg h1]
    simp only[List.mem_cons,forall_eq_or_imp,hsx,true_and]
theorem L8:∀ (t:Tm) (d:Int),(∀x∈pre t d,x.1.op=1->x.1.kids=[])->∀b:List Int,((iq t b).2=true↔(vC (pre t d)).Nodup/\∀v∈vC (pre t d),v∉b)/\((iq t b).2=true->∀v,v∈(iq t b).1↔v∈b\/v∈vC (pre t d)):=by
 refine Tm.eJ fun t ih d h1 b=> ?_
 have hp:=kS t d
 have dH:∀k∈t.kids,∀x∈pre k (d+1),x∈pre t d:=fun k hk x hx=>by rw[hp];exact List.mem_cons_of_mem _ (List.mem_flatMap.2 ⟨k,hk,hx⟩)
 have hs:∀ (l:List Tm) (b:List Int),(∀k∈l,k∈t.kids)->((gX l b).2=true↔(vC (l.flatMap fun k=>pre k (d+1))).Nodup/\∀v∈vC (l.flatMap fun k=>pre k (d+1)),v∉b)/\((gX l b).2=true->∀v,v∈(gX l b).1↔v∈b\/v∈vC (l.flatMap fun k=>pre k (d+1))):=by
  intro l
  induction l with
  |nil=>intro b _;simp[gX,vC]
  |cons k l xP=>
   intro b hk
   obtain⟨k1,k2⟩:=ih k (hk k aJ) (d+1) (fun x hx=>h1 x (dH k (hk k aJ) x hx)) b
   obtain⟨l1,l2⟩:=xP (iq k b).1 (fun x hx=>hk x oh)
   simp only[gX,List.flatMap_cons,yc,List.nodup_append,List.mem_append]
   by_cases hc:(iq k b).2=true
   ·rw[if_pos hc]
    have hm:=k2 hc
    obtain⟨c1,c2⟩:=k1.1 hc
    constructor
    ·rw[l1]
     constructor
     ·rintro⟨a1,a2⟩
      refine⟨⟨c1,a1,fun x hx y hy e=>a2 y hy ((hm y).2 (.inr (e ▸ hx)))⟩, ?_⟩
      rintro v (hv|hv)
      ·exact c2 v hv
      ·exact fun hb=>a2 v hv ((hm v).2 (.inl hb))
     ·rintro⟨⟨a1,a2,a3⟩,a4⟩
      refine⟨a2,fun v hv RY=> ?_⟩
      rcases(hm v).1 RY with h|h
      ·exact a4 v (.inr hv) h
      ·exact a3 v h v hv rfl
    ·intro h v
     rw[l2 h v,hm v]
     constructor
     ·rintro((h|h)|h)
      ·exact .inl h
      ·exact .inr (.inl h)
      ·exact .inr (.inr h)
     ·rintro(h|h|h)
      ·exact .inl (.inl h)
      ·exact .inl (.inr h)
      ·exact .inr h
   ·rw[if_neg hc]
    simp only[Bool.false_eq_true,false_iff,false_implies,and_true,not_and]
    rintro⟨a1,a2,a3⟩ a4
    exact hc (k1.2 ⟨a1,fun v hv=>a4 v (.inl hv)⟩)
 rw[sH,hp,yd]
 by_cases h:t.op=1
 ·have hk:t.kids=[]:=h1 (t,d) (by rw[hp];simp) h
  simp only[if_pos h,hk,List.flatMap_nil]
  simp only[vC,List.filter_nil,List.map_nil,List.nodup_cons,List.not_mem_nil,not_false_eq_true,List.nodup_nil,and_self,true_and,List.mem_singleton,forall_eq,Bool.not_eq_true',sG]
  refine⟨?_,fun _ v=>trivial⟩
  rw[Bool.eq_false_iff,ne_eq,List.contains_iff_mem]
 ·simp only[if_neg h]
  exact hs t.kids b (fun _ h=>h)
theorem L9:∀ (t:Tm) (d:Int),iQ t=(pre t d).all fun x=>nC x.1:=by
 refine Tm.eJ fun t ih d=> ?_
 rw[JN nC,AS,Bool.and_comm]
 congr 1
 exact Vf
theorem PV{s:cB}{t:Tm}(h:gD s t=true):zp t=((iq t []).2&&iQ t):=by
 have h1:=(L8 t 1 (fun x hx ho=>Fb (sI h x hx) ho) []).1
 rw[Bool.eq_iff_iff,Bool.and_eq_true,h1,zp,ye,L9 t 1,List.all_eq_true]
 constructor
 ·rintro⟨a,b,c⟩;exact⟨⟨b,fun v _=>aJ⟩,a⟩
 ·rintro⟨⟨a,b⟩,c⟩;exact⟨c,a,fun v _=>aJ⟩
theorem Cw:∀ (t:Tm) (d:Int),(pre t d).map (·.1)=gK t:=by
 refine Tm.eJ fun t ih d=> ?_
 have key:∀l:List Tm,(∀k∈l,k∈t.kids)->((l.flatMap fun k=>pre k (d+1)).map (·.1))=l.flatMap gK:=by
  intro l
  induction l with
  |nil=>intro _;rfl
  |cons k l xP=>
   intro hk
   rw[List.flatMap_cons,List.map_append,ih k (hk k (by simp)),xP (fun x hx=>hk x (by simp[hx])),List.flatMap_cons]
 rw[kS,jL,List.map_cons,key t.kids (fun _ h=>h)]
theorem JY(t:Tm)(d:Int):vC (pre t d)=PU t:=by
 unfold vC PU
 rw[<- Cw t d,List.filter_map,List.map_map]
 rfl
theorem Tg{t x:Tm}(h:x∈gK t):∃y∈pre t 1,y.1=x:=by
 rw[<- Cw t 1]at h
 obtain⟨y,h1,h2⟩:=List.mem_map.1 h
 exact⟨y,h1,h2⟩
theorem HM{s:cB}{t:Tm}(h:gD s t=true)(hp:zp t=true):AR t/\∀x∈gK t,x.op≠8:=by
 rw[zp,ye]at hp
 obtain⟨a,b,_⟩:=hp
 have h8:∀y∈pre t 1,y.1.op≠8:=fun y hy e=>by
  have:=a y hy
  simp[nC,e]at this
 refine⟨⟨by rw[<- JY t 1];exact b,fun v=> ?_⟩,fun x hx=> ?_⟩
 ·rw[<- JY t 1]
  exact aaR t 1 h8 (fun x hx ho=>Fb (sI h x hx) ho) v
 ·obtain⟨y,h1,h2⟩:=Tg hx
  rw[<- h2];exact h8 y h1
def ll(s:cB)(r:Rl):Bool:=decide (0<=r.fn)&&(match s.bX[r.fn.toNat]? with|some f=>(r.aC.length:Int)==f.args|none=>false)&&decide (0<=r.vars)&&decide (r.vars<=20)
def gY(s:cB)(r:Rl):Bool:=(ll s r&&gD s r.rhs)&&(r.aC.all fun p=>(gD s p&&((iq p []).2&&iQ p))&&fi r.vars p)&&(HL r.aC&&fi r.vars r.rhs&&ud r.rhs (cl (.mk 0 0 r.aC)))
theorem Th(s:cB)(r:Rl)(hs:ke s=true)(h1:(pP r.aC).length<=1000000)(h2:(pP [r.rhs]).length<=1000000):fG s r=gY s r:=by
 have PW:∀t,gk s [t]=gD s t:=fun t=>by unfold gk;simp[hs,HD]
 have Fc:nM s r=true↔(ll s r=true/\(∀t∈r.aC,gD s t=true/\zp t=true))/\gD s r.rhs=true:=by
  have e:nM s r=((ll s r&&r.aC.all (lU s))&&gk s [r.rhs]):=rfl
  rw[e,PW,Bool.and_eq_true,Bool.and_eq_true,List.all_eq_true]
  simp only[lU,PW,Bool.and_eq_true]
 have mono:∀t∈r.aC,∀v,0<lA 1 v (gK t)->0<lA 1 v (pP r.aC):=fun t ht v h=>by
  obtain⟨x,a,b⟩:=(lV _ _ _).1 h
  exact(lV _ _ _).2 ⟨x,List.mem_flatMap.2 ⟨t,ht,a⟩,b⟩
 have split:∀v,0<lA 1 v (pP r.aC)->∃t∈r.aC,0<lA 1 v (gK t):=fun v h=>by
  obtain⟨x,a,b⟩:=(lV _ _ _).1 h
  obtain⟨t,c,d⟩:=List.mem_flatMap.1 a
  exact⟨t,c,(lV _ _ _).2 ⟨x,d,b⟩⟩
 have V0:∀ (t:Tm) (v:Int),v∈PU t↔0<lA 1 v (gK t):=fun t v=>by rw[<- ya,List.count_pos_iff];rfl
 have PX:(∀t∈r.aC,AR t)->∀v,v∈cl (.mk 0 0 r.aC)↔0<lA 1 v (pP r.aC):=fun h v=>by
  rw[(lj _).2 v,Fa]
  constructor
  ·rintro⟨t,a,b⟩;exact mono t a v ((V0 t v).1 (((h t a).free v).1 b))
  ·intro a
   obtain⟨t,b,c⟩:=split v a
   exact⟨t,b,((h t b).free v).2 ((V0 t v).2 c)⟩
 rw[Bool.eq_iff_iff,L5 s r h1 h2,Fc]
 unfold gY
 simp only[Bool.and_eq_true,List.all_eq_true,HK,L6,Tf]
 constructor
 ·rintro⟨⟨⟨a,p⟩,rt⟩,A,B,C,D⟩
  have bp:∀t∈r.aC,AR t:=fun t ht=>(HM (p t ht).1 (p t ht).2).1
  refine⟨⟨⟨a,rt⟩,fun t ht=>⟨⟨(p t ht).1, ?_⟩,fun v hv=>(A v (mono t ht v hv)).2,fun v hv=> ?_⟩⟩,⟨(JW _ bp).2 fun v=> ?_,B,fun v hv=>(C v hv).2.1⟩,fun v hv=>⟨(C v hv).1, ?_, ?_⟩⟩
  ·have:=(p t ht).2
   rw[PV (p t ht).1,Bool.and_eq_true]at this
   exact this
  ·obtain⟨x,b,c,_⟩:=(lV _ _ _).1 hv
   exact absurd c ((HM (p t ht).1 (p t ht).2).2 x b)
  ·by_cases h:0<lA 1 v (pP r.aC)
   ·exact(A v h).1
   ·omega
  ·rw[PX bp v];have:=(C v hv).2.2;omega
  ·cases hf:HE v r.rhs with
   |false=>rfl
   |true=>have:=D v hf;omega
 ·rintro⟨⟨⟨a,rt⟩,p⟩,⟨l,B,B2⟩,C⟩
  have hp:∀t∈r.aC,gD s t=true/\zp t=true:=fun t ht=>⟨(p t ht).1.1,by
   rw[PV (p t ht).1.1,Bool.and_eq_true];exact(p t ht).1.2⟩
  have bp:∀t∈r.aC,AR t:=fun t ht=>(HM (hp t ht).1 (hp t ht).2).1
  refine⟨⟨⟨a,hp⟩,rt⟩,fun v hv=>⟨(JW _ bp).1 l v, ?_⟩,B,fun v hv=>⟨(C v hv).1,B2 v hv, ?_⟩,fun v hv=> ?_⟩
  ·obtain⟨t,b,c⟩:=split v hv
   exact(p t b).2.1 v c
  ·have:=(C v hv).2.1
   rw[PX bp v]at this
   omega
  ·by_cases h:0<lA 8 v (gK r.rhs)
   ·have:=(C v h).2.2
    rw[hv]at this;cases this
   ·omega
theorem v8(t:Tm):(gK t).length=t.sz:=by rw[<- Cw t 1,List.length_map];rfl
theorem Cy:∀ (l:List Tm) (n:Nat),(∀t∈l,t.sz<=n)->(pP l).length<=l.length*n
 |[],n,_=>by simp[pP]
 |t::l,n,h=>by
  have ih:=Cy l n (fun x hx=>h x oh)
  have e:(pP (t::l)).length=(gK t).length+(pP l).length:=by simp[pP]
  have:=h t aJ
  rw[e,v8,List.length_cons,Nat.add_mul];omega
def dJ(p:Pg):Bool:=(ke p.sig&&decide (p.rules.length<=16))&&p.rules.all (gY p.sig)
def JZ(p:Pg):Prop:=∀r∈p.rules,r.aC.length<=6/\(∀t∈r.aC,t.sz<=50)/\r.rhs.sz<=50
theorem Ti(p:Pg)(h:JZ p):nN p=dJ p:=by
 unfold nN dJ
 cases hs:ke p.sig with
 |false=>simp
 |true=>
  have e:p.rules.all (fG p.sig)=p.rules.all (gY p.sig):=by
   rw[Bool.eq_iff_iff,List.all_eq_true,List.all_eq_true]
   have k:∀r∈p.rules,fG p.sig r=gY p.sig r:=fun r hr=>by
    obtain⟨a,b,c⟩:=h r hr
    refine Th p.sig r hs ?_ ?_
    ·have:=Cy r.aC 50 b
     omega
    ·have:=Cy [r.rhs] 50 (fun t ht=>by simp at ht;subst ht;exact c)
     simp at this;omega
   exact⟨fun a r hr=>(k r hr) ▸ a r hr,fun a r hr=>(k r hr).symm ▸ a r hr⟩
  rw[e];simp
mutual
def lp(t:Tm):Tm->Bool
 | .mk op n kids=>iK t (.mk op n kids)||J0 t kids
def J0(t:Tm):List Tm->Bool
 |[]=>false
 |k::l=>lp t k||J0 t l
end
theorem AU(t:Tm):∀l:List Tm,J0 t l=l.any (lp t)
 |[]=>rfl
 |k::l=>by rw[J0,AU t l];rfl
theorem J1(t p:Tm):lp t p=(iK t p||p.kids.any (lp t)):=by cases p;rw[lp,AU];rfl
def vE(t p:Tm):Int:=if iK t p=true then 1 else if p.kids.any (lp t)=true then 2 else 0
theorem Tj(t p:Tm):(vE t p !=0)=lp t p:=by
 rw[J1];unfold vE
 cases iK t p<;>cases p.kids.any (lp t)<;>rfl
theorem PY(t p:Tm):0<=vE t p/\vE t p<=2:=by
 unfold vE;split
 ·decide
 ·split<;>decide
def qd(aC kids:List Tm)(i j:Nat):Int:=match aC[i]?,kids[j]? with
 |some a,some b=>vE b a
 |_,_=>0
def yf(aC kids:List Tm):List Int:=(List.range 16).map fun p=>qd aC kids (p/4) (p%4)
theorem PZ(aC kids:List Tm)(i j:Nat):0<=qd aC kids i j/\qd aC kids i j<=2:=by
 unfold qd;split
 ·exact PY _ _
 ·decide
theorem Fe(aC kids:List Tm):il (yf aC kids):=by
 refine⟨by simp[yf],fun x hx=> ?_⟩
 obtain⟨p,_,rfl⟩:=List.mem_map.1 hx
 exact PZ _ _ _ _
theorem Tk(aC kids:List Tm){i j:Nat}(hi:i<4)(hj:j<4):mg (yf aC kids) i j=qd aC kids i j:=by
 unfold mg yf
 exact adj
def ue(aC kids:List Tm)(i j:Nat):Option cu:=match aC[i]?,kids[j]? with
 |some a,some b=>if iK b a=true then some ⟨i,j,false⟩else if a.kids.any (lp b)=true then some ⟨i,j,true⟩else none
 |_,_=>none
def qW(aC kids:List Tm)(i j:Nat):List cu:=(List.range j).filterMap (ue aC kids i)
def u6(aC kids:List Tm):List cu:=(List.range aC.length).flatMap fun i=>qW aC kids i kids.length
theorem aaS(aC kids:List Tm)(i j:Nat):(if qd aC kids i j≠0 then some (⟨i,j,qd aC kids i j==2⟩:cu)else none)=ue aC kids i j:=by
 unfold qd ue
 cases aC[i]? with
 |none=>rfl
 |some a=>
  cases kids[j]? with
  |none=>rfl
  |some b=>
   dsimp only
   unfold vE
   by_cases h1:iK b a=true
   ·simp only[h1,if_true];rfl
   ·by_cases h2:a.kids.any (lp b)=true
    ·simp only[h1,h2,if_true,Bool.false_eq_true,if_false];rfl
    ·simp only[h1,h2,Bool.false_eq_true,if_false];rfl
theorem J2{β:Type}(f:Nat->Option β):∀n,(List.range (n*4)).filterMap f=(List.range n).flatMap fun i=>(List.range 4).filterMap fun j=>f (i*4+j)
 |0=>rfl
 |n+1=>by
  rw[Nat.add_mul,Nat.one_mul,List.range_add,List.filterMap_append,J2 f n,List.range_succ (n:=n),List.flatMap_append,List.filterMap_map]
  simp only[List.flatMap_cons,List.flatMap_nil,List.append_nil,Function.comp_def]
theorem P0{β:Type}(f:Nat->Option β)(k:Nat)(h:∀j,k<=j->f j=none):∀n,k<=n->(List.range n).filterMap f=(List.range k).filterMap f
 |0,hk=>by rw[show k=0 by omega]
 |n+1,hk=>by
  rcases Nat.eq_or_lt_of_le hk with e|e
  ·rw[e]
  ·rw[List.range_succ,List.filterMap_append,P0 f k h n (by omega)]
   simp[h n (by omega)]
theorem Ff{β:Type}(f:Nat->List β)(k:Nat)(h:∀j,k<=j->f j=[]):∀n,k<=n->(List.range n).flatMap f=(List.range k).flatMap f
 |0,hk=>by rw[show k=0 by omega]
 |n+1,hk=>by
  rcases Nat.eq_or_lt_of_le hk with e|e
  ·rw[e]
  ·rw[List.range_succ,List.flatMap_append,Ff f k h n (by omega)]
   simp[h n (by omega)]
theorem Fg(aC kids:List Tm)(hp:aC.length<=4)(hk:kids.length<=4):cn (yf aC kids) 16=u6 aC kids:=by
 unfold cn
 rw[show(16:Nat)=4*4 from rfl,J2]
 have e:∀i∈List.range 4,((List.range 4).filterMap fun j=>if(yf aC kids).getD (i*4+j) 0≠0 then some (⟨((i*4+j)/4:Nat),((i*4+j)%4:Nat),(yf aC kids).getD (i*4+j) 0==2⟩:cu)else none)=qW aC kids i kids.length:=by
  intro i hi
  have hi:i<4:=by simpa using hi
  unfold qW
  rw[<- P0 (ue aC kids i) kids.length (fun j hj=>by unfold ue;rw[List.getElem?_eq_none hj];cases aC[i]? <;>rfl) 4 hk]
  refine xr fun j hj=> ?_
  have hj:j<4:=by simpa using hj
  rw[show(i*4+j)/4=i by omega,show(i*4+j)%4=j by omega, <- aaS]
  have:=Tk aC kids hi hj
  unfold mg at this
  rw[this]
 unfold u6
 rw[<- Ff (fun i=>qW aC kids i kids.length) aC.length (fun i hi=>by
  unfold qW
  have:∀j,ue aC kids i j=none:=fun j=>by unfold ue;rw[List.getElem?_eq_none hi]
  rw[List.filterMap_eq_nil_iff];exact fun j _=>this j) 4 hp]
 unfold List.flatMap
 rw[List.map_congr_left e]
structure Cl where
 aiX:Int
 fr:Int
 to:Int
 path:List Int
 bare:Bool
 P1:List cu
@[reducible] def Cl.d (c:Cl):D:= .agg [.i c.aiX, .i c.fr, .i c.to, .sl (c.path.map .i), .bool c.bare, .sl (c.P1.map cu.d)]
theorem Cl.B4 (a b c:Int)(d:List Int)(e:Bool)(f:List cu):(Cl.mk a b c d e f).d= .agg [.i a, .i b, .i c, .sl (d.map .i), .bool e, .sl (f.map cu.d)]:=rfl
def jl(op:Int)(b:Bool):Bool:=b&&op !=3&&op !=5
structure Sp where
 t:Tm
 path:List Int
 bare:Bool
mutual
def lK:Tm->List Int->Bool->List Sp
 | .mk op n kids,q,b=>⟨.mk op n kids,q,b⟩::jm kids 0 q (jl op b)
def jm:List Tm->Int->List Int->Bool->List Sp
 |[],_,_,_=>[]
 |k::l,i,q,b=>lK k (q++[i]) b++jm l (i+1) q b
end
theorem HN(t:Tm)(q:List Int)(b:Bool):lK t q b=⟨t,q,b⟩::jm t.kids 0 q (jl t.op b):=by cases t;rw[lK];rfl
theorem pg:∀ (l l':List Tm) (i:Int) (q:List Int) (b:Bool),jm (l++l') i q b=jm l i q b++jm l' (i+l.length) q b
 |[],l',i,q,b=>by simp[jm]
 |k::l,l',i,q,b=>by
  rw[List.cons_append,jm,jm,pg l l',List.append_assoc,List.length_cons]
  congr 3
  push_cast;omega
def wo(ps:List Int)(n:Int)(r:Rl)(x:Sp):List Cl:=
 if x.t.op=4 then [⟨n,r.fn,x.t.n,x.path,x.bare,u6 r.aC x.t.kids⟩]else if x.t.op=6 then ps.map fun to=>⟨n,r.fn,to,x.path,x.bare,[]⟩else []
def ruC(ps:List Int)(n:Int)(r:Rl):List Cl:=(lK r.rhs [] true).flatMap (wo ps n r)
def ki(t:Tm):List Int:=((gK t).filter (fun x=>x.op==5)).map Tm.n
def dP(p:Pg):List Int:=((List.range p.sig.bX.length).map fun n:Nat=>(n:Int)).filter fun n=>(p.rules.flatMap fun r=>ki r.rhs).contains n
def lG(p:Pg)(ps:List Int)(k:Nat):List Cl:=(List.range k).flatMap fun n:Nat=>match p.rules[n]? with
 |some r=>ruC ps n r
 |none=>[]
def lq(p:Pg):List Cl:=lG p (dP p) p.rules.length
theorem uf(p:Pg)(ps:List Int){k:Nat}{r:Rl}(h:p.rules[k]? =some r):lG p ps (k+1)=lG p ps k++ruC ps k r:=by
 unfold lG
 rw[List.range_succ,List.flatMap_append]
 simp[h]
mutual
def Ma(ps:List Int)(n:Int)(r:Rl):Tm->List Int->Bool->List Cl
 | .mk op m kids,q,b=>wo ps n r ⟨.mk op m kids,q,b⟩++nV ps n r kids 0 q (jl op b)
def nV(ps:List Int)(n:Int)(r:Rl):List Tm->Int->List Int->Bool->List Cl
 |[],_,_,_=>[]
 |k::l,i,q,b=>Ma ps n r k (q++[i]) b++nV ps n r l (i+1) q b
end
theorem mQ(ps:List Int)(n:Int)(r:Rl):∀ (l:List Tm),(∀k∈l,∀q b,Ma ps n r k q b=(lK k q b).flatMap (wo ps n r))->∀i q b,nV ps n r l i q b=(jm l i q b).flatMap (wo ps n r)
 |[],_,i,q,b=>by simp[nV,jm]
 |k::l,h,i,q,b=>by
  rw[nV,jm,List.flatMap_append,h k (by simp),mQ ps n r l (fun k hk=>h k (by simp[hk]))]
theorem sJ(ps:List Int)(n:Int)(r:Rl):∀ (t:Tm) (q:List Int) (b:Bool),Ma ps n r t q b=(lK t q b).flatMap (wo ps n r):=by
 refine Tm.ind fun op m kids ih q b=> ?_
 rw[Ma,lK,List.flatMap_cons,mQ ps n r kids (fun k hk=>ih k hk)]
theorem P2(ps:List Int)(n:Int)(r:Rl)(t:Tm)(q:List Int)(b:Bool):Ma ps n r t q b=wo ps n r ⟨t,q,b⟩++nV ps n r t.kids 0 q (jl t.op b):=by cases t;rw[Ma];rfl
theorem u7(ps:List Int)(n:Int)(r:Rl)(l l':List Tm)(i:Int)(q:List Int)(b:Bool):nV ps n r (l++l') i q b=nV ps n r l i q b++nV ps n r l' (i+l.length) q b:=by
 rw[mQ _ _ _ _ (fun k _=>sJ ps n r k),mQ _ _ _ _ (fun k _=>sJ ps n r k),mQ _ _ _ _ (fun k _=>sJ ps n r k),pg,List.flatMap_append]
theorem aaT(ps:List Int)(n:Int)(r:Rl):Ma ps n r r.rhs [] true=ruC ps n r:=sJ ps n r r.rhs [] true
theorem Fh:∀ {a b:List Int},a.Pairwise (· <·)->b.Pairwise (· <·)->(∀x,x∈a↔x∈b)->a=b
 |[],[],_,_,_=>rfl
 |[],y::b,_,_,h=>absurd ((h y).2 aJ) aJ
 |x::a,[],_,_,h=>absurd ((h x).1 aJ) aJ
 |x::a,y::b,ha,hb,h=>by
  rw[List.pairwise_cons]at ha hb
  have e:x=y:=by
   have h1:=(h x).1 aJ
   have h2:=(h y).2 aJ
   rcases List.mem_cons.1 h1 with g|g
   ·exact g
   ·rcases List.mem_cons.1 h2 with g'|g'
    ·exact g'.symm
    ·have:=hb.1 x g;have:=ha.1 y g';omega
  subst e
  congr 1
  refine Fh ha.2 hb.2 fun z=> ?_
  have:=h z
  simp only[List.mem_cons]at this
  constructor
  ·intro hz
   rcases this.1 (.inr hz)with g|g
   ·subst g;exact absurd (ha.1 z hz) ae
   ·exact g
  ·intro hz
   rcases this.2 (.inr hz)with g|g
   ·subst g;exact absurd (hb.1 z hz) ae
   ·exact g
end Go.Proofs.YtnkamdiiakdkgaaGreat
section
namespace Go.Proofs.YtnkamdiiakdkgaaGreat
open Go.Sort Go.RowKit
def Fi(P:Program)(g:FuncId):Prop:=∀ (dG off cap:Nat) (zs:List Int) (w:World),Holds (Value.int .i64) w dG off zs.toArray->dG<w.heap.size->zs.length<4611686018427387904->
    Calls P g #[.slice (some ⟨dG,off,none⟩) zs.length cap] w fun e w'=>
     e= .returned (.tuple #[])/\∃n os,w'=grow (putRow (Value.int .i64) (Sort.ahead w n) dG off (zs.mergeSort fun x y=>decide (x<=y)).toArray) os
def eO(l:List Int):List Int:=l.mergeSort fun x y=>decide (x<=y)
theorem sK{B:Nat->Prop}{w:World}:∀ (zs:List Int) (xs:List Value),eY B w 1 (zs.map (D.int .i64)) xs↔xs=zs.map (Value.int .i64):=by
 have hd:∀ (zs:List Int) (evs:List Value),D.aG B w (zs.map (D.int .i64)) evs↔evs=zs.map (Value.int .i64):=by
  intro zs
  induction zs with
  |nil=>intro evs;simp[D.aG]
  |cons z zs ih=>
   intro evs
   simp only[List.map_cons,D.aG]
   constructor
   ·rintro⟨v,vs,rfl,h1,h2⟩
    rw[(ih vs).1 h2]
    simp only[D.den]at h1
    rw[h1]
   ·intro h
    exact⟨_,_,h,rfl,(ih _).2 rfl⟩
 have hf:∀zs:List Int,(zs.map (Value.int .i64)).flatMap (·.cells.toList)=zs.map (Value.int .i64):=by
  intro zs
  induction zs with
  |nil=>rfl
  |cons z zs ih=>simp only[List.map_cons,List.flatMap_cons,ih];rfl
 intro zs xs
 constructor
 ·rintro⟨evs,h1,h2,h3⟩
  rw[h1,(hd zs evs).1 h3,hf]
 ·intro h
  subst h
  exact⟨_,(hf zs).symm,fun ev dF=>by
   obtain⟨z,_,rfl⟩:=List.mem_map.1 dF
   rfl,(hd zs _).2 rfl⟩
theorem P3{P:Program}{g:FuncId}(hE:Enters P g)(hS:Fi P g){o:Nat->aa}{nx id ep:Nat}{ty:TypeId}{zs:List Int}(ho:o id= .arr ep ty 1 (zs.map (D.int .i64)))
 (hn:∀p cap w,Calls P g #[.slice p 0 cap] w fun e w'=>e= .returned (.tuple #[])/\w'=w)
 (hlen:zs.length<4611686018427387904) {K X:V->(Nat->aa)->Nat->Prop} (hK:K (.cc []) (au o id (.arr ep ty 1 ((eO zs).map (D.int .i64)))) nx):cX P g [.osl id ep] o nx K X:=by
 refine⟨hE,fun M φ w vals hH hd=> ?_⟩
 obtain⟨val,us,kD,⟨v0,v1,v2⟩,dg⟩:=hd
 have dg:us=[]:=dg
 subst dg
 have fK:val=φ id:=(v2 ep (by show(o id).bV=some ep;rw[ho];rfl)).2 rfl
 have V0:vals=#[φ id]:=by rw[<- fK];exact Array.ext' (by simpa using kD)
 subst V0
 have Hk:=hH.ok id
 unfold aO at Hk
 rw[show(hp o nx).o id= .arr ep ty 1 (zs.map (D.int .i64))from ho]at Hk
 obtain⟨_,xs,dI,bD⟩:=Hk
 have Gy:=(sK zs xs).1 bD
 subst Gy
 simp only[List.length_map]at dI
 obtain⟨hl,NX|⟨b,cap,cur,dz,_,hg,jb,wP,hcs,P4⟩⟩:=dI
 ·obtain⟨h1,h2⟩:=NX
  have hz:zs=[]:=List.length_eq_zero_iff.1 h2
  subst hz
  rw[h1]
  refine(hn none 0 w).mono ?_
  rintro e w' ⟨rfl,rfl⟩
  have DN:au o id (.arr ep ty 1 ((eO []).map (D.int .i64)))=o:=by
   funext j
   by_cases e:j=id
   ·subst e;rw[af,ho,show eO []=[] by simp[eO]]
   ·rw[ab _ _ _ _ e]
  rw[DN]at hK
  exact⟨φ,o,nx, .cc [],hH,Trans.refl _ _ _,⟨#[],rfl,rfl⟩,hK⟩
 ·rw[dz]
  have hb:b<w.heap.size:=(Array.getElem?_eq_some_iff.1 hg).1
  have UJ:∀j,j<zs.length->cur[j]? =some (.int .i64 zs[j]!):=by
   intro j hj
   have h1:(cur.toList.take (zs.length*1))[j]? =(zs.map (Value.int .i64))[j]? :=by rw[P4]
   rw[List.getElem?_take_of_lt (by omega),List.getElem?_map,List.getElem?_eq_getElem hj]at h1
   simp only[Option.map_some]at h1
   rw[getElem!_pos zs j hj]
   simpa using h1
  refine(hS b 0 cap zs w (fun j hj=> ?_) hb hlen).mono ?_
  ·simp only[List.size_toArray]at hj
   refine⟨?_, ?_⟩
   ·exact ady
   ·unfold World.frozen?
    simp[hg]
  rintro e w' ⟨rfl,n,os,rfl⟩
  have Rg:(eO zs).length=zs.length:=List.length_mergeSort zs
  have xN:∀k,k<w.heap.size->(grow (putRow (Value.int .i64) (Sort.ahead w n) b 0 (eO zs).toArray) os).heap[k]? =(w.heap.modify b (onCells (putCells (Value.int .i64) 0 (eO zs).toArray)))[k]? :=by
   intro k hk
   unfold grow putRow mapBlock Sort.ahead
   simp only
   rw[Array.getElem?_append_left (by simpa using hk)]
  have uI:ed (· =b) w (grow (putRow (Value.int .i64) (Sort.ahead w n) b 0 (eO zs).toArray) os):=by
   refine⟨rfl,rfl,rfl, ?_,fun k hk iz=> ?_⟩
   ·unfold grow putRow mapBlock Sort.ahead;simp
   ·rw[xN k hk,Array.getElem?_modify,if_neg (fun e=>iz e.symm)]
  have cU:((hp o nx).o id).live=true:=by show(o id).live=true;rw[ho];rfl
  have BU:dG (φ id)=some b:=by rw[dz];rfl
  have Bo:(grow (putRow (Value.int .i64) (Sort.ahead w n) b 0 (eO zs).toArray) os).heap[b]? =some (.cells (putCells (Value.int .i64) 0 (eO zs).toArray cur) ty (0,0)):=by
   rw[xN b hb,Array.getElem?_modify,if_pos rfl,hg];rfl
  have gS:(hp o nx).put [(id, .arr ep ty 1 ((eO zs).map (D.int .i64)))]=hp (au o id (.arr ep ty 1 ((eO zs).map (D.int .i64)))) nx:=by
   have dg:id<nx:=v1
   simp only[Hp.put,hp]
   congr 1
   funext j
   simp only[List.map_cons,List.map_nil,List.mem_singleton,eq_iff_iff]
   exact⟨fun h=>h.elim (fun h=>h) (fun e=>e ▸ dg), .inl⟩
  have wJ:aO M φ ((hp o nx).put [(id, .arr ep ty 1 ((eO zs).map (D.int .i64)))]) (grow (putRow (Value.int .i64) (Sort.ahead w n) b 0 (eO zs).toArray) os) id:=by
   unfold aO
   rw[show((hp o nx).put [(id, .arr ep ty 1 ((eO zs).map (D.int .i64)))]).o id= .arr ep ty 1 ((eO zs).map (D.int .i64)) by simp]
   refine⟨bG,(eO zs).map (Value.int .i64), ?_,(sK _ _).2 rfl⟩
   simp only[List.length_map,Rg]
   refine⟨by simp[Rg], .inr ⟨b,cap,_,dz,Nat.zero_le _,Bo,jb,wP, ?_, ?_⟩⟩
   ·unfold putCells;simpa using hcs
   ·apply List.ext_getElem?
    intro j
    by_cases hj:j<zs.length
    ·rw[List.getElem?_take_of_lt (by omega),List.getElem?_map,List.getElem?_eq_getElem (l:=eO zs) (by omega)]
     have Q6:j<cur.size:=ae
     unfold putCells
     simp only[Array.getElem?_toList,Array.getElem?_mapIdx,Option.map_some]
     rw[Array.getElem?_eq_getElem Q6]
     simp only[Option.map_some,Nat.zero_le,true_and,Nat.zero_add,List.size_toArray,Nat.sub_zero]
     rw[if_pos (by omega)]
     rw[getElem!_pos _ j (by simp;omega)]
     simp
    ·rw[List.getElem?_eq_none (by rw[List.length_take,Nat.mul_one];exact Nat.le_trans (Nat.min_le_left _ _) (Nat.not_lt.1 hj)),List.getElem?_eq_none (by rw[List.length_map,Rg];exact Nat.not_lt.1 hj)]
  have Xd:=iZ hH (id:=id) v1 cU BU uI (.arr ep ty 1 ((eO zs).map (D.int .i64))) Il Il wJ
  have Wb:=fy (φ:=φ) (H:=hp o nx) (id:=id) v1 cU BU uI (.arr ep ty 1 ((eO zs).map (D.int .i64))) Il Il
  rw[gS]at Xd Wb
  exact⟨φ,_,nx, .cc [],Xd,Wb,⟨#[],rfl,rfl⟩,hK⟩
end Go.Proofs.YtnkamdiiakdkgaaGreat
end
section
namespace Go.Proofs.YtnkamdiiakdkgaaGreat
open Go.Sort Go.RowKit
def ph(P:Program)(g:FuncId):Prop:=∀ (dG off cap:Nat) (zs:List Int) (w:World),Holds (Value.int .i64) w dG off zs.toArray->zs.length<=9223372036854775807->zs.length<=cap->
    Calls P g #[.slice (some ⟨dG,off,none⟩) zs.length cap] w fun e w'=>
     e= .returned (.slice (some ⟨dG,off,none⟩) (Lib.compact zs).length cap)/\∃q,w'=putRow (Value.int .i64) (Sort.ahead w q) dG off (Lib.compact zs++List.replicate (zs.length - (Lib.compact zs).length) 0).toArray
theorem P5(zs:List Int):(Lib.compact zs).length<=zs.length:=by
 unfold Lib.compact Lib.compactUpTo
 rw[List.length_map]
 have:=List.length_filter_le (Lib.keeps zs.toArray) (List.range zs.length)
 simpa using this
theorem Cz{P:Program}{g:FuncId}(hS:ph P g)(hn:∀p cap w,Calls P g #[.slice p 0 cap] w fun e w'=>e= .returned (.slice p 0 cap)/\w'=w){M:Nat->Prop}{φ:Place}{H:Hp}{w:World}(hH:ay M φ H w)
 {id ep:Nat} {ty:TypeId} {zs:List Int} (v1:H.us id) (ho:H.o id= .arr ep ty 1 (zs.map (D.int .i64))) (hlen:zs.length<=9223372036854775807):
 Calls P g #[φ id] w fun e w'=>∃val aH,e= .returned val/\ay M aH (H.put [(id, .arr (ep+1) ty 1 ((Lib.compact zs).map (D.int .i64)))]) w'/\Trans φ H w aH (H.put [(id, .arr (ep+1) ty 1 ((Lib.compact zs).map (D.int .i64)))]) w'/\
  V.den (ao M aH (H.put [(id, .arr (ep+1) ty 1 ((Lib.compact zs).map (D.int .i64)))])) aH (H.put [(id, .arr (ep+1) ty 1 ((Lib.compact zs).map (D.int .i64)))]) w' (.osl id (ep+1)) val:=by
 have Hk:=hH.ok id
 unfold aO at Hk
 rw[ho]at Hk
 obtain⟨_,xs,dI,bD⟩:=Hk
 have Gy:=(sK zs xs).1 bD
 subst Gy
 simp only[List.length_map]at dI
 obtain⟨hl,NX|⟨b,cap,cur,dz,_,hg,jb,wP,hcs,P4⟩⟩:=dI
 ·obtain⟨h1,h2⟩:=NX
  have hz:zs=[]:=List.length_eq_zero_iff.1 h2
  subst hz
  rw[h1]
  refine(hn none 0 w).mono ?_
  rintro e w' ⟨rfl,rfl⟩
  have P6:w'.ownsRow 0 ty 1 (.slice none 0 0) (([]:List Int).map (D.int .i64)).length (([]:List Int).map (Value.int .i64)):=⟨rfl, .inl ⟨rfl,rfl⟩⟩
  have hmv:=mu (M:=M) hH (id:=id) (ep:=ep) v1 ho (val:= .slice none 0 0) (es':=([]:List Int).map (D.int .i64)) (ed.refl (fun _=>False) w') (fun _ h=>h.elim) (fun b h=>by simp[dG]at h) P6 ((sK _ _).2 rfl)
  exact⟨_,_,rfl,hmv.1,hmv.2.1,hmv.2.2⟩
 ·rw[dz]
  have hb:b<w.heap.size:=(Array.getElem?_eq_some_iff.1 hg).1
  have UJ:∀j,j<zs.length->cur[j]? =some (.int .i64 zs[j]!):=by
   intro j hj
   have h1:(cur.toList.take (zs.length*1))[j]? =(zs.map (Value.int .i64))[j]? :=by rw[P4]
   rw[List.getElem?_take_of_lt (by omega),List.getElem?_map,List.getElem?_eq_getElem hj]at h1
   simp only[Option.map_some]at h1
   rw[getElem!_pos zs j hj]
   simpa using h1
  refine(hS b 0 cap zs w (fun j hj=> ?_) hlen ae).mono ?_
  ·simp only[List.size_toArray]at hj
   refine⟨?_, ?_⟩
   ·exact ady
   ·unfold World.frozen?
    simp[hg]
  rintro e w' ⟨rfl,n,rfl⟩
  have mY:=P5 zs
  generalize BC:Lib.compact zs=rs at mY|-
  have xN:∀k:Nat,(putRow (Value.int .i64) (Sort.ahead w n) b 0 (rs++List.replicate (zs.length - rs.length) 0).toArray).heap[k]? =(w.heap.modify b (onCells (putCells (Value.int .i64) 0 (rs++List.replicate (zs.length - rs.length) 0).toArray)))[k]? :=by
   intro k
   unfold putRow mapBlock Sort.ahead
   rfl
  have uI:ed (· =b) w (putRow (Value.int .i64) (Sort.ahead w n) b 0 (rs++List.replicate (zs.length - rs.length) 0).toArray):=by
   refine⟨rfl,rfl,rfl, ?_,fun k hk iz=> ?_⟩
   ·unfold putRow mapBlock Sort.ahead;simp
   ·rw[xN k,Array.getElem?_modify,if_neg (fun e=>iz e.symm)]
  have BU:dG (φ id)=some b:=by rw[dz];rfl
  have Bo:(putRow (Value.int .i64) (Sort.ahead w n) b 0 (rs++List.replicate (zs.length - rs.length) 0).toArray).heap[b]? =some (.cells (putCells (Value.int .i64) 0 (rs++List.replicate (zs.length - rs.length) 0).toArray cur) ty (0,0)):=by
   rw[xN b,Array.getElem?_modify,if_pos rfl,hg];rfl
  have P6:(putRow (Value.int .i64) (Sort.ahead w n) b 0 (rs++List.replicate (zs.length - rs.length) 0).toArray).ownsRow 0 ty 1 (.slice (some ⟨b,0,none⟩) rs.length cap) (rs.map (D.int .i64)).length (rs.map (Value.int .i64)):=by
   rw[List.length_map]
   refine⟨aJ, .inr ⟨b,cap,_,rfl,Nat.zero_le _,Bo,ae,wP, ?_, ?_⟩⟩
   ·unfold putCells;simpa using hcs
   ·apply List.ext_getElem?
    intro j
    by_cases hj:j<rs.length
    ·rw[List.getElem?_take_of_lt (by omega),List.getElem?_map,List.getElem?_eq_getElem (l:=rs) (by omega)]
     have Q6:j<cur.size:=ae
     unfold putCells
     simp only[Array.getElem?_toList,Array.getElem?_mapIdx,Option.map_some]
     rw[Array.getElem?_eq_getElem Q6]
     simp only[Option.map_some,Nat.zero_le,true_and,Nat.zero_add,List.size_toArray,Nat.sub_zero]
     rw[if_pos (by rw[List.length_append];omega)]
     rw[getElem!_pos _ j (by simp;omega)]
     simp[List.getElem_append_left hj]
    ·rw[List.getElem?_eq_none (by rw[List.length_take,Nat.mul_one];exact Nat.le_trans (Nat.min_le_left _ _) (Nat.not_lt.1 hj)),List.getElem?_eq_none (by rw[List.length_map];exact Nat.not_lt.1 hj)]
  have hmv:=mu (M:=M) hH (id:=id) (ep:=ep) v1 ho (val:= .slice (some ⟨b,0,none⟩) rs.length cap) (es':=rs.map (D.int .i64)) uI (fun c hc=>hc ▸ BU) (fun c hc=> .inl (by simp[dG]at hc;rw[<- hc];exact BU)) P6 ((sK _ _).2 rfl)
  exact⟨_,_,rfl,hmv.1,hmv.2.1,hmv.2.2⟩
theorem Mb{P:Program}{g:FuncId}(hE:Enters P g)(hS:ph P g){o:Nat->aa}{fr id ep:Nat}{ty:TypeId}{zs:List Int}(ho:o id= .arr ep ty 1 (zs.map (D.int .i64)))
 (hn:∀p cap w,Calls P g #[.slice p 0 cap] w fun e w'=>e= .returned (.slice p 0 cap)/\w'=w)
 (hlen:zs.length<=9223372036854775807):BO P g [.osl id ep] [id] o fr (.osl id (ep+1)) [(id, .arr (ep+1) ty 1 ((Lib.compact zs).map (D.int .i64)))]:=by
 refine⟨hE,fun o' us M φ w vals hag c8 hH hd=> ?_⟩
 obtain⟨ha,hu⟩:=hag id aJ
 have wu:o' id= .arr ep ty 1 (zs.map (D.int .i64)):=ha.trans ho
 obtain⟨val,us',kD,⟨v0,v1,v2⟩,dg⟩:=hd
 have dg:us'=[]:=dg
 subst dg
 have fK:val=φ id:=(v2 ep (by show(o' id).bV=some ep;rw[wu];rfl)).2 rfl
 have V0:vals=#[φ id]:=by rw[<- fK];exact Array.ext' (by simpa using kD)
 subst V0
 refine(Cz hS hn hH hu wu hlen).mono ?_
 rintro e w' ⟨val,aH,rfl,h1,h2,h3⟩
 obtain⟨k1,k2⟩:=j9 h1 (us':=fun j=>us j\/j=fr) (fun j hj=>by
  simp only[Hp.put]at hj
  rcases hj with hj|hj
  ·exact .inl hj
  ·simp at hj;subst hj;exact .inl hu)
 have gS:(⟨((⟨o',us⟩:Hp).put [(id, .arr (ep+1) ty 1 ((Lib.compact zs).map (D.int .i64)))]).o,fun j=>us j\/j=fr⟩:Hp)=⟨put o' [(id, .arr (ep+1) ty 1 ((Lib.compact zs).map (D.int .i64)))],fun j=>us j\/j=fr⟩:=rfl
 rw[gS]at k1 k2
 exact⟨aH,k1,h2.trans k2,_,rfl,V.aS k2 _ _ h3⟩
end Go.Proofs.YtnkamdiiakdkgaaGreat
end
namespace Go.Proofs.YtnkamdiiakdkgaaGreat
theorem aaU{L:List jX}{n:Int}{k:Nat}(hn:0<=n/\n<=(L.length:Int) - 1)(ha:∀x∈L,0<=x.args/\x.args<=4):ji L n<=4:=by
 unfold ji
 rw[List.getElem?_eq_getElem (by omega)]
 exact(ha _ (List.getElem_mem _)).2
theorem J3:∀ {l:List jX} {a b:List (List UInt8)},cC l a=some b->∀x∈l,0<=x.args/\x.args<=4
 |[],_,_,_,x,hx=>by cases hx
 |y::l,a,b,h,x,hx=>by
  unfold cC at h
  split at h
  ·cases h
  ·split at h
   ·cases h
   ·rename_i h2
    rcases List.mem_cons.1 hx with e|e
    ·subst e
     simp[ft]at h2
     exact⟨h2.2.1,h2.2.2⟩
    ·exact J3 h x e
theorem Xe{s:cB}(h:ke s=true):∀x∈s.bX,0<=x.args/\x.args<=4:=by
 unfold ke at h
 split at h
 ·cases h
 ·split at h
  ·split at h
   ·cases h
   ·split at h
    ·cases h
    ·rename_i l _
     cases h2:cC s.bX l with
     |none=>rw[h2]at h;cases h
     |some B=>exact J3 h2
  ·cases h
theorem P7{s:cB}:∀t:Tm,kU s t=true->∀x∈gK t,bJ s x=true:=by
 refine Tm.eJ fun t ih h x hx=> ?_
 rw[tV,Bool.and_eq_true,List.all_eq_true]at h
 rw[jL]at hx
 rcases List.mem_cons.1 hx with e|e
 ·rw[e];exact h.1
 ·obtain⟨k,hk,hx⟩:=List.mem_flatMap.1 e
  exact ih k hk (h.2 k hk) x hx
theorem aaV:∀t:Tm,t.fits->∀x∈gK t,x.fits:=by
 refine Tm.eJ fun t ih h x hx=> ?_
 rw[jL]at hx
 rcases List.mem_cons.1 hx with e|e
 ·rw[e];exact h
 ·obtain⟨k,hk,hx⟩:=List.mem_flatMap.1 e
  exact ih k hk (((Tm.bK t).1 h).2 k hk) x hx
theorem Fj:∀ (l:List Tm) (i:Int) (q:List Int) (b:Bool) (x:Sp),x∈jm l i q b->∃k∈l,∃j:Int,x∈lK k (q++[j]) b
 |[],_,_,_,x,h=>by simp[jm]at h
 |k::l,i,q,b,x,h=>by
  rw[jm,List.mem_append]at h
  rcases h with h|h
  ·exact⟨k,aJ,i,h⟩
  ·obtain⟨k',h1,h2⟩:=Fj l _ _ _ _ h
   exact⟨k',by simp[h1],h2⟩
theorem CA:∀ (t:Tm) (q:List Int) (b:Bool),∀x∈lK t q b,x.t∈gK t/\x.path.length+x.t.nK<=q.length+t.nK:=by
 refine Tm.eJ fun t ih q b x hx=> ?_
 rw[HN]at hx
 rw[jL]
 rcases List.mem_cons.1 hx with e|e
 ·subst e;exact⟨aJ,Nat.le_refl _⟩
 ·obtain⟨k,hk,j,h⟩:=Fj _ _ _ _ _ e
  obtain⟨h1,h2⟩:=ih k hk _ _ x h
  refine⟨List.mem_cons_of_mem _ (List.mem_flatMap.2 ⟨k,hk,h1⟩), ?_⟩
  have:=Tm.pI hk
  rw[List.length_append]at h2
  simp at h2;omega
structure Rk (p:Pg) (r:Rl):Prop where
 fn:0<=r.fn/\r.fn<=(p.sig.bX.length:Int) - 1
 len:r.aC.length<=4
 term:gD p.sig r.rhs=true
theorem yg{p:Pg}(h:dJ p=true):ke p.sig=true:=by simp only[dJ,Bool.and_eq_true]at h;exact h.1.1
theorem sL{p:Pg}(h:dJ p=true){r:Rl}(hr:r∈p.rules):Rk p r:=by
 have hs:=Xe (yg h)
 simp only[dJ,Bool.and_eq_true,List.all_eq_true]at h
 have h2:=h.2 r hr
 simp only[gY,ll,Bool.and_eq_true,decide_eq_true_eq]at h2
 obtain⟨⟨⟨⟨⟨⟨h3,h4⟩,h5⟩,h6⟩,h7⟩,h8⟩,h9⟩:=h2
 cases e:p.sig.bX[r.fn.toNat]? with
 |none=>rw[e]at h4;cases h4
 |some f=>
  rw[e]at h4
  simp only[beq_iff_eq]at h4
  have:=hs f (List.mem_of_getElem? e)
  have hl:=(List.getElem?_eq_some_iff.1 e).1
  exact⟨⟨h3,ae⟩,ae,h7⟩
theorem Rk.node {p:Pg}{r:Rl}(h:Rk p r){x:Sp}(hx:x∈lK r.rhs [] true):bJ p.sig x.t=true/\x.path.length<=12:=by
 have ht:=h.term
 simp only[gD,Bool.and_eq_true,decide_eq_true_eq]at ht
 obtain⟨h1,h2⟩:=CA _ _ _ x hx
 have:=((xW r.rhs 40 12).1 ht.1).2
 refine⟨P7 _ ht.2 _ h1, ?_⟩
 simp at h2;omega
theorem Rk.kids {p:Pg}{r:Rl}(h:Rk p r)(hs:ke p.sig=true){x:Sp}(hx:x∈lK r.rhs [] true)(h4:x.t.op=4):x.t.kids.length<=4:=by
 have hn:=(h.node hx).1
 simp[bJ,h4,ft]at hn
 have:=aaU (k:=0) hn.1 (Xe hs)
 omega
theorem Rk.parts {p:Pg}{r:Rl}(h:Rk p r){n:Int}(hn:n∈ki r.rhs):0<=n/\n<=(p.sig.bX.length:Int) - 1:=by
 have ht:=h.term
 simp only[gD,Bool.and_eq_true]at ht
 unfold ki at hn
 obtain⟨x,h1,rfl⟩:=List.mem_map.1 hn
 obtain⟨h2,h3⟩:=List.mem_filter.1 h1
 simp only[beq_iff_eq]at h3
 have:=P7 _ ht.2 x h2
 simp[bJ,h3,ft]at this
 exact this.1
theorem P8(p:Pg):(dP p).Pairwise (· <·):=by
 unfold dP
 refine List.Pairwise.filter _ ?_
 rw[List.pairwise_map]
 exact List.pairwise_lt_range.imp (fun h=>ae)
theorem Tl{p:Pg}(h:∀r∈p.rules,Rk p r)(n:Int):n∈dP p↔n∈p.rules.flatMap fun r=>ki r.rhs:=by
 unfold dP
 rw[List.mem_filter,List.mem_map,List.contains_iff_mem]
 constructor
 ·exact fun h=>h.2
 ·intro hn
  refine⟨?_,hn⟩
  obtain⟨r,hr,h1⟩:=List.mem_flatMap.1 hn
  have:=(h r hr).parts h1
  exact⟨n.toNat,by rw[List.mem_range];omega,ae⟩
theorem Mc(zs:List Int)(h:zs.Pairwise (· <=·)):(Lib.compact zs).Pairwise (· <·):=by
 unfold Lib.compact Lib.compactUpTo
 rw[List.pairwise_map]
 have hle:∀i j,i<=j->j<zs.length->zs.toArray[i]! <=zs.toArray[j]! :=fun i j Sa hj=>by
  rcases Nat.eq_or_lt_of_le Sa with e|e
  ·rw[e];exact Int.le_refl _
  ·have:=List.pairwise_iff_getElem.1 h i j ae hj e
   simpa[getElem!_pos,hj,show i<zs.length by omega]using this
 refine List.Pairwise.imp_of_mem (fun {a b} ha hb hab=> ?_) (List.Pairwise.filter (R:=(· <·)) _ List.pairwise_lt_range)
 obtain⟨GJ,hb2⟩:=List.mem_filter.1 hb
 have GJ:=List.mem_range.1 GJ
 simp only[Lib.keeps,decide_eq_true_eq]at hb2
 have h1:=hle a (b - 1) ae ae
 have h2:=hle (b - 1) b ae GJ
 rcases hb2 with g|g
 ·omega
 ·have g':zs.toArray[b - 1]! ≠zs.toArray[b]! :=Ne.symm g
  omega
theorem P9(zs:List Int)(n:Int):n∈Lib.compact zs↔n∈zs:=by
 unfold Lib.compact Lib.compactUpTo
 rw[List.mem_map]
 constructor
 ·rintro⟨i,hi,rfl⟩
  have:=List.mem_range.1 (List.mem_filter.1 hi).1
  rw[getElem!_pos zs.toArray i (by simpa using this)]
  simp
 ·intro hn
  obtain⟨i,hi,rfl⟩:=List.getElem_of_mem hn
  have key:∀i,i<zs.length->∃j,j<=i/\Lib.keeps zs.toArray j=true/\zs.toArray[j]! =zs.toArray[i]! :=by
   intro i
   induction i with
   |zero=>intro _;exact⟨0,Nat.le_refl _,by simp[Lib.keeps],rfl⟩
   |succ i ih=>
    intro hi
    by_cases hk:Lib.keeps zs.toArray (i+1)=true
    ·exact⟨i+1,Nat.le_refl _,hk,rfl⟩
    ·obtain⟨j,h1,h2,h3⟩:=ih ae
     refine⟨j,ae,h2, ?_⟩
     simp only[Lib.keeps,decide_eq_true_eq,not_or,Decidable.not_not]at hk
     rw[h3,hk.2];rfl
  obtain⟨j,h1,h2,h3⟩:=key i hi
  refine⟨j,List.mem_filter.2 ⟨List.mem_range.2 ae,h2⟩, ?_⟩
  rw[h3,getElem!_pos zs.toArray i (by simpa using hi)]
  simp
theorem Qa(l:List Int):(eO l).Pairwise (· <=·):=by
 have:=List.pairwise_mergeSort (le:=fun x y:Int=>decide (x<=y)) (fun a b c h1 h2=>by simp at*;omega) (fun a b=>by simp;omega) l
 exact this.imp (fun h=>by simpa using h)
theorem aaW{p:Pg}(h:∀r∈p.rules,Rk p r):Lib.compact (eO (p.rules.flatMap fun r=>ki r.rhs))=dP p:=by
 refine Fh (Mc _ (Qa _)) (P8 p) fun n=> ?_
 rw[P9,Tl h]
 unfold eO
 exact(List.mergeSort_perm _ _).mem_iff
end Go.Proofs.YtnkamdiiakdkgaaGreat
namespace Go.Proofs.YtnkamdiiakdkgaaGreat
theorem Qb:∀a:Tm,a.fits->∀b:Tm,b.fits->aW Tryz.prog 105 [a.d,b.d] (.ret [.bool (iK a b)]):=by
 refine Tm.eJ fun a ih ha b hb=> ?_
 have ha':=(Tm.bK _).1 ha
 have RK:=(Tm.bK _).1 hb
 refine aW.aI mix Wn aJ ?_
 rw[ZP,ER]
 refine ba ?_
 refine Eo (aj (fun h1=> ?_) (fun h1=> ?_))
 ·rw[h1]
  refine cz h1 ?_
  refine bg (PM a.kids b.kids ha'.1 RK.1 105 (fun x hx y hy=>ih x hx (ha'.2 x hx) y (RK.2 y hy)) _ _ eW _ _ fun o2 n2 m1 m2 m3=> ?_)
  exact s9 h1
 ·rw[h1]
  exact s9 h1
theorem aiY{t:Tm}{k:Tm}(hr:aW Tryz.prog 75 [t.d,k.d] (.ret [.i (vE t k)])){base tb:Nat}(Gs:tb<base){h:Nat->aa}(ht:h tb= .row t.row):
 mh Tryz.prog 107 [.d k.d, .ptr tb 0] base h h (.d (.bool (lp t k))):=by
 intro o nx hI K X hK
 have hle:=hI.le
 have ot:o tb= .row t.row:=by rw[hI.eq tb Gs,ht]
 have y1:tb≠nx:=ae
 have y2:∀k,tb≠nx+k:=fun k=>ae
 refine cX.aI mix Wp aJ ?_
 rw[ZR]
 refine gu (ak ot (ak y1 y2)) ?_
 refine aF hr rfl ?_
 refine cz @Tj ?_
 exact hK _ _ ae (hI.au ae ae ae rfl) fun id i1 i2=>cH
theorem HO(t:Tm)(ht:t.fits):∀p:Tm,p.fits->aW Tryz.prog 75 [t.d,p.d] (.ret [.i (vE t p)]):=by
 refine Tm.eJ fun p ih hp=> ?_
 have Vs:=(Tm.bK _).1 hp
 refine aW.aI mix ae3 aJ ?_
 rw[c75]
 unfold vE
 refine ba ?_
 refine aF (Qb t ht p hp) rfl ?_
 cases h1:iK t p with
 |true=>exact s9 h1
 |false=>
  refine cz h1 ?_
  refine bg (uY p.kids Vs.1 107 [.ptr 0 0] 1 (fun _:Unit=>au (fun _=> .no) 0 (.row t.row)) (fun _ k=>((), !lp t k)) ra (fun _=>True) (fun _ _ _ _ _=>trivial) (fun x hx _ _=>by
   have:=aiY (ih x hx (Vs.2 x hx)) (base:=1) (tb:=0) ae (h:=au (fun _=> .no) 0 (.row t.row)) (af _ _ _)
   simpa using this) () trivial _ _ ⟨eW,ae,fun id aq=> ?_⟩ _ _ fun o2 n2 m1 m2 m3=> ?_)
  ·exact cH
  have e:(aA (fun(_:Unit) k=>((), !lp t k)) () p.kids).2= !(p.kids.any (lp t)):=by
   rw[tg]
   rw[List.not_any_eq_all_not]
  rw[e,Bool.not_not]
  cases h2:p.kids.any (lp t)with
  |true=>exact s9 h2
  |false=>exact s9 h2
theorem Qc(n low high:Int):aW Tryz.prog 51 [.i n, .i low, .i high] (.ret [.bool (decide (low<=n)&&decide (n<=high))]):=by
 refine aW.aI mix aip aJ ?_
 rw[c51]
 simp+contextual only[go_sem]
theorem Tn(a b a' b':Int)(l l':Bool):mX Tryz.prog 100 64 (.agg [.i a, .i b, .bool l]) (.agg [.i a', .i b', .bool l'])=some (a==a'&&(b==b'&&l==l')):=by
 have h1:bz Tryz.prog 64=some (.struct [(3,0),(3,1),(4,2)]):=aK
 have h2:bz Tryz.prog 4=some .bool:=aK
 have h3:bz Tryz.prog 3=some .int:=aK
 have h4:cL Tryz.prog 4=some false:=aK
 have h5:cL Tryz.prog 3=some false:=aK
 simp[mX,h1,h2,h3,h4,h5,wG,NO,cT,Bj]
def nW(i j:Int)(x y:cu):Bool:=x.f==i&&x.t==y.f&&y.t==j
theorem aaX(a b:List cu)(i j:Int):p8 a b i j=(a.any fun x=>b.any (nW i j x),a.any fun x=>b.any fun y=>nW i j x y&&(x.l||y.l)):=rfl
theorem mS{α:Type}{l:List α}{k:Nat}{x:α}(hx:l[k]? =some x)(f:α->Bool):(l.take (k+1)).any f=((l.take k).any f||f x):=by
 rw[List.take_add_one,hx];simp
theorem Md(a b:List cu)(ha:a.length<=1000000)(hb:b.length<=1000000)(i j:Int):aW Tryz.prog 83 [.sl (a.map cu.d), .sl (b.map cu.d), .i i, .i j] (.ret [.bool (p8 a b i j).1, .bool (p8 a b i j).2]):=by
 refine aW.aI mix aiH aJ ?_
 rw[c83,aaX]
 refine ba ?_
 refine aw (fun k:Nat=>⟨aT [.d (.sl (a.map cu.d)), .d (.sl (b.map cu.d)), .d (.i i), .d (.i j), .ag, .ag, .ag, .ag, .ag, .ag, .d (.bool ((a.take k).any fun x=>b.any (nW i j x))), .d (.bool ((a.take k).any fun x=>b.any fun y=>nW i j x y&&(x.l||y.l))), .d (.i k)],fun _=> .no,1⟩)
  (fun k=>k<=a.length) (fun k=>a.length - k) 0 (Nat.zero_le _) (aZ.aV _ ae ae eW (fun _ _=>rfl) ?_) (fun k hk=> ?_)
 ·exact bZ
 replace hk:k<=a.length:=hk
 refine mW ?_
 refine aj (fun h2=> ?_) (fun h2=> ?_)
 ·simp at h2
  obtain⟨x,hx⟩:=EO h2
  refine ba ?_
  obtain⟨P,hP⟩:∃P:Nat->Bool,P=fun m=>((a.take k).any (fun x=>b.any (nW i j x))||(b.take m).any (nW i j x)):=⟨_,rfl⟩
  obtain⟨Q,hQ⟩:∃Q:Nat->Bool,Q=fun m=>((a.take k).any (fun x=>b.any fun y=>nW i j x y&&(x.l||y.l))||(b.take m).any fun y=>nW i j x y&&(x.l||y.l)):=⟨_,rfl⟩
  have p0:P 0=(a.take k).any (fun x=>b.any (nW i j x)):=by rw[hP];simp
  have q0:Q 0=(a.take k).any (fun x=>b.any fun y=>nW i j x y&&(x.l||y.l)):=by rw[hQ];simp
  have pN:P b.length=(a.take (k+1)).any (fun x=>b.any (nW i j x)):=by rw[hP,mS hx];simp[List.take_length]
  have qN:Q b.length=(a.take (k+1)).any (fun x=>b.any fun y=>nW i j x y&&(x.l||y.l)):=by rw[hQ,mS hx (fun x=>b.any fun y=>nW i j x y&&(x.l||y.l))];simp[List.take_length]
  have pS:∀m y,b[m]? =some y->P (m+1)=(P m||nW i j x y):=fun m y hy=>by rw[hP];simp only[mS hy (nW i j x),Bool.or_assoc]
  have qS:∀m y,b[m]? =some y->Q (m+1)=(Q m||(nW i j x y&&(x.l||y.l))):=fun m y hy=>by rw[hQ];simp only[mS hy (fun y=>nW i j x y&&(x.l||y.l)),Bool.or_assoc]
  clear hP hQ
  rw[<- p0, <- q0]
  refine aw (fun m:Nat=>⟨aT [.d (.sl (a.map cu.d)), .d (.sl (b.map cu.d)), .d (.i i), .d (.i j), .ag, .ag, .ag, .ag, .ag, .ag, .d (.bool (P m)), .d (.bool (Q m)), .d (.i k), .d (.i m)],fun _=> .no,1⟩)
   (fun m=>m<=b.length) (fun m=>b.length - m) 0 (Nat.zero_le _) (aZ.aV _ (show 0<=1 from ae) ae eW (fun _ _=>rfl) ?_) (fun m hm=> ?_)
  ·exact bZ
  replace hm:m<=b.length:=hm
  refine mW ?_
  refine aj (fun h3=> ?_) (fun h3=> ?_)
  ·simp at h3
   obtain⟨y,hy⟩:=EO h3
   have e1:=pS m y hy
   have e2:=qS m y hy
   have wT:nW i j x y=(x.f==i&&x.t==y.f&&y.t==j):=rfl
   cases c1:(x.f==i)with
   |false=>
    rw[wT,c1]at e1 e2
    simp only[Bool.false_and,Bool.or_false]at e1 e2
    refine cz (ak hx (ak hy c1)) ?_
    exact XS
   |true=>
   cases c2:(x.t==y.f)with
   |false=>
    rw[wT,c1,c2]at e1 e2
    simp only[Bool.false_and,Bool.and_false,Bool.true_and,Bool.or_false]at e1 e2
    refine cz (ak hx (ak hy (ak c1 c2))) ?_
    exact XS
   |true=>
   cases c3:(y.t==j)with
   |false=>
    rw[wT,c1,c2,c3]at e1 e2
    simp only[Bool.false_and,Bool.and_false,Bool.true_and,Bool.or_false]at e1 e2
    refine cz (ak hx (ak hy (ak c1 (ak c2 c3)))) ?_
    exact XS
   |true=>
    rw[wT,c1,c2,c3]at e1 e2
    simp only[Bool.true_and,Bool.or_true]at e1 e2
    refine cz (ak hx (ak hy (ak c1 (ak c2 c3)))) ?_
    refine aB (aD rfl) ?_
    cases hq:Q m with
    |true=>
     rw[hq]at e2
     simp only[Bool.true_or]at e2
     refine cz hq ?_
     refine ai (m+1) h3 ae (aZ.aV _ (show 0<=1 from ae) ae eW (fun _ _=>rfl) ?_)
     rw[e1,e2]
     exact bZ
    |false=>
     rw[hq]at e2
     simp only[Bool.false_or]at e2
     cases hxl:x.l with
     |true=>
      rw[hxl]at e2
      simp only[Bool.true_or]at e2
      exact adb
     |false=>
      rw[hxl]at e2
      simp only[Bool.false_or]at e2
      exact adb
  ·simp at h3
   have hmb:m=b.length:=ae
   subst hmb
   refine ba ?_
   refine ai (k+1) h2 ae (aZ.aV _ (show 0<=1 from ae) ae eW (fun _ _=>rfl) ?_)
   rw[<- pN, <- qN]
   exact bZ
 ·simp at h2
  have Rm:k=a.length:=ae
  subst Rm
  rw[List.take_length]
  exact ur
theorem Qd(l:List Int)(n:Int)(hl:l.length<=1000000):aW Tryz.prog 124 [.sl (l.map .i), .i n] (.ret [.bool (l.contains n)]):=by
 refine aW.aI mix afz aJ ?_
 rw[afy]
 refine ba ?_
 refine aw (fun k:Nat=>⟨aT [.d (.sl (l.map .i)), .d (.i n), .ag, .ag, .ag, .d (.i k)],fun _=> .no,0⟩)
  (fun k=>k<=l.length/\(l.take k).contains n=false) (fun k=>l.length - k) 0 ⟨Nat.zero_le _,aJ⟩ (aZ.d0 _ ?_) (fun k hk=> ?_)
 ·exact bZ
 refine ba ?_
 refine aj (fun h2=> ?_) (fun h2=> ?_)
 ·simp at h2
  obtain⟨x,hx⟩:=az h2
  refine cz hx ?_
  refine aj (fun h3=> ?_) (fun h3=> ?_)
  ·refine ba ?_
   have:l.contains n=true:=by
    rw[List.contains_iff_mem, <- (by simpa using h3:x=n)];exact List.mem_of_getElem? hx
   rw[this]
  ·refine ba ?_
   refine ai (k+1) ⟨h2, ?_⟩ ae (aZ.d0 _ ?_)
   ·have h4: ¬n=x:=fun e=>by subst e;simp at h3
    have h5:=hk.2
    rw[List.take_add_one,hx]
    rw[Bool.eq_false_iff]at h5|-
    intro hc;apply h5
    rw[List.contains_iff_mem]at hc|-
    rcases List.mem_append.1 hc with hc|hc
    ·exact hc
    ·simp at hc;exact absurd hc h4
   ·exact bZ
 ·simp at h2
  refine ba ?_
  have:=hk.2
  rw[List.take_of_length_le (by omega)]at this
  rw[this]
theorem yh:∀ (l:List Int) (n:Int),∃k,k<=l.length/\(∀x∈l.take k,x<n)/\(∀x,l[k]? =some x-> ¬x<n)/\lh l n=if l[k]? =some n then l else l.take k++n::l.drop k
 |[],n=>⟨0,Nat.zero_le _,aJ,aJ,by simp[lh]⟩
 |x::l,n=>by
  obtain⟨k,h1,h2,h3,h4⟩:=yh l n
  by_cases hx:x<n
  ·refine⟨k+1,by simp;omega, ?_,by simpa using h3, ?_⟩
   ·intro y hy
    simp only[List.take_succ_cons,List.mem_cons]at hy
    rcases hy with rfl|hy
    ·exact hx
    ·exact h2 y hy
   ·simp only[lh,if_pos hx,h4,List.getElem?_cons_succ,List.take_succ_cons,List.drop_succ_cons]
    split<;>simp
  ·refine⟨0,Nat.zero_le _,aJ,by simpa using hx, ?_⟩
   simp only[lh,if_neg hx]
   by_cases e:x=n
   ·subst e;simp
   ·simp[e]
theorem NC(l:List Int)(n:Int)(hl:l.length<=1000000):aW Tryz.prog 92 [.sl (l.map .i), .i n] (.ret [.sl ((lh l n).map .i)]):=by
 obtain⟨j,j1,j2,j3,j4⟩:=yh l n
 have tk:∀ (i:Nat) (l:List Int),List.take i (l.map D.i)=(l.take i).map D.i:=fun i l=>List.map_take.symm
 have dr:∀ (i:Nat) (l:List Int),List.drop i (l.map D.i)=(l.drop i).map D.i:=fun i l=>List.map_drop.symm
 have ap:∀ (a b:List Int),a.map D.i++[D.i n]++b.map D.i=(a++n::b).map D.i:=fun a b=>aJ
 refine aW.aI mix aiL aJ ?_
 rw[c92]
 refine ba ?_
 refine aw (fun k:Nat=>⟨aT [.d (.sl (l.map .i)), .d (.i n), .ag, .ag, .ag, .d (.i k)],fun _=> .no,0⟩)
  (fun k=>k<=j) (fun k=>l.length - k) 0 (Nat.zero_le _) (aZ.d0 _ ?_) (fun k hk=> ?_)
 ·exact bZ
 by_cases hkj:k=j
 ·subst hkj
  by_cases h5:k<l.length
  ·obtain⟨x,hx⟩:=az h5
   have h6:=j3 x hx
   have vK:(k:Int)<l.length:=ae
   refine cz (ak hx (ak vK h6)) ?_
   refine aj (fun h3=> ?_) (fun h3=> ?_)
   ·refine ba ?_
    have e:x=n:=by simpa using h3
    rw[j4,if_pos (by rw[hx,e])]
   ·have e: ¬x=n:=by simpa using h3
    rw[j4,if_neg (by rw[hx];simpa using e)]
    refine ach (ak hx (ak vK (ak h6 (ak tk dr)))) ?_
    rw[ap]
    exact IB
  ·have vK: ¬ (k:Int)<l.length:=ae
   have hx:l[k]? =none:=by simp;omega
   rw[j4,if_neg (by rw[hx];simp)]
   refine ach (ak vK (ak tk dr)) ?_
   rw[ap]
   exact IB
 ·have cS:k<l.length:=ae
  obtain⟨x,hx⟩:=az cS
  have vK:(k:Int)<l.length:=ae
  have h6:x<n:=j2 x (List.mem_of_getElem? (i:=k) (by rw[List.getElem?_take_of_lt (by omega)];exact hx))
  refine cz (ak hx (ak vK h6)) ?_
  refine ai (k+1) ae ae (aZ.d0 _ ?_)
  exact bZ
theorem tj{op n:Int}{i:Nat}{l:List Int}{k:Nat}{v:Int}(h:l[k]? =some v)(out:List Int):nB op n i (l.take (k+1)) out=if(op !=8||(i:Int)!=1||v !=n)=true then lh (nB op n i (l.take k) out) v else nB op n i (l.take k) out:=by
 unfold nB
 rw[List.take_add_one,h,List.foldl_append]
 rfl
theorem wa:∀t:Tm,t.HB->aW Tryz.prog 114 [t.d] (.ret [.sl ((cl t).map .i)]):=by
 refine Tm.eJ fun t ih ht=> ?_
 have l0:=(Tm.bK _).1 ht.fits
 refine aW.aI mix afo aJ ?_
 rw[afn]
 by_cases h1:t.op=1
 ·refine cz h1 ?_
  rw[o9,if_pos h1]
  rfl
 ·have nS:(t.op==1)=false:=by simpa using h1
  refine cz nS ?_
  rw[o9,if_neg h1]
  refine aw (fun i:Nat×List Int=>⟨aT [.ag, .ptr 0 0, .ag, .d (.sl (i.2.map .i)), .d (.i i.1)],jS t.row,1⟩)
   (fun i=>i.1<=t.kids.length/\jT t.op t.n t.kids 0 []=jT t.op t.n (t.kids.drop i.1) i.1 i.2/\i.2.length<=iT (t.kids.take i.1)) (fun i=>t.kids.length - i.1) (0,[]) ⟨Nat.zero_le _,rfl,Nat.zero_le _⟩
   (aZ.agl (fun _=>False) 1 _ ae (MI (bn rfl n8)) (fun j hj=>ab _ _ _ _ ae) (fun _ h=>h.elim) ?_) ?_
  ·try dsimp only
   exact lI
  rintro⟨k,out⟩ ⟨hk,hv,hlen⟩
  simp only at hk hv hlen
  refine ba ?_
  refine aj (fun h2=> ?_) (fun h2=> ?_)
  ·simp at h2
   obtain⟨x,hx⟩:=az h2
   have dR:=List.mem_of_getElem? hx
   have dU:iT (t.kids.take (k+1))=iT (t.kids.take k)+x.sz:=by
    rw[List.take_add_one,hx];simp[iT]
   have hle:iT (t.kids.take (k+1))<=iT t.kids:=by
    have:iT t.kids=iT (t.kids.take (k+1))+iT (t.kids.drop (k+1)):=by
     conv=>lhs;rw[<- List.take_append_drop (k+1) t.kids]
     exact RB
    omega
   have pG:iT t.kids<=1000000:=by have:=ht.size;rw[Tm.sy,Tm.jU]at this;omega
   have hvl:=mP x
   have Rn:t.kids.drop k=x::t.kids.drop (k+1):=by
    exact U4
   refine cz hx ?_
   refine br (ih x dR (ht.kid dR)) ?_
   refine cz hx ?_
   refine aw (fun j:Nat=>⟨aT [.ag, .ptr 0 0, .ag, .d (.sl ((nB t.op t.n k ((cl x).take j) out).map .i)), .d (.i k), .d (.sl ((cl x).map .i)), .d (.i j)],jS t.row,1⟩)
    (fun j=>j<=(cl x).length) (fun j=>(cl x).length - j) 0 (Nat.zero_le _) (aZ.d1 _ (bt rfl) ae rfl ?_) (fun j hj=> ?_)
   ·exact bZ
   refine ba ?_
   refine aj (fun h3=> ?_) (fun h3=> ?_)
   ·simp at h3
    obtain⟨v,Q1⟩:=az h3
    have oj:=pb t.op t.n k ((cl x).take j) out
    have htl:((cl x).take j).length<=(cl x).length:=by rw[List.length_take];omega
    cases b1:(t.op !=8)with
    |true=>
     have hc:(t.op !=8||(k:Int)!=1||v !=t.n)=true:=by rw[b1];rfl
     refine cz (ak Q1 b1) ?_
     exact ac8
    |false=>
     cases b2:((k:Int)!=1)with
     |true=>
      have hc:(t.op !=8||(k:Int)!=1||v !=t.n)=true:=by rw[b1,b2];rfl
      refine cz (ak Q1 (ak b1 b2)) ?_
      exact ac8
     |false=>
      refine cz (ak Q1 (ak b1 b2)) ?_
      refine aB bG ?_
      refine cz Q1 ?_
      refine aj (fun h4=> ?_) (fun h4=> ?_)
      ·have hc:(t.op !=8||(k:Int)!=1||v !=t.n)=true:=by rw[h4];simp
       refine cz Q1 ?_
       refine br (NC _ v ae) ?_
       refine ba ?_
       refine ai (j+1) h3 ae (aZ.d1 _ (bt rfl) ae rfl ?_)
       rw[tj Q1,if_pos hc]
       exact bZ
      ·have hc: ¬ (t.op !=8||(k:Int)!=1||v !=t.n)=true:=by rw[b1,b2,h4];simp
       refine cz Q1 ?_
       refine ai (j+1) h3 ae (aZ.d1 _ (bt rfl) ae rfl ?_)
       rw[tj Q1,if_neg hc]
       exact bZ
   ·simp at h3
    refine ba ?_
    rw[List.take_of_length_le (by omega)]
    refine ai (k+1,nB t.op t.n k (cl x) out) ⟨h2,by rw[hv,Rn];rfl, ?_⟩ jr (aZ.d1 _ (bt rfl) ae rfl ?_)
    ·dsimp only
     have:=pb t.op t.n k (cl x) out
     omega
    ·exact bZ
  ·simp at h2
   refine ba ?_
   rw[hv,List.drop_eq_nil_of_le (by omega)]
   rfl
theorem To:∀t:Tm,t.fits->aW Tryz.prog 153 [t.d] (.ret [.bool (iQ t)]):=by
 refine Tm.eJ fun t ih hf=> ?_
 have l0:=(Tm.bK _).1 hf
 refine aW.aI mix af1 aJ ?_
 rw[af0,AS]
 refine ba ?_
 refine aw (fun k:Nat=>⟨aT [.ag, .ptr 0 0, .ag, .d (.i k)],jS t.row,1⟩)
  (fun k=>k<=t.kids.length/\(t.kids.take k).all iQ=true) (fun k=>t.kids.length - k) 0 ⟨Nat.zero_le _,aJ⟩ (aZ.d1 _ (bt rfl) ae rfl ?_) (fun k hk=> ?_)
 ·exact bZ
 refine ba ?_
 refine aj (fun h2=> ?_) (fun h2=> ?_)
 ·simp at h2
  obtain⟨x,hx⟩:=az h2
  have dR:=List.mem_of_getElem? hx
  refine cz hx ?_
  refine aF (ih x dR (l0.2 x dR)) rfl ?_
  refine ba ?_
  refine aj (fun h3=> ?_) (fun h3=> ?_)
  ·refine ba ?_
   simp at h3
   rw[db hx h3];rfl
  ·exact ado
 ·refine ba ?_
  simp at h2
  rw[fF hk.2 h2];rfl
theorem aaY:∀t:Tm,t.HB->∀b:List Int,b.length+t.sz<=1000000->aW Tryz.prog 152 [t.d, .sl (b.map .i)] (.ret [.sl ((iq t b).1.map .i), .bool (iq t b).2]):=by
 refine Tm.eJ fun t ih ht b hb=> ?_
 have l0:=(Tm.bK _).1 ht.fits
 refine aW.aI mix afZ aJ ?_
 rw[afY]
 by_cases h1:t.op=1
 ·rw[sH,if_pos h1]
  refine cz h1 ?_
  refine cf (NC _ _ ae) ?_
  refine ba ?_
  refine aY (Qd _ _ ae) rfl ?_
  refine ba ?_
  exact IB
 ·have nS:(t.op==1)=false:=by simpa using h1
  rw[sH,if_neg h1]
  refine cz nS ?_
  refine aw (fun i:Nat×List Int×Bool=>⟨aT [.ag, .d (.sl (i.2.1.map .i)), .ptr 0 0, .ag, .ag, .ag, .d (.bool i.2.2), .d (.i i.1)],jS t.row,1⟩)
   (fun i=>i.1<=t.kids.length/\gX t.kids b=(if i.2.2=true then gX (t.kids.drop i.1) i.2.1 else(i.2.1,false))/\i.2.1.length<=b.length+iT (t.kids.take i.1)) (fun i=>t.kids.length - i.1) (0,b,true) ⟨Nat.zero_le _,rfl,Nat.le_add_right _ _⟩ (aZ.d1 _ (bt rfl) ae rfl ?_) ?_
  ·dsimp only
   exact bZ
  rintro⟨k,b',is⟩ ⟨hk,hv,hlen⟩
  simp only at hk hv hlen
  have pG:=Tm.jU t
  have fin:is=false\/t.kids.length<=k->gX t.kids b=(b',is):=by
   intro h
   cases is with
   |false=>rw[hv];rfl
   |true=>
    have h:t.kids.length<=k:=by simpa using h
    rw[hv,List.drop_eq_nil_of_le h];rfl
  refine ba ?_
  cases is with
  |false=>
   refine ba ?_
   rw[fin (.inl rfl)]
  |true=>
   refine ba ?_
   refine aj (fun h2=> ?_) (fun h2=> ?_)
   ·simp at h2
    obtain⟨x,hx⟩:=az h2
    have dR:=List.mem_of_getElem? hx
    have dU:iT (t.kids.take (k+1))=iT (t.kids.take k)+x.sz:=by
     rw[List.take_add_one,hx];simp[iT]
    have hle:iT t.kids=iT (t.kids.take (k+1))+iT (t.kids.drop (k+1)):=by
     conv=>lhs;rw[<- List.take_append_drop (k+1) t.kids]
     exact RB
    have Rn:t.kids.drop k=x::t.kids.drop (k+1):=by
     exact U4
    refine cz hx ?_
    refine br (ih x dR (ht.kid dR) b' ae) ?_
    refine ba ?_
    refine ai (k+1,(iq x b').1,(iq x b').2) ⟨h2, ?_, ?_⟩ jr (aZ.d1 _ (bt rfl) ae rfl ?_)
    ·dsimp only
     rw[hv,if_pos rfl,Rn]
     simp only[gX]
    ·dsimp only
     have:=L7 x b'
     omega
    ·exact bZ
   ·simp at h2
    refine ba ?_
    rw[fin (.inr h2)]
theorem Me(t:Tm)(ht:t.HB):aW Tryz.prog 110 [t.d] (.ret [.bool ((iq t []).2&&iQ t)]):=by
 have ho:=aaY t ht [] (by have:=ht.size;rw[Tm.sy]at this;simp;omega)
 simp only[List.map_nil]at ho
 refine aW.aI mix afg aJ ?_
 rw[aff]
 refine ba ?_
 refine br ho ?_
 refine ba ?_
 refine gU (fD [.bool (iQ t)] ?_ ?_)
 ·refine ba ?_
  exact fun _=>To t ht.fits
 exact ur
def IC.snd:IC->IC
 | .seq _ y=>y
 |c=>c
def IC.fst:IC->IC
 | .seq x _=>x
 | .block _ x=>x
 | .loop x=>x
 | .cond _ x _=>x
 |c=>c
end Go.Proofs.YtnkamdiiakdkgaaGreat
