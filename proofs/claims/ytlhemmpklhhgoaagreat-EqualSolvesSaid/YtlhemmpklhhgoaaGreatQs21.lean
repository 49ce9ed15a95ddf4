/-
  EqualSolves: at every call the law answers true, and leaves all memory as it was. Conditions: none.
-/
import Derived.OpenShut
import Derived.Carry
import Derived.Handed
import Derived.JoinedOf
import Derived.ProofKit
import Derived.Test.YtlhemmpklhhgoaaGreatRows
import Derived.Test.YtlhemmpklhhgoaaGreatQs20
set_option linter.unusedSimpArgs false
set_option linter.unusedVariables false
set_option maxHeartbeats 8000000
namespace Go.Proofs.YtlhemmpklhhgoaaGreat
theorem yw{l:List TB}(h:∀x∈l,x.term.gu):∀x∈l,x.term.fits:=fun x hx=>Tm.jQ _ (h x hx)
theorem w9(hkn:a8 Tryz.prog 14 [] (.ret [.bool true]))(s:iU)(hs:s.Fits):a8 Tryz.prog 4 [s.d] (.ret [.bool true]):=by
 obtain⟨sm,tQ⟩:∃sm:Bool,sm=true↔CP s:=by
  classical
  exact⟨decide (CP s),aF⟩
 refine a8.aI mix fn4 aF ?_
 rw[c4]
 refine bW ?_
 refine aw (EI s hs tQ) rfl ?_
 cases sm with
 |false=>
  refine bW ?_
  refine aw hkn rfl ?_
  exact pK
 |true=>
  have jU:=Vu hs (tQ.1 rfl)
  obtain⟨ok,aW⟩:∃ok:Bool,ok=true↔gO s:=by
   classical
   exact⟨decide (gO s),aF⟩
  have aco:=EH s jU aW
  refine bW ?_
  cases ok with
  |false=>
   have z:=oU EM bV bV (fun _ h=>by cases h) (fun _ h=>by cases h)
   rw[wu]at z
   refine bD (Ip s jU fun h=>Bool.false_ne_true (aW.2 h)) ?_
   simp+contextual (disch:=first|omega|simp only[go_sem,false_implies]) only[go_sem,wrap64,if_pos,wu]
   refine aw aco rfl ?_
   refine bW ?_
   refine aw z rfl ?_
   refine bW ?_
   refine aw hkn rfl ?_
   exact pK
  |true=>
   have h:=aW.1 rfl
   obtain⟨l,hl,_⟩:=Ik h
   have Mn:∀n:Nt,∃r:List TB×Bool,n∈s.aR->∃f,dh f (aV (ai l) n.a) (aV (ai l) n.b) []=some r:=fun n=>by
    by_cases hn:n∈s.aR
    ·obtain⟨f,r,hr⟩:=yo _ _ (aV (ai l) n.a) (aV (ai l) n.b) [] (Nat.le_refl _) (Nat.le_refl _) gf.nil (hl.val _ (h.aR n hn).1).1 (hl.val _ (h.aR n hn).2.1).1
     exact⟨r,fun _=>⟨f,hr⟩⟩
    ·exact⟨([],false),fun h=>absurd h hn⟩
   obtain⟨ru,Mn⟩:∃ru:Nt->List TB×Bool,∀n∈s.aR,∃f,dh f (aV (ai l) n.a) (aV (ai l) n.b) []=some (ru n):=⟨fun n=>(Mn n).choose,fun n hn=>(Mn n).choose_spec hn⟩
   have t1:=EN s jU h hl Mn
   have t2:=CX h hl Mn
   have aew:=hl.W4.len
   have wA:=h.Ih
   have t3:=oU ⟨l,dH ru s.aR⟩ kC (by have:=Ai ru s.aR;dsimp only;omega) (yw hl.gu) (fun y hy=>by
    obtain⟨n,hn,rfl⟩:=List.mem_map.1 hy
    obtain⟨IE,Iv⟩:=List.mem_filter.1 hn
    obtain⟨f,hf⟩:=Mn n IE
    have va:=hl.val _ (h.aR n IE).1
    have vb:=hl.val _ (h.aR n IE).2.1
    have hrn:ru n=((ru n).1,true):=by rw[<- Iv]
    rw[hrn]at hf
    have mo:=(jM f _ _ [] (ru n).1 hf gf.nil va.1 vb.1).1
    have:=mo.len
    exact⟨af,yw (oo f _ _ [] ((ru n).1,true) hf va.2.1 vb.2.1 (fun _ h=>by cases h))⟩)
   generalize dH ru s.aR=L at t1 t2 t3
   refine bD t1 ?_
   refine bW ?_
   refine aw aco rfl ?_
   refine bW ?_
   refine aU t2 ?_
   refine bW ?_
   refine aZ t3 rfl ?_
   refine bW ?_
   refine aZ hkn rfl ?_
   exact MA
end Go.Proofs.YtlhemmpklhhgoaaGreat
section
namespace Go.Proofs.YtlhemmpklhhgoaaGreat
open Go.ChangeShapes Go.WideShapes Go.RowKit
def wv(P:Program)(rec:TypeId->Option (List TypeId)):Nat->List Field->Option (List TypeId)
 |_,[]=>some []
 |off,f::fs=>if f.offset=off then match rec f.type with
  |some l=>if P.cellsOf f.type=l.length then(wv P rec (off+l.length) fs).map (l++·)else none
  |none=>none else none
def mw(P:Program):Nat->TypeId->Option (List TypeId)
 |0,_=>none
 |n+1,t=>match P.underlying t with
  |some .bool|some (.int _)|some .string|some (.slice _)=>some [t]
  |some (.struct fs)=>wv P (mw P n) 0 fs.toList
  |some (.array k e)=>match mw P n e with
   |some l=>if P.cellsOf e=l.length then some (List.replicate k l).flatten else none
   |none=>none
  |_=>none
def isAgg(P:Program)(t:TypeId):Bool:=match P.underlying t with
 |some (.struct _)|some (.array _ _)=>true
 |_=>false
mutual
def D.iJ (P:Program):D->TypeId->Prop
 | .int k n,t=>P.underlying t=some (.int k)/\(Lit.int k n).wf=true
 | .bool _,t=>P.underlying t=some .bool
 | .str l,t=>P.underlying t=some .string/\l.length<=maxLen
 | .sl es,t=>∃e,P.underlying t=some (.slice e)/\es.length<=maxLen/\D.Iq P es e
 | .agg cs,t=>isAgg P t=true/\∃ls,mw P 20 t=some ls/\D.iK P cs ls
 |_,_=>False
def D.Iq (P:Program):List D->TypeId->Prop
 |[],_=>True
 |x::l,e=>D.iJ P x e/\D.Iq P l e
def D.iK (P:Program):List D->List TypeId->Prop
 |[],ts=>ts=[]
 |x::l,ts=>∃t r,ts=t::r/\D.iJ P x t/\D.iK P l r
end
def ur(P:Program)(T:List TypeId):Bool:=T.all fun t=>match mw P 20 t with
 |some l=>decide (l.length=P.cellsOf t)&&decide (0<l.length)&&l.all fun u=>match P.underlying u with
  |some (.slice e)=>T.contains e
  |_=>true
 |none=>false
theorem qX{P:Program}:∀ {xs ys:List D} {l r:List TypeId},D.iK P xs l->D.iK P ys r->D.iK P (xs++ys) (l++r)
 |[],_,_,_,h,h'=>by simp only[D.iK]at h;subst h;exact h'
 |x::xs,_,_,_,h,h'=>by
  obtain⟨t,r,rfl,h1,h2⟩:=h
  exact⟨t,_,rfl,h1,qX h2 h'⟩
theorem bu{B:Nat->Prop}{w:World}:∀ {xs ys:List D} {l r:List Value},D.aC B w xs l->D.aC B w ys r->D.aC B w (xs++ys) (l++r)
 |[],_,_,_,h,h'=>by simp only[D.aC]at h;subst h;exact h'
 |x::xs,_,_,_,h,h'=>by
  obtain⟨t,r,rfl,h1,h2⟩:=h
  exact⟨t,_,rfl,h1,bu h2 h'⟩
theorem Flat.append {l r:List Value}(h:Flat l)(h':Flat r):Flat (l++r):=fun u hu=>(List.mem_append.1 hu).elim (h u) (h' u)
abbrev VF:Nat->Prop:=fun _=>False
section
variable {H:Type}{enc:TypeId×Value->H}{P:Program}{W:World}{T:List TypeId}{b0:Nat}
def dk(P:Program)(W:World)(l:List TypeId)(cs:List Value):Prop:=∃xs,D.iK P xs l/\D.aC VF W xs cs/\Flat cs
theorem dk.append {l r:List TypeId}{cs ds:List Value}(h:dk P W l cs)(h':dk P W r ds):dk P W (l++r) (cs++ds):=by
 obtain⟨xs,a1,a2,a3⟩:=h
 obtain⟨ys,b1,b2,b3⟩:=h'
 exact⟨xs++ys,qX a1 b1,bu a2 b2,a3.append b3⟩
theorem dk.length {l:List TypeId}{cs:List Value}(h:dk P W l cs):cs.length=l.length:=by
 obtain⟨xs,a1,a2,_⟩:=h
 rw[D.aA _ _ a2]
 clear a2
 induction xs generalizing l with
 |nil=>simp only[D.iK]at a1;simp[a1]
 |cons x xs ih=>obtain⟨t,r,rfl,_,h⟩:=a1;simp[ih h]
theorem dk.nil:dk P W [] []:=⟨[],rfl,rfl,fun _ h=>by cases h⟩
theorem CY{α:Type}(cs:List α)(o k:Nat):cs.drop o=(cs.drop o).take k++cs.drop (o+k):=by
 rw[<- List.drop_drop];exact(List.take_append_drop k _).symm
theorem qY{rec:TypeId->Option (List TypeId)}{cs:List Value}{rd:TypeId->List Value->Prop}
 (aY:∀t l vs,rec t=some l->(∀u∈l,∀e,P.underlying u=some (.slice e)->e∈T)->P.cellsOf t=l.length->rd t vs->dk P W l vs):
 ∀ (fs:List Field) (off:Nat) (l:List TypeId),wv P rec off fs=some l->(∀u∈l,∀e,P.underlying u=some (.slice e)->e∈T)->(∀f∈fs,rd f.type ((cs.drop f.offset).take (P.cellsOf f.type)))->
   off+l.length=cs.length->dk P W l (cs.drop off)
 |[],off,l,h,_,_,hl=>by
  simp only[wv,Option.some.injEq]at h
  subst h
  have:cs.drop off=[]:=List.drop_eq_nil_of_le (by simp at hl;omega)
  rw[this];exact dk.nil
 |f::fs,off,l,h,hT,hr,hl=>by
  simp only[wv]at h
  split at h
  ·rename_i ho
   split at h
   ·rename_i l1 h1
    split at h
    ·rename_i hc
     simp only[Option.map_eq_some_iff]at h
     obtain⟨r,h2,rfl⟩:=h
     have hd:=hr f aF
     rw[ho,hc]at hd
     rw[CY cs off l1.length]
     simp only[List.length_append]at hl
     exact(aY f.type l1 _ h1 (fun u hu=>hT u (by simp[hu])) hc hd).append (qY aY fs _ r h2 (fun u hu=>hT u (by simp[hu])) (fun f hf=>hr f (by simp[hf])) af)
    ·cases h
   ·cases h
  ·cases h
theorem tq{l:List TypeId}{cs:List Value}:∀ (k i:Nat),(∀j,j<k->dk P W l ((cs.drop ((i+j)*l.length)).take l.length))->(i+k)*l.length=cs.length->dk P W (List.replicate k l).flatten (cs.drop (i*l.length))
 |0,i,_,hl=>by
  have:cs.drop (i*l.length)=[]:=List.drop_eq_nil_of_le (by simp at hl;omega)
  rw[this];exact dk.nil
 |k+1,i,h,hl=>by
  rw[List.replicate_succ,List.flatten_cons,CY cs (i*l.length) l.length]
  refine(by simpa using h 0 af:dk P W l _).append ?_
  rw[show i*l.length+l.length=(i+1)*l.length by rw[Nat.add_mul];omega]
  refine tq k (i+1) (fun j hj=> ?_) (by rw[<- hl];congr 1;omega)
  have:=h (j+1) af
  rwa [show i+(j+1)=i+1+j by omega]at this
theorem CZ{e:TypeId}{l:List TypeId}{cs:List Value}(hl:mw P 20 e=some l)(h:dk P W l cs):∃ (ev:Value) (x:D),ev.cells.toList=cs/\D.iJ P x e/\D.den VF W x ev/\(isAgg P e=true->ev= .agg cs.toArray)/\(isAgg P e=false->cs=[ev]/\ev.oneCell'=true):=by
 obtain⟨xs,h1,h2,h3⟩:=h
 cases ha:isAgg P e with
 |true=>exact⟨.agg cs.toArray, .agg xs,by simp[Value.cells],⟨ha,l,hl,h1⟩,⟨_,rfl,by simpa using h2,by simpa using h3⟩,fun _=>rfl,(fun h=>by cases h)⟩
 |false=>
  have:l=[e]:=by
   unfold mw at hl
   unfold isAgg at ha
   split at hl<;>simp_all
  subst this
  obtain⟨t,r,e1,h4,h5⟩:∃x r,xs=x::r/\D.iJ P x e/\D.iK P r []:=by
   cases xs with
   |nil=>simp[D.iK]at h1
   |cons x r=>obtain⟨t,r',e1,h4,h5⟩:=h1;injection e1 with e1 e2;subst e1;subst e2;exact⟨x,r,rfl,h4,h5⟩
  subst e1
  have:r=[]:=by cases r with
   |nil=>rfl
   |cons y r=>obtain⟨_,_,e,_⟩:=h5;cases e
  subst this
  obtain⟨u,us,rfl,h6,h7⟩:=h2
  simp only[D.aC]at h7
  subst h7
  have ho:=h3 u aF
  refine⟨u,t, ?_,h4,h6,(fun h=>by cases h),fun _=>⟨rfl,ho⟩⟩
  cases u<;>simp_all[Value.oneCell',Value.cells]
theorem C0(hp:ur P T=true){t:TypeId}(ht:t∈T):∃l,mw P 20 t=some l/\l.length=P.cellsOf t/\0<l.length/\∀u∈l,∀e,P.underlying u=some (.slice e)->e∈T:=by
 have:=List.all_eq_true.1 hp t ht
 split at this
 ·rename_i l hl
  simp only[Bool.and_eq_true,decide_eq_true_eq,List.all_eq_true]at this
  refine⟨l,hl,this.1.1,this.1.2,fun u hu e he=> ?_⟩
  have:=this.2 u hu
  rw[he]at this
  simpa using this
 ·cases this
theorem EO(hp:ur P T=true):∀ (n m:Nat) (t:TypeId) (l:List TypeId) (cs:List Value) (x:DataW H×List MemPlace),mw P m t=some l->(∀u∈l,∀e,P.underlying u=some (.slice e)->e∈T)->
 P.cellsOf t=l.length->DataW.trod enc P W 0 (fun _=>true) true n t cs=some x->dk P W l cs:=by
 intro n
 induction n with
 |zero=>intro m t l cs x _ _ _ h;simp[DataW.trod]at h
 |succ n ih=>
  intro m t l cs x hl hT hc h
  cases m with
  |zero=>simp[mw]at hl
  |succ m=>
  unfold mw at hl
  split at hl
  ·rename_i hu
   injection hl with hl;subst hl
   obtain⟨b,rfl,_⟩:=DataW.trod_bool hu h
   exact⟨[.bool b],⟨t,[],rfl,hu,rfl⟩,⟨_,_,rfl,rfl,rfl⟩,by simp[Flat,Value.oneCell']⟩
  ·rename_i k hu
   injection hl with hl;subst hl
   obtain⟨b,rfl,_,hw⟩:=DataW.trod_int hu h
   exact⟨[.int k b],⟨t,[],rfl,⟨hu,hw⟩,rfl⟩,⟨_,_,rfl,rfl,rfl⟩,by simp[Flat,Value.oneCell']⟩
  ·rename_i hu
   injection hl with hl;subst hl
   obtain⟨s,rfl,_,hw⟩:=DataW.trod_string hu h
   exact⟨[.str s.data.toList],⟨t,[],rfl,⟨hu,by simpa using hw⟩,rfl⟩,⟨_,_,rfl,⟨s,rfl,rfl⟩,rfl⟩,by simp[Flat,Value.oneCell']⟩
  ·rename_i e hu
   injection hl with hl;subst hl
   rcases DataW.trod_slice hu h with⟨rfl,_⟩|⟨a,len,cap,elems,rest,n',hn,rfl,_,_,h2,h3,h4,h5,h6,_⟩
   ·exact⟨[.sl []],⟨t,[],rfl,⟨e,hu,aF,trivial⟩,rfl⟩,⟨_,_,rfl,⟨none,0,0,rfl,rfl,aF,fun _=>rfl,0,(fun a ha=>by cases ha)⟩,rfl⟩,by simp[Flat,Value.oneCell']⟩
   ·injection hn with hn;subst hn
    obtain⟨l',g1,g2,g3,g4⟩:=C0 hp (hT t aF e hu)
    have at':∀i,i<len->∃ev:Value,∃y:D,ev.cells.size=P.cellsOf e/\gz VF W (a.add (i*P.cellsOf e)) ev.cells/\D.den VF W y ev/\D.iJ P y e:=by
     intro i hi
     have:=h5 i hi
     rw[List.getElem?_eq_getElem (by omega)]at this
     obtain⟨ci,k1,k2⟩:=Option.bind_eq_some_iff.1 this
     obtain⟨_,k3,k4⟩:=World.cells?_some k1
     have k5:=ih 20 e l' ci _ g1 g4 g2.symm k2
     obtain⟨ev,y,q1,q2,q3,_,_⟩:=CZ g1 k5
     have q4:ev.cells=ci.toArray:=by rw[<- q1]
     refine⟨ev,y,by rw[q4];simp[k5.length,g2],fun j u hj=>⟨?_,fun h=>h⟩,q3,q2⟩
     rw[q4]at hj
     have Iu:ci[j]? =some u:=by simpa using hj
     have b8:j<P.cellsOf e:=by rw[<- g2, <- k5.length];exact(List.getElem?_eq_some_iff.1 Iu).1
     rw[k4 j b8];exact Iu
    have list:∀k i,i+k=len->∃es,es.length=k/\D.Iq P es e/\D.elems VF W (P.cellsOf e) a i es:=by
     intro k
     induction k with
     |zero=>intro i _;exact⟨[],rfl,trivial,trivial⟩
     |succ k wY=>
      intro i hi
      obtain⟨es,e1,e2,e3⟩:=wY (i+1) af
      obtain⟨ev,y,y1,y2,y3,y4⟩:=at' i af
      exact⟨y::es,by simp[e1],⟨y4,e2⟩,⟨ev,y1,y2,y3⟩,e3⟩
    obtain⟨es,e1,e2,e3⟩:=list len 0 af
    have acp:cap≠0->a.spot=none:=by
     intro fL
     have RG:∀z,(W.cells? 0 (a.add (0*P.cellsOf e)) (P.cellsOf e)).bind (DataW.trod enc P W 0 (fun _=>true) true n e)=some z->a.spot=none:=by
      intro z hz
      obtain⟨ci,k1,k2⟩:=Option.bind_eq_some_iff.1 hz
      obtain⟨_,k3,k4⟩:=World.cells?_some k1
      have k5:=k4 0 af
      rw[List.getElem?_eq_getElem (by omega)]at k5
      simpa[Addr.add]using World.cell?_spot k5
     by_cases hlen:0<len
     ·have:=h5 0 hlen
      rw[List.getElem?_eq_getElem (by omega)]at this
      exact RG _ this
     ·obtain⟨h7,h8⟩:=h6 rfl
      have:=h8 0 af
      rw[List.getElem?_eq_getElem (by omega),show(len+0)=0 by omega]at this
      exact RG _ this
    exact⟨[.sl es],⟨t,[],rfl,⟨e,hu,af,e2⟩,rfl⟩,⟨_,_,rfl,⟨some a,len,cap,rfl,e1.symm,h2,(fun h=>by cases h),P.cellsOf e,(fun a' WT=>by injection WT with WT;subst WT;exact⟨acp,e3⟩)⟩,rfl⟩,by simp[Flat,Value.oneCell']⟩
  ·rename_i fs hu
   obtain⟨xs,n',hn,_,h2,h3,h4⟩:=DataW.trod_struct hu h
   injection hn with hn;subst hn
   have:=qY (P:=P) (W:=W) (T:=T) (cs:=cs) (rd:=fun t vs=>∃y,DataW.trod enc P W 0 (fun _=>true) true n t vs=some y) (rec:=mw P m) (fun t l vs q1 q2 q3 ⟨y,q4⟩=>ih m t l vs y q1 q2 q3 q4) fs.toList 0 l hl hT ?_ af
   ·simpa using this
   ·intro f hf
    obtain⟨i,hi,hfi⟩:=List.getElem_of_mem hf
    have:=h4 i f (by simp at hi;simp[<- hfi,Array.getElem?_eq_getElem hi])
    rw[List.getElem?_eq_getElem (by simp at hi;omega)]at this
    exact⟨_,this⟩
  ·rename_i k e hu
   split at hl
   ·rename_i l' IA
    split at hl
    ·rename_i hce
     injection hl with hl;subst hl
     obtain⟨xs,n',hn,_,h2,h3,h4⟩:=DataW.trod_array hu h
     injection hn with hn;subst hn
     have hlen:cs.length=k*l'.length:=by rw[h2,hc];simp
     have hT':0<k->∀u∈l',∀e,P.underlying u=some (.slice e)->e∈T:=fun hk u hu=>hT u (List.mem_flatten.2 ⟨l',List.mem_replicate.2 ⟨af,rfl⟩,hu⟩)
     have:=tq (P:=P) (W:=W) (l:=l') (cs:=cs) k 0 (fun j hj=> ?_) (by rw[hlen];simp)
     ·simpa using this
     ·have:=h4 j hj
      rw[hce,List.getElem?_eq_getElem (by omega)]at this
      rw[Nat.zero_add]
      exact ih m e l' _ _ IA (hT' af) hce this
    ·cases hl
   ·cases hl
  ·cases hl
theorem yx(hp:ur P T=true):∀ (ts:List TypeId) (vs:List Value) (ds:List (DataW H)) (p:List MemPlace),(∀t∈ts,t∈T)->DataW.TrodAll enc P W 0 (fun _=>true) true ts vs ds p->
 (∀ (j:Nat) t v,ts[j]? =some t->vs[j]? =some v->Value.okWide P W .any b0 t v)->∃xs,D.iK P xs ts/\D.aC VF W xs vs
 |[],vs,ds,p,_,h,_=>by
  obtain⟨rfl,rfl,rfl⟩:=trodAll_nil h
  exact⟨[],rfl,rfl⟩
 |t::ts,vs,ds,p,hT,h,hv=>by
  obtain⟨v,vs',d,Y5,p1,q1,rfl,rfl,rfl,⟨n,h1⟩,h2⟩:=trodAll_cons h
  obtain⟨xs,a1,a2⟩:=yx hp ts vs' Y5 q1 (fun t ht=>hT t sK) h2 (fun j t v h1 h2=>hv (j+1) t v (by simpa using h1) xi)
  obtain⟨l,g1,g2,g3,g4⟩:=C0 hp (hT t aF)
  obtain⟨ev,x,q1,q2,q3,q4,q5⟩:=CZ g1 (EO hp n 20 t l _ _ g1 g4 g2.symm h1)
  have aW:=hv 0 t v rfl rfl
  have:ev=v:=by
   cases ha:isAgg P t with
   |true=>
    have:∃cs,v= .agg cs:=by
     unfold isAgg at ha
     unfold Value.okWide at aW
     split at ha
     ·rename_i hu;rw[hu]at aW;obtain⟨cs,rfl,_⟩:=aW;exact⟨cs,rfl⟩
     ·rename_i hu;rw[hu]at aW;obtain⟨cs,rfl,_⟩:=aW;exact⟨cs,rfl⟩
     ·cases ha
    obtain⟨cs,rfl⟩:=this
    rw[q4 ha]
    simp[Value.cells]
   |false=>
    obtain⟨q6,q7⟩:=q5 ha
    cases v with
    |agg cs=>
     exfalso
     unfold isAgg at ha
     unfold Value.okWide at aW
     split at aW
     ·rename_i hu;rw[hu]at ha;cases ha
     ·rename_i hu;rw[hu]at ha;cases ha
     ·unfold Cell.okWide at aW
      split at aW
      case h_8=>
       unfold Cell.ok at aW
       split at aW<;>first|exact aW|contradiction
      all_goals contradiction
    |_=>simp only[Value.cells,List.cons.injEq,and_true]at q6;exact q6.symm
  subst this
  exact⟨x::xs,⟨t,ts,rfl,q2,a1⟩,⟨_,_,rfl,q3,a2⟩⟩
theorem dV.below {w w':World}(h:dV (fun _=>False) w w'):Below w.heap.size w w':=⟨h.os,h.tape,h.output,h.size,fun k hk=>h.block k hk (fun h=>h)⟩
theorem yy(hl:laidOutB P=true){W':World}{sp:Nat->Bool}:∀ {ts:List TypeId} {vs:List Value} {ds:List (DataW H)} {p:List MemPlace},(∀t∈ts,P.readableRec t=true/\t<P.types.size)->DataW.TrodAll enc P W 0 (fun _=>true) true ts vs ds p->
 (∀x∈p,W.sameAt W' x/\sp x.block=true)->DataW.TrodAll enc P W' 0 sp true ts vs ds p
 |[],vs,ds,p,_,h,_=>by
  obtain⟨rfl,rfl,rfl⟩:=trodAll_nil h
  exact trodAll_mk0
 |t::ts,vs,ds,p,hr,h,hs=>by
  obtain⟨v,vs',d,Y5,p1,q1,rfl,rfl,rfl,h1,h2⟩:=trodAll_cons h
  exact⟨p1,q1,WideElems.Trod_stays hl (hr t aF).1 (hr t aF).2 h1 (fun x hx=>(hs x mm).1) (fun x hx=>(hs x mm).2),yy hl (fun t ht=>hr t sK) h2 (fun x hx=>hs x mm),rfl⟩
theorem L4{sp:Nat->Bool}:∀ {ts:List TypeId} {vs:List Value} {ds:List (DataW H)} {ps:List MemPlace},DataW.TrodAll enc P W 0 sp true ts vs ds ps->ds.length=ts.length
 |[],_,_,_,h=>by obtain⟨_,rfl,_⟩:=trodAll_nil h;rfl
 |_::_,_,_,_,h=>by
  obtain⟨_,_,_,_,_,_,_,rfl,_,_,h2⟩:=trodAll_cons h
  simp[L4 h2]
theorem Aj{f:FuncId}{fn:Func}{s:ChangeSpec}{tb:TypeId}{fresh handsOn again:Bool}(Bk:fn.resultTypes=#[tb])(IJ:P.underlying tb=some .bool)(RH:s.vars=[])
 (L5:∀ds:List (DataW H),ds.length=fn.params.toList.length->s.fn H ds={results:=[.lit (.bool true)],args:=ds}) (hp:ur P T=true) (hT:∀t∈fn.params.toList,t∈T) (hl:laidOutB P=true)
 (hr:∀t∈fn.params.toList,P.readableRec t=true/\t<P.types.size) (law:∀xs,D.iK P xs fn.params.toList->a8 P f xs (.ret [.bool true]))
 (base:Nat) (args:Array Value) (ds gs:List (DataW H)) (before:List MemPlace)
 (fi:∀ (j:Nat) t v,fn.params[j]? =some t->args[j]? =some v->Value.okWide P W .any base t v) (hW:DataW.Whole enc P fn.params.toList s.vars false W args.toList ds gs before):
 Calls P f args W fun e W'=>∃v,e= .returned v/\s.post enc P fn false fresh handsOn again W args v W':=by
 have hW':=hW
 obtain⟨p,q,hA,hV,rfl,hfz,wQ⟩:=hW
 rw[RH]at hV
 obtain⟨rfl,rfl⟩:=trodVars_none hV
 obtain⟨xs,a1,a2⟩:=yx (b0:=base) hp fn.params.toList args.toList ds p hT hA (fun j t v h1 h2=>fi j t v (by simpa using h1) xi)
 refine((law xs a1).2 VF W args (fun _ h=>h.elim) a2).mono fun e W' ⟨hk,ho⟩=> ?_
 have hb:=hk.below
 cases e with
 |panicked ch=>exact ho.elim
 |outgrown=>exact ho.elim
 |returned v=>
  simp only[R.is,D.den]at ho
  subst ho
  refine⟨_,rfl, ?_⟩
  have hlen:ds.length=fn.params.toList.length:=(L4 hA)
  have hold:∀x∈p,x.block<W.heap.size:=fun x hx=>by simpa using hW'.lt x xj
  have dq:∀sp:Nat->Bool,(∀x∈p,sp x.block=true)->DataW.TrodAll enc P W' 0 sp true fn.params.toList args.toList ds p:=fun sp Py=>yy hl hr hA fun x hx=>⟨hb.same (hold x hx),Py x hx⟩
  have RI:∀ (b:Nat) (sp:Nat->Bool) (hd:Bool),DataW.TrodAll enc P W' b sp hd fn.resultTypes.toList ((Value.bool true).resultList fn.resultTypes.size) [.lit (.bool true)] []:=fun b sp hd=>by
   rw[Bk]
   exact trodAll_cons_mk (p:=[]) (p':=[]) ⟨1,by simp[DataW.trod,Value.cells,IJ]⟩ trodAll_mk0
  have L6:∀sp:Nat->Bool,DataW.TrodVars enc P W' sp s.vars [] []:=fun sp=>by rw[RH];rfl
  refine⟨ds,[],p++[],[],p,[],hW', ?_, ?_, ?_,World.keptBut_mono (fun _ h=>h.elim) (hb.frame (fun _=>False)),fun _=>⟨?_,[.lit (.bool true)]++ds,[],([]++p)++[],⟨[]++p,[],trodAll_append (dq _ fun _ _=>rfl) (RI 0 (fun _=>true) true),L6 _,rfl, ?_,(fun h=>by cases h)⟩,fun x hx _=>by simpa using hx⟩⟩
  ·rw[List.append_nil,L5 ds hlen];exact RI _ _ _
  ·rw[List.append_nil,L5 ds hlen];exact dq _ fun x hx=>by simpa using hold x hx
  ·rw[List.append_nil,L5 ds hlen];exact L6 _
  ·intro j t r h1 h2
   rw[Bk]at h1 h2
   match j,h1,h2 with
   |0,h1,h2=>
    simp[Value.resultList]at h1 h2
    subst h1;subst h2
    simp[Value.okWide,IJ,Cell.okWide,Cell.ok]
  ·intro b off hx
   rw[hb.frozen (by simpa[MemPlace.block]using hold _ (by simpa using hx))]
   exact hfz b off xj
end
section
variable {P:Program}{t e:TypeId}{x:D}
theorem C1{k:IntKind}(ht:P.underlying t=some (.int k))(h:D.iJ P x t):∃n,x= .int k n/\(Lit.int k n).wf=true:=by
 cases x<;>simp only[D.iJ]at h
 case int k' n=>
  rw[ht]at h
  obtain⟨h1,h2⟩:=h
  injection h1 with h1;injection h1 with h1;subst h1
  exact⟨n,rfl,h2⟩
 case bool=>rw[ht]at h;cases h
 case str=>rw[ht]at h;cases h.1
 case sl=>obtain⟨e,h,_⟩:=h;rw[ht]at h;cases h
 case agg=>have:=h.1;unfold isAgg at this;rw[ht]at this;cases this
theorem L7(ht:P.underlying t=some .string)(h:D.iJ P x t):∃l,x= .str l/\l.length<=maxLen:=by
 cases x<;>simp only[D.iJ]at h
 case int k' n=>rw[ht]at h;cases h.1
 case bool b=>rw[ht]at h;cases h
 case str l=>exact⟨l,rfl,h.2⟩
 case sl=>obtain⟨e,h,_⟩:=h;rw[ht]at h;cases h
 case agg=>have:=h.1;unfold isAgg at this;rw[ht]at this;cases this
theorem kA(ht:P.underlying t=some (.slice e))(h:D.iJ P x t):∃es,x= .sl es/\es.length<=maxLen/\D.Iq P es e:=by
 cases x<;>simp only[D.iJ]at h
 case int k' n=>rw[ht]at h;cases h.1
 case bool b=>rw[ht]at h;cases h
 case str l=>rw[ht]at h;cases h.1
 case sl es=>
  obtain⟨e',h,h2,h3⟩:=h
  rw[ht]at h;injection h with h;injection h with h;subst h
  exact⟨es,rfl,h2,h3⟩
 case agg=>have:=h.1;unfold isAgg at this;rw[ht]at this;cases this
theorem lG{ls:List TypeId}(ha:isAgg P t=true)(hl:mw P 20 t=some ls)(h:D.iJ P x t):∃cs,x= .agg cs/\D.iK P cs ls:=by
 have no:∀u,P.underlying t=some u->(∀fs,u≠ .struct fs)->(∀k e,u≠ .array k e)->False:=by
  intro u hu h1 h2
  unfold isAgg at ha
  rw[hu]at ha
  split at ha
  ·rename_i e;injection e with e;exact h1 _ e
  ·rename_i e;injection e with e;exact h2 _ _ e
  ·cases ha
 cases x<;>simp only[D.iJ]at h
 case int k' n=>exact(no _ h.1 (fun _ h=>by cases h) (fun _ _ h=>by cases h)).elim
 case bool b=>exact(no _ h (fun _ h=>by cases h) (fun _ _ h=>by cases h)).elim
 case str l=>exact(no _ h.1 (fun _ h=>by cases h) (fun _ _ h=>by cases h)).elim
 case sl es=>obtain⟨e',h,_⟩:=h;exact(no _ h (fun _ h=>by cases h) (fun _ _ h=>by cases h)).elim
 case agg cs=>
  obtain⟨_,ls',h1,h2⟩:=h
  rw[hl]at h1;injection h1 with h1;subst h1
  exact⟨cs,rfl,h2⟩
theorem bg{t:TypeId}{ts:List TypeId}{cs:List D}(h:D.iK P cs (t::ts)):∃x xs,cs=x::xs/\D.iJ P x t/\D.iK P xs ts:=by
 cases cs with
 |nil=>simp[D.iK]at h
 |cons x xs=>obtain⟨_,_,e,h1,h2⟩:=h;injection e with e1 e2;subst e1;subst e2;exact⟨x,xs,rfl,h1,h2⟩
theorem ir{cs:List D}(h:D.iK P cs []):cs=[]:=by
 cases cs with
 |nil=>rfl
 |cons x xs=>obtain⟨_,_,e,_⟩:=h;cases e
theorem iL{α:Type}{f:α->D}{q:α->Prop}(hf:∀x,D.iJ P x e->∃a,x=f a/\q a):∀ (es:List D),D.Iq P es e->∃l:List α,es=l.map f/\∀a∈l,q a
 |[],_=>⟨[],rfl,fun _ h=>by cases h⟩
 |x::es,h=>by
  obtain⟨a,rfl,h1⟩:=hf x h.1
  obtain⟨l,rfl,h2⟩:=iL hf es h.2
  exact⟨a::l,rfl,fun b hb=>(List.mem_cons.1 hb).elim (fun e=>e ▸ h1) (h2 b)⟩
end
end Go.Proofs.YtlhemmpklhhgoaaGreat
end
section
namespace Go.Proofs.YtlhemmpklhhgoaaGreat
open Go.ChangeShapes Go.WideShapes Go.RowKit
theorem kV:maxLen<=9223372036854775807:=bV
theorem tt{x:D}(h:D.iJ Tryz.prog x 3):∃n:Int,x= .i n:=by
 obtain⟨n,h,_⟩:=C1 undT_3 h
 exact⟨n,h⟩
theorem Ow{x:D}(h:D.iJ Tryz.prog x 30):∃n:Int,x= .i n:=by
 obtain⟨n,h,_⟩:=C1 undT_30 h
 exact⟨n,h⟩
theorem acq{x:D}(h:D.iJ Tryz.prog x 124):∃r:kO,x=r.d/\r.name.length<=9223372036854775807:=by
 obtain⟨cs,rfl,hh⟩:=lG ah (ls:=[9,3]) ah h
 clear h;have h:=hh;clear hh
 obtain⟨a,cs,rfl,ha,h⟩:=bg h
 obtain⟨b,cs,rfl,hb,h⟩:=bg h
 have:=ir h;subst this
 obtain⟨l,rfl,hl⟩:=L7 ah ha
 obtain⟨n,rfl⟩:=tt hb
 exact⟨⟨l,n⟩,rfl,by have:=kV;simp only;omega⟩
theorem L8:∀ (n:Nat) (x:D),SizeOf.sizeOf x<=n->D.iJ Tryz.prog x 33->∃t:Tm,x=t.d/\t.fits:=by
 intro n
 induction n with
 |zero=>intro x hx _;cases x<;>simp at hx
 |succ n ih=>
  intro x hx h
  obtain⟨cs,rfl,hh⟩:=lG ah (ls:=[30,3,31]) ah h
  clear h;have h:=hh;clear hh
  obtain⟨a,cs,rfl,ha,h⟩:=bg h
  obtain⟨b,cs,rfl,hb,h⟩:=bg h
  obtain⟨c,cs,rfl,hc,h⟩:=bg h
  have:=ir h;subst this
  obtain⟨o,rfl⟩:=Ow ha
  obtain⟨m,rfl⟩:=tt hb
  obtain⟨es,rfl,h1,h2⟩:=kA undT_31 hc
  have Fg:SizeOf.sizeOf es<=n:=by simp at hx;omega
  have:∀es:List D,SizeOf.sizeOf es<=n->D.Iq Tryz.prog es 33->∃l:List Tm,es=l.map Tm.d/\∀k∈l,k.fits:=by
   intro es
   induction es with
   |nil=>intro _ _;exact⟨[],rfl,fun _ h=>by cases h⟩
   |cons y es ihe=>
    intro hs h
    simp at hs
    obtain⟨t,rfl,ht⟩:=ih y af h.1
    obtain⟨l,rfl,hl⟩:=ihe af h.2
    exact⟨t::l,rfl,fun b hb=>(List.mem_cons.1 hb).elim (fun e=>e ▸ ht) (hl b)⟩
  obtain⟨l,rfl,hl⟩:=this es Fg h2
  refine⟨.mk o m l,by rw[Tm.DY], ?_⟩
  rw[Tm.bK]
  exact OR
theorem acr{x:D}(h:D.iJ Tryz.prog x 33):∃t:Tm,x=t.d/\t.fits:=L8 _ x (Nat.le_refl _) h
end Go.Proofs.YtlhemmpklhhgoaaGreat
end
section
namespace Go.Proofs.YtlhemmpklhhgoaaGreat
open Go.ChangeShapes Go.WideShapes Go.RowKit
theorem aez{x:D}(h:D.iJ Tryz.prog x 59):∃b:TB,x=b.d/\b.term.fits:=by
 obtain⟨cs,rfl,hh⟩:=lG ah (ls:=[3,30,3,31]) ah h
 clear h;have h:=hh;clear hh
 obtain⟨v,cs,rfl,hv,h⟩:=bg h
 obtain⟨a,cs,rfl,ha,h⟩:=bg h
 obtain⟨b,cs,rfl,hb,h⟩:=bg h
 obtain⟨c,cs,rfl,hc,h⟩:=bg h
 have:=ir h;subst this
 obtain⟨k,rfl⟩:=tt hv
 obtain⟨o,rfl⟩:=Ow ha
 obtain⟨m,rfl⟩:=tt hb
 obtain⟨es,rfl,h1,h2⟩:=kA undT_31 hc
 obtain⟨l,rfl,hl⟩:=iL (fun x h=>acr h) es h2
 refine⟨⟨k, .mk o m l⟩,rfl, ?_⟩
 rw[Tm.bK]
 exact OR
theorem Ox{x:D}(h:D.iJ Tryz.prog x 25):∃l:List TB,x= .sl (l.map TB.d)/\(l.length<=9223372036854775807/\∀b∈l,b.term.fits):=by
 obtain⟨es,rfl,h1,h2⟩:=kA undT_25 h
 obtain⟨l,rfl,hl⟩:=iL (fun x h=>aez h) es h2
 exact⟨l,rfl,by have:=kV;simp at h1;omega,hl⟩
end Go.Proofs.YtlhemmpklhhgoaaGreat
end
section
namespace Go.Proofs.YtlhemmpklhhgoaaGreat
open Go.ChangeShapes Go.WideShapes Go.RowKit
theorem L9{x:D}(h:D.iJ Tryz.prog x 31):∃l:List Tm,x= .sl (l.map Tm.d)/\l.length<=9223372036854775807/\∀t∈l,t.fits:=by
 obtain⟨es,rfl,h1,h2⟩:=kA undT_31 h
 obtain⟨l,rfl,hl⟩:=iL (fun x h=>acr h) es h2
 have:=kV
 exact⟨l,rfl,by simp at h1;omega,hl⟩
theorem aeA{x:D}(h:D.iJ Tryz.prog x 101):∃n:Nt,x=n.d/\n.a.fits/\n.b.fits:=by
 obtain⟨cs,rfl,hh⟩:=lG ah (ls:=[30,3,31,30,3,31]) ah h
 clear h;have h:=hh;clear hh
 obtain⟨a,cs,rfl,ha,h⟩:=bg h
 obtain⟨b,cs,rfl,hb,h⟩:=bg h
 obtain⟨c,cs,rfl,hc,h⟩:=bg h
 obtain⟨d,cs,rfl,hd,h⟩:=bg h
 obtain⟨e,cs,rfl,he,h⟩:=bg h
 obtain⟨f,cs,rfl,hf,h⟩:=bg h
 have:=ir h;subst this
 obtain⟨o1,rfl⟩:=Ow ha
 obtain⟨n1,rfl⟩:=tt hb
 obtain⟨k1,rfl,l1,l2⟩:=L9 hc
 obtain⟨o2,rfl⟩:=Ow hd
 obtain⟨n2,rfl⟩:=tt he
 obtain⟨k2,rfl,l3,l4⟩:=L9 hf
 exact⟨⟨.mk o1 n1 k1, .mk o2 n2 k2⟩,rfl,(Tm.bK _).2 ⟨l1,l2⟩,(Tm.bK _).2 ⟨l3,l4⟩⟩
theorem aeB{x:D}(h:D.iJ Tryz.prog x 77):∃m:Int×Int,x=mkD m/\True:=by
 obtain⟨cs,rfl,hh⟩:=lG ah (ls:=[3,3]) ah h
 clear h;have h:=hh;clear hh
 obtain⟨a,cs,rfl,ha,h⟩:=bg h
 obtain⟨b,cs,rfl,hb,h⟩:=bg h
 have:=ir h;subst this
 obtain⟨n1,rfl⟩:=tt ha
 obtain⟨n2,rfl⟩:=tt hb
 exact⟨(n1,n2),rfl,trivial⟩
theorem acs{x:D}(h:D.iJ Tryz.prog x 29):∃s:iU,x=s.d/\s.Fits:=by
 obtain⟨cs,rfl,hh⟩:=lG ah (ls:=[22,22,25,26,27]) ah h
 clear h;have h:=hh;clear hh
 obtain⟨a,cs,rfl,ha,h⟩:=bg h
 obtain⟨b,cs,rfl,hb,h⟩:=bg h
 obtain⟨c,cs,rfl,hc,h⟩:=bg h
 obtain⟨d,cs,rfl,hd,h⟩:=bg h
 obtain⟨e,cs,rfl,he,h⟩:=bg h
 have:=ir h;subst this
 obtain⟨es,rfl,h1,h2⟩:=kA undT_22 ha
 obtain⟨l,rfl,hl⟩:=iL (fun x h=>acq h) es h2
 obtain⟨es',rfl,h3,h4⟩:=kA undT_22 hb
 obtain⟨l',rfl,IA⟩:=iL (fun x h=>acq h) es' h4
 obtain⟨bs,rfl,Fi,hb2⟩:=Ox hc
 obtain⟨es2,rfl,h5,h6⟩:=kA (e:=101) ah hd
 obtain⟨q,rfl,hq⟩:=iL (fun x h=>aeA h) es2 h6
 obtain⟨es3,rfl,h7,h8⟩:=kA (e:=77) ah he
 obtain⟨ms,rfl,_⟩:=iL (fun x h=>aeB h) es3 h8
 have:=kV
 exact⟨⟨⟨l,l'⟩,bs,q,ms⟩,rfl,⟨⟨by simp at h1;simp only;omega,by simp at h3;simp only;omega,hl,IA⟩,Fi,by simp at h5;simp only;omega,by simp at h7;simp only;omega,hb2,hq⟩⟩
end Go.Proofs.YtlhemmpklhhgoaaGreat
end
section
namespace Go.Proofs.YtlhemmpklhhgoaaGreat
open Go
def VG:Nat->Bool:=fun g=> !([159,172,173,174,187,135,162,175,176,177,178,179,180,182,183,188,191,192,201,149,164,165,167,111,136,100,79,63,64,112,104,69]:List Nat).contains g
@[reducible] def zC:D:= .sl [.agg [.str [70,97,108,115,101], .i 0], .agg [.str [84,114,117,101], .i 0], .agg [.str [90], .i 0], .agg [.str [83], .i 1], .agg [.str [78,105,108], .i 0], .agg [.str [67,111,110,115], .i 2]]
@[reducible] def zF:D:= .sl [.agg [.str [97,112,112], .i 2], .agg [.str [111,110,101], .i 0]]
def tu:qB Tryz.prog:=qB.of VG [] (fun _ h=>by cases h)
end Go.Proofs.YtlhemmpklhhgoaaGreat
end
section
namespace Go.Proofs.YtlhemmpklhhgoaaGreat
open Go
theorem Ma:oz Tryz.prog bO tu 5000 119 [.agg [zC,zF]]=some (.ret [.i 0]):=ah
theorem VH:a8 Tryz.prog 119 [.agg [zC,zF]] (.ret [.i 0]):=a8.gH mix gI Ma
theorem Oy:oz Tryz.prog bO tu 5000 129 [.agg [zC,zF], .agg [.i 1, .i 0, .sl []]]=some (.ret [.bool true, .bool false, .i 0]):=ah
theorem acu:a8 Tryz.prog 129 [.agg [zC,zF], .agg [.i 1, .i 0, .sl []]] (.ret [.bool true, .bool false, .i 0]):=a8.gH mix gI Oy
theorem Oz:oz Tryz.prog bO tu 5000 129 [.agg [zC,zF], .agg [.i 1, .i 2, .sl []]]=some (.ret [.bool true, .bool false, .i 0]):=ah
theorem acv:a8 Tryz.prog 129 [.agg [zC,zF], .agg [.i 1, .i 2, .sl []]] (.ret [.bool true, .bool false, .i 0]):=a8.gH mix gI Oz
theorem OA:oz Tryz.prog bO tu 5000 129 [.agg [zC,zF], .agg [.i 3, .i 5, .sl [.agg [.i 1, .i 0, .sl []], .agg [.i 1, .i 1, .sl []]]]]=some (.ret [.bool true, .bool false, .i 0]):=ah
theorem acw:a8 Tryz.prog 129 [.agg [zC,zF], .agg [.i 3, .i 5, .sl [.agg [.i 1, .i 0, .sl []], .agg [.i 1, .i 1, .sl []]]]] (.ret [.bool true, .bool false, .i 0]):=a8.gH mix gI OA
theorem OB:oz Tryz.prog bO tu 5000 129 [.agg [zC,zF], .agg [.i 3, .i 5, .sl [.agg [.i 1, .i 2, .sl []], .agg [.i 3, .i 5, .sl [.agg [.i 1, .i 0, .sl []], .agg [.i 3, .i 4, .sl []]]]]]]=some (.ret [.bool true, .bool false, .i 0]):=ah
theorem acx:a8 Tryz.prog 129 [.agg [zC,zF], .agg [.i 3, .i 5, .sl [.agg [.i 1, .i 2, .sl []], .agg [.i 3, .i 5, .sl [.agg [.i 1, .i 0, .sl []], .agg [.i 3, .i 4, .sl []]]]]]] (.ret [.bool true, .bool false, .i 0]):=a8.gH mix gI OB
theorem OC:oz Tryz.prog bO tu 5000 129 [.agg [zC,zF], .agg [.i 3, .i 5, .sl [.agg [.i 1, .i 0, .sl []], .agg [.i 3, .i 4, .sl []]]]]=some (.ret [.bool true, .bool false, .i 0]):=ah
theorem acz:a8 Tryz.prog 129 [.agg [zC,zF], .agg [.i 3, .i 5, .sl [.agg [.i 1, .i 0, .sl []], .agg [.i 3, .i 4, .sl []]]]] (.ret [.bool true, .bool false, .i 0]):=a8.gH mix gI OC
theorem OD:oz Tryz.prog bO tu 5000 129 [.agg [zC,zF], .agg [.i 3, .i 3, .sl [.agg [.i 1, .i 3, .sl []]]]]=some (.ret [.bool true, .bool false, .i 0]):=ah
theorem acA:a8 Tryz.prog 129 [.agg [zC,zF], .agg [.i 3, .i 3, .sl [.agg [.i 1, .i 3, .sl []]]]] (.ret [.bool true, .bool false, .i 0]):=a8.gH mix gI OD
theorem OE:oz Tryz.prog bO tu 5000 129 [.agg [zC,zF], .agg [.i 3, .i 3, .sl [.agg [.i 3, .i 2, .sl []]]]]=some (.ret [.bool true, .bool true, .i 0]):=ah
theorem acB:a8 Tryz.prog 129 [.agg [zC,zF], .agg [.i 3, .i 3, .sl [.agg [.i 3, .i 2, .sl []]]]] (.ret [.bool true, .bool true, .i 0]):=a8.gH mix gI OE
def C2:qB Tryz.prog:=qB.of VG [(119,[.agg [zC,zF]], .ret [.i 0]),(129,[.agg [zC,zF], .agg [.i 1, .i 0, .sl []]], .ret [.bool true, .bool false, .i 0]),(129,[.agg [zC,zF], .agg [.i 1, .i 2, .sl []]], .ret [.bool true, .bool false, .i 0]),(129,[.agg [zC,zF], .agg [.i 3, .i 5, .sl [.agg [.i 1, .i 0, .sl []], .agg [.i 1, .i 1, .sl []]]]], .ret [.bool true, .bool false, .i 0]),(129,[.agg [zC,zF], .agg [.i 3, .i 5, .sl [.agg [.i 1, .i 2, .sl []], .agg [.i 3, .i 5, .sl [.agg [.i 1, .i 0, .sl []], .agg [.i 3, .i 4, .sl []]]]]]], .ret [.bool true, .bool false, .i 0]),(129,[.agg [zC,zF], .agg [.i 3, .i 5, .sl [.agg [.i 1, .i 0, .sl []], .agg [.i 3, .i 4, .sl []]]]], .ret [.bool true, .bool false, .i 0]),(129,[.agg [zC,zF], .agg [.i 3, .i 3, .sl [.agg [.i 1, .i 3, .sl []]]]], .ret [.bool true, .bool false, .i 0]),(129,[.agg [zC,zF], .agg [.i 3, .i 3, .sl [.agg [.i 3, .i 2, .sl []]]]], .ret [.bool true, .bool true, .i 0])] (fun x h=>by
 simp only[List.mem_cons,List.not_mem_nil,or_false]at h
 rcases h with rfl|rfl|rfl|rfl|rfl|rfl|rfl|rfl
 ·exact VH
 ·exact acu
 ·exact acv
 ·exact acw
 ·exact acx
 ·exact acz
 ·exact acA
 ·exact acB)
end Go.Proofs.YtlhemmpklhhgoaaGreat
end
section
namespace Go.Proofs.YtlhemmpklhhgoaaGreat
open Go
theorem VI:oz Tryz.prog bO C2 5000 15 [.agg [zC,zF, .sl [], .sl [], .sl []], .agg [.i 3, .i 5, .sl [.agg [.i 1, .i 0, .sl []], .agg [.i 1, .i 1, .sl []]]], .agg [.i 3, .i 5, .sl [.agg [.i 1, .i 2, .sl []], .agg [.i 3, .i 5, .sl [.agg [.i 1, .i 0, .sl []], .agg [.i 3, .i 4, .sl []]]]]]]=some (.ret [.agg [zC,zF, .sl [.agg [.i 2, .i 1, .i 0, .sl []], .agg [.i 1, .i 3, .i 5, .sl [.agg [.i 1, .i 0, .sl []], .agg [.i 3, .i 4, .sl []]]]], .sl [], .sl []], .i 0]):=ah
theorem aeC:a8 Tryz.prog 15 [.agg [zC,zF, .sl [], .sl [], .sl []], .agg [.i 3, .i 5, .sl [.agg [.i 1, .i 0, .sl []], .agg [.i 1, .i 1, .sl []]]], .agg [.i 3, .i 5, .sl [.agg [.i 1, .i 2, .sl []], .agg [.i 3, .i 5, .sl [.agg [.i 1, .i 0, .sl []], .agg [.i 3, .i 4, .sl []]]]]]] (.ret [.agg [zC,zF, .sl [.agg [.i 2, .i 1, .i 0, .sl []], .agg [.i 1, .i 3, .i 5, .sl [.agg [.i 1, .i 0, .sl []], .agg [.i 3, .i 4, .sl []]]]], .sl [], .sl []], .i 0]):=a8.gH mix gI VI
end Go.Proofs.YtlhemmpklhhgoaaGreat
end
section
namespace Go.Proofs.YtlhemmpklhhgoaaGreat
open Go
theorem VJ:oz Tryz.prog bO C2 5000 16 [.agg [zC,zF, .sl [.agg [.i 2, .i 1, .i 0, .sl []], .agg [.i 1, .i 3, .i 5, .sl [.agg [.i 1, .i 0, .sl []], .agg [.i 3, .i 4, .sl []]]]], .sl [], .sl []], .agg [.i 3, .i 3, .sl [.agg [.i 1, .i 3, .sl []]]], .agg [.i 1, .i 2, .sl []]]=some (.ret [.agg [zC,zF, .sl [.agg [.i 2, .i 1, .i 0, .sl []], .agg [.i 1, .i 3, .i 5, .sl [.agg [.i 1, .i 0, .sl []], .agg [.i 3, .i 4, .sl []]]]], .sl [.agg [.i 3, .i 3, .sl [.agg [.i 1, .i 3, .sl []]], .i 1, .i 2, .sl []]], .sl []], .i 0]):=ah
theorem aeD:a8 Tryz.prog 16 [.agg [zC,zF, .sl [.agg [.i 2, .i 1, .i 0, .sl []], .agg [.i 1, .i 3, .i 5, .sl [.agg [.i 1, .i 0, .sl []], .agg [.i 3, .i 4, .sl []]]]], .sl [], .sl []], .agg [.i 3, .i 3, .sl [.agg [.i 1, .i 3, .sl []]]], .agg [.i 1, .i 2, .sl []]] (.ret [.agg [zC,zF, .sl [.agg [.i 2, .i 1, .i 0, .sl []], .agg [.i 1, .i 3, .i 5, .sl [.agg [.i 1, .i 0, .sl []], .agg [.i 3, .i 4, .sl []]]]], .sl [.agg [.i 3, .i 3, .sl [.agg [.i 1, .i 3, .sl []]], .i 1, .i 2, .sl []]], .sl []], .i 0]):=a8.gH mix gI VJ
end Go.Proofs.YtlhemmpklhhgoaaGreat
end
section
namespace Go.Proofs.YtlhemmpklhhgoaaGreat
open Go
theorem VK:oz Tryz.prog bO C2 5000 15 [.agg [zC,zF, .sl [.agg [.i 2, .i 1, .i 0, .sl []], .agg [.i 1, .i 3, .i 5, .sl [.agg [.i 1, .i 0, .sl []], .agg [.i 3, .i 4, .sl []]]]], .sl [.agg [.i 3, .i 3, .sl [.agg [.i 1, .i 3, .sl []]], .i 1, .i 2, .sl []]], .sl []], .agg [.i 1, .i 0, .sl []], .agg [.i 3, .i 3, .sl [.agg [.i 1, .i 3, .sl []]]]]=some (.ret [.agg [.sl [], .sl [], .sl [], .sl [], .sl []], .i 5]):=ah
theorem aeE:a8 Tryz.prog 15 [.agg [zC,zF, .sl [.agg [.i 2, .i 1, .i 0, .sl []], .agg [.i 1, .i 3, .i 5, .sl [.agg [.i 1, .i 0, .sl []], .agg [.i 3, .i 4, .sl []]]]], .sl [.agg [.i 3, .i 3, .sl [.agg [.i 1, .i 3, .sl []]], .i 1, .i 2, .sl []]], .sl []], .agg [.i 1, .i 0, .sl []], .agg [.i 3, .i 3, .sl [.agg [.i 1, .i 3, .sl []]]]] (.ret [.agg [.sl [], .sl [], .sl [], .sl [], .sl []], .i 5]):=a8.gH mix gI VK
end Go.Proofs.YtlhemmpklhhgoaaGreat
end
section
namespace Go.Proofs.YtlhemmpklhhgoaaGreat
open Go
theorem VL:oz Tryz.prog bO C2 5000 24 [.agg [zC,zF, .sl [.agg [.i 2, .i 1, .i 0, .sl []], .agg [.i 1, .i 3, .i 5, .sl [.agg [.i 1, .i 0, .sl []], .agg [.i 3, .i 4, .sl []]]]], .sl [.agg [.i 3, .i 3, .sl [.agg [.i 1, .i 3, .sl []]], .i 1, .i 2, .sl []]], .sl []]]=some (.ret [.agg [.sl [.agg [.i 1, .i 3, .i 5, .sl [.agg [.i 1, .i 0, .sl []], .agg [.i 3, .i 4, .sl []]]], .agg [.i 2, .i 1, .i 0, .sl []]], .sl [.sl [.agg [.i 0, .i 3, .i 3, .sl [.agg [.i 1, .i 3, .sl []]]]]]], .i 0]):=ah
theorem aeF:a8 Tryz.prog 24 [.agg [zC,zF, .sl [.agg [.i 2, .i 1, .i 0, .sl []], .agg [.i 1, .i 3, .i 5, .sl [.agg [.i 1, .i 0, .sl []], .agg [.i 3, .i 4, .sl []]]]], .sl [.agg [.i 3, .i 3, .sl [.agg [.i 1, .i 3, .sl []]], .i 1, .i 2, .sl []]], .sl []]] (.ret [.agg [.sl [.agg [.i 1, .i 3, .i 5, .sl [.agg [.i 1, .i 0, .sl []], .agg [.i 3, .i 4, .sl []]]], .agg [.i 2, .i 1, .i 0, .sl []]], .sl [.sl [.agg [.i 0, .i 3, .i 3, .sl [.agg [.i 1, .i 3, .sl []]]]]]], .i 0]):=a8.gH mix gI VL
end Go.Proofs.YtlhemmpklhhgoaaGreat
end
section
namespace Go.Proofs.YtlhemmpklhhgoaaGreat
open Go
theorem VM:oz Tryz.prog bO C2 5000 35 [.agg [zC,zF, .sl [.agg [.i 2, .i 1, .i 0, .sl []], .agg [.i 1, .i 3, .i 5, .sl [.agg [.i 1, .i 0, .sl []], .agg [.i 3, .i 4, .sl []]]]], .sl [.agg [.i 3, .i 3, .sl [.agg [.i 1, .i 3, .sl []]], .i 1, .i 2, .sl []]], .sl []], .agg [.i 1, .i 0, .sl []], .agg [.i 3, .i 3, .sl [.agg [.i 3, .i 2, .sl []]]]]=some (.ret [.i 3, .i 0]):=ah
theorem aeG:a8 Tryz.prog 35 [.agg [zC,zF, .sl [.agg [.i 2, .i 1, .i 0, .sl []], .agg [.i 1, .i 3, .i 5, .sl [.agg [.i 1, .i 0, .sl []], .agg [.i 3, .i 4, .sl []]]]], .sl [.agg [.i 3, .i 3, .sl [.agg [.i 1, .i 3, .sl []]], .i 1, .i 2, .sl []]], .sl []], .agg [.i 1, .i 0, .sl []], .agg [.i 3, .i 3, .sl [.agg [.i 3, .i 2, .sl []]]]] (.ret [.i 3, .i 0]):=a8.gH mix gI VM
end Go.Proofs.YtlhemmpklhhgoaaGreat
end
section
namespace Go.Proofs.YtlhemmpklhhgoaaGreat
open Go
def acC:qB Tryz.prog:=qB.of VG [(15,[.agg [zC,zF, .sl [], .sl [], .sl []], .agg [.i 3, .i 5, .sl [.agg [.i 1, .i 0, .sl []], .agg [.i 1, .i 1, .sl []]]], .agg [.i 3, .i 5, .sl [.agg [.i 1, .i 2, .sl []], .agg [.i 3, .i 5, .sl [.agg [.i 1, .i 0, .sl []], .agg [.i 3, .i 4, .sl []]]]]]], .ret [.agg [zC,zF, .sl [.agg [.i 2, .i 1, .i 0, .sl []], .agg [.i 1, .i 3, .i 5, .sl [.agg [.i 1, .i 0, .sl []], .agg [.i 3, .i 4, .sl []]]]], .sl [], .sl []], .i 0]),(16,[.agg [zC,zF, .sl [.agg [.i 2, .i 1, .i 0, .sl []], .agg [.i 1, .i 3, .i 5, .sl [.agg [.i 1, .i 0, .sl []], .agg [.i 3, .i 4, .sl []]]]], .sl [], .sl []], .agg [.i 3, .i 3, .sl [.agg [.i 1, .i 3, .sl []]]], .agg [.i 1, .i 2, .sl []]], .ret [.agg [zC,zF, .sl [.agg [.i 2, .i 1, .i 0, .sl []], .agg [.i 1, .i 3, .i 5, .sl [.agg [.i 1, .i 0, .sl []], .agg [.i 3, .i 4, .sl []]]]], .sl [.agg [.i 3, .i 3, .sl [.agg [.i 1, .i 3, .sl []]], .i 1, .i 2, .sl []]], .sl []], .i 0]),(15,[.agg [zC,zF, .sl [.agg [.i 2, .i 1, .i 0, .sl []], .agg [.i 1, .i 3, .i 5, .sl [.agg [.i 1, .i 0, .sl []], .agg [.i 3, .i 4, .sl []]]]], .sl [.agg [.i 3, .i 3, .sl [.agg [.i 1, .i 3, .sl []]], .i 1, .i 2, .sl []]], .sl []], .agg [.i 1, .i 0, .sl []], .agg [.i 3, .i 3, .sl [.agg [.i 1, .i 3, .sl []]]]], .ret [.agg [.sl [], .sl [], .sl [], .sl [], .sl []], .i 5]),(24,[.agg [zC,zF, .sl [.agg [.i 2, .i 1, .i 0, .sl []], .agg [.i 1, .i 3, .i 5, .sl [.agg [.i 1, .i 0, .sl []], .agg [.i 3, .i 4, .sl []]]]], .sl [.agg [.i 3, .i 3, .sl [.agg [.i 1, .i 3, .sl []]], .i 1, .i 2, .sl []]], .sl []]], .ret [.agg [.sl [.agg [.i 1, .i 3, .i 5, .sl [.agg [.i 1, .i 0, .sl []], .agg [.i 3, .i 4, .sl []]]], .agg [.i 2, .i 1, .i 0, .sl []]], .sl [.sl [.agg [.i 0, .i 3, .i 3, .sl [.agg [.i 1, .i 3, .sl []]]]]]], .i 0]),(35,[.agg [zC,zF, .sl [.agg [.i 2, .i 1, .i 0, .sl []], .agg [.i 1, .i 3, .i 5, .sl [.agg [.i 1, .i 0, .sl []], .agg [.i 3, .i 4, .sl []]]]], .sl [.agg [.i 3, .i 3, .sl [.agg [.i 1, .i 3, .sl []]], .i 1, .i 2, .sl []]], .sl []], .agg [.i 1, .i 0, .sl []], .agg [.i 3, .i 3, .sl [.agg [.i 3, .i 2, .sl []]]]], .ret [.i 3, .i 0])] (fun x h=>by
 simp only[List.mem_cons,List.not_mem_nil,or_false]at h
 rcases h with rfl|rfl|rfl|rfl|rfl
 ·exact aeC
 ·exact aeD
 ·exact aeE
 ·exact aeF
 ·exact aeG)
theorem C3:oz Tryz.prog bO acC 5000 14 []=some (.ret [.bool true]):=ah
theorem OG:a8 Tryz.prog 14 [] (.ret [.bool true]):=a8.gH mix gI C3
end Go.Proofs.YtlhemmpklhhgoaaGreat
end
section
namespace Go.Proofs.YtlhemmpklhhgoaaGreat
open Go.ChangeShapes Go.WideShapes Go.RowKit
set_option maxRecDepth 100000 in
theorem pJ(os:Os)(started:os.Started)(H:Type)(enc:TypeId×Value->H):
 ReturnsInHanded {} Tryz.checked os 4 .any (Rows.equalSolvesSpec.pre6 enc Tryz.prog Tryz.f4 Rows.equalSolvesRow.domain false) (Rows.equalSolvesSpec.post enc Tryz.prog Tryz.f4 Rows.equalSolvesRow.apart Rows.equalSolvesRow.fresh Rows.equalSolvesRow.handsOn Rows.equalSolvesRow.again):=by
 refine returnsInHanded_of_change (C:=Tryz.checked) ah started ah Tryz.func4
  (ChangeSpec.witness6 (enc:=enc) (C:=Tryz.checked) false ⟨#[],#[.agg #[.slice none 0 0, .slice none 0 0, .slice none 0 0, .slice none 0 0, .slice none 0 0]],[]⟩ 8 ah ah ah ah) ?_
 intro W base args ds gs before fi hW _ _
 refine Aj (T:=[29,24,22,124,9,3,25,59,31,33,30,26,101,27,77]) (tb:=4) ah ah rfl (fun ds h=>by match ds,h with|[_],_=>rfl) ah (by intro t ht;rw[Tryz.params4]at ht;simp at ht;subst ht;simp) ah (by intro t ht;rw[Tryz.params4]at ht;simp at ht;subst ht;exact⟨ah,of_decide_eq_true ah⟩)
  (fun xs hx=> ?_) base args ds gs before fi hW
 rw[Tryz.params4]at hx
 obtain⟨x0,xs,rfl,hx0,hx⟩:=bg hx
 have:=ir hx;subst this
 obtain⟨q0,rfl,hq0⟩:=acs hx0
 exact w9 OG q0 hq0
theorem equalSolves_holds:Rows.EqualSolvesSaid:=
 OpenClaim.holds_of_wide 4 Tryz.f4 rfl rfl rfl rfl rfl rfl rfl ⟨rfl,rfl,rfl,rfl,rfl⟩ rfl rfl rfl rfl rfl ah Tryz.func4 ah
  (of_decide_eq_true ah) (by unfold Func.isWrapper;first|(rw[if_pos (by decide+kernel)];kernel_rfl)|(rw[if_neg (by decide+kernel)];exact⟨rfl,rfl⟩))
  (fun os started H enc _=>pJ os started H enc)
end Go.Proofs.YtlhemmpklhhgoaaGreat
end
