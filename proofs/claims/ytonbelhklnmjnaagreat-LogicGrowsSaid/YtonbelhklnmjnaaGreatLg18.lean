/-
  A PART OF THE PROOF. Conditions: none.
-/
import Derived.OpenShut
import Derived.Carry
import Derived.Handed
import Derived.JoinedOf
import Derived.ProofKit
import Derived.Test.YtonbelhklnmjnaaGreatLg17
set_option linter.unusedSimpArgs false
set_option linter.unusedVariables false
section
namespace Go.Proofs.YtonbelhklnmjnaaGreat
open Go.ChangeShapes Go.WideShapes Go.RowKit
def vQ(P:Program)(rec:TypeId->Option (List TypeId)):Nat->List Field->Option (List TypeId)
 |_,[]=>some []
 |off,f::fs=>if f.offset=off then match rec f.type with
  |some l=>if P.cellsOf f.type=l.length then(vQ P rec (off+l.length) fs).map (l++·)else none
  |none=>none else none
def mC(P:Program):Nat->TypeId->Option (List TypeId)
 |0,_=>none
 |n+1,t=>match P.underlying t with
  |some .bool|some (.int _)|some .string|some (.slice _)=>some [t]
  |some (.struct fs)=>vQ P (mC P n) 0 fs.toList
  |some (.array k e)=>match mC P n e with
   |some l=>if P.cellsOf e=l.length then some (List.replicate k l).flatten else none
   |none=>none
  |_=>none
def isAgg(P:Program)(t:TypeId):Bool:=match P.underlying t with
 |some (.struct _)|some (.array _ _)=>true
 |_=>false
mutual
def D.jE (P:Program):D->TypeId->Prop
 | .int k n,t=>P.underlying t=some (.int k)/\(Lit.int k n).wf=true
 | .bool _,t=>P.underlying t=some .bool
 | .str l,t=>P.underlying t=some .string/\l.length<=maxLen
 | .sl es,t=>∃e,P.underlying t=some (.slice e)/\es.length<=maxLen/\D.EE P es e
 | .agg cs,t=>isAgg P t=true/\∃ls,mC P 20 t=some ls/\D.js P cs ls
 |_,_=>False
def D.EE (P:Program):List D->TypeId->Prop
 |[],_=>True
 |x::l,e=>D.jE P x e/\D.EE P l e
def D.js (P:Program):List D->List TypeId->Prop
 |[],ts=>ts=[]
 |x::l,ts=>∃t r,ts=t::r/\D.jE P x t/\D.js P l r
end
def ua(P:Program)(T:List TypeId):Bool:=T.all fun t=>match mC P 20 t with
 |some l=>decide (l.length=P.cellsOf t)&&decide (0<l.length)&&l.all fun u=>match P.underlying u with
  |some (.slice e)=>T.contains e
  |_=>true
 |none=>false
theorem qJ{P:Program}:∀ {xs ys:List D} {l r:List TypeId},D.js P xs l->D.js P ys r->D.js P (xs++ys) (l++r)
 |[],_,_,_,h,h'=>by simp only[D.js]at h;subst h;exact h'
 |x::xs,_,_,_,h,h'=>by
  obtain⟨t,r,rfl,h1,h2⟩:=h
  exact⟨t,_,rfl,h1,qJ h2 h'⟩
theorem bI{B:Nat->Prop}{w:World}:∀ {xs ys:List D} {l r:List Value},D.aM B w xs l->D.aM B w ys r->D.aM B w (xs++ys) (l++r)
 |[],_,_,_,h,h'=>by simp only[D.aM]at h;subst h;exact h'
 |x::xs,_,_,_,h,h'=>by
  obtain⟨t,r,rfl,h1,h2⟩:=h
  exact⟨t,_,rfl,h1,bI h2 h'⟩
theorem Flat.append {l r:List Value}(h:Flat l)(h':Flat r):Flat (l++r):=fun u hu=>(List.mem_append.1 hu).elim (h u) (h' u)
abbrev Wc:Nat->Prop:=fun _=>False
section
variable {H:Type}{enc:TypeId×Value->H}{P:Program}{W:World}{T:List TypeId}{b0:Nat}
def dH(P:Program)(W:World)(l:List TypeId)(cs:List Value):Prop:=∃xs,D.js P xs l/\D.aM Wc W xs cs/\Flat cs
theorem dH.append {l r:List TypeId}{cs ds:List Value}(h:dH P W l cs)(h':dH P W r ds):dH P W (l++r) (cs++ds):=by
 obtain⟨xs,a1,a2,a3⟩:=h
 obtain⟨ys,b1,b2,b3⟩:=h'
 exact⟨xs++ys,qJ a1 b1,bI a2 b2,a3.append b3⟩
theorem dH.length {l:List TypeId}{cs:List Value}(h:dH P W l cs):cs.length=l.length:=by
 obtain⟨xs,a1,a2,_⟩:=h
 rw[D.aH _ _ a2]
 clear a2
 induction xs generalizing l with
 |nil=>simp only[D.js]at a1;simp[a1]
 |cons x xs ih=>obtain⟨t,r,rfl,_,h⟩:=a1;simp[ih h]
theorem dH.nil:dH P W [] []:=⟨[],rfl,rfl,fun _ h=>by cases h⟩
theorem CQ{α:Type}(cs:List α)(o k:Nat):cs.drop o=(cs.drop o).take k++cs.drop (o+k):=by
 rw[<- List.drop_drop];exact(List.take_append_drop k _).symm
theorem qK{rec:TypeId->Option (List TypeId)}{cs:List Value}{rd:TypeId->List Value->Prop}
 (bS:∀t l vs,rec t=some l->(∀u∈l,∀e,P.underlying u=some (.slice e)->e∈T)->P.cellsOf t=l.length->rd t vs->dH P W l vs):
 ∀ (fs:List Field) (off:Nat) (l:List TypeId),vQ P rec off fs=some l->(∀u∈l,∀e,P.underlying u=some (.slice e)->e∈T)->(∀f∈fs,rd f.type ((cs.drop f.offset).take (P.cellsOf f.type)))->
   off+l.length=cs.length->dH P W l (cs.drop off)
 |[],off,l,h,_,_,hl=>by
  simp only[vQ,Option.some.injEq]at h
  subst h
  have:cs.drop off=[]:=List.drop_eq_nil_of_le (by simp at hl;omega)
  rw[this];exact dH.nil
 |f::fs,off,l,h,hT,hr,hl=>by
  simp only[vQ]at h
  split at h
  ·rename_i ho
   split at h
   ·rename_i l1 h1
    split at h
    ·rename_i hc
     simp only[Option.map_eq_some_iff]at h
     obtain⟨r,h2,rfl⟩:=h
     have hd:=hr f aj
     rw[ho,hc]at hd
     rw[CQ cs off l1.length]
     simp only[List.length_append]at hl
     exact(bS f.type l1 _ h1 (fun u hu=>hT u (by simp[hu])) hc hd).append (qK bS fs _ r h2 (fun u hu=>hT u (by simp[hu])) (fun f hf=>hr f (by simp[hf])) ad)
    ·cases h
   ·cases h
  ·cases h
theorem sZ{l:List TypeId}{cs:List Value}:∀ (k i:Nat),(∀j,j<k->dH P W l ((cs.drop ((i+j)*l.length)).take l.length))->(i+k)*l.length=cs.length->dH P W (List.replicate k l).flatten (cs.drop (i*l.length))
 |0,i,_,hl=>by
  have:cs.drop (i*l.length)=[]:=List.drop_eq_nil_of_le (by simp at hl;omega)
  rw[this];exact dH.nil
 |k+1,i,h,hl=>by
  rw[List.replicate_succ,List.flatten_cons,CQ cs (i*l.length) l.length]
  refine(by simpa using h 0 ad:dH P W l _).append ?_
  rw[show i*l.length+l.length=(i+1)*l.length by rw[Nat.add_mul];omega]
  refine sZ k (i+1) (fun j hj=> ?_) (by rw[<- hl];congr 1;omega)
  have:=h (j+1) ad
  rwa [show i+(j+1)=i+1+j by omega]at this
theorem CS{e:TypeId}{l:List TypeId}{cs:List Value}(hl:mC P 20 e=some l)(h:dH P W l cs):∃ (ev:Value) (x:D),ev.cells.toList=cs/\D.jE P x e/\D.den Wc W x ev/\(isAgg P e=true->ev= .agg cs.toArray)/\(isAgg P e=false->cs=[ev]/\ev.oneCell'=true):=by
 obtain⟨xs,h1,h2,h3⟩:=h
 cases ha:isAgg P e with
 |true=>exact⟨.agg cs.toArray, .agg xs,by simp[Value.cells],⟨ha,l,hl,h1⟩,⟨_,rfl,by simpa using h2,by simpa using h3⟩,fun _=>rfl,(fun h=>by cases h)⟩
 |false=>
  have:l=[e]:=by
   unfold mC at hl
   unfold isAgg at ha
   split at hl<;>simp_all
  subst this
  obtain⟨t,r,e1,h4,h5⟩:∃x r,xs=x::r/\D.jE P x e/\D.js P r []:=by
   cases xs with
   |nil=>simp[D.js]at h1
   |cons x r=>obtain⟨t,r',e1,h4,h5⟩:=h1;injection e1 with e1 e2;subst e1;subst e2;exact⟨x,r,rfl,h4,h5⟩
  subst e1
  have:r=[]:=by cases r with
   |nil=>rfl
   |cons y r=>obtain⟨_,_,e,_⟩:=h5;cases e
  subst this
  obtain⟨u,us,rfl,h6,h7⟩:=h2
  simp only[D.aM]at h7
  subst h7
  have ho:=h3 u aj
  refine⟨u,t, ?_,h4,h6,(fun h=>by cases h),fun _=>⟨rfl,ho⟩⟩
  cases u<;>simp_all[Value.oneCell',Value.cells]
theorem CT(hp:ua P T=true){t:TypeId}(ht:t∈T):∃l,mC P 20 t=some l/\l.length=P.cellsOf t/\0<l.length/\∀u∈l,∀e,P.underlying u=some (.slice e)->e∈T:=by
 have:=List.all_eq_true.1 hp t ht
 split at this
 ·rename_i l hl
  simp only[Bool.and_eq_true,decide_eq_true_eq,List.all_eq_true]at this
  refine⟨l,hl,this.1.1,this.1.2,fun u hu e he=> ?_⟩
  have:=this.2 u hu
  rw[he]at this
  simpa using this
 ·cases this
theorem EF(hp:ua P T=true):∀ (n m:Nat) (t:TypeId) (l:List TypeId) (cs:List Value) (x:DataW H×List MemPlace),mC P m t=some l->(∀u∈l,∀e,P.underlying u=some (.slice e)->e∈T)->
 P.cellsOf t=l.length->DataW.trod enc P W 0 (fun _=>true) true n t cs=some x->dH P W l cs:=by
 intro n
 induction n with
 |zero=>intro m t l cs x _ _ _ h;simp[DataW.trod]at h
 |succ n ih=>
  intro m t l cs x hl hT hc h
  cases m with
  |zero=>simp[mC]at hl
  |succ m=>
  unfold mC at hl
  split at hl
  ·rename_i hu
   injection hl with hl;subst hl
   obtain⟨b,rfl,_⟩:=DataW.trod_bool hu h
   exact⟨[.bool b],⟨t,[],rfl,hu,rfl⟩,⟨_,_,rfl,rfl,rfl⟩,by simp[Flat,Value.oneCell']⟩
  ·rename_i k hu
   injection hl with hl;subst hl
   obtain⟨b,rfl,_,hw⟩:=DataW.trod_int hu h
   exact⟨[.int k b],⟨t,[],rfl,⟨hu,hw⟩,rfl⟩,⟨_,_,rfl,rfl,rfl⟩,by simp[Flat,Value.oneCell']⟩
  ·rename_i hu
   injection hl with hl;subst hl
   obtain⟨s,rfl,_,hw⟩:=DataW.trod_string hu h
   exact⟨[.str s.data.toList],⟨t,[],rfl,⟨hu,by simpa using hw⟩,rfl⟩,⟨_,_,rfl,⟨s,rfl,rfl⟩,rfl⟩,by simp[Flat,Value.oneCell']⟩
  ·rename_i e hu
   injection hl with hl;subst hl
   rcases DataW.trod_slice hu h with⟨rfl,_⟩|⟨a,len,cap,elems,rest,n',hn,rfl,_,_,h2,h3,h4,h5,h6,_⟩
   ·exact⟨[.sl []],⟨t,[],rfl,⟨e,hu,aj,trivial⟩,rfl⟩,⟨_,_,rfl,⟨none,0,0,rfl,rfl,aj,fun _=>rfl,0,(fun a ha=>by cases ha)⟩,rfl⟩,by simp[Flat,Value.oneCell']⟩
   ·injection hn with hn;subst hn
    obtain⟨l',g1,g2,g3,g4⟩:=CT hp (hT t aj e hu)
    have at':∀i,i<len->∃ev:Value,∃y:D,ev.cells.size=P.cellsOf e/\ig Wc W (a.add (i*P.cellsOf e)) ev.cells/\D.den Wc W y ev/\D.jE P y e:=by
     intro i hi
     have:=h5 i hi
     rw[List.getElem?_eq_getElem (by omega)]at this
     obtain⟨ci,k1,k2⟩:=Option.bind_eq_some_iff.1 this
     obtain⟨_,k3,k4⟩:=World.cells?_some k1
     have k5:=ih 20 e l' ci _ g1 g4 g2.symm k2
     obtain⟨ev,y,q1,q2,q3,_,_⟩:=CS g1 k5
     have q4:ev.cells=ci.toArray:=by rw[<- q1]
     refine⟨ev,y,by rw[q4];simp[k5.length,g2],fun j u hj=>⟨?_,fun h=>h⟩,q3,q2⟩
     rw[q4]at hj
     have Iw:ci[j]? =some u:=by simpa using hj
     have cU:j<P.cellsOf e:=by rw[<- g2, <- k5.length];exact(List.getElem?_eq_some_iff.1 Iw).1
     rw[k4 j cU];exact Iw
    have list:∀k i,i+k=len->∃es,es.length=k/\D.EE P es e/\D.elems Wc W (P.cellsOf e) a i es:=by
     intro k
     induction k with
     |zero=>intro i _;exact⟨[],rfl,trivial,trivial⟩
     |succ k ihk=>
      intro i hi
      obtain⟨es,e1,e2,e3⟩:=ihk (i+1) ad
      obtain⟨ev,y,y1,y2,y3,y4⟩:=at' i ad
      exact⟨y::es,by simp[e1],⟨y4,e2⟩,⟨ev,y1,y2,y3⟩,e3⟩
    obtain⟨es,e1,e2,e3⟩:=list len 0 ad
    have aaL:cap≠0->a.spot=none:=by
     intro fw
     have R2:∀z,(W.cells? 0 (a.add (0*P.cellsOf e)) (P.cellsOf e)).bind (DataW.trod enc P W 0 (fun _=>true) true n e)=some z->a.spot=none:=by
      intro z hz
      obtain⟨ci,k1,k2⟩:=Option.bind_eq_some_iff.1 hz
      obtain⟨_,k3,k4⟩:=World.cells?_some k1
      have k5:=k4 0 ad
      rw[List.getElem?_eq_getElem (by omega)]at k5
      simpa[Addr.add]using World.cell?_spot k5
     by_cases hlen:0<len
     ·have:=h5 0 hlen
      rw[List.getElem?_eq_getElem (by omega)]at this
      exact R2 _ this
     ·obtain⟨h7,h8⟩:=h6 rfl
      have:=h8 0 ad
      rw[List.getElem?_eq_getElem (by omega),show(len+0)=0 by omega]at this
      exact R2 _ this
    exact⟨[.sl es],⟨t,[],rfl,⟨e,hu,ad,e2⟩,rfl⟩,⟨_,_,rfl,⟨some a,len,cap,rfl,e1.symm,h2,(fun h=>by cases h),P.cellsOf e,(fun a' Oi=>by injection Oi with Oi;subst Oi;exact⟨aaL,e3⟩)⟩,rfl⟩,by simp[Flat,Value.oneCell']⟩
  ·rename_i fs hu
   obtain⟨xs,n',hn,_,h2,h3,h4⟩:=DataW.trod_struct hu h
   injection hn with hn;subst hn
   have:=qK (P:=P) (W:=W) (T:=T) (cs:=cs) (rd:=fun t vs=>∃y,DataW.trod enc P W 0 (fun _=>true) true n t vs=some y) (rec:=mC P m) (fun t l vs q1 q2 q3 ⟨y,q4⟩=>ih m t l vs y q1 q2 q3 q4) fs.toList 0 l hl hT ?_ ad
   ·simpa using this
   ·intro f hf
    obtain⟨i,hi,hfi⟩:=List.getElem_of_mem hf
    have:=h4 i f (by simp at hi;simp[<- hfi,Array.getElem?_eq_getElem hi])
    rw[List.getElem?_eq_getElem (by simp at hi;omega)]at this
    exact⟨_,this⟩
  ·rename_i k e hu
   split at hl
   ·rename_i l' zc
    split at hl
    ·rename_i hce
     injection hl with hl;subst hl
     obtain⟨xs,n',hn,_,h2,h3,h4⟩:=DataW.trod_array hu h
     injection hn with hn;subst hn
     have hlen:cs.length=k*l'.length:=by rw[h2,hc];simp
     have hT':0<k->∀u∈l',∀e,P.underlying u=some (.slice e)->e∈T:=fun hk u hu=>hT u (List.mem_flatten.2 ⟨l',List.mem_replicate.2 ⟨ad,rfl⟩,hu⟩)
     have:=sZ (P:=P) (W:=W) (l:=l') (cs:=cs) k 0 (fun j hj=> ?_) (by rw[hlen];simp)
     ·simpa using this
     ·have:=h4 j hj
      rw[hce,List.getElem?_eq_getElem (by omega)]at this
      rw[Nat.zero_add]
      exact ih m e l' _ _ zc (hT' ad) hce this
    ·cases hl
   ·cases hl
  ·cases hl
theorem yr(hp:ua P T=true):∀ (ts:List TypeId) (vs:List Value) (ds:List (DataW H)) (p:List MemPlace),(∀t∈ts,t∈T)->DataW.TrodAll enc P W 0 (fun _=>true) true ts vs ds p->
 (∀ (j:Nat) t v,ts[j]? =some t->vs[j]? =some v->Value.okWide P W .any b0 t v)->∃xs,D.js P xs ts/\D.aM Wc W xs vs
 |[],vs,ds,p,_,h,_=>by
  obtain⟨rfl,rfl,rfl⟩:=trodAll_nil h
  exact⟨[],rfl,rfl⟩
 |t::ts,vs,ds,p,hT,h,hv=>by
  obtain⟨v,vs',d,X7,p1,q1,rfl,rfl,rfl,⟨n,h1⟩,h2⟩:=trodAll_cons h
  obtain⟨xs,a1,a2⟩:=yr hp ts vs' X7 q1 (fun t ht=>hT t (by simp[ht])) h2 (fun j t v h1 h2=>hv (j+1) t v (by simpa using h1) Dk)
  obtain⟨l,g1,g2,g3,g4⟩:=CT hp (hT t aj)
  obtain⟨ev,x,q1,q2,q3,q4,q5⟩:=CS g1 (EF hp n 20 t l _ _ g1 g4 g2.symm h1)
  have bn:=hv 0 t v rfl rfl
  have:ev=v:=by
   cases ha:isAgg P t with
   |true=>
    have:∃cs,v= .agg cs:=by
     unfold isAgg at ha
     unfold Value.okWide at bn
     split at ha
     ·rename_i hu;rw[hu]at bn;obtain⟨cs,rfl,_⟩:=bn;exact⟨cs,rfl⟩
     ·rename_i hu;rw[hu]at bn;obtain⟨cs,rfl,_⟩:=bn;exact⟨cs,rfl⟩
     ·cases ha
    obtain⟨cs,rfl⟩:=this
    rw[q4 ha]
    simp[Value.cells]
   |false=>
    obtain⟨q6,q7⟩:=q5 ha
    cases v with
    |agg cs=>
     exfalso
     unfold isAgg at ha
     unfold Value.okWide at bn
     split at bn
     ·rename_i hu;rw[hu]at ha;cases ha
     ·rename_i hu;rw[hu]at ha;cases ha
     ·unfold Cell.okWide at bn
      split at bn
      case h_8=>
       unfold Cell.ok at bn
       split at bn<;>first|exact bn|contradiction
      all_goals contradiction
    |_=>simp only[Value.cells,List.cons.injEq,and_true]at q6;exact q6.symm
  subst this
  exact⟨x::xs,⟨t,ts,rfl,q2,a1⟩,⟨_,_,rfl,q3,a2⟩⟩
theorem eF.below {w w':World}(h:eF (fun _=>False) w w'):Below w.heap.size w w':=⟨h.os,h.tape,h.output,h.size,fun k hk=>h.block k hk (fun h=>h)⟩
theorem yu(hl:laidOutB P=true){W':World}{sp:Nat->Bool}:∀ {ts:List TypeId} {vs:List Value} {ds:List (DataW H)} {p:List MemPlace},(∀t∈ts,P.readableRec t=true/\t<P.types.size)->DataW.TrodAll enc P W 0 (fun _=>true) true ts vs ds p->
 (∀x∈p,W.sameAt W' x/\sp x.block=true)->DataW.TrodAll enc P W' 0 sp true ts vs ds p
 |[],vs,ds,p,_,h,_=>by
  obtain⟨rfl,rfl,rfl⟩:=trodAll_nil h
  exact trodAll_mk0
 |t::ts,vs,ds,p,hr,h,hs=>by
  obtain⟨v,vs',d,X7,p1,q1,rfl,rfl,rfl,h1,h2⟩:=trodAll_cons h
  exact⟨p1,q1,WideElems.Trod_stays hl (hr t aj).1 (hr t aj).2 h1 (fun x hx=>(hs x lu).1) (fun x hx=>(hs x lu).2),yu hl (fun t ht=>hr t (by simp[ht])) h2 (fun x hx=>hs x lu),rfl⟩
theorem Lr{sp:Nat->Bool}:∀ {ts:List TypeId} {vs:List Value} {ds:List (DataW H)} {ps:List MemPlace},DataW.TrodAll enc P W 0 sp true ts vs ds ps->ds.length=ts.length
 |[],_,_,_,h=>by obtain⟨_,rfl,_⟩:=trodAll_nil h;rfl
 |_::_,_,_,_,h=>by
  obtain⟨_,_,_,_,_,_,_,rfl,_,_,h2⟩:=trodAll_cons h
  simp[Lr h2]
theorem Aq{f:FuncId}{fn:Func}{s:ChangeSpec}{tb:TypeId}{fresh handsOn again:Bool}(Bx:fn.resultTypes=#[tb])(Gw:P.underlying tb=some .bool)(R3:s.vars=[])
 (Ls:∀ds:List (DataW H),ds.length=fn.params.toList.length->s.fn H ds={results:=[.lit (.bool true)],args:=ds}) (hp:ua P T=true) (hT:∀t∈fn.params.toList,t∈T) (hl:laidOutB P=true)
 (hr:∀t∈fn.params.toList,P.readableRec t=true/\t<P.types.size) (law:∀xs,D.js P xs fn.params.toList->a7 P f xs (.ret [.bool true]))
 (base:Nat) (args:Array Value) (ds gs:List (DataW H)) (before:List MemPlace)
 (fK:∀ (j:Nat) t v,fn.params[j]? =some t->args[j]? =some v->Value.okWide P W .any base t v) (hW:DataW.Whole enc P fn.params.toList s.vars false W args.toList ds gs before):
 Calls P f args W fun e W'=>∃v,e= .returned v/\s.post enc P fn false fresh handsOn again W args v W':=by
 have hW':=hW
 obtain⟨p,q,hA,hV,rfl,hfz,hnd⟩:=hW
 rw[R3]at hV
 obtain⟨rfl,rfl⟩:=trodVars_none hV
 obtain⟨xs,a1,a2⟩:=yr (b0:=base) hp fn.params.toList args.toList ds p hT hA (fun j t v h1 h2=>fK j t v (by simpa using h1) Dk)
 refine((law xs a1).2 Wc W args (fun _ h=>h.elim) a2).mono fun e W' ⟨hk,ho⟩=> ?_
 have hb:=hk.below
 cases e with
 |panicked ch=>exact ho.elim
 |outgrown=>exact ho.elim
 |returned v=>
  simp only[R.is,D.den]at ho
  subst ho
  refine⟨_,rfl, ?_⟩
  have hlen:ds.length=fn.params.toList.length:=(Lr hA)
  have hold:∀x∈p,x.block<W.heap.size:=fun x hx=>by simpa using hW'.lt x Gx
  have dT:∀sp:Nat->Bool,(∀x∈p,sp x.block=true)->DataW.TrodAll enc P W' 0 sp true fn.params.toList args.toList ds p:=fun sp te=>yu hl hr hA fun x hx=>⟨hb.same (hold x hx),te x hx⟩
  have R4:∀ (b:Nat) (sp:Nat->Bool) (hd:Bool),DataW.TrodAll enc P W' b sp hd fn.resultTypes.toList ((Value.bool true).resultList fn.resultTypes.size) [.lit (.bool true)] []:=fun b sp hd=>by
   rw[Bx]
   exact trodAll_cons_mk (p:=[]) (p':=[]) ⟨1,by simp[DataW.trod,Value.cells,Gw]⟩ trodAll_mk0
  have Lt:∀sp:Nat->Bool,DataW.TrodVars enc P W' sp s.vars [] []:=fun sp=>by rw[R3];rfl
  refine⟨ds,[],p++[],[],p,[],hW', ?_, ?_, ?_,World.keptBut_mono (fun _ h=>h.elim) (hb.frame (fun _=>False)),fun _=>⟨?_,[.lit (.bool true)]++ds,[],([]++p)++[],⟨[]++p,[],trodAll_append (dT _ fun _ _=>rfl) (R4 0 (fun _=>true) true),Lt _,rfl, ?_,(fun h=>by cases h)⟩,fun x hx _=>by simpa using hx⟩⟩
  ·rw[List.append_nil,Ls ds hlen];exact R4 _ _ _
  ·rw[List.append_nil,Ls ds hlen];exact dT _ fun x hx=>by simpa using hold x hx
  ·rw[List.append_nil,Ls ds hlen];exact Lt _
  ·intro j t r h1 h2
   rw[Bx]at h1 h2
   match j,h1,h2 with
   |0,h1,h2=>
    simp[Value.resultList]at h1 h2
    subst h1;subst h2
    simp[Value.okWide,Gw,Cell.okWide,Cell.ok]
  ·intro b off hx
   rw[hb.frozen (by simpa[MemPlace.block]using hold _ (by simpa using hx))]
   exact hfz b off Gx
end
section
variable {P:Program}{t e:TypeId}{x:D}
theorem vR{k:IntKind}(ht:P.underlying t=some (.int k))(h:D.jE P x t):∃n,x= .int k n/\(Lit.int k n).wf=true:=by
 cases x<;>simp only[D.jE]at h
 case int k' n=>
  rw[ht]at h
  obtain⟨h1,h2⟩:=h
  injection h1 with h1;injection h1 with h1;subst h1
  exact⟨n,rfl,h2⟩
 case bool=>rw[ht]at h;cases h
 case str=>rw[ht]at h;cases h.1
 case sl=>obtain⟨e,h,_⟩:=h;rw[ht]at h;cases h
 case agg=>have:=h.1;unfold isAgg at this;rw[ht]at this;cases this
theorem Lu(ht:P.underlying t=some .string)(h:D.jE P x t):∃l,x= .str l/\l.length<=maxLen:=by
 cases x<;>simp only[D.jE]at h
 case int k' n=>rw[ht]at h;cases h.1
 case bool b=>rw[ht]at h;cases h
 case str l=>exact⟨l,rfl,h.2⟩
 case sl=>obtain⟨e,h,_⟩:=h;rw[ht]at h;cases h
 case agg=>have:=h.1;unfold isAgg at this;rw[ht]at this;cases this
theorem od(ht:P.underlying t=some (.slice e))(h:D.jE P x t):∃es,x= .sl es/\es.length<=maxLen/\D.EE P es e:=by
 cases x<;>simp only[D.jE]at h
 case int k' n=>rw[ht]at h;cases h.1
 case bool b=>rw[ht]at h;cases h
 case str l=>rw[ht]at h;cases h.1
 case sl es=>
  obtain⟨e',h,h2,h3⟩:=h
  rw[ht]at h;injection h with h;injection h with h;subst h
  exact⟨es,rfl,h2,h3⟩
 case agg=>have:=h.1;unfold isAgg at this;rw[ht]at this;cases this
theorem nM{ls:List TypeId}(ha:isAgg P t=true)(hl:mC P 20 t=some ls)(h:D.jE P x t):∃cs,x= .agg cs/\D.js P cs ls:=by
 have no:∀u,P.underlying t=some u->(∀fs,u≠ .struct fs)->(∀k e,u≠ .array k e)->False:=by
  intro u hu h1 h2
  unfold isAgg at ha
  rw[hu]at ha
  split at ha
  ·rename_i e;injection e with e;exact h1 _ e
  ·rename_i e;injection e with e;exact h2 _ _ e
  ·cases ha
 cases x<;>simp only[D.jE]at h
 case int k' n=>exact(no _ h.1 (fun _ h=>by cases h) (fun _ _ h=>by cases h)).elim
 case bool b=>exact(no _ h (fun _ h=>by cases h) (fun _ _ h=>by cases h)).elim
 case str l=>exact(no _ h.1 (fun _ h=>by cases h) (fun _ _ h=>by cases h)).elim
 case sl es=>obtain⟨e',h,_⟩:=h;exact(no _ h (fun _ h=>by cases h) (fun _ _ h=>by cases h)).elim
 case agg cs=>
  obtain⟨_,ls',h1,h2⟩:=h
  rw[hl]at h1;injection h1 with h1;subst h1
  exact⟨cs,rfl,h2⟩
theorem bt{t:TypeId}{ts:List TypeId}{cs:List D}(h:D.js P cs (t::ts)):∃x xs,cs=x::xs/\D.jE P x t/\D.js P xs ts:=by
 cases cs with
 |nil=>simp[D.js]at h
 |cons x xs=>obtain⟨_,_,e,h1,h2⟩:=h;injection e with e1 e2;subst e1;subst e2;exact⟨x,xs,rfl,h1,h2⟩
theorem jU{cs:List D}(h:D.js P cs []):cs=[]:=by
 cases cs with
 |nil=>rfl
 |cons x xs=>obtain⟨_,_,e,_⟩:=h;cases e
theorem nN{α:Type}{f:α->D}{q:α->Prop}(hf:∀x,D.jE P x e->∃a,x=f a/\q a):∀ (es:List D),D.EE P es e->∃l:List α,es=l.map f/\∀a∈l,q a
 |[],_=>⟨[],rfl,fun _ h=>by cases h⟩
 |x::es,h=>by
  obtain⟨a,rfl,h1⟩:=hf x h.1
  obtain⟨l,rfl,h2⟩:=nN hf es h.2
  exact⟨a::l,rfl,fun b hb=>(List.mem_cons.1 hb).elim (fun e=>e ▸ h1) (h2 b)⟩
end
end Go.Proofs.YtonbelhklnmjnaaGreat
end
section
namespace Go.Proofs.YtonbelhklnmjnaaGreat
open Go.ChangeShapes Go.WideShapes Go.RowKit
theorem lS:maxLen<=9223372036854775807:=aV
theorem vS{x:D}(h:D.jE Tryz.prog x 3):∃n:Int,x= .i n:=by
 obtain⟨n,h,_⟩:=vR undT_3 h
 exact⟨n,h⟩
theorem Wd{x:D}(h:D.jE Tryz.prog x 29):∃n:Int,x= .i n:=by
 obtain⟨n,h,_⟩:=vR undT_29 h
 exact⟨n,h⟩
theorem aaM{x:D}(h:D.jE Tryz.prog x 104):∃r:kn,x=r.d/\r.name.length<=9223372036854775807:=by
 obtain⟨cs,rfl,hh⟩:=nM af (ls:=[9,3]) af h
 clear h;have h:=hh;clear hh
 obtain⟨a,cs,rfl,ha,h⟩:=bt h
 obtain⟨b,cs,rfl,hb,h⟩:=bt h
 have:=jU h;subst this
 obtain⟨l,rfl,hl⟩:=Lu af ha
 obtain⟨n,rfl⟩:=vS hb
 exact⟨⟨l,n⟩,rfl,by have:=lS;simp only;omega⟩
theorem Lv:∀ (n:Nat) (x:D),SizeOf.sizeOf x<=n->D.jE Tryz.prog x 31->∃t:Tm,x=t.d/\t.fits:=by
 intro n
 induction n with
 |zero=>intro x hx _;cases x<;>simp at hx
 |succ n ih=>
  intro x hx h
  obtain⟨cs,rfl,hh⟩:=nM af (ls:=[29,3,28]) af h
  clear h;have h:=hh;clear hh
  obtain⟨a,cs,rfl,ha,h⟩:=bt h
  obtain⟨b,cs,rfl,hb,h⟩:=bt h
  obtain⟨c,cs,rfl,hc,h⟩:=bt h
  have:=jU h;subst this
  obtain⟨o,rfl⟩:=Wd ha
  obtain⟨m,rfl⟩:=vS hb
  obtain⟨es,rfl,h1,h2⟩:=od undT_28 hc
  have Da:SizeOf.sizeOf es<=n:=by simp at hx;omega
  have:∀es:List D,SizeOf.sizeOf es<=n->D.EE Tryz.prog es 31->∃l:List Tm,es=l.map Tm.d/\∀k∈l,k.fits:=by
   intro es
   induction es with
   |nil=>intro _ _;exact⟨[],rfl,fun _ h=>by cases h⟩
   |cons y es ihe=>
    intro hs h
    simp at hs
    obtain⟨t,rfl,ht⟩:=ih y ad h.1
    obtain⟨l,rfl,hl⟩:=ihe ad h.2
    exact⟨t::l,rfl,fun b hb=>(List.mem_cons.1 hb).elim (fun e=>e ▸ ht) (hl b)⟩
  obtain⟨l,rfl,hl⟩:=this es Da h2
  refine⟨.mk o m l,by rw[Tm.rO], ?_⟩
  rw[Tm.aP]
  exact⟨by have:=lS;simp at h1;simp only[Tm.kids];omega,hl⟩
theorem aaN{x:D}(h:D.jE Tryz.prog x 31):∃t:Tm,x=t.d/\t.fits:=Lv _ x (Nat.le_refl _) h
end Go.Proofs.YtonbelhklnmjnaaGreat
end
section
namespace Go.Proofs.YtonbelhklnmjnaaGreat
open Go.ChangeShapes Go.WideShapes Go.RowKit
theorem yw{x:D}(h:D.jE Tryz.prog x 28):∃l:List Tm,x= .sl (l.map Tm.d)/\l.length<=9223372036854775807/\∀t∈l,t.fits:=by
 obtain⟨es,rfl,h1,h2⟩:=od undT_28 h
 obtain⟨l,rfl,hl⟩:=nN (fun x h=>aaN h) es h2
 have:=lS
 exact⟨l,rfl,by simp at h1;omega,hl⟩
structure Rl.Fits (r:Rl):Prop where
 bg:r.bg.length<=9223372036854775807
 all:∀t∈r.bg,t.fits
 rhs:r.rhs.fits
theorem acO{x:D}(h:D.jE Tryz.prog x 106):∃r:Rl,x=r.d/\r.Fits:=by
 obtain⟨cs,rfl,hh⟩:=nM af (ls:=[3,28,29,3,28,3]) af h
 clear h;have h:=hh;clear hh
 obtain⟨a,cs,rfl,ha,h⟩:=bt h
 obtain⟨b,cs,rfl,hb,h⟩:=bt h
 obtain⟨c,cs,rfl,hc,h⟩:=bt h
 obtain⟨d,cs,rfl,hd,h⟩:=bt h
 obtain⟨e,cs,rfl,he,h⟩:=bt h
 obtain⟨f,cs,rfl,hf,h⟩:=bt h
 have:=jU h;subst this
 obtain⟨m,rfl⟩:=vS ha
 obtain⟨l,rfl,l1,l2⟩:=yw hb
 obtain⟨o,rfl⟩:=Wd hc
 obtain⟨n,rfl⟩:=vS hd
 obtain⟨k,rfl,k1,k2⟩:=yw he
 obtain⟨v,rfl⟩:=vS hf
 exact⟨⟨m,l, .mk o n k,v⟩,rfl,⟨l1,l2,(Tm.aP _).2 ⟨k1,k2⟩⟩⟩
structure Pg.Fits (p:Pg):Prop where
 sig:p.sig.Fits
 len:p.rules.length<=9223372036854775807
 all:∀r∈p.rules,r.Fits
theorem acP{x:D}(h:D.jE Tryz.prog x 27):∃p:Pg,x=p.d/\p.Fits:=by
 obtain⟨cs,rfl,hh⟩:=nM af (ls:=[22,22,25]) af h
 clear h;have h:=hh;clear hh
 obtain⟨a,cs,rfl,ha,h⟩:=bt h
 obtain⟨b,cs,rfl,hb,h⟩:=bt h
 obtain⟨c,cs,rfl,hc,h⟩:=bt h
 have:=jU h;subst this
 obtain⟨es,rfl,h1,h2⟩:=od undT_22 ha
 obtain⟨l,rfl,hl⟩:=nN (fun x h=>aaM h) es h2
 obtain⟨es',rfl,h3,h4⟩:=od undT_22 hb
 obtain⟨l',rfl,zc⟩:=nN (fun x h=>aaM h) es' h4
 obtain⟨es2,rfl,h5,h6⟩:=od (e:=106) af hc
 obtain⟨q,rfl,hq⟩:=nN (fun x h=>acO h) es2 h6
 have:=lS
 exact⟨⟨⟨l,l'⟩,q⟩,rfl,⟨⟨by simp at h1;simp only;omega,by simp at h3;simp only;omega,hl,zc⟩,by simp at h5;simp only;omega,hq⟩⟩
end Go.Proofs.YtonbelhklnmjnaaGreat
end
namespace Go.Proofs.YtonbelhklnmjnaaGreat
def eO(l:List Tm):Bool:=decide (l.length<=6)&&l.all ir
def gf(p:Pg):Bool:=(iW p.sig&&decide (p.rules.length<=20))&&p.rules.all fun r=>eO r.bg&&ir r.rhs
theorem yx{p:Pg}(hf:p.Fits)(h:gf p=true):p.Fin/\F5 p:=by
 simp only[gf,eO,Bool.and_eq_true,decide_eq_true_eq,List.all_eq_true,pv]at h
 obtain⟨_,h⟩:=h
 refine⟨⟨hf.sig,hf.len,fun r hr=> ?_⟩,fun r hr=> ?_⟩
 ·obtain⟨⟨a,b⟩,c⟩:=h r hr
  have zb:=hf.all r hr
  exact⟨ad,fun t ht=>⟨zb.all t ht,by have:=(b t ht).2;omega⟩,⟨zb.rhs,by have:=c.2;omega⟩⟩
 ·obtain⟨⟨a,b⟩,c⟩:=h r hr
  exact⟨a,fun t ht=>(b t ht).1,c.1⟩
theorem Lw(l:List Int)(n:Int)(hl:l.length<=1000000):a7 Tryz.prog 198 [.sl (l.map .i), .i n] (.ret [.bool (l.contains n)]):=by
 refine a7.aA mix aag aj ?_
 rw[aaf]
 refine aI ?_
 refine aK (fun k:Nat=>⟨bA [.d (.sl (l.map .i)), .d (.i n), .aa, .aa, .aa, .d (.i k)],fun _=> .no,0⟩)
  (fun k=>k<=l.length/\(l.take k).contains n=false) (fun k=>l.length - k) 0 ⟨Nat.zero_le _,aj⟩ (bL.d0 _ ?_) (fun k hk=> ?_)
 ·exact cG
 refine aI ?_
 refine ak (fun h2=> ?_) (fun h2=> ?_)
 ·simp at h2
  obtain⟨x,hx⟩:=aw h2
  refine dz hx ?_
  refine ak (fun h3=> ?_) (fun h3=> ?_)
  ·refine aI ?_
   have:l.contains n=true:=by
    rw[List.contains_iff_mem, <- (by simpa using h3:x=n)];exact List.mem_of_getElem? hx
   rw[this]
  ·refine aI ?_
   refine au (k+1) ⟨h2, ?_⟩ ad (bL.d0 _ ?_)
   ·have h4: ¬n=x:=fun e=>by subst e;simp at h3
    have h5:=hk.2
    rw[List.take_add_one,hx]
    rw[Bool.eq_false_iff]at h5|-
    intro hc;apply h5
    rw[List.contains_iff_mem]at hc|-
    rcases List.mem_append.1 hc with hc|hc
    ·exact hc
    ·simp at hc;exact absurd hc h4
   ·exact cG
 ·simp at h2
  refine aI ?_
  have:=hk.2
  rw[List.take_of_length_le (by omega)]at this
  rw[this]
theorem vT:∀ (l:List Int) (n:Int),∃k,k<=l.length/\(∀x∈l.take k,x<n)/\(∀x,l[k]? =some x-> ¬x<n)/\kB l n=if l[k]? =some n then l else l.take k++n::l.drop k
 |[],n=>⟨0,Nat.zero_le _,aj,aj,by simp[kB]⟩
 |x::l,n=>by
  obtain⟨k,h1,h2,h3,h4⟩:=vT l n
  by_cases hx:x<n
  ·refine⟨k+1,by simp;omega, ?_,by simpa using h3, ?_⟩
   ·intro y hy
    simp only[List.take_succ_cons,List.mem_cons]at hy
    rcases hy with rfl|hy
    ·exact hx
    ·exact h2 y hy
   ·simp only[kB,if_pos hx,h4,List.getElem?_cons_succ,List.take_succ_cons,List.drop_succ_cons]
    split<;>simp
  ·refine⟨0,Nat.zero_le _,aj,by simpa using hx, ?_⟩
   simp only[kB,if_neg hx]
   by_cases e:x=n
   ·subst e;simp
   ·simp[e]
theorem F9(l:List Int)(n:Int)(hl:l.length<=1000000):a7 Tryz.prog 103 [.sl (l.map .i), .i n] (.ret [.sl ((kB l n).map .i)]):=by
 obtain⟨j,j1,j2,j3,j4⟩:=vT l n
 have tk:∀ (i:Nat) (l:List Int),List.take i (l.map D.i)=(l.take i).map D.i:=fun i l=>List.map_take.symm
 have dr:∀ (i:Nat) (l:List Int),List.drop i (l.map D.i)=(l.drop i).map D.i:=fun i l=>List.map_drop.symm
 have ap:∀ (a b:List Int),a.map D.i++[D.i n]++b.map D.i=(a++n::b).map D.i:=fun a b=>aj
 refine a7.aA mix ZD aj ?_
 rw[ZC]
 refine aI ?_
 refine aK (fun k:Nat=>⟨bA [.d (.sl (l.map .i)), .d (.i n), .aa, .aa, .aa, .d (.i k)],fun _=> .no,0⟩)
  (fun k=>k<=j) (fun k=>l.length - k) 0 (Nat.zero_le _) (bL.d0 _ ?_) (fun k hk=> ?_)
 ·exact cG
 by_cases hkj:k=j
 ·subst hkj
  by_cases h5:k<l.length
  ·obtain⟨x,hx⟩:=aw h5
   have h6:=j3 x hx
   have AE:(k:Int)<l.length:=ad
   refine yG hx AE h6 ?_
   refine ak (fun h3=> ?_) (fun h3=> ?_)
   ·refine aI ?_
    have e:x=n:=by simpa using h3
    rw[j4,if_pos (by rw[hx,e])]
   ·have e: ¬x=n:=by simpa using h3
    rw[j4,if_neg (by rw[hx];simpa using e)]
    simp+contextual (disch:=first|omega|simp only[go_sem,false_implies]) only[go_sem,wrap64,if_pos,hx,AE,h6,tk,dr,List.take_length,List.length_map,List.length_take,List.length_drop,List.length_append,List.length_cons,List.length_nil]
    rw[ap]
    refine ao aV ?_
    exact cF
  ·have AE: ¬ (k:Int)<l.length:=ad
   have hx:l[k]? =none:=by simp;omega
   rw[j4,if_neg (by rw[hx];simp)]
   simp+contextual (disch:=first|omega|simp only[go_sem,false_implies]) only[go_sem,wrap64,if_pos,AE,tk,dr,List.take_length,List.length_map,List.length_take,List.length_drop,List.length_append,List.length_cons,List.length_nil]
   rw[ap]
   refine ao aV ?_
   exact cF
 ·have cU:k<l.length:=ad
  obtain⟨x,hx⟩:=aw cU
  have AE:(k:Int)<l.length:=ad
  have h6:x<n:=j2 x (List.mem_of_getElem? (i:=k) (by rw[List.getElem?_take_of_lt (by omega)];exact hx))
  refine yG hx AE h6 ?_
  refine au (k+1) ad ad (bL.d0 _ ?_)
  exact cG
theorem og{op n:Int}{i:Nat}{l:List Int}{k:Nat}{v:Int}(h:l[k]? =some v)(out:List Int):mo op n i (l.take (k+1)) out=if(op !=8||(i:Int)!=1||v !=n)=true then kB (mo op n i (l.take k) out) v else mo op n i (l.take k) out:=by
 unfold mo
 rw[List.take_add_one,h,List.foldl_append]
 rfl
theorem qL:∀t:Tm,t.wO->a7 Tryz.prog 61 [t.d] (.ret [.sl ((bG t).map .i)]):=by
 refine Tm.cC fun t ih ht=> ?_
 have gX:=(Tm.aP _).1 ht.fits
 refine a7.aA mix ack aj ?_
 rw[c61]
 by_cases h1:t.op=1
 ·refine dz h1 ?_
  rw[nH,if_pos h1]
  rfl
 ·have cm:(t.op==1)=false:=by simpa using h1
  refine dz cm ?_
  rw[nH,if_neg h1]
  refine aK (fun i:Nat×List Int=>⟨bA [.aa, .ptr 0 0, .aa, .d (.sl (i.2.map .i)), .d (.i i.1)],fS t.row,1⟩)
   (fun i=>i.1<=t.kids.length/\jD t.op t.n t.kids 0 []=jD t.op t.n (t.kids.drop i.1) i.1 i.2/\i.2.length<=hY (t.kids.take i.1)) (fun i=>t.kids.length - i.1) (0,[]) ⟨Nat.zero_le _,rfl,Nat.zero_le _⟩
   (bL.aaq (fun _=>False) 1 _ ad (lt1 (c7 rfl pI)) (fun j hj=>ai _ _ _ _ ad) (fun _ h=>h.elim) ?_) ?_
  ·try dsimp only
   exact ra
  rintro⟨k,out⟩ ⟨hk,hv,hlen⟩
  simp only at hk hv hlen
  refine aI ?_
  refine ak (fun h2=> ?_) (fun h2=> ?_)
  ·simp at h2
   obtain⟨x,hx⟩:=aw h2
   have dc:=List.mem_of_getElem? hx
   have ec:hY (t.kids.take (k+1))=hY (t.kids.take k)+x.sz:=by
    rw[List.take_add_one,hx];simp[hY]
   have hle:hY (t.kids.take (k+1))<=hY t.kids:=by
    have:hY t.kids=hY (t.kids.take (k+1))+hY (t.kids.drop (k+1)):=by
     conv=>lhs;rw[<- List.take_append_drop (k+1) t.kids]
     exact Ss
    omega
   have th:hY t.kids<=1000000:=by have:=ht.size;rw[Tm.kx,Tm.ky]at this;omega
   have Pl:=gV x
   have hdr:t.kids.drop k=x::t.kids.drop (k+1):=by
    obtain⟨h5,h6⟩:=List.getElem?_eq_some_iff.1 hx
    exact SC
   refine dz hx ?_
   refine bf (ih x dc (ht.ll dc)) ?_
   refine dz hx ?_
   refine aK (fun j:Nat=>⟨bA [.aa, .ptr 0 0, .aa, .d (.sl ((mo t.op t.n k ((bG x).take j) out).map .i)), .d (.i k), .d (.sl ((bG x).map .i)), .d (.i j)],fS t.row,1⟩)
    (fun j=>j<=(bG x).length) (fun j=>(bG x).length - j) 0 (Nat.zero_le _) (bL.d1 _ (aY rfl) ad rfl ?_) (fun j hj=> ?_)
   ·exact cG
   refine aI ?_
   refine ak (fun h3=> ?_) (fun h3=> ?_)
   ·simp at h3
    obtain⟨v,Ga⟩:=aw h3
    have Lc:=nI t.op t.n k ((bG x).take j) out
    have htl:((bG x).take j).length<=(bG x).length:=by rw[List.length_take];omega
    cases b1:(t.op !=8)with
    |true=>
     have hc:(t.op !=8||(k:Int)!=1||v !=t.n)=true:=by rw[b1];rfl
     refine uc Ga b1 ?_
     refine ao aV ?_
     refine dz Ga ?_
     refine bf (F9 _ v ad) ?_
     refine aI ?_
     refine au (j+1) h3 ad (bL.d1 _ (aY rfl) ad rfl ?_)
     rw[og Ga,if_pos hc]
     exact cG
    |false=>
     cases b2:((k:Int)!=1)with
     |true=>
      have hc:(t.op !=8||(k:Int)!=1||v !=t.n)=true:=by rw[b1,b2];rfl
      refine yG Ga b1 b2 ?_
      refine ao aV ?_
      refine dz Ga ?_
      refine bf (F9 _ v ad) ?_
      refine aI ?_
      refine au (j+1) h3 ad (bL.d1 _ (aY rfl) ad rfl ?_)
      rw[og Ga,if_pos hc]
      exact cG
     |false=>
      refine yG Ga b1 b2 ?_
      refine ao aV ?_
      refine dz Ga ?_
      refine ak (fun h4=> ?_) (fun h4=> ?_)
      ·have hc:(t.op !=8||(k:Int)!=1||v !=t.n)=true:=by rw[h4];simp
       refine dz Ga ?_
       refine bf (F9 _ v ad) ?_
       refine aI ?_
       refine au (j+1) h3 ad (bL.d1 _ (aY rfl) ad rfl ?_)
       rw[og Ga,if_pos hc]
       exact cG
      ·have hc: ¬ (t.op !=8||(k:Int)!=1||v !=t.n)=true:=by rw[b1,b2,h4];simp
       refine dz Ga ?_
       refine au (j+1) h3 ad (bL.d1 _ (aY rfl) ad rfl ?_)
       rw[og Ga,if_neg hc]
       exact cG
   ·simp at h3
    refine aI ?_
    rw[List.take_of_length_le (by omega)]
    refine au (k+1,mo t.op t.n k (bG x) out) ⟨h2,by rw[hv,hdr];rfl, ?_⟩ mG (bL.d1 _ (aY rfl) ad rfl ?_)
    ·dsimp only
     have:=nI t.op t.n k (bG x) out
     omega
    ·exact cG
  ·simp at h2
   refine aI ?_
   rw[hv,List.drop_eq_nil_of_le (by omega)]
   rfl
theorem OE:∀t:Tm,t.fits->a7 Tryz.prog 195 [t.d] (.ret [.bool (gI t)]):=by
 refine Tm.cC fun t ih hf=> ?_
 have gX:=(Tm.aP _).1 hf
 refine a7.aA mix aab aj ?_
 rw[aaa,yo]
 refine aI ?_
 refine aK (fun k:Nat=>⟨bA [.aa, .ptr 0 0, .aa, .d (.i k)],fS t.row,1⟩)
  (fun k=>k<=t.kids.length/\(t.kids.take k).all gI=true) (fun k=>t.kids.length - k) 0 ⟨Nat.zero_le _,aj⟩ (bL.d1 _ (aY rfl) ad rfl ?_) (fun k hk=> ?_)
 ·exact cG
 refine aI ?_
 refine ak (fun h2=> ?_) (fun h2=> ?_)
 ·simp at h2
  obtain⟨x,hx⟩:=aw h2
  have dc:=List.mem_of_getElem? hx
  refine dz hx ?_
  refine ah (ih x dc (gX.2 x dc)) rfl ?_
  refine aI ?_
  refine ak (fun h3=> ?_) (fun h3=> ?_)
  ·refine aI ?_
   simp at h3
   exact SP
  ·refine aI ?_
   simp at h3
   refine au (k+1) ⟨h2,cD hx hk.2 h3⟩ ad (bL.d1 _ (aY rfl) ad rfl ?_)
   exact cG
 ·refine aI ?_
  simp at h2
  rw[cE hk.2 h2];rfl
theorem We:∀t:Tm,t.wO->∀b:List Int,b.length+t.sz<=1000000->a7 Tryz.prog 194 [t.d, .sl (b.map .i)] (.ret [.sl ((fZ t b).1.map .i), .bool (fZ t b).2]):=by
 refine Tm.cC fun t ih ht b hb=> ?_
 have gX:=(Tm.aP _).1 ht.fits
 refine a7.aA mix Z9 aj ?_
 rw[Z8]
 by_cases h1:t.op=1
 ·rw[qG,if_pos h1]
  refine dz h1 ?_
  refine bB (F9 _ _ ad) ?_
  refine aI ?_
  refine aq (Lw _ _ ad) rfl ?_
  refine aI ?_
  refine ao aV ?_
  exact cF
 ·have cm:(t.op==1)=false:=by simpa using h1
  rw[qG,if_neg h1]
  refine dz cm ?_
  refine aK (fun i:Nat×List Int×Bool=>⟨bA [.aa, .d (.sl (i.2.1.map .i)), .ptr 0 0, .aa, .aa, .aa, .d (.bool i.2.2), .d (.i i.1)],fS t.row,1⟩)
   (fun i=>i.1<=t.kids.length/\gJ t.kids b=(if i.2.2=true then gJ (t.kids.drop i.1) i.2.1 else(i.2.1,false))/\i.2.1.length<=b.length+hY (t.kids.take i.1)) (fun i=>t.kids.length - i.1) (0,b,true) ⟨Nat.zero_le _,rfl,Nat.le_add_right _ _⟩ (bL.d1 _ (aY rfl) ad rfl ?_) ?_
  ·dsimp only
   exact cG
  rintro⟨k,b',is⟩ ⟨hk,hv,hlen⟩
  simp only at hk hv hlen
  have th:=Tm.ky t
  have fin:is=false\/t.kids.length<=k->gJ t.kids b=(b',is):=by
   intro h
   cases is with
   |false=>rw[hv];rfl
   |true=>
    have h:t.kids.length<=k:=by simpa using h
    rw[hv,List.drop_eq_nil_of_le h];rfl
  refine aI ?_
  cases is with
  |false=>
   refine aI ?_
   rw[fin (.inl rfl)]
  |true=>
   refine aI ?_
   refine ak (fun h2=> ?_) (fun h2=> ?_)
   ·simp at h2
    obtain⟨x,hx⟩:=aw h2
    have dc:=List.mem_of_getElem? hx
    have ec:hY (t.kids.take (k+1))=hY (t.kids.take k)+x.sz:=by
     rw[List.take_add_one,hx];simp[hY]
    have hle:hY t.kids=hY (t.kids.take (k+1))+hY (t.kids.drop (k+1)):=by
     conv=>lhs;rw[<- List.take_append_drop (k+1) t.kids]
     exact Ss
    have hdr:t.kids.drop k=x::t.kids.drop (k+1):=by
     obtain⟨h5,h6⟩:=List.getElem?_eq_some_iff.1 hx
     exact SC
    refine dz hx ?_
    refine bf (ih x dc (ht.ll dc) b' ad) ?_
    refine aI ?_
    refine au (k+1,(fZ x b').1,(fZ x b').2) ⟨h2, ?_, ?_⟩ mG (bL.d1 _ (aY rfl) ad rfl ?_)
    ·dsimp only
     rw[hv,if_pos rfl,hdr]
     simp only[gJ]
    ·dsimp only
     have:=HZ x b'
     omega
    ·exact cG
   ·simp at h2
    refine aI ?_
    rw[fin (.inr h2)]
theorem H6(t:Tm)(ht:t.wO):a7 Tryz.prog 137 [t.d] (.ret [.bool ((fZ t []).2&&gI t)]):=by
 have ho:=We t ht [] (by have:=ht.size;rw[Tm.kx]at this;simp;omega)
 simp only[List.map_nil]at ho
 refine a7.aA mix ZR aj ?_
 rw[ZQ]
 refine aI ?_
 refine bf ho ?_
 refine aI ?_
 refine gE (fi [.bool (gI t)] ?_ ?_)
 ·refine aI ?_
  exact fun _=>OE t ht.fits
 exact cF
def IC.snd:IC->IC
 | .seq _ y=>y
 |c=>c
def IC.fst:IC->IC
 | .seq x _=>x
 | .block _ x=>x
 | .loop x=>x
 | .cond _ x _=>x
 |c=>c
theorem jt{c:Nat}{G:List Gr}{so:Nat->ab}{gone:Nat->Prop}{x x' y y':ab}(h:x=y)(h':x'=y')(hs:wK c G so gone y y'):wK c G so gone x x':=by rw[h,h'];exact hs
theorem pB{l:List Tm}{k:Tm}(h:k∈l):k.sz<=hY l:=by
 induction l with
 |nil=>cases h
 |cons x l ih=>
  rw[eJ]
  rcases List.mem_cons.1 h with e|e
  ·subst e;omega
  ·have:=ih e;omega
theorem Wf:∀t:Tm,t.iU<=t.sz:=by
 refine Tm.cC fun t ih=> ?_
 rw[Tm.vm,Tm.ky]
 have:=(tU t.kids (hY t.kids)).2 fun k hk=>Nat.le_trans (ih k hk) (pB hk)
 omega
theorem Tm.wO.EG {t:Tm}(hf:t.fits)(h:t.sz<=900000):t.wO:=⟨⟨hf,Nat.le_trans (Wf t) h⟩,by rw[Tm.kx];omega⟩
theorem vU(l:List Tm)(h:∀k∈l,(cJ k).length<=k.sz):(bJ l).length<=hY l:=by
 induction l with
 |nil=>simp[bJ]
 |cons k l ih=>
  rw[bJ,List.length_append,eJ]
  have:=h k aj
  have:=ih fun x hx=>h x lu
  omega
theorem sj:∀t:Tm,(cJ t).length<=t.sz:=by
 refine Tm.cC fun t ih=> ?_
 have:=vU t.kids ih
 rw[jc,List.length_append,Tm.ky]
 split<;>simp<;>omega
theorem wU(a b:List Tm):bJ (a++b)=bJ a++bJ b:=by
 induction a with
 |nil=>simp[bJ]
 |cons k a ih=>simp[bJ,ih]
def Lx:IC:=N3.snd.snd.snd.fst.snd.fst.fst
theorem vV{t:Tm}(hf:t.fits)(hz:t.sz<=1000000)(ih:∀k∈t.kids,k.fits->k.sz<=1000000->a7 Tryz.prog 196 [k.d] (.ret [.sl ((cJ k).map .i)]))(p:List Int)(hp:p.length<=1){e:Nat->V}{o:Nat->ab}{nx:Nat}{Q:fN->S->Prop}
 (hs:bL 0 ⟨e,o,nx⟩ ⟨bA [.aa, .ptr 0 0, .aa, .osl 1 0, .d (.i 0)],aL (aL (fun _=> .no) 0 (.row t.row)) 1 (.arr 0 3 1 (p.map .i)),2⟩)
 (hQ:∀e' n',e' 3= .osl 1 0->Q (.exit 0) ⟨e',aL (aL (fun _=> .no) 0 (.row t.row)) 1 (.arr 0 3 1 ((p++bJ t.kids).map .i)),n'⟩):
 uS 0 (fun Q s=>kS Tryz.prog 29 0 false Lx Q s) Q ⟨e,o,nx⟩:=by
 have gX:=(Tm.aP _).1 hf
 have th:=Tm.ky t
 refine aK (fun i:Nat=>⟨bA [.aa, .ptr 0 0, .aa, .osl 1 0, .d (.i i)],aL (aL (fun _=> .no) 0 (.row t.row)) 1 (.arr 0 3 1 ((p++bJ (t.kids.take i)).map .i)),2⟩)
  (fun i=>i<=t.kids.length) (fun i=>t.kids.length - i) 0 (Nat.zero_le _) ?_ fun k hk=> ?_
 ·simpa[bJ]using hs
 replace hk:k<=t.kids.length:=hk
 simp only[Lx,N3,IC.snd,IC.fst]
 refine iG ?_
 refine ak (fun h2=> ?_) (fun h2=> ?_)
 ·simp at h2
  obtain⟨x,hx⟩:=aw h2
  have dc:=List.mem_of_getElem? hx
  have Gb:t.kids.take (k+1)=t.kids.take k++[x]:=by rw[List.take_add_one,hx];rfl
  have xf:(bJ (t.kids.take k)).length<=hY (t.kids.take k):=vU _ fun y _=>sj y
  have ec:hY t.kids=hY (t.kids.take k)+hY (t.kids.drop k):=by
   conv=>lhs;rw[<- List.take_append_drop k t.kids]
   exact Ss
  have Iy:=pB dc
  have yO:=sj x
  have hl3:(p++bJ (t.kids.take k)).length<=1000001:=by rw[List.length_append];omega
  refine eR hx ?_
  refine bf (ih x dc (gX.2 x dc) ad) ?_
  refine eR hx ?_
  refine au (k+1) h2 ad (bL.zY (fun j=>j=1) (.osl 1 1) 1 _ ad (lt1 (jt (y:= .row t.row) eh eh (c7 rfl pI))) (ae _ _ _) (.inr ⟨1,1,rfl,rfl,by(repeat(first|rfl|rw[ae]|rw[ai _ _ _ _ (by omega)]));rw[Gb,wU, <- List.append_assoc,List.map_append];simp[bJ]⟩) (fun j hj=>by(repeat(first|rfl|rw[ae]|rw[ai _ _ _ _ (by omega)]))) (fun j h h2=>ad) ?_)
  exact ra
 ·simp at h2
  have Lc:k=t.kids.length:=ad
  subst Lc
  rw[List.take_length]
  refine iG ?_
  exact hQ _ _ rfl
theorem OG:∀t:Tm,t.fits->t.sz<=1000000->a7 Tryz.prog 196 [t.d] (.ret [.sl ((cJ t).map .i)]):=by
 refine Tm.cC fun t ih hf hz=> ?_
 refine a7.aA mix aac aj ?_
 rw[N3,jc]
 by_cases h8:t.op=8
 ·have R5:(t.op==8)=true:=by simpa using h8
  refine dz R5 ?_
  rw[if_pos h8]
  refine vV hf hz ih [t.n] aj ?_ fun e' n' he=> ?_
  ·refine bL.zY (fun j=>1<=j) _ 1 _ ad (lt1 (jt (y:= .row t.row) eh eh (c7 rfl pI))) (ae _ _ _) (.inr ⟨_,_, ?_,rfl,by(repeat(first|rfl|rw[ae]|rw[ai _ _ _ _ (by omega)]))⟩) (fun j hj=>by(repeat(first|rfl|rw[ae]|rw[ai _ _ _ _ (by omega)]))) (fun j h h2=>ad) ?_
   ·decide
   ·exact ra
  ·exact XB
 ·have R5:(t.op==8)=false:=by simpa using h8
  refine dz R5 ?_
  rw[if_neg h8]
  refine vV hf hz ih [] aj ?_ fun e' n' he=> ?_
  ·refine bL.zY (fun _=>False) .bW 1 _ ad (lt1 (c7 rfl pI)) (ae _ _ _) (.inl ⟨rfl,rfl,aV⟩) (fun j hj=>by(repeat(first|rfl|rw[ae]|rw[ai _ _ _ _ (by omega)]))) (fun _ h=>h.elim) ?_
   exact ra
  ·exact XB
theorem Ly(l:List Int)(n:Int)(hl:l.length<=1000000):a7 Tryz.prog 197 [.sl (l.map .i), .i n] (.ret [.i (l.count n)]):=by
 refine a7.aA mix aae aj ?_
 rw[aad]
 refine aI ?_
 refine aK (fun k:Nat=>⟨bA [.d (.sl (l.map .i)), .d (.i n), .aa, .aa, .aa, .d (.i ((l.take k).count n)), .d (.i k)],fun _=> .no,0⟩)
  (fun k=>k<=l.length) (fun k=>l.length - k) 0 (Nat.zero_le _) (bL.d0 _ ?_) (fun k hk=> ?_)
 ·exact cG
 replace hk:k<=l.length:=hk
 have hc:(l.take k).count n<=1000000:=by have:=List.count_le_length (a:=n) (l:=l.take k);rw[List.length_take]at this;omega
 refine iG ?_
 refine ak (fun h2=> ?_) (fun h2=> ?_)
 ·simp at h2
  obtain⟨x,hx⟩:=aw h2
  have Gb:(l.take (k+1)).count n=(l.take k).count n+if x=n then 1 else 0:=by rw[List.take_add_one,hx,List.count_append];simp[List.count_singleton]
  refine eR hx ?_
  refine ak (fun h3=> ?_) (fun h3=> ?_)
  ·have rB:x=n:=by simpa using h3
   rw[if_pos rB]at Gb
   refine eR hx ?_
   refine au (k+1) h2 ad (bL.d0 _ ?_)
   rw[Gb]
   exact cG
  ·have rB: ¬x=n:=by simpa using h3
   rw[if_neg rB]at Gb
   refine eR hx ?_
   refine au (k+1) h2 ad (bL.d0 _ ?_)
   rw[Gb]
   exact cG
 ·simp at h2
  refine aI ?_
  rw[List.take_of_length_le h2]
theorem s5(n:Int):∀l:List Tm,fY n l=l.all (dw n)
 |[]=>rfl
 |k::l=>by simp[fY,s5 n l]
theorem CU(n:Int):∀t:Tm,t.fits->a7 Tryz.prog 138 [t.d, .i n] (.ret [.bool (dw n t)]):=by
 refine Tm.cC fun t ih hf=> ?_
 have gX:=(Tm.aP _).1 hf
 refine a7.aA mix ZT aj ?_
 rw[ZS,px,s5]
 refine aI ?_
 refine aK (fun k:Nat=>⟨bA [.aa, .d (.i n), .ptr 0 0, .aa, .aa, .d (.i k)],fS t.row,1⟩)
  (fun k=>k<=t.kids.length/\(t.kids.take k).all (dw n)=true) (fun k=>t.kids.length - k) 0 ⟨Nat.zero_le _,aj⟩ (bL.d1 _ (aY rfl) ad rfl ?_) (fun k hk=> ?_)
 ·exact cG
 refine aI ?_
 refine ak (fun h2=> ?_) (fun h2=> ?_)
 ·simp at h2
  obtain⟨x,hx⟩:=aw h2
  have dc:=List.mem_of_getElem? hx
  refine dz hx ?_
  refine ah (ih x dc (gX.2 x dc)) rfl ?_
  refine aI ?_
  refine ak (fun h3=> ?_) (fun h3=> ?_)
  ·refine aI ?_
   simp at h3
   exact SP
  ·refine aI ?_
   simp at h3
   refine au (k+1) ⟨h2,cD hx hk.2 h3⟩ ad (bL.d1 _ (aY rfl) ad rfl ?_)
   exact cG
 ·simp at h2
  rw[cE hk.2 h2,Bool.true_and]
  exact cF
theorem CV(l:List Tm):a7 Tryz.prog 141 [.sl (l.map Tm.d)] (.ret [(Tm.mk 0 0 l).d]):=by
 refine a7.aA mix ZZ aj ?_
 rw[ZY,Tm.rO]
 exact cF
structure Lz (l:List Tm):Prop where
 len:l.length<=1000
 all:∀t∈l,t.fits/\t.sz<=500
theorem Lz.cnt {l:List Tm}(h:Lz l){t:Tm}(ht:t∈l):t.wO:=Tm.wO.EG (h.all t ht).1 (by have:=(h.all t ht).2;omega)
theorem Lz.hY {l:List Tm}(h:Lz l):hY l<=500000:=by
 have:∀l:List Tm,(∀t∈l,t.sz<=500)->Go.Proofs.YtonbelhklnmjnaaGreat.hY l<=500*l.length:=by
  intro l
  induction l with
  |nil=>intro _;simp[Go.Proofs.YtonbelhklnmjnaaGreat.hY]
  |cons k l ih=>intro h;rw[eJ,List.length_cons];have:=h k aj;have:=ih fun x hx=>h x lu;omega
 have:=this l fun t ht=>(h.all t ht).2
 have:=h.len
 omega
theorem Lz.fits {l:List Tm}(h:Lz l):(Tm.mk 0 0 l).fits:=by
 rw[Tm.aP]
 exact⟨by have:=h.len;simp only[Tm.kids];omega,fun k hk=>(h.all k hk).1⟩
theorem Lz.whole {l:List Tm}(h:Lz l):(Tm.mk 0 0 l).wO:=Tm.wO.EG h.fits (by have:=h.hY;rw[Tm.R0];omega)
theorem LA(l:List Tm)(h:Lz l):a7 Tryz.prog 139 [.sl (l.map Tm.d)] (.ret [.bool (CL l)]):=by
 have hlen:=h.len
 refine a7.aA mix ZV aj ?_
 rw[ZU]
 refine aI ?_
 refine aK (fun k:Nat=>⟨bA [.d (.sl (l.map Tm.d)), .aa, .aa, .d (.i (((l.take k).map fun t=>(bG t).length).sum:Nat)), .d (.i k)],fun _=> .no,0⟩)
  (fun k=>k<=l.length) (fun k=>l.length - k) 0 (Nat.zero_le _) (bL.d0 _ ?_) (fun k hk=> ?_)
 ·exact cG
 replace hk:k<=l.length:=hk
 have hs:((l.take k).map fun t=>(bG t).length).sum<=500000:=by
  have h1:∀m:List Tm,(m.map fun t=>(bG t).length).sum<=Go.Proofs.YtonbelhklnmjnaaGreat.hY m:=by
   intro m
   induction m with
   |nil=>simp[Go.Proofs.YtonbelhklnmjnaaGreat.hY]
   |cons x m ih=>rw[List.map_cons,List.sum_cons,eJ];have:=gV x;omega
  have h2:Go.Proofs.YtonbelhklnmjnaaGreat.hY l=Go.Proofs.YtonbelhklnmjnaaGreat.hY (l.take k)+Go.Proofs.YtonbelhklnmjnaaGreat.hY (l.drop k):=by
   conv=>lhs;rw[<- List.take_append_drop k l]
   unfold Go.Proofs.YtonbelhklnmjnaaGreat.hY;rw[List.map_append,List.sum_append]
  have:=h1 (l.take k)
  have:=h.hY
  omega
 refine iG ?_
 refine ak (fun h2=> ?_) (fun h2=> ?_)
 ·simp at h2
  obtain⟨x,hx⟩:=aw h2
  have dc:=List.mem_of_getElem? hx
  have hv:=gV x
  have hx5:=(h.all x dc).2
  have Gb:((l.take (k+1)).map fun t=>(bG t).length).sum=((l.take k).map fun t=>(bG t).length).sum+(bG x).length:=by rw[List.take_add_one,hx,List.map_append,List.sum_append];simp
  refine eR hx ?_
  refine bf (qL x (h.cnt dc)) ?_
  refine eR hx ?_
  refine au (k+1) h2 ad (bL.d0 _ ?_)
  rw[Gb]
  exact cG
 ·simp at h2
  refine aI ?_
  refine bf (CV l) ?_
  refine aI ?_
  refine bf (qL _ h.whole) ?_
  rw[List.take_of_length_le h2]
  refine iG ?_
  congr 3
  rw[CL,Bool.eq_iff_iff]
  simp
  omega
theorem OH(t:Tm)(ht:t.wO)(p:List Int)(hp:p.length<=1000000):a7 Tryz.prog 140 [t.d, .sl (p.map .i)] (.ret [.bool (pz t p)]):=by
 have hz:t.sz<=1000000:=by have:=ht.size;rw[Tm.kx]at this;omega
 have hl:=sj t
 have hv:=gV t
 refine a7.aA mix ZX aj ?_
 rw[ZW]
 refine aI ?_
 refine bB (OG t ht.fits hz) ?_
 refine aI ?_
 refine bB (qL t ht) ?_
 refine aI ?_
 refine ao aV ?_
 refine aI ?_
 let q:Int->Bool:=fun v=> !(decide (1<((cJ t).count v:Int))||p.contains v||(bG t).contains v)
 have hq:pz t p=(cJ t).all q:=rfl
 rw[hq]
 refine aK (fun k:Nat=>⟨bA [.aa, .d (.sl (p.map .i)), .ptr 0 0, .aa, .aa, .d (.sl ((cJ t).map .i)), .d (.sl ((bG t).map .i)), .d (.i k)],fS t.row,1⟩)
  (fun k=>k<=(cJ t).length/\((cJ t).take k).all q=true) (fun k=>(cJ t).length - k) 0 ⟨Nat.zero_le _,aj⟩ (bL.d1 _ (aY rfl) ad rfl ?_) (fun k hk=> ?_)
 ·exact cG
 refine iG ?_
 refine ak (fun h2=> ?_) (fun h2=> ?_)
 ·simp at h2
  obtain⟨x,hx⟩:=aw h2
  have hqx:q x= !(decide (1<((cJ t).count x:Int))||p.contains x||(bG t).contains x):=rfl
  refine eR hx ?_
  refine ah (Ly (cJ t) x ad) rfl ?_
  cases h3:decide (1<((cJ t).count x:Int))with
  |true=>
   refine mF hx h3 ?_
   rw[bZ hx (by rw[hqx,h3];rfl)]
  |false=>
   refine mF hx h3 ?_
   refine ah (Lw p x ad) rfl ?_
   cases h4:p.contains x with
   |true=>
    refine mF hx h3 ?_
    rw[bZ hx (by rw[hqx,h3,h4];rfl)]
   |false=>
    refine mF hx h3 ?_
    refine ah (Lw (bG t) x ad) rfl ?_
    cases h5:(bG t).contains x with
    |true=>
     refine mF hx h3 ?_
     rw[bZ hx (by rw[hqx,h3,h4,h5];rfl)]
    |false=>
     refine mF hx h3 ?_
     refine au (k+1) ⟨h2,cD hx hk.2 (by rw[hqx,h3,h4,h5];rfl)⟩ ad (bL.d1 _ (aY rfl) ad rfl ?_)
     exact cG
 ·simp at h2
  rw[cE hk.2 h2]
  exact cF
def yy(s:aX)(n:Int)(p:Tm):Bool:=(dL s p&&((fZ p []).2&&gI p))&&dw n p
theorem yz(s:aX)(r:Rl):fU s r=((kC s r&&dL s r.rhs)&&r.bg.all (yy s r.vars)&&(CL r.bg&&dw r.vars r.rhs&&pz r.rhs (bG (.mk 0 0 r.bg)))):=rfl
set_option maxHeartbeats 1000000 in
theorem Wg(s:aX)(hs:s.Fits)(r:Rl)(hp:Lz r.bg)(hf:r.rhs.fits)(hz:r.rhs.sz<=500):a7 Tryz.prog 101 [s.d,r.d] (.ret [.bool (fU s r)]):=by
 have Dl:=hp.len
 have hlf:=hs.lf
 have hrc:r.rhs.wO:=Tm.wO.EG hf ad
 refine a7.aA mix Zz aj ?_
 rw[Zy]
 have fin:(kC s r&&dL s r.rhs)=false->fU s r=false:=fun h=>by rw[yz,h];rfl
 refine Sc ?_
 refine aq (ve _ _ _) rfl ?_
 cases f1:cZ r.fn 0 ((s.bU.length:Int) - 1)with
 |false=>
  have e:fU s r=false:=fin (by
   have:kC s r=false:=by
    simp only[cZ,Bool.and_eq_false_iff,decide_eq_false_iff_not]at f1
    unfold kC
    by_cases h:0<=r.fn
    ·rw[List.getElem?_eq_none (by omega:s.bU.length<=r.fn.toNat)];simp
    ·rw[decide_eq_false h];rfl
   rw[this];rfl)
  refine Sc ?_
  refine ao (aE rfl) ?_
  refine aI ?_
  rw[e]
 |true=>
 obtain⟨h0,x,hx⟩:=gy f1
 have CO:kC s r=((r.bg.length:Int)==x.args&&decide (0<=r.vars)&&decide (r.vars<=20)):=by
  unfold kC;rw[hx];simp[h0]
 cases f2:((r.bg.length:Int)!=x.args)with
 |true=>
  have e:fU s r=false:=fin (by
   have:((r.bg.length:Int)==x.args)=false:=by simpa using f2
   rw[CO,this];rfl)
  refine Dh hx f2 ?_
  refine ao (aE rfl) ?_
  refine aI ?_
  rw[e]
 |false=>
 have De:((r.bg.length:Int)==x.args)=true:=by simpa using f2
 refine Dh hx f2 ?_
 refine aq (ve _ _ _) rfl ?_
 cases f3:cZ r.vars 0 20 with
 |false=>
  have e:fU s r=false:=fin (by
   have:(decide (0<=r.vars)&&decide (r.vars<=20))=false:=f3
   rw[CO,Bool.and_assoc ((r.bg.length:Int)==x.args),this];simp)
  refine Dh hx f2 ?_
  refine ao (aE rfl) ?_
  refine aI ?_
  rw[e]
 |true=>
 have FX:(decide (0<=r.vars)&&decide (r.vars<=20))=true:=f3
 refine Dh hx f2 ?_
 refine aq (Eh s hs r.rhs hf) rfl ?_
 cases f4:dL s r.rhs with
 |false=>
  have e:fU s r=false:=fin (by rw[f4];simp)
  refine Dh hx f2 ?_
  refine ao (aE rfl) ?_
  refine aI ?_
  rw[e]
 |true=>
 have hh:kC s r=true:=by rw[CO,De,Bool.true_and,FX]
 refine Dh hx f2 ?_
 refine ao (aE rfl) ?_
 refine aI ?_
 rw[yz,hh,f4,Bool.true_and,Bool.true_and]
 refine aK (fun k:Nat=>⟨bA [.aa, .aa, .ptr 0 0, .ptr 1 0, .aa, .d (.i k)],pj s.row r.row,2⟩)
  (fun k=>k<=r.bg.length/\(r.bg.take k).all (yy s r.vars)=true) (fun k=>r.bg.length - k) 0 ⟨Nat.zero_le _,aj⟩ (bL.d2 _ (cH rfl rfl) ad rfl rfl ?_) (fun k hk=> ?_)
 ·exact cG
 refine iG ?_
 refine ak (fun h2=> ?_) (fun h2=> ?_)
 ·simp at h2
  obtain⟨y,hy⟩:=aw h2
  have wL:=List.mem_of_getElem? hy
  have Df:=hp.all y wL
  refine eR hy ?_
  refine aq (Eh s hs y Df.1) rfl ?_
  cases g1:dL s y with
  |false=>
   refine eR hy ?_
   refine ao (aE rfl) ?_
   refine aI ?_
   rw[bZ hy (by rw[yy,g1];rfl)];rfl
  |true=>
  refine eR hy ?_
  refine aq (H6 y (hp.cnt wL)) rfl ?_
  cases g2:((fZ y []).2&&gI y)with
  |false=>
   refine eR hy ?_
   refine ao (aE rfl) ?_
   refine aI ?_
   rw[bZ hy (by rw[yy,g1,g2];rfl)];rfl
  |true=>
  refine eR hy ?_
  refine aq (CU r.vars y Df.1) rfl ?_
  cases g3:dw r.vars y with
  |false=>
   refine eR hy ?_
   refine ao (aE rfl) ?_
   refine aI ?_
   rw[bZ hy (by rw[yy,g1,g2,g3];rfl)];rfl
  |true=>
  refine eR hy ?_
  refine ao (aE rfl) ?_
  refine aI ?_
  refine au (k+1) ⟨h2,cD hy hk.2 (by rw[yy,g1,g2,g3];rfl)⟩ ad (bL.d2 _ (cH rfl rfl) ad rfl rfl ?_)
  exact cG
 ·simp at h2
  rw[cE hk.2 h2,Bool.true_and]
  refine iG ?_
  refine aq (LA r.bg hp) rfl ?_
  cases g1:CL r.bg with
  |false=>
   refine iG ?_
   refine ao (aE rfl) ?_
   exact cF
  |true=>
  refine iG ?_
  refine aq (CU r.vars r.rhs hf) rfl ?_
  cases g2:dw r.vars r.rhs with
  |false=>
   refine iG ?_
   refine ao (aE rfl) ?_
   exact cF
  |true=>
  refine iG ?_
  refine bB (CV r.bg) ?_
  refine iG ?_
  refine bB (qL _ hp.whole) ?_
  refine iG ?_
  refine aq (OH r.rhs hrc _ ?_) rfl ?_
  ·have:=gV (.mk 0 0 r.bg);have:=hp.hY;rw[Tm.R0]at*;omega
  refine iG ?_
  refine ao (aE rfl) ?_
  exact cF
structure Pg.Fw (p:Pg):Prop where
 sig:p.sig.Fits
 len:p.rules.length<=1000
 all:∀r∈p.rules,Lz r.bg/\r.rhs.fits/\r.rhs.sz<=500
theorem OI(p:Pg)(hp:p.Fw):a7 Tryz.prog 57 [p.d] (.ret [.bool (dY p)]):=by
 have hl:=hp.len
 refine a7.aA mix acg aj ?_
 rw[c57,dY]
 refine iG ?_
 refine ah (aat p.sig hp.sig) rfl ?_
 cases h1:iV p.sig with
 |false=>
  exact Sf
 |true=>
 cases h2:decide (16<(p.rules.length:Int))with
 |true=>
  have j8:decide (p.rules.length<=16)=false:=by simp at h2|-;omega
  refine eR h2 ?_
  rw[j8];rfl
 |false=>
 have j8:decide (p.rules.length<=16)=true:=by simp at h2|-;omega
 refine eR h2 ?_
 rw[j8,Bool.true_and,Bool.true_and]
 refine aK (fun k:Nat=>⟨bA [.aa, .ptr 0 0, .aa, .d (.i k)],fS p.row,1⟩)
  (fun k=>k<=p.rules.length/\(p.rules.take k).all (fU p.sig)=true) (fun k=>p.rules.length - k) 0 ⟨Nat.zero_le _,aj⟩ (bL.d1 _ (aY rfl) ad rfl ?_) (fun k hk=> ?_)
 ·exact cG
 refine iG ?_
 refine ak (fun h2=> ?_) (fun h2=> ?_)
 ·simp at h2
  obtain⟨y,hy⟩:=aw h2
  have Df:=hp.all y (List.mem_of_getElem? hy)
  refine eR hy ?_
  refine aq (Wg p.sig hp.sig y Df.1 Df.2.1 Df.2.2) rfl ?_
  cases g1:fU p.sig y with
  |false=>
   refine eR hy ?_
   refine ao (aE rfl) ?_
   refine aI ?_
   rw[bZ hy g1]
  |true=>
  refine eR hy ?_
  refine ao (aE rfl) ?_
  refine aI ?_
  refine au (k+1) ⟨h2,cD hy hk.2 g1⟩ ad (bL.d1 _ (aY rfl) ad rfl ?_)
  exact cG
 ·simp at h2
  rw[cE hk.2 h2]
  exact cF
theorem EH(l:List Tm)(hl:l.length<=9223372036854775807)(hf:∀t∈l,t.fits):a7 Tryz.prog 120 [.sl (l.map Tm.d)] (.ret [.bool (eO l)]):=by
 refine a7.aA mix ZH aj ?_
 rw[ZG]
 refine aI ?_
 refine aK (fun k:Nat=>⟨bA [.d (.sl (l.map Tm.d)), .aa, .aa, .d (.i k)],fun _=> .no,0⟩)
  (fun k=>k<=l.length/\(l.take k).all ir=true) (fun k=>l.length - k) 0 ⟨Nat.zero_le _,aj⟩ (bL.d0 _ ?_) (fun k hk=> ?_)
 ·exact cG
 refine iG ?_
 refine ak (fun h2=> ?_) (fun h2=> ?_)
 ·simp at h2
  obtain⟨y,hy⟩:=aw (l:=l) (k:=k) ad
  have Df:=hf y (List.mem_of_getElem? hy)
  refine eR hy ?_
  refine ah (zZ y Df) rfl ?_
  cases g1:ir y with
  |false=>
   refine eR hy ?_
   rw[eO,bZ hy g1,Bool.and_false]
  |true=>
  refine eR hy ?_
  refine au (k+1) ⟨ad,cD hy hk.2 g1⟩ ad (bL.d0 _ ?_)
  exact cG
 ·refine iG ?_
  congr 3
  by_cases h3:l.length<=6
  ·have h4:l.length<=k:=by simp at h2;omega
   rw[eO,cE hk.2 h4]
   simp;omega
  ·rw[eO,decide_eq_false h3]
   simp;omega
theorem H7(p:Pg)(hp:p.Fits):a7 Tryz.prog 76 [p.d] (.ret [.bool (gf p)]):=by
 have hl:=hp.len
 let q:Rl->Bool:=fun r=>eO r.bg&&ir r.rhs
 have hq:gf p=((iW p.sig&&decide (p.rules.length<=20))&&p.rules.all q):=rfl
 refine a7.aA mix acp aj ?_
 rw[c76,hq]
 refine aI ?_
 refine aK (fun k:Nat=>⟨bA [.aa, .ptr 0 0, .aa, .d (.i k)],fS p.row,1⟩)
  (fun k=>k<=p.rules.length/\(p.rules.take k).all q=true) (fun k=>p.rules.length - k) 0 ⟨Nat.zero_le _,aj⟩ (bL.d1 _ (aY rfl) ad rfl ?_) (fun k hk=> ?_)
 ·exact cG
 refine iG ?_
 refine ak (fun h2=> ?_) (fun h2=> ?_)
 ·simp at h2
  obtain⟨y,hy⟩:=aw (l:=p.rules) (k:=k) ad
  have Df:=hp.all y (List.mem_of_getElem? hy)
  have hqy:q y=(eO y.bg&&ir y.rhs):=rfl
  refine eR hy ?_
  refine ah (EH y.bg Df.bg Df.all) rfl ?_
  cases g1:eO y.bg with
  |false=>
   refine eR hy ?_
   rw[bZ hy (by rw[hqy,g1];rfl),Bool.and_false]
  |true=>
  refine eR hy ?_
  refine ah (zZ y.rhs Df.rhs) rfl ?_
  cases g2:ir y.rhs with
  |false=>
   refine eR hy ?_
   rw[bZ hy (by rw[hqy,g1,g2];rfl),Bool.and_false]
  |true=>
  refine eR hy ?_
  refine au (k+1) ⟨ad,cD hy hk.2 (by rw[hqy,g1,g2];rfl)⟩ ad (bL.d1 _ (aY rfl) ad rfl ?_)
  exact cG
 ·refine iG ?_
  refine ah (Ei p.sig hp.sig) rfl ?_
  cases g1:iW p.sig with
  |false=>exact Sf
  |true=>
  refine iG ?_
  congr 3
  by_cases h3:p.rules.length<=20
  ·have h4:p.rules.length<=k:=by simp at h2;omega
   rw[cE hk.2 h4]
   simp;omega
  ·rw[decide_eq_false h3]
   simp;omega
theorem H8{p:Pg}(hf:p.Fits)(h:gf p=true):p.Fw:=by
 simp only[gf,eO,Bool.and_eq_true,decide_eq_true_eq,List.all_eq_true,pv]at h
 obtain⟨⟨_,hl⟩,h⟩:=h
 refine⟨hf.sig,ad,fun r hr=> ?_⟩
 obtain⟨⟨a,b⟩,c⟩:=h r hr
 have zb:=hf.all r hr
 exact⟨⟨ad,fun t ht=>⟨zb.all t ht,by have:=(b t ht).1;omega⟩⟩,zb.rhs,ad⟩
theorem OJ{f:Pf}{k:Nat}{x:Pf}(hx:f.kids[k]? =some x)(left d:Int)(h:0<=cf (f.sh.kids.take k) left d):cf (f.sh.kids.take (k+1)) left d=ee x.sh (cf (f.sh.kids.take k) left d) d:=
 sP (by rw[Pf.n8,List.getElem?_map,hx];rfl) left d h
theorem CW:∀t:Pf,t.fits->∀left depth:Int, -1<=left/\left<=1000000-> -1<=depth/\depth<=1000000->a7 Tryz.prog 58 [t.d, .i left, .i depth] (.ret [.i (ee t.sh left depth)]):=by
 refine Pf.cC fun t ih hf left depth hl hd=> ?_
 have gX:=(Pf.aP _).1 hf
 refine a7.aA mix ach aj ?_
 rw[c58]
 refine bV ?_
 refine ak (fun h1=> ?_) (fun h1=> ?_)
 ·refine bV ?_
  simp at h1
  rw[Cm h1]
 ·simp at h1
  refine bV ?_
  rw[wrap64 (n:=left - 1) (by omega) (by omega),vg,if_neg (by omega)]
  have Lc:t.sh.kids.length=t.kids.length:=by rw[Pf.n8,List.length_map]
  refine aK (fun k:Nat=>⟨bA [.aa, .d (.i (cf (t.sh.kids.take k) (left - 1) (depth - 1))), .d (.i depth), .ptr 0 0, .aa, .aa, .aa, .d (.i k)],fS t.row,1⟩)
   (fun k=>k<=t.kids.length) (fun k=>t.kids.length - k) 0 (Nat.zero_le _) (bL.d1 _ (aY rfl) ad rfl ?_) (fun k hk=> ?_)
  ·exact cG
  have hb:=x5 (t.sh.kids.take k) (left - 1) (depth - 1) ad
  simp+contextual only[go_sem,List.length_map]
  refine ak (fun h2=> ?_) (fun h2=> ?_)
  ·simp at h2
   obtain⟨x,hx⟩:∃x,t.kids[k]? =some x:=⟨t.kids[k],by simp[h2.1]⟩
   have dc:=List.mem_of_getElem? hx
   refine eY hx ?_
   rw[wrap64 (n:=depth - 1) (by omega) (by omega)]
   refine ah (ih x dc (gX.2.2.2.2 x dc) _ _ ad ad) rfl ?_
   refine bV ?_
   rw[<- OJ hx _ _ h2.2]
   refine au (k+1) h2.1 ad (bL.d1 _ (aY rfl) ad rfl ?_)
   exact cG
  ·refine bV ?_
   simp only[Bool.and_eq_false_iff,decide_eq_false_iff_not]at h2
   congr 3
   rcases h2 with h2|h2
   ·rw[List.take_of_length_le (by omega)]
   ·exact sQ _ _ ad
theorem EI(s:aX)(hs:s.Fits)(l:List Tm)(hl:l.length<=9223372036854775807)(hf:∀t∈l,t.fits):a7 Tryz.prog 24 [s.d, .sl (l.map Tm.d)] (.ret [.bool (kH s l)]):=by
 refine a7.aA mix abZ aj ?_
 rw[c24]
 refine aI ?_
 refine aK (fun k:Nat=>⟨bA [.aa, .d (.sl (l.map Tm.d)), .ptr 0 0, .aa, .aa, .d (.i k)],fS s.row,1⟩)
  (fun k=>k<=l.length/\(l.take k).all (sT s)=true) (fun k=>l.length - k) 0 ⟨Nat.zero_le _,aj⟩ (bL.d1 _ (aY rfl) ad rfl ?_) (fun k hk=> ?_)
 ·exact cG
 refine iG ?_
 refine ak (fun h2=> ?_) (fun h2=> ?_)
 ·simp at h2
  obtain⟨y,hy⟩:=aw (l:=l) (k:=k) ad
  have Df:=hf y (List.mem_of_getElem? hy)
  refine eR hy ?_
  refine aq (KT s hs y Df) rfl ?_
  cases g1:sT s y with
  |false=>
   refine eR hy ?_
   refine ao (aE rfl) ?_
   refine aI ?_
   rw[kH,bZ hy g1,Bool.and_false]
  |true=>
  refine eR hy ?_
  refine ao (aE rfl) ?_
  refine aI ?_
  refine au (k+1) ⟨ad,cD hy hk.2 g1⟩ ad (bL.d1 _ (aY rfl) ad rfl ?_)
  exact cG
 ·refine iG ?_
  congr 3
  by_cases h3:l.length<=20
  ·have h4:l.length<=k:=by simp at h2;omega
   rw[kH,cE hk.2 h4]
   simp;omega
  ·rw[kH,decide_eq_false h3]
   simp;omega
def fF(l:List Tm):Bool:=decide (l.length<=25)&&l.all kT
theorem vW(l:List Tm)(hl:l.length<=9223372036854775807)(hf:∀t∈l,t.fits):a7 Tryz.prog 22 [.sl (l.map Tm.d)] (.ret [.bool (fF l)]):=by
 refine a7.aA mix abX aj ?_
 rw[c22]
 refine aI ?_
 refine aK (fun k:Nat=>⟨bA [.d (.sl (l.map Tm.d)), .aa, .aa, .d (.i k)],fun _=> .no,0⟩)
  (fun k=>k<=l.length/\(l.take k).all kT=true) (fun k=>l.length - k) 0 ⟨Nat.zero_le _,aj⟩ (bL.d0 _ ?_) (fun k hk=> ?_)
 ·exact cG
 refine iG ?_
 refine ak (fun h2=> ?_) (fun h2=> ?_)
 ·simp at h2
  obtain⟨y,hy⟩:=aw (l:=l) (k:=k) ad
  have Df:=hf y (List.mem_of_getElem? hy)
  refine eR hy ?_
  refine ah (qz y Df) rfl ?_
  cases g1:kT y with
  |false=>
   refine eR hy ?_
   rw[fF,bZ hy g1,Bool.and_false]
  |true=>
  refine eR hy ?_
  refine au (k+1) ⟨ad,cD hy hk.2 g1⟩ ad (bL.d0 _ ?_)
  exact cG
 ·refine iG ?_
  congr 3
  by_cases h3:l.length<=25
  ·have h4:l.length<=k:=by simp at h2;omega
   rw[fF,cE hk.2 h4]
   simp;omega
  ·rw[fF,decide_eq_false h3]
   simp;omega
theorem LB(s:aX)(hs:s.Fits):∀f:Pf,f.fits->a7 Tryz.prog 59 [s.d,f.d] (.ret [.bool (kD s f)]):=by
 refine Pf.cC fun f ih hf=> ?_
 have gX:=(Pf.aP _).1 hf
 refine a7.aA mix aci aj ?_
 rw[c59,n9]
 refine aI ?_
 refine ah (KT s hs f.val gX.1) rfl ?_
 cases h1:sT s f.val with
 |false=>
  refine aI ?_
  rw[iB,h1];rfl
 |true=>
 refine aI ?_
 refine ah (EI s hs f.binds gX.2.1 gX.2.2.1) rfl ?_
 cases h2:kH s f.binds with
 |false=>
  refine aI ?_
  rw[iB,h1,h2];rfl
 |true=>
 have hn:iB s f=(f.b7==6||(f.num==0&&f.binds.length==0)):=by rw[iB,h1,h2];rfl
 refine iG ?_
 refine ak (fun h3=> ?_) (fun h3=> ?_)
 ·have:iB s f=false:=by
   rw[hn]
   simp only[Bool.and_eq_true,bne_iff_ne,Bool.or_eq_true,decide_eq_true_eq]at h3
   simp only[Bool.or_eq_false_iff,beq_eq_false_iff_ne,Bool.and_eq_false_iff]
   refine⟨h3.1, ?_⟩
   rcases h3.2 with h|h
   ·exact .inl h
   ·exact .inr ad
  refine aI ?_
  rw[this];rfl
 ·have:iB s f=true:=by
   rw[hn]
   simp only[Bool.and_eq_false_iff,bne_eq_false_iff_eq,Bool.or_eq_false_iff,decide_eq_false_iff_not]at h3
   simp only[Bool.or_eq_true,beq_iff_eq,Bool.and_eq_true]
   rcases h3 with h|h
   ·exact .inl h
   ·exact .inr ⟨h.1,ad⟩
  refine aI ?_
  rw[this,Bool.true_and]
  refine aK (fun k:Nat=>⟨bA [.aa, .aa, .ptr 0 0, .ptr 1 0, .aa, .d (.i k)],pj s.row f.row,2⟩)
   (fun k=>k<=f.kids.length/\(f.kids.take k).all (kD s)=true) (fun k=>f.kids.length - k) 0 ⟨Nat.zero_le _,aj⟩ (bL.d2 _ (cH rfl rfl) ad rfl rfl ?_) (fun k hk=> ?_)
  ·exact cG
  refine iG ?_
  refine ak (fun h2=> ?_) (fun h2=> ?_)
  ·simp at h2
   obtain⟨y,hy⟩:=aw (l:=f.kids) (k:=k) ad
   have wL:=List.mem_of_getElem? hy
   refine eR hy ?_
   refine aq (ih y wL (gX.2.2.2.2 y wL)) rfl ?_
   cases g1:kD s y with
   |false=>
    refine eR hy ?_
    refine ao (aE rfl) ?_
    refine aI ?_
    rw[bZ hy g1]
   |true=>
   refine eR hy ?_
   refine ao (aE rfl) ?_
   refine aI ?_
   refine au (k+1) ⟨ad,cD hy hk.2 g1⟩ ad (bL.d2 _ (cH rfl rfl) ad rfl rfl ?_)
   exact cG
  ·simp at h2
   rw[cE hk.2 h2]
   exact cF
theorem LC(p:Pg)(hp:p.sig.Fits)(f:Pf)(hf:f.fits):a7 Tryz.prog 13 [p.d,f.d] (.ret [.bool (fE p.sig f)]):=by
 refine a7.aA mix abU aj ?_
 rw[c13,fE]
 refine aI ?_
 refine ah (CW f hf 500 150 ad ad) rfl ?_
 cases h1:decide (0<=ee f.sh 500 150)with
 |false=>exact yH h1
 |true=>
  refine dz h1 ?_
  refine ah (LB p.sig hp f hf) rfl ?_
  exact cF
mutual
def qM:Pf->Bool
 | .mk _ v _ b kids=>(kT v&&fF b)&&Ar kids
def Ar:List Pf->Bool
 |[]=>true
 |k::l=>qM k&&Ar l
end
theorem CX(f:Pf):qM f=((kT f.val&&fF f.binds)&&f.kids.all qM):=by
 have:∀l:List Pf,Ar l=l.all qM:=fun l=>by
  induction l with
  |nil=>rfl
  |cons k l ih=>simp[Ar,ih]
 cases f;rw[qM,this];rfl
theorem Wh:∀f:Pf,f.fits->a7 Tryz.prog 73 [f.d] (.ret [.bool (qM f)]):=by
 refine Pf.cC fun f ih hf=> ?_
 have gX:=(Pf.aP _).1 hf
 refine a7.aA mix aco aj ?_
 rw[c73,CX]
 refine aI ?_
 refine ah (qz f.val gX.1) rfl ?_
 cases h1:kT f.val with
 |false=>exact cF
 |true=>
 refine aI ?_
 refine ah (vW f.binds gX.2.1 gX.2.2.1) rfl ?_
 cases h2:fF f.binds with
 |false=>exact cF
 |true=>
 refine aI ?_
 refine aK (fun k:Nat=>⟨bA [.aa, .ptr 0 0, .aa, .d (.i k)],fS f.row,1⟩)
  (fun k=>k<=f.kids.length/\(f.kids.take k).all qM=true) (fun k=>f.kids.length - k) 0 ⟨Nat.zero_le _,aj⟩ (bL.d1 _ (aY rfl) ad rfl ?_) (fun k hk=> ?_)
 ·exact cG
 refine iG ?_
 refine ak (fun h2=> ?_) (fun h2=> ?_)
 ·simp at h2
  obtain⟨y,hy⟩:=aw (l:=f.kids) (k:=k) ad
  have wL:=List.mem_of_getElem? hy
  refine eR hy ?_
  refine ah (ih y wL (gX.2.2.2.2 y wL)) rfl ?_
  cases g1:qM y with
  |false=>
   refine eR hy ?_
   rw[bZ hy g1]
  |true=>
  refine eR hy ?_
  refine au (k+1) ⟨ad,cD hy hk.2 g1⟩ ad (bL.d1 _ (aY rfl) ad rfl ?_)
  exact cG
 ·simp at h2
  rw[cE hk.2 h2]
  exact cF
def lT(f:Pf):Bool:=decide (0<=ee f.sh 520 160)&&qM f
theorem H9(f:Pf)(hf:f.fits):a7 Tryz.prog 34 [f.d] (.ret [.bool (lT f)]):=by
 refine a7.aA mix ab2 aj ?_
 rw[c34,lT]
 refine aI ?_
 refine ah (CW f hf 520 160 ad ad) rfl ?_
 cases h1:decide (0<=ee f.sh 520 160)with
 |false=>exact yH h1
 |true=>
  refine dz h1 ?_
  refine ah (Wh f hf) rfl ?_
  exact cF
def eA(s:aX)(env:List Tm)(e:Tm):Bool:=(kH s env&&dL s e)&&((bG e).length==0||decide ((bG e).getLast?.getD 0<(env.length:Int)))
theorem LD(p:Pg)(hp:p.sig.Fits)(env:List Tm)(hl:env.length<=9223372036854775807)(hf:∀t∈env,t.fits)(e:Tm)(he:e.wO):a7 Tryz.prog 18 [p.d, .sl (env.map Tm.d),e.d] (.ret [.bool (eA p.sig env e)]):=by
 have Pl:=gV e
 have hz:=he.size
 rw[Tm.kx]at hz
 refine a7.aA mix abW aj ?_
 rw[c18,eA]
 refine aI ?_
 refine ah (EI p.sig hp env hl hf) rfl ?_
 cases h1:kH p.sig env with
 |false=>exact cF
 |true=>
 refine aI ?_
 refine ah (Eh p.sig hp e he.fits) rfl ?_
 cases h2:dL p.sig e with
 |false=>exact cF
 |true=>
 refine aI ?_
 refine bf (qL e he) ?_
 cases h3:((bG e).length==0)with
 |true=>
  have rB:((bG e).length:Int)==0:=by simpa using h3
  simp+contextual (disch:=first|omega|simp only[go_sem,false_implies]) only[go_sem,wrap64,if_pos,List.length_map,rB]
 |false=>
  have rB:(((bG e).length:Int)==0)=false:=by simpa using h3
  have fV:0<(bG e).length:=by simp at h3;exact List.length_pos_iff.2 h3
  obtain⟨y,hy⟩:=aw (l:=bG e) (k:=(bG e).length - 1) ad
  have fL:((bG e).length:Int) - 1=(((bG e).length - 1:Nat):Int):=ad
  have JZ:(bG e).getLast?=some y:=by rw[List.getLast?_eq_getElem?,hy]
  simp+contextual (disch:=first|omega|simp only[go_sem,false_implies]) only[go_sem,wrap64,if_pos,List.length_map,rB,fL,hy,JZ,Option.getD_some]
theorem Wi:hU.d= .agg [.i 16, .i 0, .sl []]:=by unfold hU;rw[Tm.rO];rfl
theorem Wj(b:Bool):(gK b).d= .agg [.i 3, .i (if b=true then 1 else 0), .sl []]:=by unfold gK;rw[Tm.rO];rfl
def bdN(n:Int):Prop:= -1000000<=n/\n<=1000000
theorem EJ(op a b:Int):(wT op a b).d=if op=15 then(gK (decide (a<b))).d else .agg [.i 2, .i (if op=14 then a - b else a+b), .sl []]:=by
 unfold wT
 split
 ·rfl
 ·rw[Tm.rO];rfl
theorem LF{l:List Tm}{t x:Tm}(h1:t.op=1)(hx:l[t.n.toNat]? =some x):gW l t=x:=by rw[vO,if_pos h1,hx];rfl
def vX(n:Nat)(t:Tm):Prop:=∀x∈iF t,x.op=1->0<=x.n/\x.n<n
theorem vX.ll {n:Nat}{t k:Tm}(h:vX n t)(hk:k∈t.kids):vX n k:=fun x hx=>h x (by rw[nG];exact List.mem_cons_of_mem _ (List.mem_flatMap.2 ⟨k,hk,hx⟩))
def mD(n:Nat):List Tm:=(List.range n).map fun i:Nat=> .mk 1 (i:Int) []
theorem EK(n:Nat):mD (n+1)=mD n++[.mk 1 (n:Int) []]:=by simp[mD,List.range_succ]
theorem yA:a7 Tryz.prog 94 [.sl []] (.ret [.sl []]):=by
 refine a7.aA mix Ko aj ?_
 rw[Xl]
 have hu:Tryz.prog.underlying 28=some (.slice 31):=af
 have heq:∀O,pP Tryz.prog O 28 true (.d (.sl [])) .bW=some .eZ:=by
  intro O
  unfold pP
  rw[hu]
  rfl
 refine dz heq ?_
 simp only[List.isEmpty_nil,if_true]
 exact yH heq
theorem vY(l:List Tm)(iD:l≠[])(hl:l.length<=1000000)(o:Nat->ab)(nx:Nat)(K X:V->(Nat->ab)->Nat->Prop)
 (hK:K (.osl (nx+3) 1) (aL o (nx+3) (.arr 1 31 3 (l.map Tm.d))) (nx+7)):
 cK Tryz.prog 94 [.d (.sl (l.map Tm.d))] o nx K X:=by
 refine cK.aA mix Ko aj ?_
 rw[Xl]
 have hu:Tryz.prog.underlying 28=some (.slice 31):=af
 have heq:∀O,pP Tryz.prog O 28 true (.d (.sl (l.map Tm.d))) .bW=some (.d (.bool false)):=by
  intro O
  unfold pP
  rw[hu]
  cases l with
  |nil=>exact absurd rfl iD
  |cons a l=>rfl
 refine AO heq ?_
 simp only[List.isEmpty_nil,if_true]
 refine AO heq ?_
 rw[jh]
 exact hK
theorem CY(l:List Tm)(hl:l.length<=1000000)(h:∀t∈l,a7 Tryz.prog 53 [.sl (t.kids.map Tm.d)] (.ret [.sl (t.kids.map Tm.d)])):a7 Tryz.prog 53 [.sl (l.map Tm.d)] (.ret [.sl (l.map Tm.d)]):=by
 refine a7.aA mix Zc aj ?_
 rw[c53]
 cases iD:l with
 |nil=>
  refine aI ?_
  refine bf yA ?_
  refine aI ?_
  refine aK (fun _:Unit=>⟨bA [.aa, .aa, .aa, .d (.sl []), .aa, .aa, .aa, .aa, .d (.sl []), .d (.i 0), .d (.i 0)],fun _=> .no,1⟩) (fun _=>True) (fun _=>0) () trivial (bL.bP _ ad ad dg (fun _ _=>rfl) ?_) (fun _ _=> ?_)
  ·exact cG
  exact cF
 |cons a r=>
  rw[<- iD]
  have Wk:l≠[]:=by rw[iD];simp
  refine aI ?_
  refine c6 (vY l Wk hl _ _ _ _ ?_)
  refine aI ?_
  refine aK (fun i:Nat=>⟨bA [.aa, .aa, .aa, .osl 5 1, .aa, .aa, .aa, .aa, .osl 5 1, .d (.i l.length), .d (.i i)],aL (fun _=> .no) 5 (.arr 1 31 3 (l.map Tm.d)),6⟩)
   (fun k=>k<=l.length) (fun k=>l.length - k) 0 (Nat.zero_le _) (bL.bP _ ad ad dg (fun j hj=>by(repeat(first|rfl|rw[ae]|rw[ai _ _ _ _ (by omega)]))) ?_) (fun k hk=> ?_)
  ·exact cG
  replace hk:k<=l.length:=hk
  refine aI ?_
  refine ak (fun h2=> ?_) (fun h2=> ?_)
  ·simp at h2
   obtain⟨x,hx⟩:=aw h2
   have dc:=List.mem_of_getElem? hx
   refine dz hx ?_
   refine bf (h x dc) ?_
   refine dz hx ?_
   have hxd:x.d= .agg [.i x.op, .i x.n, .sl (x.kids.map Tm.d)]:=by cases x;rw[Tm.rO];rfl
   have nT:(l.map Tm.d).set k x.d=l.map Tm.d:=by
    apply List.ext_getElem?
    intro i
    rw[List.getElem?_set]
    by_cases e:k=i
    ·subst e
     rw[if_pos rfl,if_pos (by simpa using h2),List.getElem?_map,hx];rfl
    ·rw[if_neg e]
   simp only[hxd,List.length_cons,List.length_nil,List.take,List.drop,List.append_nil,List.cons_append,List.nil_append]
   rw[if_pos (by omega)]
   refine dz nT ?_
   refine au (k+1) h2 ad (bL.bP _ ad ad dg (fun j hj=> ?_) ?_)
   ·skip
    by_cases e:j=5
    ·subst e;(repeat(first|rfl|rw[ae]|rw[ai _ _ _ _ (by omega)]))
    ·rw[ai _ _ _ _ e,ai _ _ _ _ (by omega),ai _ _ _ _ (by omega)]
   ·exact cG
  ·simp at h2
   exact cF
theorem OK{l:List Tm}{k:Tm}(h:k∈l):k.sz<=hY l:=by
 induction l with
 |nil=>cases h
 |cons x l ih=>
  rw[eJ]
  rcases List.mem_cons.1 h with rfl|h
  ·omega
  ·have:=ih h;omega
theorem Gc:∀l:List Tm,l.length<=hY l
 |[]=>Nat.zero_le _
 |x::l=>by
  have:=Gc l
  have:=Tm.En x
  rw[eJ,List.length_cons];omega
theorem CZ:∀t:Tm,t.sz<=1000000->a7 Tryz.prog 53 [.sl (t.kids.map Tm.d)] (.ret [.sl (t.kids.map Tm.d)]):=by
 refine Tm.cC fun t ih hz=> ?_
 rw[Tm.ky]at hz
 have h1:=Gc t.kids
 exact CY t.kids ad fun k hk=>ih k hk (by have:=OK hk;omega)
theorem LG(l:List Tm)(hl:l.length<=1000000)(h:∀t∈l,t.sz<=1000000):a7 Tryz.prog 53 [.sl (l.map Tm.d)] (.ret [.sl (l.map Tm.d)]):=
 CY l hl fun t ht=>CZ t (h t ht)
def OL:Tm:= .mk 0 0 []
theorem As:OL.d= .agg [.i 0, .i 0, .sl []]:=by unfold OL;rw[Tm.rO];rfl
theorem qN{c:Nat}{G:List Gr}{so:Nat->ab}{gone:Nat->Prop}{x x' y y':ab}(h:x=y)(h':x'=y')(hs:wK c G so gone y y'):wK c G so gone x x':=by rw[h,h'];exact hs
@[reducible] def LH (B:Nat->ab) (r c:Nat) (ds:List D) (ty sz:Nat) (es:List D):Nat->ab:=aL (aL B r (.row (ds.map .d++[.osl c 0]))) c (.arr 0 ty sz es)
theorem Au{c:Nat}{G:List Gr}{so:Nat->ab}{gone:Nat->Prop}{l l':List V}:∀ds:List D,va c G so gone l l'->va c G so gone (ds.map .d++l) (ds.map .d++l')
 |[],h=>h
 |d::ds,h=>VM (Au ds h)
theorem LI(B:Nat->ab)(r c:Nat)(ds:List D)(ty sz:Nat)(es:List D):LH B r c ds ty sz es c= .arr 0 ty sz es:=ae _ _ _
theorem LJ(B:Nat->ab){r c:Nat}(h:r<c)(ds:List D)(ty sz:Nat)(es:List D):LH B r c ds ty sz es r= .row (ds.map .d++[.osl c 0]):=(ai _ _ _ _ ad).trans (ae _ _ _)
theorem ub(B:Nat->ab){r c j:Nat}(h:j≠r)(h2:j≠c)(ds:List D)(ty sz:Nat)(es:List D):LH B r c ds ty sz es j=B j:=(ai _ _ _ _ h2).trans (ai _ _ _ _ h)
theorem yB{B:Nat->ab}{r c:Nat}{ds:List D}{ty sz:Nat}{e:Nat->V}{so:Nat->ab}{m:Nat}(l:List V)(hg:Good B c)(A6:∀j,c<=j->B j= .no)(hr:r<c)(ho:∀j,j<c->j≠r->so j=B j)(bX:so r= .row (ds.map .d++[.bW]))(ec:0<sz)
 (he:mJ c [⟨.bW,ty,sz,[]⟩] so (fun _=>False) e l 0):bL 0 ⟨e,so,m⟩ ⟨bA l,LH B r c ds ty sz [],c+1⟩:=by
 refine bL.zY (fun _=>False) .bW c _ ad (fun j hj=> ?_) (LI _ _ _ _ _ _ _) (.inl ⟨rfl,rfl,ec⟩) (fun j hj=> ?_) (fun _ h=>h.elim) he
 ·by_cases e1:j=r
  ·subst e1
   exact qN (y:= .row (ds.map .d++[.bW])) bX (LJ B hr ds ty sz _) (Cl rfl (Au ds (Ku (g:=⟨.bW,ty,sz,[]⟩) 0 rfl rfl rfl Ck)))
  ·exact qN (y:=B j) (ho j hj e1) (ub B e1 ad ds ty sz _) (c7 rfl (fun q hq=>hg.refs j q hq))
 ·exact(ub B ad ad ds ty sz _).trans (A6 j ad)
theorem C0{B:Nat->ab}{r c ep:Nat}{ds:List D}{ty sz:Nat}{es:List D}{e:Nat->V}{so:Nat->ab}{m:Nat}(l:List V)(hg:Good B c)(A6:∀j,c<=j->B j= .no)(hr:r<c)(ho:∀j,j<c->j≠r->so j=B j)(bX:so r= .row (ds.map .d++[.osl c ep]))(cM:so c= .arr ep ty sz es)
 (he:mJ c [⟨.osl c ep,ty,sz,es⟩] so (fun j=>j=c) e l 0):bL 0 ⟨e,so,m⟩ ⟨bA l,LH B r c ds ty sz es,c+1⟩:=by
 refine bL.zY (fun j=>j=c) (.osl c ep) c _ ad (fun j hj=> ?_) (LI _ _ _ _ _ _ _) (.inr ⟨c,ep,rfl,rfl,cM⟩) (fun j hj=> ?_) (fun j h h2=>ad) he
 ·by_cases e1:j=r
  ·subst e1
   exact qN (y:= .row (ds.map .d++[.osl c ep])) bX (LJ B hr ds ty sz _) (Cl rfl (Au ds (Ku (g:=⟨.osl c ep,ty,sz,es⟩) 0 rfl rfl rfl Ck)))
  ·exact qN (y:=B j) (ho j hj e1) (ub B e1 ad ds ty sz _) (c7 rfl (fun q hq=>hg.refs j q hq))
 ·exact(ub B ad ad ds ty sz _).trans (A6 j ad)
end Go.Proofs.YtonbelhklnmjnaaGreat
