/-
  EqualBacks: at every call the law answers true, and leaves all memory as it was. Conditions: none.
-/
import Derived.OpenShut
import Derived.Carry
import Derived.Handed
import Derived.JoinedOf
import Derived.ProofKit
import Derived.Test.YtlhemmpklhhgoaaGreatRows
import Derived.Test.YtlhemmpklhhgoaaGreatQb18
set_option linter.unusedSimpArgs false
set_option linter.unusedVariables false
section
namespace Go.Proofs.YtlhemmpklhhgoaaGreat
open Go.ChangeShapes Go.WideShapes Go.RowKit
def te(P:Program)(rec:TypeId->Option (List TypeId)):Nat->List Field->Option (List TypeId)
 |_,[]=>some []
 |off,f::fs=>if f.offset=off then match rec f.type with
  |some l=>if P.cellsOf f.type=l.length then(te P rec (off+l.length) fs).map (l++·)else none
  |none=>none else none
def kx(P:Program):Nat->TypeId->Option (List TypeId)
 |0,_=>none
 |n+1,t=>match P.underlying t with
  |some .bool|some (.int _)|some .string|some (.slice _)=>some [t]
  |some (.struct fs)=>te P (kx P n) 0 fs.toList
  |some (.array k e)=>match kx P n e with
   |some l=>if P.cellsOf e=l.length then some (List.replicate k l).flatten else none
   |none=>none
  |_=>none
def isAgg(P:Program)(t:TypeId):Bool:=match P.underlying t with
 |some (.struct _)|some (.array _ _)=>true
 |_=>false
mutual
def D.gu (P:Program):D->TypeId->Prop
 | .int k n,t=>P.underlying t=some (.int k)/\(Lit.int k n).wf=true
 | .bool _,t=>P.underlying t=some .bool
 | .str l,t=>P.underlying t=some .string/\l.length<=maxLen
 | .sl es,t=>∃e,P.underlying t=some (.slice e)/\es.length<=maxLen/\D.EC P es e
 | .agg cs,t=>isAgg P t=true/\∃ls,kx P 20 t=some ls/\D.gv P cs ls
 |_,_=>False
def D.EC (P:Program):List D->TypeId->Prop
 |[],_=>True
 |x::l,e=>D.gu P x e/\D.EC P l e
def D.gv (P:Program):List D->List TypeId->Prop
 |[],ts=>ts=[]
 |x::l,ts=>∃t r,ts=t::r/\D.gu P x t/\D.gv P l r
end
def rb(P:Program)(T:List TypeId):Bool:=T.all fun t=>match kx P 20 t with
 |some l=>decide (l.length=P.cellsOf t)&&decide (0<l.length)&&l.all fun u=>match P.underlying u with
  |some (.slice e)=>T.contains e
  |_=>true
 |none=>false
theorem oK{P:Program}:∀ {xs ys:List D} {l r:List TypeId},D.gv P xs l->D.gv P ys r->D.gv P (xs++ys) (l++r)
 |[],_,_,_,h,h'=>by simp only[D.gv]at h;subst h;exact h'
 |x::xs,_,_,_,h,h'=>by
  obtain⟨t,r,rfl,h1,h2⟩:=h
  exact⟨t,_,rfl,h1,oK h2 h'⟩
theorem a7{B:Nat->Prop}{w:World}:∀ {xs ys:List D} {l r:List Value},D.az B w xs l->D.az B w ys r->D.az B w (xs++ys) (l++r)
 |[],_,_,_,h,h'=>by simp only[D.az]at h;subst h;exact h'
 |x::xs,_,_,_,h,h'=>by
  obtain⟨t,r,rfl,h1,h2⟩:=h
  exact⟨t,_,rfl,h1,a7 h2 h'⟩
theorem Flat.append {l r:List Value}(h:Flat l)(h':Flat r):Flat (l++r):=fun u hu=>(List.mem_append.1 hu).elim (h u) (h' u)
abbrev Qt:Nat->Prop:=fun _=>False
section
variable {H:Type}{enc:TypeId×Value->H}{P:Program}{W:World}{T:List TypeId}{b0:Nat}
def cS(P:Program)(W:World)(l:List TypeId)(cs:List Value):Prop:=∃xs,D.gv P xs l/\D.az Qt W xs cs/\Flat cs
theorem cS.append {l r:List TypeId}{cs ds:List Value}(h:cS P W l cs)(h':cS P W r ds):cS P W (l++r) (cs++ds):=by
 obtain⟨xs,a1,a2,a3⟩:=h
 obtain⟨ys,b1,b2,b3⟩:=h'
 exact⟨xs++ys,oK a1 b1,a7 a2 b2,a3.append b3⟩
theorem cS.length {l:List TypeId}{cs:List Value}(h:cS P W l cs):cs.length=l.length:=by
 obtain⟨xs,a1,a2,_⟩:=h
 rw[D.ax _ _ a2]
 clear a2
 induction xs generalizing l with
 |nil=>simp only[D.gv]at a1;simp[a1]
 |cons x xs ih=>obtain⟨t,r,rfl,_,h⟩:=a1;simp[ih h]
theorem cS.nil:cS P W [] []:=⟨[],rfl,rfl,fun _ h=>by cases h⟩
theorem zT{α:Type}(cs:List α)(o k:Nat):cs.drop o=(cs.drop o).take k++cs.drop (o+k):=by
 rw[<- List.drop_drop];exact(List.take_append_drop k _).symm
theorem oL{rec:TypeId->Option (List TypeId)}{cs:List Value}{rd:TypeId->List Value->Prop}
 (bg:∀t l vs,rec t=some l->(∀u∈l,∀e,P.underlying u=some (.slice e)->e∈T)->P.cellsOf t=l.length->rd t vs->cS P W l vs):
 ∀ (fs:List Field) (off:Nat) (l:List TypeId),te P rec off fs=some l->(∀u∈l,∀e,P.underlying u=some (.slice e)->e∈T)->(∀f∈fs,rd f.type ((cs.drop f.offset).take (P.cellsOf f.type)))->
   off+l.length=cs.length->cS P W l (cs.drop off)
 |[],off,l,h,_,_,hl=>by
  simp only[te,Option.some.injEq]at h
  subst h
  have:cs.drop off=[]:=List.drop_eq_nil_of_le (by simp at hl;omega)
  rw[this];exact cS.nil
 |f::fs,off,l,h,hT,hr,hl=>by
  simp only[te]at h
  split at h
  ·rename_i ho
   split at h
   ·rename_i l1 h1
    split at h
    ·rename_i hc
     simp only[Option.map_eq_some_iff]at h
     obtain⟨r,h2,rfl⟩:=h
     have hd:=hr f aK
     rw[ho,hc]at hd
     rw[zT cs off l1.length]
     simp only[List.length_append]at hl
     exact(bg f.type l1 _ h1 (fun u hu=>hT u (by simp[hu])) hc hd).append (oL bg fs _ r h2 (fun u hu=>hT u (by simp[hu])) (fun f hf=>hr f (by simp[hf])) af)
    ·cases h
   ·cases h
  ·cases h
theorem qu{l:List TypeId}{cs:List Value}:∀ (k i:Nat),(∀j,j<k->cS P W l ((cs.drop ((i+j)*l.length)).take l.length))->(i+k)*l.length=cs.length->cS P W (List.replicate k l).flatten (cs.drop (i*l.length))
 |0,i,_,hl=>by
  have:cs.drop (i*l.length)=[]:=List.drop_eq_nil_of_le (by simp at hl;omega)
  rw[this];exact cS.nil
 |k+1,i,h,hl=>by
  rw[List.replicate_succ,List.flatten_cons,zT cs (i*l.length) l.length]
  refine(by simpa using h 0 af:cS P W l _).append ?_
  rw[show i*l.length+l.length=(i+1)*l.length by rw[Nat.add_mul];omega]
  refine qu k (i+1) (fun j hj=> ?_) (by rw[<- hl];congr 1;omega)
  have:=h (j+1) af
  rwa [show i+(j+1)=i+1+j by omega]at this
theorem zU{e:TypeId}{l:List TypeId}{cs:List Value}(hl:kx P 20 e=some l)(h:cS P W l cs):∃ (ev:Value) (x:D),ev.cells.toList=cs/\D.gu P x e/\D.den Qt W x ev/\(isAgg P e=true->ev= .agg cs.toArray)/\(isAgg P e=false->cs=[ev]/\ev.oneCell'=true):=by
 obtain⟨xs,h1,h2,h3⟩:=h
 cases ha:isAgg P e with
 |true=>exact⟨.agg cs.toArray, .agg xs,by simp[Value.cells],⟨ha,l,hl,h1⟩,⟨_,rfl,by simpa using h2,by simpa using h3⟩,fun _=>rfl,(fun h=>by cases h)⟩
 |false=>
  have:l=[e]:=by
   unfold kx at hl
   unfold isAgg at ha
   split at hl<;>simp_all
  subst this
  obtain⟨t,r,e1,h4,h5⟩:∃x r,xs=x::r/\D.gu P x e/\D.gv P r []:=by
   cases xs with
   |nil=>simp[D.gv]at h1
   |cons x r=>obtain⟨t,r',e1,h4,h5⟩:=h1;injection e1 with e1 e2;subst e1;subst e2;exact⟨x,r,rfl,h4,h5⟩
  subst e1
  have:r=[]:=by cases r with
   |nil=>rfl
   |cons y r=>obtain⟨_,_,e,_⟩:=h5;cases e
  subst this
  obtain⟨u,us,rfl,h6,h7⟩:=h2
  simp only[D.az]at h7
  subst h7
  have ho:=h3 u aK
  refine⟨u,t, ?_,h4,h6,(fun h=>by cases h),fun _=>⟨rfl,ho⟩⟩
  cases u<;>simp_all[Value.oneCell',Value.cells]
theorem zV(hp:rb P T=true){t:TypeId}(ht:t∈T):∃l,kx P 20 t=some l/\l.length=P.cellsOf t/\0<l.length/\∀u∈l,∀e,P.underlying u=some (.slice e)->e∈T:=by
 have:=List.all_eq_true.1 hp t ht
 split at this
 ·rename_i l hl
  simp only[Bool.and_eq_true,decide_eq_true_eq,List.all_eq_true]at this
  refine⟨l,hl,this.1.1,this.1.2,fun u hu e he=> ?_⟩
  have:=this.2 u hu
  rw[he]at this
  simpa using this
 ·cases this
theorem BE(hp:rb P T=true):∀ (n m:Nat) (t:TypeId) (l:List TypeId) (cs:List Value) (x:DataW H×List MemPlace),kx P m t=some l->(∀u∈l,∀e,P.underlying u=some (.slice e)->e∈T)->
 P.cellsOf t=l.length->DataW.trod enc P W 0 (fun _=>true) true n t cs=some x->cS P W l cs:=by
 intro n
 induction n with
 |zero=>intro m t l cs x _ _ _ h;simp[DataW.trod]at h
 |succ n ih=>
  intro m t l cs x hl hT hc h
  cases m with
  |zero=>simp[kx]at hl
  |succ m=>
  unfold kx at hl
  split at hl
  ·rename_i hu
   injection hl with hl;subst hl
   obtain⟨b,rfl,_⟩:=DataW.trod_bool hu h
   exact⟨[.bool b],⟨t,[],rfl,hu,rfl⟩,⟨_,_,rfl,rfl,rfl⟩,by simp[Flat,Value.oneCell']⟩
  ·rename_i k hu
   injection hl with hl;subst hl
   obtain⟨b,rfl,_,hw⟩:=DataW.trod_int hu h
   exact⟨[.int k b],⟨t,[],rfl,⟨hu,hw⟩,rfl⟩,⟨_,_,rfl,rfl,rfl⟩,by simp[Flat,Value.oneCell']⟩
  ·rename_i hu
   injection hl with hl;subst hl
   obtain⟨s,rfl,_,hw⟩:=DataW.trod_string hu h
   exact⟨[.str s.data.toList],⟨t,[],rfl,⟨hu,by simpa using hw⟩,rfl⟩,⟨_,_,rfl,⟨s,rfl,rfl⟩,rfl⟩,by simp[Flat,Value.oneCell']⟩
  ·rename_i e hu
   injection hl with hl;subst hl
   rcases DataW.trod_slice hu h with⟨rfl,_⟩|⟨a,len,cap,elems,rest,n',hn,rfl,_,_,h2,h3,h4,h5,h6,_⟩
   ·exact⟨[.sl []],⟨t,[],rfl,⟨e,hu,aK,trivial⟩,rfl⟩,⟨_,_,rfl,⟨none,0,0,rfl,rfl,aK,fun _=>rfl,0,(fun a ha=>by cases ha)⟩,rfl⟩,by simp[Flat,Value.oneCell']⟩
   ·injection hn with hn;subst hn
    obtain⟨l',g1,g2,g3,g4⟩:=zV hp (hT t aK e hu)
    have at':∀i,i<len->∃ev:Value,∃y:D,ev.cells.size=P.cellsOf e/\eW Qt W (a.add (i*P.cellsOf e)) ev.cells/\D.den Qt W y ev/\D.gu P y e:=by
     intro i hi
     have:=h5 i hi
     rw[List.getElem?_eq_getElem (by omega)]at this
     obtain⟨ci,k1,k2⟩:=Option.bind_eq_some_iff.1 this
     obtain⟨_,k3,k4⟩:=World.cells?_some k1
     have k5:=ih 20 e l' ci _ g1 g4 g2.symm k2
     obtain⟨ev,y,q1,q2,q3,_,_⟩:=zU g1 k5
     have q4:ev.cells=ci.toArray:=by rw[<- q1]
     refine⟨ev,y,by rw[q4];simp[k5.length,g2],fun j u hj=>⟨?_,fun h=>h⟩,q3,q2⟩
     rw[q4]at hj
     have EK:ci[j]? =some u:=by simpa using hj
     have bR:j<P.cellsOf e:=by rw[<- g2, <- k5.length];exact(List.getElem?_eq_some_iff.1 EK).1
     rw[k4 j bR];exact EK
    have list:∀k i,i+k=len->∃es,es.length=k/\D.EC P es e/\D.elems Qt W (P.cellsOf e) a i es:=by
     intro k
     induction k with
     |zero=>intro i _;exact⟨[],rfl,trivial,trivial⟩
     |succ k W0=>
      intro i hi
      obtain⟨es,e1,e2,e3⟩:=W0 (i+1) af
      obtain⟨ev,y,y1,y2,y3,y4⟩:=at' i af
      exact⟨y::es,by simp[e1],⟨y4,e2⟩,⟨ev,y1,y2,y3⟩,e3⟩
    obtain⟨es,e1,e2,e3⟩:=list len 0 af
    have W7:cap≠0->a.spot=none:=by
     intro jB
     have MH:∀z,(W.cells? 0 (a.add (0*P.cellsOf e)) (P.cellsOf e)).bind (DataW.trod enc P W 0 (fun _=>true) true n e)=some z->a.spot=none:=by
      intro z hz
      obtain⟨ci,k1,k2⟩:=Option.bind_eq_some_iff.1 hz
      obtain⟨_,k3,k4⟩:=World.cells?_some k1
      have k5:=k4 0 af
      rw[List.getElem?_eq_getElem (by omega)]at k5
      simpa[Addr.add]using World.cell?_spot k5
     by_cases hlen:0<len
     ·have:=h5 0 hlen
      rw[List.getElem?_eq_getElem (by omega)]at this
      exact MH _ this
     ·obtain⟨h7,h8⟩:=h6 rfl
      have:=h8 0 af
      rw[List.getElem?_eq_getElem (by omega),show(len+0)=0 by omega]at this
      exact MH _ this
    exact⟨[.sl es],⟨t,[],rfl,⟨e,hu,af,e2⟩,rfl⟩,⟨_,_,rfl,⟨some a,len,cap,rfl,e1.symm,h2,(fun h=>by cases h),P.cellsOf e,(fun a' RH=>by injection RH with RH;subst RH;exact⟨W7,e3⟩)⟩,rfl⟩,by simp[Flat,Value.oneCell']⟩
  ·rename_i fs hu
   obtain⟨xs,n',hn,_,h2,h3,h4⟩:=DataW.trod_struct hu h
   injection hn with hn;subst hn
   have:=oL (P:=P) (W:=W) (T:=T) (cs:=cs) (rd:=fun t vs=>∃y,DataW.trod enc P W 0 (fun _=>true) true n t vs=some y) (rec:=kx P m) (fun t l vs q1 q2 q3 ⟨y,q4⟩=>ih m t l vs y q1 q2 q3 q4) fs.toList 0 l hl hT ?_ af
   ·simpa using this
   ·intro f hf
    obtain⟨i,hi,hfi⟩:=List.getElem_of_mem hf
    have:=h4 i f (by simp at hi;simp[<- hfi,Array.getElem?_eq_getElem hi])
    rw[List.getElem?_eq_getElem (by simp at hi;omega)]at this
    exact⟨_,this⟩
  ·rename_i k e hu
   split at hl
   ·rename_i l' FK
    split at hl
    ·rename_i hce
     injection hl with hl;subst hl
     obtain⟨xs,n',hn,_,h2,h3,h4⟩:=DataW.trod_array hu h
     injection hn with hn;subst hn
     have hlen:cs.length=k*l'.length:=by rw[h2,hc];simp
     have hT':0<k->∀u∈l',∀e,P.underlying u=some (.slice e)->e∈T:=fun hk u hu=>hT u (List.mem_flatten.2 ⟨l',List.mem_replicate.2 ⟨af,rfl⟩,hu⟩)
     have:=qu (P:=P) (W:=W) (l:=l') (cs:=cs) k 0 (fun j hj=> ?_) (by rw[hlen];simp)
     ·simpa using this
     ·have:=h4 j hj
      rw[hce,List.getElem?_eq_getElem (by omega)]at this
      rw[Nat.zero_add]
      exact ih m e l' _ _ FK (hT' af) hce this
    ·cases hl
   ·cases hl
  ·cases hl
theorem vk(hp:rb P T=true):∀ (ts:List TypeId) (vs:List Value) (ds:List (DataW H)) (p:List MemPlace),(∀t∈ts,t∈T)->DataW.TrodAll enc P W 0 (fun _=>true) true ts vs ds p->
 (∀ (j:Nat) t v,ts[j]? =some t->vs[j]? =some v->Value.okWide P W .any b0 t v)->∃xs,D.gv P xs ts/\D.az Qt W xs vs
 |[],vs,ds,p,_,h,_=>by
  obtain⟨rfl,rfl,rfl⟩:=trodAll_nil h
  exact⟨[],rfl,rfl⟩
 |t::ts,vs,ds,p,hT,h,hv=>by
  obtain⟨v,Xo,d,TJ,p1,q1,rfl,rfl,rfl,⟨n,h1⟩,h2⟩:=trodAll_cons h
  obtain⟨xs,a1,a2⟩:=vk hp ts Xo TJ q1 (fun t ht=>hT t (by simp[ht])) h2 (fun j t v h1 h2=>hv (j+1) t v (by simpa using h1) tV)
  obtain⟨l,g1,g2,g3,g4⟩:=zV hp (hT t aK)
  obtain⟨ev,x,q1,q2,q3,q4,q5⟩:=zU g1 (BE hp n 20 t l _ _ g1 g4 g2.symm h1)
  have aQ:=hv 0 t v rfl rfl
  have:ev=v:=by
   cases ha:isAgg P t with
   |true=>
    have:∃cs,v= .agg cs:=by
     unfold isAgg at ha
     unfold Value.okWide at aQ
     split at ha
     ·rename_i hu;rw[hu]at aQ;obtain⟨cs,rfl,_⟩:=aQ;exact⟨cs,rfl⟩
     ·rename_i hu;rw[hu]at aQ;obtain⟨cs,rfl,_⟩:=aQ;exact⟨cs,rfl⟩
     ·cases ha
    obtain⟨cs,rfl⟩:=this
    rw[q4 ha]
    simp[Value.cells]
   |false=>
    obtain⟨q6,q7⟩:=q5 ha
    cases v with
    |agg cs=>
     exfalso
     unfold isAgg at ha
     unfold Value.okWide at aQ
     split at aQ
     ·rename_i hu;rw[hu]at ha;cases ha
     ·rename_i hu;rw[hu]at ha;cases ha
     ·unfold Cell.okWide at aQ
      split at aQ
      case h_8=>
       unfold Cell.ok at aQ
       split at aQ<;>first|exact aQ|contradiction
      all_goals contradiction
    |_=>simp only[Value.cells,List.cons.injEq,and_true]at q6;exact q6.symm
  subst this
  exact⟨x::xs,⟨t,ts,rfl,q2,a1⟩,⟨_,_,rfl,q3,a2⟩⟩
theorem dD.below {w w':World}(h:dD (fun _=>False) w w'):Below w.heap.size w w':=⟨h.os,h.tape,h.output,h.size,fun k hk=>h.block k hk (fun h=>h)⟩
theorem vl(hl:laidOutB P=true){W':World}{sp:Nat->Bool}:∀ {ts:List TypeId} {vs:List Value} {ds:List (DataW H)} {p:List MemPlace},(∀t∈ts,P.readableRec t=true/\t<P.types.size)->DataW.TrodAll enc P W 0 (fun _=>true) true ts vs ds p->
 (∀x∈p,W.sameAt W' x/\sp x.block=true)->DataW.TrodAll enc P W' 0 sp true ts vs ds p
 |[],vs,ds,p,_,h,_=>by
  obtain⟨rfl,rfl,rfl⟩:=trodAll_nil h
  exact trodAll_mk0
 |t::ts,vs,ds,p,hr,h,hs=>by
  obtain⟨v,Xo,d,TJ,p1,q1,rfl,rfl,rfl,h1,h2⟩:=trodAll_cons h
  exact⟨p1,q1,WideElems.Trod_stays hl (hr t aK).1 (hr t aK).2 h1 (fun x hx=>(hs x pR).1) (fun x hx=>(hs x pR).2),vl hl (fun t ht=>hr t (by simp[ht])) h2 (fun x hx=>hs x pR),rfl⟩
theorem HN{sp:Nat->Bool}:∀ {ts:List TypeId} {vs:List Value} {ds:List (DataW H)} {ps:List MemPlace},DataW.TrodAll enc P W 0 sp true ts vs ds ps->ds.length=ts.length
 |[],_,_,_,h=>by obtain⟨_,rfl,_⟩:=trodAll_nil h;rfl
 |_::_,_,_,_,h=>by
  obtain⟨_,_,_,_,_,_,_,rfl,_,_,h2⟩:=trodAll_cons h
  simp[HN h2]
theorem xf{f:FuncId}{fn:Func}{s:ChangeSpec}{tb:TypeId}{fresh handsOn again:Bool}(ye:fn.resultTypes=#[tb])(EU:P.underlying tb=some .bool)(MI:s.vars=[])
 (HO:∀ds:List (DataW H),ds.length=fn.params.toList.length->s.fn H ds={results:=[.lit (.bool true)],args:=ds}) (hp:rb P T=true) (hT:∀t∈fn.params.toList,t∈T) (hl:laidOutB P=true)
 (hr:∀t∈fn.params.toList,P.readableRec t=true/\t<P.types.size) (law:∀xs,D.gv P xs fn.params.toList->aX P f xs (.ret [.bool true]))
 (base:Nat) (args:Array Value) (ds gs:List (DataW H)) (before:List MemPlace)
 (eP:∀ (j:Nat) t v,fn.params[j]? =some t->args[j]? =some v->Value.okWide P W .any base t v) (hW:DataW.Whole enc P fn.params.toList s.vars false W args.toList ds gs before):
 Calls P f args W fun e W'=>∃v,e= .returned v/\s.post enc P fn false fresh handsOn again W args v W':=by
 have hW':=hW
 obtain⟨p,q,hA,hV,rfl,hfz,x8⟩:=hW
 rw[MI]at hV
 obtain⟨rfl,rfl⟩:=trodVars_none hV
 obtain⟨xs,a1,a2⟩:=vk (b0:=base) hp fn.params.toList args.toList ds p hT hA (fun j t v h1 h2=>eP j t v (by simpa using h1) tV)
 refine((law xs a1).2 Qt W args (fun _ h=>h.elim) a2).mono fun e W' ⟨hk,ho⟩=> ?_
 have hb:=hk.below
 cases e with
 |panicked ch=>exact ho.elim
 |outgrown=>exact ho.elim
 |returned v=>
  simp only[R.is,D.den]at ho
  subst ho
  refine⟨_,rfl, ?_⟩
  have hlen:ds.length=fn.params.toList.length:=(HN hA)
  have hold:∀x∈p,x.block<W.heap.size:=fun x hx=>by simpa using hW'.lt x tW
  have db:∀sp:Nat->Bool,(∀x∈p,sp x.block=true)->DataW.TrodAll enc P W' 0 sp true fn.params.toList args.toList ds p:=fun sp KT=>vl hl hr hA fun x hx=>⟨hb.same (hold x hx),KT x hx⟩
  have MJ:∀ (b:Nat) (sp:Nat->Bool) (hd:Bool),DataW.TrodAll enc P W' b sp hd fn.resultTypes.toList ((Value.bool true).resultList fn.resultTypes.size) [.lit (.bool true)] []:=fun b sp hd=>by
   rw[ye]
   exact trodAll_cons_mk (p:=[]) (p':=[]) ⟨1,by simp[DataW.trod,Value.cells,EU]⟩ trodAll_mk0
  have HP:∀sp:Nat->Bool,DataW.TrodVars enc P W' sp s.vars [] []:=fun sp=>by rw[MI];rfl
  refine⟨ds,[],p++[],[],p,[],hW', ?_, ?_, ?_,World.keptBut_mono (fun _ h=>h.elim) (hb.frame (fun _=>False)),fun _=>⟨?_,[.lit (.bool true)]++ds,[],([]++p)++[],⟨[]++p,[],trodAll_append (db _ fun _ _=>rfl) (MJ 0 (fun _=>true) true),HP _,rfl, ?_,(fun h=>by cases h)⟩,fun x hx _=>by simpa using hx⟩⟩
  ·rw[List.append_nil,HO ds hlen];exact MJ _ _ _
  ·rw[List.append_nil,HO ds hlen];exact db _ fun x hx=>by simpa using hold x hx
  ·rw[List.append_nil,HO ds hlen];exact HP _
  ·intro j t r h1 h2
   rw[ye]at h1 h2
   match j,h1,h2 with
   |0,h1,h2=>
    simp[Value.resultList]at h1 h2
    subst h1;subst h2
    simp[Value.okWide,EU,Cell.okWide,Cell.ok]
  ·intro b off hx
   rw[hb.frozen (by simpa[MemPlace.block]using hold _ (by simpa using hx))]
   exact hfz b off tW
end
section
variable {P:Program}{t e:TypeId}{x:D}
theorem zW{k:IntKind}(ht:P.underlying t=some (.int k))(h:D.gu P x t):∃n,x= .int k n/\(Lit.int k n).wf=true:=by
 cases x<;>simp only[D.gu]at h
 case int k' n=>
  rw[ht]at h
  obtain⟨h1,h2⟩:=h
  injection h1 with h1;injection h1 with h1;subst h1
  exact⟨n,rfl,h2⟩
 case bool=>rw[ht]at h;cases h
 case str=>rw[ht]at h;cases h.1
 case sl=>obtain⟨e,h,_⟩:=h;rw[ht]at h;cases h
 case agg=>have:=h.1;unfold isAgg at this;rw[ht]at this;cases this
theorem HQ(ht:P.underlying t=some .string)(h:D.gu P x t):∃l,x= .str l/\l.length<=maxLen:=by
 cases x<;>simp only[D.gu]at h
 case int k' n=>rw[ht]at h;cases h.1
 case bool b=>rw[ht]at h;cases h
 case str l=>exact⟨l,rfl,h.2⟩
 case sl=>obtain⟨e,h,_⟩:=h;rw[ht]at h;cases h
 case agg=>have:=h.1;unfold isAgg at this;rw[ht]at this;cases this
theorem ja(ht:P.underlying t=some (.slice e))(h:D.gu P x t):∃es,x= .sl es/\es.length<=maxLen/\D.EC P es e:=by
 cases x<;>simp only[D.gu]at h
 case int k' n=>rw[ht]at h;cases h.1
 case bool b=>rw[ht]at h;cases h
 case str l=>rw[ht]at h;cases h.1
 case sl es=>
  obtain⟨e',h,h2,h3⟩:=h
  rw[ht]at h;injection h with h;injection h with h;subst h
  exact⟨es,rfl,h2,h3⟩
 case agg=>have:=h.1;unfold isAgg at this;rw[ht]at this;cases this
theorem jJ{ls:List TypeId}(ha:isAgg P t=true)(hl:kx P 20 t=some ls)(h:D.gu P x t):∃cs,x= .agg cs/\D.gv P cs ls:=by
 have no:∀u,P.underlying t=some u->(∀fs,u≠ .struct fs)->(∀k e,u≠ .array k e)->False:=by
  intro u hu h1 h2
  unfold isAgg at ha
  rw[hu]at ha
  split at ha
  ·rename_i e;injection e with e;exact h1 _ e
  ·rename_i e;injection e with e;exact h2 _ _ e
  ·cases ha
 cases x<;>simp only[D.gu]at h
 case int k' n=>exact(no _ h.1 (fun _ h=>by cases h) (fun _ _ h=>by cases h)).elim
 case bool b=>exact(no _ h (fun _ h=>by cases h) (fun _ _ h=>by cases h)).elim
 case str l=>exact(no _ h.1 (fun _ h=>by cases h) (fun _ _ h=>by cases h)).elim
 case sl es=>obtain⟨e',h,_⟩:=h;exact(no _ h (fun _ h=>by cases h) (fun _ _ h=>by cases h)).elim
 case agg cs=>
  obtain⟨_,ls',h1,h2⟩:=h
  rw[hl]at h1;injection h1 with h1;subst h1
  exact⟨cs,rfl,h2⟩
theorem aU{t:TypeId}{ts:List TypeId}{cs:List D}(h:D.gv P cs (t::ts)):∃x xs,cs=x::xs/\D.gu P x t/\D.gv P xs ts:=by
 cases cs with
 |nil=>simp[D.gv]at h
 |cons x xs=>obtain⟨_,_,e,h1,h2⟩:=h;injection e with e1 e2;subst e1;subst e2;exact⟨x,xs,rfl,h1,h2⟩
theorem fT{cs:List D}(h:D.gv P cs []):cs=[]:=by
 cases cs with
 |nil=>rfl
 |cons x xs=>obtain⟨_,_,e,_⟩:=h;cases e
theorem gw{α:Type}{f:α->D}{q:α->Prop}(hf:∀x,D.gu P x e->∃a,x=f a/\q a):∀ (es:List D),D.EC P es e->∃l:List α,es=l.map f/\∀a∈l,q a
 |[],_=>⟨[],rfl,fun _ h=>by cases h⟩
 |x::es,h=>by
  obtain⟨a,rfl,h1⟩:=hf x h.1
  obtain⟨l,rfl,h2⟩:=gw hf es h.2
  exact⟨a::l,rfl,fun b hb=>(List.mem_cons.1 hb).elim (fun e=>e ▸ h1) (h2 b)⟩
end
end Go.Proofs.YtlhemmpklhhgoaaGreat
end
section
namespace Go.Proofs.YtlhemmpklhhgoaaGreat
open Go.ChangeShapes Go.WideShapes Go.RowKit
theorem jt:maxLen<=9223372036854775807:=cA
theorem qv{x:D}(h:D.gu Tryz.prog x 3):∃n:Int,x= .i n:=by
 obtain⟨n,h,_⟩:=zW undT_3 h
 exact⟨n,h⟩
theorem J8{x:D}(h:D.gu Tryz.prog x 30):∃n:Int,x= .i n:=by
 obtain⟨n,h,_⟩:=zW undT_30 h
 exact⟨n,h⟩
theorem W8{x:D}(h:D.gu Tryz.prog x 124):∃r:dZ,x=r.d/\r.name.length<=9223372036854775807:=by
 obtain⟨cs,rfl,hh⟩:=jJ ag (ls:=[9,3]) ag h
 clear h;have h:=hh;clear hh
 obtain⟨a,cs,rfl,ha,h⟩:=aU h
 obtain⟨b,cs,rfl,hb,h⟩:=aU h
 have:=fT h;subst this
 obtain⟨l,rfl,hl⟩:=HQ ag ha
 obtain⟨n,rfl⟩:=qv hb
 exact⟨⟨l,n⟩,rfl,by have:=jt;simp only;omega⟩
theorem HS:∀ (n:Nat) (x:D),SizeOf.sizeOf x<=n->D.gu Tryz.prog x 33->∃t:Tm,x=t.d/\t.fits:=by
 intro n
 induction n with
 |zero=>intro x hx _;cases x<;>simp at hx
 |succ n ih=>
  intro x hx h
  obtain⟨cs,rfl,hh⟩:=jJ ag (ls:=[30,3,31]) ag h
  clear h;have h:=hh;clear hh
  obtain⟨a,cs,rfl,ha,h⟩:=aU h
  obtain⟨b,cs,rfl,hb,h⟩:=aU h
  obtain⟨c,cs,rfl,hc,h⟩:=aU h
  have:=fT h;subst this
  obtain⟨o,rfl⟩:=J8 ha
  obtain⟨m,rfl⟩:=qv hb
  obtain⟨es,rfl,h1,h2⟩:=ja undT_31 hc
  have B6:SizeOf.sizeOf es<=n:=by simp at hx;omega
  have:∀es:List D,SizeOf.sizeOf es<=n->D.EC Tryz.prog es 33->∃l:List Tm,es=l.map Tm.d/\∀k∈l,k.fits:=by
   intro es
   induction es with
   |nil=>intro _ _;exact⟨[],rfl,fun _ h=>by cases h⟩
   |cons y es ihe=>
    intro hs h
    simp at hs
    obtain⟨t,rfl,ht⟩:=ih y af h.1
    obtain⟨l,rfl,hl⟩:=ihe af h.2
    exact⟨t::l,rfl,fun b hb=>(List.mem_cons.1 hb).elim (fun e=>e ▸ ht) (hl b)⟩
  obtain⟨l,rfl,hl⟩:=this es B6 h2
  refine⟨.mk o m l,by rw[Tm.On], ?_⟩
  rw[Tm.bD]
  exact SF
theorem W9{x:D}(h:D.gu Tryz.prog x 33):∃t:Tm,x=t.d/\t.fits:=HS _ x (Nat.le_refl _) h
end Go.Proofs.YtlhemmpklhhgoaaGreat
end
section
namespace Go.Proofs.YtlhemmpklhhgoaaGreat
open Go.ChangeShapes Go.WideShapes Go.RowKit
theorem aaD{x:D}(h:D.gu Tryz.prog x 59):∃b:TB,x=b.d/\b.term.fits:=by
 obtain⟨cs,rfl,hh⟩:=jJ ag (ls:=[3,30,3,31]) ag h
 clear h;have h:=hh;clear hh
 obtain⟨v,cs,rfl,hv,h⟩:=aU h
 obtain⟨a,cs,rfl,ha,h⟩:=aU h
 obtain⟨b,cs,rfl,hb,h⟩:=aU h
 obtain⟨c,cs,rfl,hc,h⟩:=aU h
 have:=fT h;subst this
 obtain⟨k,rfl⟩:=qv hv
 obtain⟨o,rfl⟩:=J8 ha
 obtain⟨m,rfl⟩:=qv hb
 obtain⟨es,rfl,h1,h2⟩:=ja undT_31 hc
 obtain⟨l,rfl,hl⟩:=gw (fun x h=>W9 h) es h2
 refine⟨⟨k, .mk o m l⟩,rfl, ?_⟩
 rw[Tm.bD]
 exact SF
theorem J9{x:D}(h:D.gu Tryz.prog x 25):∃l:List TB,x= .sl (l.map TB.d)/\(l.length<=9223372036854775807/\∀b∈l,b.term.fits):=by
 obtain⟨es,rfl,h1,h2⟩:=ja undT_25 h
 obtain⟨l,rfl,hl⟩:=gw (fun x h=>aaD h) es h2
 exact⟨l,rfl,by have:=jt;simp at h1;omega,hl⟩
end Go.Proofs.YtlhemmpklhhgoaaGreat
end
section
namespace Go.Proofs.YtlhemmpklhhgoaaGreat
open Go.ChangeShapes Go.WideShapes Go.RowKit
theorem HT{x:D}(h:D.gu Tryz.prog x 31):∃l:List Tm,x= .sl (l.map Tm.d)/\l.length<=9223372036854775807/\∀t∈l,t.fits:=by
 obtain⟨es,rfl,h1,h2⟩:=ja undT_31 h
 obtain⟨l,rfl,hl⟩:=gw (fun x h=>W9 h) es h2
 have:=jt
 exact⟨l,rfl,by simp at h1;omega,hl⟩
theorem aaE{x:D}(h:D.gu Tryz.prog x 101):∃n:Nt,x=n.d/\n.a.fits/\n.b.fits:=by
 obtain⟨cs,rfl,hh⟩:=jJ ag (ls:=[30,3,31,30,3,31]) ag h
 clear h;have h:=hh;clear hh
 obtain⟨a,cs,rfl,ha,h⟩:=aU h
 obtain⟨b,cs,rfl,hb,h⟩:=aU h
 obtain⟨c,cs,rfl,hc,h⟩:=aU h
 obtain⟨d,cs,rfl,hd,h⟩:=aU h
 obtain⟨e,cs,rfl,he,h⟩:=aU h
 obtain⟨f,cs,rfl,hf,h⟩:=aU h
 have:=fT h;subst this
 obtain⟨o1,rfl⟩:=J8 ha
 obtain⟨n1,rfl⟩:=qv hb
 obtain⟨k1,rfl,l1,l2⟩:=HT hc
 obtain⟨o2,rfl⟩:=J8 hd
 obtain⟨n2,rfl⟩:=qv he
 obtain⟨k2,rfl,l3,l4⟩:=HT hf
 exact⟨⟨.mk o1 n1 k1, .mk o2 n2 k2⟩,rfl,(Tm.bD _).2 ⟨l1,l2⟩,(Tm.bD _).2 ⟨l3,l4⟩⟩
theorem aaF{x:D}(h:D.gu Tryz.prog x 77):∃m:Int×Int,x=qt m/\True:=by
 obtain⟨cs,rfl,hh⟩:=jJ ag (ls:=[3,3]) ag h
 clear h;have h:=hh;clear hh
 obtain⟨a,cs,rfl,ha,h⟩:=aU h
 obtain⟨b,cs,rfl,hb,h⟩:=aU h
 have:=fT h;subst this
 obtain⟨n1,rfl⟩:=qv ha
 obtain⟨n2,rfl⟩:=qv hb
 exact⟨(n1,n2),rfl,trivial⟩
theorem Xa{x:D}(h:D.gu Tryz.prog x 29):∃s:eu,x=s.d/\s.Fits:=by
 obtain⟨cs,rfl,hh⟩:=jJ ag (ls:=[22,22,25,26,27]) ag h
 clear h;have h:=hh;clear hh
 obtain⟨a,cs,rfl,ha,h⟩:=aU h
 obtain⟨b,cs,rfl,hb,h⟩:=aU h
 obtain⟨c,cs,rfl,hc,h⟩:=aU h
 obtain⟨d,cs,rfl,hd,h⟩:=aU h
 obtain⟨e,cs,rfl,he,h⟩:=aU h
 have:=fT h;subst this
 obtain⟨es,rfl,h1,h2⟩:=ja undT_22 ha
 obtain⟨l,rfl,hl⟩:=gw (fun x h=>W8 h) es h2
 obtain⟨es',rfl,h3,h4⟩:=ja undT_22 hb
 obtain⟨l',rfl,FK⟩:=gw (fun x h=>W8 h) es' h4
 obtain⟨bs,rfl,DB,hb2⟩:=J9 hc
 obtain⟨es2,rfl,h5,h6⟩:=ja (e:=101) ag hd
 obtain⟨q,rfl,hq⟩:=gw (fun x h=>aaE h) es2 h6
 obtain⟨es3,rfl,h7,h8⟩:=ja (e:=77) ag he
 obtain⟨ms,rfl,_⟩:=gw (fun x h=>aaF h) es3 h8
 have:=jt
 exact⟨⟨⟨l,l'⟩,bs,q,ms⟩,rfl,⟨⟨by simp at h1;simp only;omega,by simp at h3;simp only;omega,hl,FK⟩,DB,by simp at h5;simp only;omega,by simp at h7;simp only;omega,hb2,hq⟩⟩
end Go.Proofs.YtlhemmpklhhgoaaGreat
end
section
namespace Go.Proofs.YtlhemmpklhhgoaaGreat
open Go
def Qu:Nat->Bool:=fun g=> !([159,172,173,174,187,135,162,175,176,177,178,179,180,182,183,188,191,192,201,149,164,165,167,111,136,100,79,63,64,112,104,69]:List Nat).contains g
@[reducible] def zC:D:= .sl [.agg [.str [70,97,108,115,101], .i 0], .agg [.str [84,114,117,101], .i 0], .agg [.str [90], .i 0], .agg [.str [83], .i 1], .agg [.str [78,105,108], .i 0], .agg [.str [67,111,110,115], .i 2]]
@[reducible] def zF:D:= .sl [.agg [.str [97,112,112], .i 2], .agg [.str [111,110,101], .i 0]]
def qw:oe Tryz.prog:=oe.of Qu [] (fun _ h=>by cases h)
end Go.Proofs.YtlhemmpklhhgoaaGreat
end
section
namespace Go.Proofs.YtlhemmpklhhgoaaGreat
open Go
theorem HU:ma Tryz.prog bA qw 5000 119 [.agg [zC,zF]]=some (.ret [.i 0]):=ag
theorem Qv:aX Tryz.prog 119 [.agg [zC,zF]] (.ret [.i 0]):=aX.fe mix ff HU
theorem Ka:ma Tryz.prog bA qw 5000 129 [.agg [zC,zF], .agg [.i 1, .i 0, .sl []]]=some (.ret [.bool true, .bool false, .i 0]):=ag
theorem Xb:aX Tryz.prog 129 [.agg [zC,zF], .agg [.i 1, .i 0, .sl []]] (.ret [.bool true, .bool false, .i 0]):=aX.fe mix ff Ka
theorem Kc:ma Tryz.prog bA qw 5000 129 [.agg [zC,zF], .agg [.i 1, .i 2, .sl []]]=some (.ret [.bool true, .bool false, .i 0]):=ag
theorem Xc:aX Tryz.prog 129 [.agg [zC,zF], .agg [.i 1, .i 2, .sl []]] (.ret [.bool true, .bool false, .i 0]):=aX.fe mix ff Kc
theorem Kd:ma Tryz.prog bA qw 5000 129 [.agg [zC,zF], .agg [.i 3, .i 5, .sl [.agg [.i 1, .i 0, .sl []], .agg [.i 1, .i 1, .sl []]]]]=some (.ret [.bool true, .bool false, .i 0]):=ag
theorem Xd:aX Tryz.prog 129 [.agg [zC,zF], .agg [.i 3, .i 5, .sl [.agg [.i 1, .i 0, .sl []], .agg [.i 1, .i 1, .sl []]]]] (.ret [.bool true, .bool false, .i 0]):=aX.fe mix ff Kd
theorem Ke:ma Tryz.prog bA qw 5000 129 [.agg [zC,zF], .agg [.i 3, .i 5, .sl [.agg [.i 1, .i 2, .sl []], .agg [.i 3, .i 5, .sl [.agg [.i 1, .i 0, .sl []], .agg [.i 3, .i 4, .sl []]]]]]]=some (.ret [.bool true, .bool false, .i 0]):=ag
theorem Xe:aX Tryz.prog 129 [.agg [zC,zF], .agg [.i 3, .i 5, .sl [.agg [.i 1, .i 2, .sl []], .agg [.i 3, .i 5, .sl [.agg [.i 1, .i 0, .sl []], .agg [.i 3, .i 4, .sl []]]]]]] (.ret [.bool true, .bool false, .i 0]):=aX.fe mix ff Ke
theorem Kg:ma Tryz.prog bA qw 5000 129 [.agg [zC,zF], .agg [.i 3, .i 5, .sl [.agg [.i 1, .i 0, .sl []], .agg [.i 3, .i 4, .sl []]]]]=some (.ret [.bool true, .bool false, .i 0]):=ag
theorem Xf:aX Tryz.prog 129 [.agg [zC,zF], .agg [.i 3, .i 5, .sl [.agg [.i 1, .i 0, .sl []], .agg [.i 3, .i 4, .sl []]]]] (.ret [.bool true, .bool false, .i 0]):=aX.fe mix ff Kg
theorem Kh:ma Tryz.prog bA qw 5000 129 [.agg [zC,zF], .agg [.i 3, .i 3, .sl [.agg [.i 1, .i 3, .sl []]]]]=some (.ret [.bool true, .bool false, .i 0]):=ag
theorem Xg:aX Tryz.prog 129 [.agg [zC,zF], .agg [.i 3, .i 3, .sl [.agg [.i 1, .i 3, .sl []]]]] (.ret [.bool true, .bool false, .i 0]):=aX.fe mix ff Kh
theorem Ki:ma Tryz.prog bA qw 5000 129 [.agg [zC,zF], .agg [.i 3, .i 3, .sl [.agg [.i 3, .i 2, .sl []]]]]=some (.ret [.bool true, .bool true, .i 0]):=ag
theorem Xh:aX Tryz.prog 129 [.agg [zC,zF], .agg [.i 3, .i 3, .sl [.agg [.i 3, .i 2, .sl []]]]] (.ret [.bool true, .bool true, .i 0]):=aX.fe mix ff Ki
def zX:oe Tryz.prog:=oe.of Qu [(119,[.agg [zC,zF]], .ret [.i 0]),(129,[.agg [zC,zF], .agg [.i 1, .i 0, .sl []]], .ret [.bool true, .bool false, .i 0]),(129,[.agg [zC,zF], .agg [.i 1, .i 2, .sl []]], .ret [.bool true, .bool false, .i 0]),(129,[.agg [zC,zF], .agg [.i 3, .i 5, .sl [.agg [.i 1, .i 0, .sl []], .agg [.i 1, .i 1, .sl []]]]], .ret [.bool true, .bool false, .i 0]),(129,[.agg [zC,zF], .agg [.i 3, .i 5, .sl [.agg [.i 1, .i 2, .sl []], .agg [.i 3, .i 5, .sl [.agg [.i 1, .i 0, .sl []], .agg [.i 3, .i 4, .sl []]]]]]], .ret [.bool true, .bool false, .i 0]),(129,[.agg [zC,zF], .agg [.i 3, .i 5, .sl [.agg [.i 1, .i 0, .sl []], .agg [.i 3, .i 4, .sl []]]]], .ret [.bool true, .bool false, .i 0]),(129,[.agg [zC,zF], .agg [.i 3, .i 3, .sl [.agg [.i 1, .i 3, .sl []]]]], .ret [.bool true, .bool false, .i 0]),(129,[.agg [zC,zF], .agg [.i 3, .i 3, .sl [.agg [.i 3, .i 2, .sl []]]]], .ret [.bool true, .bool true, .i 0])] (fun x h=>by
 simp only[List.mem_cons,List.not_mem_nil,or_false]at h
 rcases h with rfl|rfl|rfl|rfl|rfl|rfl|rfl|rfl
 ·exact Qv
 ·exact Xb
 ·exact Xc
 ·exact Xd
 ·exact Xe
 ·exact Xf
 ·exact Xg
 ·exact Xh)
end Go.Proofs.YtlhemmpklhhgoaaGreat
end
section
namespace Go.Proofs.YtlhemmpklhhgoaaGreat
open Go
theorem Qw:ma Tryz.prog bA zX 5000 15 [.agg [zC,zF, .sl [], .sl [], .sl []], .agg [.i 3, .i 5, .sl [.agg [.i 1, .i 0, .sl []], .agg [.i 1, .i 1, .sl []]]], .agg [.i 3, .i 5, .sl [.agg [.i 1, .i 2, .sl []], .agg [.i 3, .i 5, .sl [.agg [.i 1, .i 0, .sl []], .agg [.i 3, .i 4, .sl []]]]]]]=some (.ret [.agg [zC,zF, .sl [.agg [.i 2, .i 1, .i 0, .sl []], .agg [.i 1, .i 3, .i 5, .sl [.agg [.i 1, .i 0, .sl []], .agg [.i 3, .i 4, .sl []]]]], .sl [], .sl []], .i 0]):=ag
theorem aaG:aX Tryz.prog 15 [.agg [zC,zF, .sl [], .sl [], .sl []], .agg [.i 3, .i 5, .sl [.agg [.i 1, .i 0, .sl []], .agg [.i 1, .i 1, .sl []]]], .agg [.i 3, .i 5, .sl [.agg [.i 1, .i 2, .sl []], .agg [.i 3, .i 5, .sl [.agg [.i 1, .i 0, .sl []], .agg [.i 3, .i 4, .sl []]]]]]] (.ret [.agg [zC,zF, .sl [.agg [.i 2, .i 1, .i 0, .sl []], .agg [.i 1, .i 3, .i 5, .sl [.agg [.i 1, .i 0, .sl []], .agg [.i 3, .i 4, .sl []]]]], .sl [], .sl []], .i 0]):=aX.fe mix ff Qw
end Go.Proofs.YtlhemmpklhhgoaaGreat
end
section
namespace Go.Proofs.YtlhemmpklhhgoaaGreat
open Go
theorem Qx:ma Tryz.prog bA zX 5000 16 [.agg [zC,zF, .sl [.agg [.i 2, .i 1, .i 0, .sl []], .agg [.i 1, .i 3, .i 5, .sl [.agg [.i 1, .i 0, .sl []], .agg [.i 3, .i 4, .sl []]]]], .sl [], .sl []], .agg [.i 3, .i 3, .sl [.agg [.i 1, .i 3, .sl []]]], .agg [.i 1, .i 2, .sl []]]=some (.ret [.agg [zC,zF, .sl [.agg [.i 2, .i 1, .i 0, .sl []], .agg [.i 1, .i 3, .i 5, .sl [.agg [.i 1, .i 0, .sl []], .agg [.i 3, .i 4, .sl []]]]], .sl [.agg [.i 3, .i 3, .sl [.agg [.i 1, .i 3, .sl []]], .i 1, .i 2, .sl []]], .sl []], .i 0]):=ag
theorem aaH:aX Tryz.prog 16 [.agg [zC,zF, .sl [.agg [.i 2, .i 1, .i 0, .sl []], .agg [.i 1, .i 3, .i 5, .sl [.agg [.i 1, .i 0, .sl []], .agg [.i 3, .i 4, .sl []]]]], .sl [], .sl []], .agg [.i 3, .i 3, .sl [.agg [.i 1, .i 3, .sl []]]], .agg [.i 1, .i 2, .sl []]] (.ret [.agg [zC,zF, .sl [.agg [.i 2, .i 1, .i 0, .sl []], .agg [.i 1, .i 3, .i 5, .sl [.agg [.i 1, .i 0, .sl []], .agg [.i 3, .i 4, .sl []]]]], .sl [.agg [.i 3, .i 3, .sl [.agg [.i 1, .i 3, .sl []]], .i 1, .i 2, .sl []]], .sl []], .i 0]):=aX.fe mix ff Qx
end Go.Proofs.YtlhemmpklhhgoaaGreat
end
section
namespace Go.Proofs.YtlhemmpklhhgoaaGreat
open Go
theorem Qy:ma Tryz.prog bA zX 5000 15 [.agg [zC,zF, .sl [.agg [.i 2, .i 1, .i 0, .sl []], .agg [.i 1, .i 3, .i 5, .sl [.agg [.i 1, .i 0, .sl []], .agg [.i 3, .i 4, .sl []]]]], .sl [.agg [.i 3, .i 3, .sl [.agg [.i 1, .i 3, .sl []]], .i 1, .i 2, .sl []]], .sl []], .agg [.i 1, .i 0, .sl []], .agg [.i 3, .i 3, .sl [.agg [.i 1, .i 3, .sl []]]]]=some (.ret [.agg [.sl [], .sl [], .sl [], .sl [], .sl []], .i 5]):=ag
theorem aaI:aX Tryz.prog 15 [.agg [zC,zF, .sl [.agg [.i 2, .i 1, .i 0, .sl []], .agg [.i 1, .i 3, .i 5, .sl [.agg [.i 1, .i 0, .sl []], .agg [.i 3, .i 4, .sl []]]]], .sl [.agg [.i 3, .i 3, .sl [.agg [.i 1, .i 3, .sl []]], .i 1, .i 2, .sl []]], .sl []], .agg [.i 1, .i 0, .sl []], .agg [.i 3, .i 3, .sl [.agg [.i 1, .i 3, .sl []]]]] (.ret [.agg [.sl [], .sl [], .sl [], .sl [], .sl []], .i 5]):=aX.fe mix ff Qy
end Go.Proofs.YtlhemmpklhhgoaaGreat
end
section
namespace Go.Proofs.YtlhemmpklhhgoaaGreat
open Go
theorem Qz:ma Tryz.prog bA zX 5000 24 [.agg [zC,zF, .sl [.agg [.i 2, .i 1, .i 0, .sl []], .agg [.i 1, .i 3, .i 5, .sl [.agg [.i 1, .i 0, .sl []], .agg [.i 3, .i 4, .sl []]]]], .sl [.agg [.i 3, .i 3, .sl [.agg [.i 1, .i 3, .sl []]], .i 1, .i 2, .sl []]], .sl []]]=some (.ret [.agg [.sl [.agg [.i 1, .i 3, .i 5, .sl [.agg [.i 1, .i 0, .sl []], .agg [.i 3, .i 4, .sl []]]], .agg [.i 2, .i 1, .i 0, .sl []]], .sl [.sl [.agg [.i 0, .i 3, .i 3, .sl [.agg [.i 1, .i 3, .sl []]]]]]], .i 0]):=ag
theorem aaJ:aX Tryz.prog 24 [.agg [zC,zF, .sl [.agg [.i 2, .i 1, .i 0, .sl []], .agg [.i 1, .i 3, .i 5, .sl [.agg [.i 1, .i 0, .sl []], .agg [.i 3, .i 4, .sl []]]]], .sl [.agg [.i 3, .i 3, .sl [.agg [.i 1, .i 3, .sl []]], .i 1, .i 2, .sl []]], .sl []]] (.ret [.agg [.sl [.agg [.i 1, .i 3, .i 5, .sl [.agg [.i 1, .i 0, .sl []], .agg [.i 3, .i 4, .sl []]]], .agg [.i 2, .i 1, .i 0, .sl []]], .sl [.sl [.agg [.i 0, .i 3, .i 3, .sl [.agg [.i 1, .i 3, .sl []]]]]]], .i 0]):=aX.fe mix ff Qz
end Go.Proofs.YtlhemmpklhhgoaaGreat
end
section
namespace Go.Proofs.YtlhemmpklhhgoaaGreat
open Go
theorem QA:ma Tryz.prog bA zX 5000 35 [.agg [zC,zF, .sl [.agg [.i 2, .i 1, .i 0, .sl []], .agg [.i 1, .i 3, .i 5, .sl [.agg [.i 1, .i 0, .sl []], .agg [.i 3, .i 4, .sl []]]]], .sl [.agg [.i 3, .i 3, .sl [.agg [.i 1, .i 3, .sl []]], .i 1, .i 2, .sl []]], .sl []], .agg [.i 1, .i 0, .sl []], .agg [.i 3, .i 3, .sl [.agg [.i 3, .i 2, .sl []]]]]=some (.ret [.i 3, .i 0]):=ag
theorem aaK:aX Tryz.prog 35 [.agg [zC,zF, .sl [.agg [.i 2, .i 1, .i 0, .sl []], .agg [.i 1, .i 3, .i 5, .sl [.agg [.i 1, .i 0, .sl []], .agg [.i 3, .i 4, .sl []]]]], .sl [.agg [.i 3, .i 3, .sl [.agg [.i 1, .i 3, .sl []]], .i 1, .i 2, .sl []]], .sl []], .agg [.i 1, .i 0, .sl []], .agg [.i 3, .i 3, .sl [.agg [.i 3, .i 2, .sl []]]]] (.ret [.i 3, .i 0]):=aX.fe mix ff QA
end Go.Proofs.YtlhemmpklhhgoaaGreat
end
section
namespace Go.Proofs.YtlhemmpklhhgoaaGreat
open Go
def Xi:oe Tryz.prog:=oe.of Qu [(15,[.agg [zC,zF, .sl [], .sl [], .sl []], .agg [.i 3, .i 5, .sl [.agg [.i 1, .i 0, .sl []], .agg [.i 1, .i 1, .sl []]]], .agg [.i 3, .i 5, .sl [.agg [.i 1, .i 2, .sl []], .agg [.i 3, .i 5, .sl [.agg [.i 1, .i 0, .sl []], .agg [.i 3, .i 4, .sl []]]]]]], .ret [.agg [zC,zF, .sl [.agg [.i 2, .i 1, .i 0, .sl []], .agg [.i 1, .i 3, .i 5, .sl [.agg [.i 1, .i 0, .sl []], .agg [.i 3, .i 4, .sl []]]]], .sl [], .sl []], .i 0]),(16,[.agg [zC,zF, .sl [.agg [.i 2, .i 1, .i 0, .sl []], .agg [.i 1, .i 3, .i 5, .sl [.agg [.i 1, .i 0, .sl []], .agg [.i 3, .i 4, .sl []]]]], .sl [], .sl []], .agg [.i 3, .i 3, .sl [.agg [.i 1, .i 3, .sl []]]], .agg [.i 1, .i 2, .sl []]], .ret [.agg [zC,zF, .sl [.agg [.i 2, .i 1, .i 0, .sl []], .agg [.i 1, .i 3, .i 5, .sl [.agg [.i 1, .i 0, .sl []], .agg [.i 3, .i 4, .sl []]]]], .sl [.agg [.i 3, .i 3, .sl [.agg [.i 1, .i 3, .sl []]], .i 1, .i 2, .sl []]], .sl []], .i 0]),(15,[.agg [zC,zF, .sl [.agg [.i 2, .i 1, .i 0, .sl []], .agg [.i 1, .i 3, .i 5, .sl [.agg [.i 1, .i 0, .sl []], .agg [.i 3, .i 4, .sl []]]]], .sl [.agg [.i 3, .i 3, .sl [.agg [.i 1, .i 3, .sl []]], .i 1, .i 2, .sl []]], .sl []], .agg [.i 1, .i 0, .sl []], .agg [.i 3, .i 3, .sl [.agg [.i 1, .i 3, .sl []]]]], .ret [.agg [.sl [], .sl [], .sl [], .sl [], .sl []], .i 5]),(24,[.agg [zC,zF, .sl [.agg [.i 2, .i 1, .i 0, .sl []], .agg [.i 1, .i 3, .i 5, .sl [.agg [.i 1, .i 0, .sl []], .agg [.i 3, .i 4, .sl []]]]], .sl [.agg [.i 3, .i 3, .sl [.agg [.i 1, .i 3, .sl []]], .i 1, .i 2, .sl []]], .sl []]], .ret [.agg [.sl [.agg [.i 1, .i 3, .i 5, .sl [.agg [.i 1, .i 0, .sl []], .agg [.i 3, .i 4, .sl []]]], .agg [.i 2, .i 1, .i 0, .sl []]], .sl [.sl [.agg [.i 0, .i 3, .i 3, .sl [.agg [.i 1, .i 3, .sl []]]]]]], .i 0]),(35,[.agg [zC,zF, .sl [.agg [.i 2, .i 1, .i 0, .sl []], .agg [.i 1, .i 3, .i 5, .sl [.agg [.i 1, .i 0, .sl []], .agg [.i 3, .i 4, .sl []]]]], .sl [.agg [.i 3, .i 3, .sl [.agg [.i 1, .i 3, .sl []]], .i 1, .i 2, .sl []]], .sl []], .agg [.i 1, .i 0, .sl []], .agg [.i 3, .i 3, .sl [.agg [.i 3, .i 2, .sl []]]]], .ret [.i 3, .i 0])] (fun x h=>by
 simp only[List.mem_cons,List.not_mem_nil,or_false]at h
 rcases h with rfl|rfl|rfl|rfl|rfl
 ·exact aaG
 ·exact aaH
 ·exact aaI
 ·exact aaJ
 ·exact aaK)
theorem zY:ma Tryz.prog bA Xi 5000 14 []=some (.ret [.bool true]):=ag
theorem Kj:aX Tryz.prog 14 [] (.ret [.bool true]):=aX.fe mix ff zY
end Go.Proofs.YtlhemmpklhhgoaaGreat
end
section
namespace Go.Proofs.YtlhemmpklhhgoaaGreat
open Go.ChangeShapes Go.WideShapes Go.RowKit
set_option maxRecDepth 100000 in
theorem oM(os:Os)(started:os.Started)(H:Type)(enc:TypeId×Value->H):
 ReturnsInHanded {} Tryz.checked os 9 .any (Rows.equalBacksSpec.pre6 enc Tryz.prog Tryz.f9 Rows.equalBacksRow.domain false) (Rows.equalBacksSpec.post enc Tryz.prog Tryz.f9 Rows.equalBacksRow.apart Rows.equalBacksRow.fresh Rows.equalBacksRow.handsOn Rows.equalBacksRow.again):=by
 refine returnsInHanded_of_change (C:=Tryz.checked) ag started ag Tryz.func9
  (ChangeSpec.witness6 (enc:=enc) (C:=Tryz.checked) false ⟨#[],#[.agg #[.slice none 0 0, .slice none 0 0, .slice none 0 0, .slice none 0 0, .slice none 0 0]],[]⟩ 8 ag ag ag ag) ?_
 intro W base args ds gs before eP hW _ _
 refine xf (T:=[29,24,22,124,9,3,25,59,31,33,30,26,101,27,77]) (tb:=4) ag ag rfl (fun ds h=>by match ds,h with|[_],_=>rfl) ag (by intro t ht;rw[Tryz.params9]at ht;simp at ht;subst ht;simp) ag (by intro t ht;rw[Tryz.params9]at ht;simp at ht;subst ht;exact⟨ag,of_decide_eq_true ag⟩)
  (fun xs hx=> ?_) base args ds gs before eP hW
 rw[Tryz.params9]at hx
 obtain⟨x0,xs,rfl,YG,hx⟩:=aU hx
 have:=fT hx;subst this
 obtain⟨q0,rfl,hq0⟩:=Xa YG
 exact xe Kj q0 hq0
theorem equalBacks_holds:Rows.EqualBacksSaid:=
 OpenClaim.holds_of_wide 9 Tryz.f9 rfl rfl rfl rfl rfl rfl rfl ⟨rfl,rfl,rfl,rfl,rfl⟩ rfl rfl rfl rfl rfl ag Tryz.func9 ag
  (of_decide_eq_true ag) (by unfold Func.isWrapper;first|(rw[if_pos (by decide+kernel)];kernel_rfl)|(rw[if_neg (by decide+kernel)];exact⟨rfl,rfl⟩))
  (fun os started H enc _=>oM os started H enc)
end Go.Proofs.YtlhemmpklhhgoaaGreat
end
