/-
  A PART OF THE PROOF. Conditions: none.
-/
import Derived.OpenShut
import Derived.Carry
import Derived.Handed
import Derived.JoinedOf
import Derived.ProofKit
import Derived.Test.YtnkamdiiakdkgaaGreatEl19
set_option linter.unusedSimpArgs false
set_option linter.unusedVariables false
section
namespace Go.Proofs.YtnkamdiiakdkgaaGreat
open Go.ChangeShapes Go.WideShapes Go.RowKit
def wP(P:Program)(rec:TypeId->Option (List TypeId)):Nat->List Field->Option (List TypeId)
 |_,[]=>some []
 |off,f::fs=>if f.offset=off then match rec f.type with
  |some l=>if P.cellsOf f.type=l.length then(wP P rec (off+l.length) fs).map (l++·)else none
  |none=>none else none
def mQ(P:Program):Nat->TypeId->Option (List TypeId)
 |0,_=>none
 |n+1,t=>match P.underlying t with
  |some .bool|some (.int _)|some .string|some (.slice _)=>some [t]
  |some (.struct fs)=>wP P (mQ P n) 0 fs.toList
  |some (.array k e)=>match mQ P n e with
   |some l=>if P.cellsOf e=l.length then some (List.replicate k l).flatten else none
   |none=>none
  |_=>none
def isAgg(P:Program)(t:TypeId):Bool:=match P.underlying t with
 |some (.struct _)|some (.array _ _)=>true
 |_=>false
mutual
def D.jj (P:Program):D->TypeId->Prop
 | .int k n,t=>P.underlying t=some (.int k)/\(Lit.int k n).wf=true
 | .bool _,t=>P.underlying t=some .bool
 | .str l,t=>P.underlying t=some .string/\l.length<=maxLen
 | .sl es,t=>∃e,P.underlying t=some (.slice e)/\es.length<=maxLen/\D.Kc P es e
 | .agg cs,t=>isAgg P t=true/\∃ls,mQ P 20 t=some ls/\D.iR P cs ls
 |_,_=>False
def D.Kc (P:Program):List D->TypeId->Prop
 |[],_=>True
 |x::l,e=>D.jj P x e/\D.Kc P l e
def D.iR (P:Program):List D->List TypeId->Prop
 |[],ts=>ts=[]
 |x::l,ts=>∃t r,ts=t::r/\D.jj P x t/\D.iR P l r
end
def uU(P:Program)(T:List TypeId):Bool:=T.all fun t=>match mQ P 20 t with
 |some l=>decide (l.length=P.cellsOf t)&&decide (0<l.length)&&l.all fun u=>match P.underlying u with
  |some (.slice e)=>T.contains e
  |_=>true
 |none=>false
theorem ru{P:Program}:∀ {xs ys:List D} {l r:List TypeId},D.iR P xs l->D.iR P ys r->D.iR P (xs++ys) (l++r)
 |[],_,_,_,h,h'=>by simp only[D.iR]at h;subst h;exact h'
 |x::xs,_,_,_,h,h'=>by
  obtain⟨t,r,rfl,h1,h2⟩:=h
  exact⟨t,_,rfl,h1,ru h2 h'⟩
theorem br{B:Nat->Prop}{w:World}:∀ {xs ys:List D} {l r:List Value},D.aB B w xs l->D.aB B w ys r->D.aB B w (xs++ys) (l++r)
 |[],_,_,_,h,h'=>by simp only[D.aB]at h;subst h;exact h'
 |x::xs,_,_,_,h,h'=>by
  obtain⟨t,r,rfl,h1,h2⟩:=h
  exact⟨t,_,rfl,h1,br h2 h'⟩
theorem Flat.append {l r:List Value}(h:Flat l)(h':Flat r):Flat (l++r):=fun u hu=>(List.mem_append.1 hu).elim (h u) (h' u)
abbrev Yc:Nat->Prop:=fun _=>False
section
variable {H:Type}{enc:TypeId×Value->H}{P:Program}{W:World}{T:List TypeId}{b0:Nat}
def dt(P:Program)(W:World)(l:List TypeId)(cs:List Value):Prop:=∃xs,D.iR P xs l/\D.aB Yc W xs cs/\Flat cs
theorem dt.append {l r:List TypeId}{cs ds:List Value}(h:dt P W l cs)(h':dt P W r ds):dt P W (l++r) (cs++ds):=by
 obtain⟨xs,a1,a2,a3⟩:=h
 obtain⟨ys,b1,b2,b3⟩:=h'
 exact⟨xs++ys,ru a1 b1,br a2 b2,a3.append b3⟩
theorem dt.length {l:List TypeId}{cs:List Value}(h:dt P W l cs):cs.length=l.length:=by
 obtain⟨xs,a1,a2,_⟩:=h
 rw[D.aA _ _ a2]
 clear a2
 induction xs generalizing l with
 |nil=>simp only[D.iR]at a1;simp[a1]
 |cons x xs ih=>obtain⟨t,r,rfl,_,h⟩:=a1;simp[ih h]
theorem dt.nil:dt P W [] []:=⟨[],rfl,rfl,fun _ h=>by cases h⟩
theorem D7{α:Type}(cs:List α)(o k:Nat):cs.drop o=(cs.drop o).take k++cs.drop (o+k):=by
 rw[<- List.drop_drop];exact(List.take_append_drop k _).symm
theorem rv{rec:TypeId->Option (List TypeId)}{cs:List Value}{rd:TypeId->List Value->Prop}
 (bC:∀t l vs,rec t=some l->(∀u∈l,∀e,P.underlying u=some (.slice e)->e∈T)->P.cellsOf t=l.length->rd t vs->dt P W l vs):
 ∀ (fs:List Field) (off:Nat) (l:List TypeId),wP P rec off fs=some l->(∀u∈l,∀e,P.underlying u=some (.slice e)->e∈T)->(∀f∈fs,rd f.type ((cs.drop f.offset).take (P.cellsOf f.type)))->
   off+l.length=cs.length->dt P W l (cs.drop off)
 |[],off,l,h,_,_,hl=>by
  simp only[wP,Option.some.injEq]at h
  subst h
  have:cs.drop off=[]:=List.drop_eq_nil_of_le (by simp at hl;omega)
  rw[this];exact dt.nil
 |f::fs,off,l,h,hT,hr,hl=>by
  simp only[wP]at h
  split at h
  ·rename_i ho
   split at h
   ·rename_i l1 h1
    split at h
    ·rename_i hc
     simp only[Option.map_eq_some_iff]at h
     obtain⟨r,h2,rfl⟩:=h
     have hd:=hr f aI
     rw[ho,hc]at hd
     rw[D7 cs off l1.length]
     simp only[List.length_append]at hl
     exact(bC f.type l1 _ h1 (fun u hu=>hT u (by simp[hu])) hc hd).append (rv bC fs _ r h2 (fun u hu=>hT u (by simp[hu])) (fun f hf=>hr f (by simp[hf])) ag)
    ·cases h
   ·cases h
  ·cases h
theorem tR{l:List TypeId}{cs:List Value}:∀ (k i:Nat),(∀j,j<k->dt P W l ((cs.drop ((i+j)*l.length)).take l.length))->(i+k)*l.length=cs.length->dt P W (List.replicate k l).flatten (cs.drop (i*l.length))
 |0,i,_,hl=>by
  have:cs.drop (i*l.length)=[]:=List.drop_eq_nil_of_le (by simp at hl;omega)
  rw[this];exact dt.nil
 |k+1,i,h,hl=>by
  rw[List.replicate_succ,List.flatten_cons,D7 cs (i*l.length) l.length]
  refine(by simpa using h 0 ag:dt P W l _).append ?_
  rw[show i*l.length+l.length=(i+1)*l.length by rw[Nat.add_mul];omega]
  refine tR k (i+1) (fun j hj=> ?_) (by rw[<- hl];congr 1;omega)
  have:=h (j+1) ag
  rwa [show i+(j+1)=i+1+j by omega]at this
theorem D8{e:TypeId}{l:List TypeId}{cs:List Value}(hl:mQ P 20 e=some l)(h:dt P W l cs):∃ (ev:Value) (x:D),ev.cells.toList=cs/\D.jj P x e/\D.den Yc W x ev/\(isAgg P e=true->ev= .agg cs.toArray)/\(isAgg P e=false->cs=[ev]/\ev.oneCell'=true):=by
 obtain⟨xs,h1,h2,h3⟩:=h
 cases ha:isAgg P e with
 |true=>exact⟨.agg cs.toArray, .agg xs,by simp[Value.cells],⟨ha,l,hl,h1⟩,⟨_,rfl,by simpa using h2,by simpa using h3⟩,fun _=>rfl,(fun h=>by cases h)⟩
 |false=>
  have:l=[e]:=by
   unfold mQ at hl
   unfold isAgg at ha
   split at hl<;>simp_all
  subst this
  obtain⟨t,r,e1,h4,h5⟩:∃x r,xs=x::r/\D.jj P x e/\D.iR P r []:=by
   cases xs with
   |nil=>simp[D.iR]at h1
   |cons x r=>obtain⟨t,r',e1,h4,h5⟩:=h1;injection e1 with e1 e2;subst e1;subst e2;exact⟨x,r,rfl,h4,h5⟩
  subst e1
  have:r=[]:=by cases r with
   |nil=>rfl
   |cons y r=>obtain⟨_,_,e,_⟩:=h5;cases e
  subst this
  obtain⟨u,us,rfl,h6,h7⟩:=h2
  simp only[D.aB]at h7
  subst h7
  have ho:=h3 u aI
  refine⟨u,t, ?_,h4,h6,(fun h=>by cases h),fun _=>⟨rfl,ho⟩⟩
  cases u<;>simp_all[Value.oneCell',Value.cells]
theorem D9(hp:uU P T=true){t:TypeId}(ht:t∈T):∃l,mQ P 20 t=some l/\l.length=P.cellsOf t/\0<l.length/\∀u∈l,∀e,P.underlying u=some (.slice e)->e∈T:=by
 have:=List.all_eq_true.1 hp t ht
 split at this
 ·rename_i l hl
  simp only[Bool.and_eq_true,decide_eq_true_eq,List.all_eq_true]at this
  refine⟨l,hl,this.1.1,this.1.2,fun u hu e he=> ?_⟩
  have:=this.2 u hu
  rw[he]at this
  simpa using this
 ·cases this
theorem F9(hp:uU P T=true):∀ (n m:Nat) (t:TypeId) (l:List TypeId) (cs:List Value) (x:DataW H×List MemPlace),mQ P m t=some l->(∀u∈l,∀e,P.underlying u=some (.slice e)->e∈T)->
 P.cellsOf t=l.length->DataW.trod enc P W 0 (fun _=>true) true n t cs=some x->dt P W l cs:=by
 intro n
 induction n with
 |zero=>intro m t l cs x _ _ _ h;simp[DataW.trod]at h
 |succ n ih=>
  intro m t l cs x hl hT hc h
  cases m with
  |zero=>simp[mQ]at hl
  |succ m=>
  unfold mQ at hl
  split at hl
  ·rename_i hu
   injection hl with hl;subst hl
   obtain⟨b,rfl,_⟩:=DataW.trod_bool hu h
   exact⟨[.bool b],⟨t,[],rfl,hu,rfl⟩,⟨_,_,rfl,rfl,rfl⟩,by simp[Flat,Value.oneCell']⟩
  ·rename_i k hu
   injection hl with hl;subst hl
   obtain⟨b,rfl,_,hw⟩:=DataW.trod_int hu h
   exact⟨[.int k b],⟨t,[],rfl,⟨hu,hw⟩,rfl⟩,⟨_,_,rfl,rfl,rfl⟩,by simp[Flat,Value.oneCell']⟩
  ·rename_i hu
   injection hl with hl;subst hl
   obtain⟨s,rfl,_,hw⟩:=DataW.trod_string hu h
   exact⟨[.str s.data.toList],⟨t,[],rfl,⟨hu,by simpa using hw⟩,rfl⟩,⟨_,_,rfl,⟨s,rfl,rfl⟩,rfl⟩,by simp[Flat,Value.oneCell']⟩
  ·rename_i e hu
   injection hl with hl;subst hl
   rcases DataW.trod_slice hu h with⟨rfl,_⟩|⟨a,len,cap,elems,rest,n',hn,rfl,_,_,h2,h3,h4,h5,h6,_⟩
   ·exact⟨[.sl []],⟨t,[],rfl,⟨e,hu,aI,trivial⟩,rfl⟩,⟨_,_,rfl,⟨none,0,0,rfl,rfl,aI,fun _=>rfl,0,(fun a ha=>by cases ha)⟩,rfl⟩,by simp[Flat,Value.oneCell']⟩
   ·injection hn with hn;subst hn
    obtain⟨l',g1,g2,g3,g4⟩:=D9 hp (hT t aI e hu)
    have at':∀i,i<len->∃ev:Value,∃y:D,ev.cells.size=P.cellsOf e/\gI Yc W (a.add (i*P.cellsOf e)) ev.cells/\D.den Yc W y ev/\D.jj P y e:=by
     intro i hi
     have:=h5 i hi
     rw[List.getElem?_eq_getElem (by omega)]at this
     obtain⟨ci,k1,k2⟩:=Option.bind_eq_some_iff.1 this
     obtain⟨_,k3,k4⟩:=World.cells?_some k1
     have k5:=ih 20 e l' ci _ g1 g4 g2.symm k2
     obtain⟨ev,y,q1,q2,q3,_,_⟩:=D8 g1 k5
     have q4:ev.cells=ci.toArray:=by rw[<- q1]
     refine⟨ev,y,by rw[q4];simp[k5.length,g2],fun j u hj=>⟨?_,fun h=>h⟩,q3,q2⟩
     rw[q4]at hj
     have GK:ci[j]? =some u:=by simpa using hj
     have cG:j<P.cellsOf e:=by rw[<- g2, <- k5.length];exact(List.getElem?_eq_some_iff.1 GK).1
     rw[k4 j cG];exact GK
    have list:∀k i,i+k=len->∃es,es.length=k/\D.Kc P es e/\D.elems Yc W (P.cellsOf e) a i es:=by
     intro k
     induction k with
     |zero=>intro i _;exact⟨[],rfl,trivial,trivial⟩
     |succ k ihk=>
      intro i hi
      obtain⟨es,e1,e2,e3⟩:=ihk (i+1) ag
      obtain⟨ev,y,y1,y2,y3,y4⟩:=at' i ag
      exact⟨y::es,by simp[e1],⟨y4,e2⟩,⟨ev,y1,y2,y3⟩,e3⟩
    obtain⟨es,e1,e2,e3⟩:=list len 0 ag
    have aev:cap≠0->a.spot=none:=by
     intro fu
     have Ud:∀z,(W.cells? 0 (a.add (0*P.cellsOf e)) (P.cellsOf e)).bind (DataW.trod enc P W 0 (fun _=>true) true n e)=some z->a.spot=none:=by
      intro z hz
      obtain⟨ci,k1,k2⟩:=Option.bind_eq_some_iff.1 hz
      obtain⟨_,k3,k4⟩:=World.cells?_some k1
      have k5:=k4 0 ag
      rw[List.getElem?_eq_getElem (by omega)]at k5
      simpa[Addr.add]using World.cell?_spot k5
     by_cases hlen:0<len
     ·have:=h5 0 hlen
      rw[List.getElem?_eq_getElem (by omega)]at this
      exact Ud _ this
     ·obtain⟨h7,h8⟩:=h6 rfl
      have:=h8 0 ag
      rw[List.getElem?_eq_getElem (by omega),show(len+0)=0 by omega]at this
      exact Ud _ this
    exact⟨[.sl es],⟨t,[],rfl,⟨e,hu,ag,e2⟩,rfl⟩,⟨_,_,rfl,⟨some a,len,cap,rfl,e1.symm,h2,(fun h=>by cases h),P.cellsOf e,(fun a' ZW=>by injection ZW with ZW;subst ZW;exact⟨aev,e3⟩)⟩,rfl⟩,by simp[Flat,Value.oneCell']⟩
  ·rename_i fs hu
   obtain⟨xs,n',hn,_,h2,h3,h4⟩:=DataW.trod_struct hu h
   injection hn with hn;subst hn
   have:=rv (P:=P) (W:=W) (T:=T) (cs:=cs) (rd:=fun t vs=>∃y,DataW.trod enc P W 0 (fun _=>true) true n t vs=some y) (rec:=mQ P m) (fun t l vs q1 q2 q3 ⟨y,q4⟩=>ih m t l vs y q1 q2 q3 q4) fs.toList 0 l hl hT ?_ ag
   ·simpa using this
   ·intro f hf
    obtain⟨i,hi,hfi⟩:=List.getElem_of_mem hf
    have:=h4 i f (by simp at hi;simp[<- hfi,Array.getElem?_eq_getElem hi])
    rw[List.getElem?_eq_getElem (by simp at hi;omega)]at this
    exact⟨_,this⟩
  ·rename_i k e hu
   split at hl
   ·rename_i l' Pk
    split at hl
    ·rename_i hce
     injection hl with hl;subst hl
     obtain⟨xs,n',hn,_,h2,h3,h4⟩:=DataW.trod_array hu h
     injection hn with hn;subst hn
     have hlen:cs.length=k*l'.length:=by rw[h2,hc];simp
     have hT':0<k->∀u∈l',∀e,P.underlying u=some (.slice e)->e∈T:=fun hk u hu=>hT u (List.mem_flatten.2 ⟨l',List.mem_replicate.2 ⟨ag,rfl⟩,hu⟩)
     have:=tR (P:=P) (W:=W) (l:=l') (cs:=cs) k 0 (fun j hj=> ?_) (by rw[hlen];simp)
     ·simpa using this
     ·have:=h4 j hj
      rw[hce,List.getElem?_eq_getElem (by omega)]at this
      rw[Nat.zero_add]
      exact ih m e l' _ _ Pk (hT' ag) hce this
    ·cases hl
   ·cases hl
  ·cases hl
theorem zA(hp:uU P T=true):∀ (ts:List TypeId) (vs:List Value) (ds:List (DataW H)) (p:List MemPlace),(∀t∈ts,t∈T)->DataW.TrodAll enc P W 0 (fun _=>true) true ts vs ds p->
 (∀ (j:Nat) t v,ts[j]? =some t->vs[j]? =some v->Value.okWide P W .any b0 t v)->∃xs,D.iR P xs ts/\D.aB Yc W xs vs
 |[],vs,ds,p,_,h,_=>by
  obtain⟨rfl,rfl,rfl⟩:=trodAll_nil h
  exact⟨[],rfl,rfl⟩
 |t::ts,vs,ds,p,hT,h,hv=>by
  obtain⟨v,vs',d,ds',p1,q1,rfl,rfl,rfl,⟨n,h1⟩,h2⟩:=trodAll_cons h
  obtain⟨xs,a1,a2⟩:=zA hp ts vs' ds' q1 (fun t ht=>hT t (by simp[ht])) h2 (fun j t v h1 h2=>hv (j+1) t v (by simpa using h1) uZ)
  obtain⟨l,g1,g2,g3,g4⟩:=D9 hp (hT t aI)
  obtain⟨ev,x,q1,q2,q3,q4,q5⟩:=D8 g1 (F9 hp n 20 t l _ _ g1 g4 g2.symm h1)
  have aW:=hv 0 t v rfl rfl
  have:ev=v:=by
   cases ha:isAgg P t with
   |true=>
    have:∃cs,v= .agg cs:=by
     unfold isAgg at ha
     unfold Value.okWide at aW
     split at ha
     ·rename_i hu;rw[hu]at aW;obtain⟨cs,rfl,_⟩:=aW;exact⟨cs,rfl⟩
     ·rename_i hu;rw[hu]at aW;obtain⟨cs,rfl,_⟩:=aW;exact⟨cs,rfl⟩
     ·cases ha
    obtain⟨cs,rfl⟩:=this
    rw[q4 ha]
    simp[Value.cells]
   |false=>
    obtain⟨q6,q7⟩:=q5 ha
    cases v with
    |agg cs=>
     exfalso
     unfold isAgg at ha
     unfold Value.okWide at aW
     split at aW
     ·rename_i hu;rw[hu]at ha;cases ha
     ·rename_i hu;rw[hu]at ha;cases ha
     ·unfold Cell.okWide at aW
      split at aW
      case h_8=>
       unfold Cell.ok at aW
       split at aW<;>first|exact aW|contradiction
      all_goals contradiction
    |_=>simp only[Value.cells,List.cons.injEq,and_true]at q6;exact q6.symm
  subst this
  exact⟨x::xs,⟨t,ts,rfl,q2,a1⟩,⟨_,_,rfl,q3,a2⟩⟩
theorem dM.below {w w':World}(h:dM (fun _=>False) w w'):Below w.heap.size w w':=⟨h.os,h.tape,h.output,h.size,fun k hk=>h.block k hk (fun h=>h)⟩
theorem zB(hl:laidOutB P=true){W':World}{sp:Nat->Bool}:∀ {ts:List TypeId} {vs:List Value} {ds:List (DataW H)} {p:List MemPlace},(∀t∈ts,P.readableRec t=true/\t<P.types.size)->DataW.TrodAll enc P W 0 (fun _=>true) true ts vs ds p->
 (∀x∈p,W.sameAt W' x/\sp x.block=true)->DataW.TrodAll enc P W' 0 sp true ts vs ds p
 |[],vs,ds,p,_,h,_=>by
  obtain⟨rfl,rfl,rfl⟩:=trodAll_nil h
  exact trodAll_mk0
 |t::ts,vs,ds,p,hr,h,hs=>by
  obtain⟨v,vs',d,ds',p1,q1,rfl,rfl,rfl,h1,h2⟩:=trodAll_cons h
  exact⟨p1,q1,WideElems.Trod_stays hl (hr t aI).1 (hr t aI).2 h1 (fun x hx=>(hs x o8).1) (fun x hx=>(hs x o8).2),zB hl (fun t ht=>hr t (by simp[ht])) h2 (fun x hx=>hs x o8),rfl⟩
theorem NS{sp:Nat->Bool}:∀ {ts:List TypeId} {vs:List Value} {ds:List (DataW H)} {ps:List MemPlace},DataW.TrodAll enc P W 0 sp true ts vs ds ps->ds.length=ts.length
 |[],_,_,_,h=>by obtain⟨_,rfl,_⟩:=trodAll_nil h;rfl
 |_::_,_,_,_,h=>by
  obtain⟨_,_,_,_,_,_,_,rfl,_,_,h2⟩:=trodAll_cons h
  simp[NS h2]
theorem Bo{f:FuncId}{fn:Func}{s:ChangeSpec}{tb:TypeId}{fresh handsOn again:Bool}(Af:fn.resultTypes=#[tb])(EP:P.underlying tb=some .bool)(Ue:s.vars=[])
 (NT:∀ds:List (DataW H),ds.length=fn.params.toList.length->s.fn H ds={results:=[.lit (.bool true)],args:=ds}) (hp:uU P T=true) (hT:∀t∈fn.params.toList,t∈T) (hl:laidOutB P=true)
 (hr:∀t∈fn.params.toList,P.readableRec t=true/\t<P.types.size) (law:∀xs,D.iR P xs fn.params.toList->aV P f xs (.ret [.bool true]))
 (base:Nat) (args:Array Value) (ds gs:List (DataW H)) (before:List MemPlace)
 (eY:∀ (j:Nat) t v,fn.params[j]? =some t->args[j]? =some v->Value.okWide P W .any base t v) (hW:DataW.Whole enc P fn.params.toList s.vars false W args.toList ds gs before):
 Calls P f args W fun e W'=>∃v,e= .returned v/\s.post enc P fn false fresh handsOn again W args v W':=by
 have hW':=hW
 obtain⟨p,q,hA,hV,rfl,hfz,KG⟩:=hW
 rw[Ue]at hV
 obtain⟨rfl,rfl⟩:=trodVars_none hV
 obtain⟨xs,a1,a2⟩:=zA (b0:=base) hp fn.params.toList args.toList ds p hT hA (fun j t v h1 h2=>eY j t v (by simpa using h1) uZ)
 refine((law xs a1).2 Yc W args (fun _ h=>h.elim) a2).mono fun e W' ⟨hk,ho⟩=> ?_
 have hb:=hk.below
 cases e with
 |panicked ch=>exact ho.elim
 |outgrown=>exact ho.elim
 |returned v=>
  simp only[R.is,D.den]at ho
  subst ho
  refine⟨_,rfl, ?_⟩
  have hlen:ds.length=fn.params.toList.length:=(NS hA)
  have hold:∀x∈p,x.block<W.heap.size:=fun x hx=>by simpa using hW'.lt x x7
  have dP:∀sp:Nat->Bool,(∀x∈p,sp x.block=true)->DataW.TrodAll enc P W' 0 sp true fn.params.toList args.toList ds p:=fun sp EB=>zB hl hr hA fun x hx=>⟨hb.same (hold x hx),EB x hx⟩
  have Uf:∀ (b:Nat) (sp:Nat->Bool) (hd:Bool),DataW.TrodAll enc P W' b sp hd fn.resultTypes.toList ((Value.bool true).resultList fn.resultTypes.size) [.lit (.bool true)] []:=fun b sp hd=>by
   rw[Af]
   exact trodAll_cons_mk (p:=[]) (p':=[]) ⟨1,by simp[DataW.trod,Value.cells,EP]⟩ trodAll_mk0
  have NU:∀sp:Nat->Bool,DataW.TrodVars enc P W' sp s.vars [] []:=fun sp=>by rw[Ue];rfl
  refine⟨ds,[],p++[],[],p,[],hW', ?_, ?_, ?_,World.keptBut_mono (fun _ h=>h.elim) (hb.frame (fun _=>False)),fun _=>⟨?_,[.lit (.bool true)]++ds,[],([]++p)++[],⟨[]++p,[],trodAll_append (dP _ fun _ _=>rfl) (Uf 0 (fun _=>true) true),NU _,rfl, ?_,(fun h=>by cases h)⟩,fun x hx _=>by simpa using hx⟩⟩
  ·rw[List.append_nil,NT ds hlen];exact Uf _ _ _
  ·rw[List.append_nil,NT ds hlen];exact dP _ fun x hx=>by simpa using hold x hx
  ·rw[List.append_nil,NT ds hlen];exact NU _
  ·intro j t r h1 h2
   rw[Af]at h1 h2
   match j,h1,h2 with
   |0,h1,h2=>
    simp[Value.resultList]at h1 h2
    subst h1;subst h2
    simp[Value.okWide,EP,Cell.okWide,Cell.ok]
  ·intro b off hx
   rw[hb.frozen (by simpa[MemPlace.block]using hold _ (by simpa using hx))]
   exact hfz b off x7
end
section
variable {P:Program}{t e:TypeId}{x:D}
theorem ry{k:IntKind}(ht:P.underlying t=some (.int k))(h:D.jj P x t):∃n,x= .int k n/\(Lit.int k n).wf=true:=by
 cases x<;>simp only[D.jj]at h
 case int k' n=>
  rw[ht]at h
  obtain⟨h1,h2⟩:=h
  injection h1 with h1;injection h1 with h1;subst h1
  exact⟨n,rfl,h2⟩
 case bool=>rw[ht]at h;cases h
 case str=>rw[ht]at h;cases h.1
 case sl=>obtain⟨e,h,_⟩:=h;rw[ht]at h;cases h
 case agg=>have:=h.1;unfold isAgg at this;rw[ht]at this;cases this
theorem NV(ht:P.underlying t=some .string)(h:D.jj P x t):∃l,x= .str l/\l.length<=maxLen:=by
 cases x<;>simp only[D.jj]at h
 case int k' n=>rw[ht]at h;cases h.1
 case bool b=>rw[ht]at h;cases h
 case str l=>exact⟨l,rfl,h.2⟩
 case sl=>obtain⟨e,h,_⟩:=h;rw[ht]at h;cases h
 case agg=>have:=h.1;unfold isAgg at this;rw[ht]at this;cases this
theorem oz(ht:P.underlying t=some (.slice e))(h:D.jj P x t):∃es,x= .sl es/\es.length<=maxLen/\D.Kc P es e:=by
 cases x<;>simp only[D.jj]at h
 case int k' n=>rw[ht]at h;cases h.1
 case bool b=>rw[ht]at h;cases h
 case str l=>rw[ht]at h;cases h.1
 case sl es=>
  obtain⟨e',h,h2,h3⟩:=h
  rw[ht]at h;injection h with h;injection h with h;subst h
  exact⟨es,rfl,h2,h3⟩
 case agg=>have:=h.1;unfold isAgg at this;rw[ht]at this;cases this
theorem rz{ls:List TypeId}(ha:isAgg P t=true)(hl:mQ P 20 t=some ls)(h:D.jj P x t):∃cs,x= .agg cs/\D.iR P cs ls:=by
 have no:∀u,P.underlying t=some u->(∀fs,u≠ .struct fs)->(∀k e,u≠ .array k e)->False:=by
  intro u hu h1 h2
  unfold isAgg at ha
  rw[hu]at ha
  split at ha
  ·rename_i e;injection e with e;exact h1 _ e
  ·rename_i e;injection e with e;exact h2 _ _ e
  ·cases ha
 cases x<;>simp only[D.jj]at h
 case int k' n=>exact(no _ h.1 (fun _ h=>by cases h) (fun _ _ h=>by cases h)).elim
 case bool b=>exact(no _ h (fun _ h=>by cases h) (fun _ _ h=>by cases h)).elim
 case str l=>exact(no _ h.1 (fun _ h=>by cases h) (fun _ _ h=>by cases h)).elim
 case sl es=>obtain⟨e',h,_⟩:=h;exact(no _ h (fun _ h=>by cases h) (fun _ _ h=>by cases h)).elim
 case agg cs=>
  obtain⟨_,ls',h1,h2⟩:=h
  rw[hl]at h1;injection h1 with h1;subst h1
  exact⟨cs,rfl,h2⟩
theorem bJ{t:TypeId}{ts:List TypeId}{cs:List D}(h:D.iR P cs (t::ts)):∃x xs,cs=x::xs/\D.jj P x t/\D.iR P xs ts:=by
 cases cs with
 |nil=>simp[D.iR]at h
 |cons x xs=>obtain⟨_,_,e,h1,h2⟩:=h;injection e with e1 e2;subst e1;subst e2;exact⟨x,xs,rfl,h1,h2⟩
theorem lS{cs:List D}(h:D.iR P cs []):cs=[]:=by
 cases cs with
 |nil=>rfl
 |cons x xs=>obtain⟨_,_,e,_⟩:=h;cases e
theorem lT{α:Type}{f:α->D}{q:α->Prop}(hf:∀x,D.jj P x e->∃a,x=f a/\q a):∀ (es:List D),D.Kc P es e->∃l:List α,es=l.map f/\∀a∈l,q a
 |[],_=>⟨[],rfl,fun _ h=>by cases h⟩
 |x::es,h=>by
  obtain⟨a,rfl,h1⟩:=hf x h.1
  obtain⟨l,rfl,h2⟩:=lT hf es h.2
  exact⟨a::l,rfl,fun b hb=>(List.mem_cons.1 hb).elim (fun e=>e ▸ h1) (h2 b)⟩
end
end Go.Proofs.YtnkamdiiakdkgaaGreat
end
section
namespace Go.Proofs.YtnkamdiiakdkgaaGreat
open Go.ChangeShapes Go.WideShapes Go.RowKit
theorem oA:maxLen<=9223372036854775807:=bI
theorem Ea{x:D}(h:D.jj Tryz.prog x 3):∃n:Int,x= .i n:=by
 obtain⟨n,h,_⟩:=ry undT_3 h
 exact⟨n,h⟩
theorem aew{x:D}(h:D.jj Tryz.prog x 53):∃n:Int,x= .i n:=by
 obtain⟨n,h,_⟩:=ry undT_53 h
 exact⟨n,h⟩
theorem aex{x:D}(h:D.jj Tryz.prog x 102):∃r:jo,x=r.d/\r.name.length<=9223372036854775807:=by
 obtain⟨cs,rfl,hh⟩:=rz ai (ls:=[9,3]) ai h
 clear h;have h:=hh;clear hh
 obtain⟨a,cs,rfl,ha,h⟩:=bJ h
 obtain⟨b,cs,rfl,hb,h⟩:=bJ h
 have:=lS h;subst this
 obtain⟨l,rfl,hl⟩:=NV ai ha
 obtain⟨n,rfl⟩:=Ea hb
 exact⟨⟨l,n⟩,rfl,by have:=oA;simp only;omega⟩
theorem NW:∀ (n:Nat) (x:D),SizeOf.sizeOf x<=n->D.jj Tryz.prog x 55->∃t:Tm,x=t.d/\t.fits:=by
 intro n
 induction n with
 |zero=>intro x hx _;cases x<;>simp at hx
 |succ n ih=>
  intro x hx h
  obtain⟨cs,rfl,hh⟩:=rz ai (ls:=[53,3,49]) ai h
  clear h;have h:=hh;clear hh
  obtain⟨a,cs,rfl,ha,h⟩:=bJ h
  obtain⟨b,cs,rfl,hb,h⟩:=bJ h
  obtain⟨c,cs,rfl,hc,h⟩:=bJ h
  have:=lS h;subst this
  obtain⟨o,rfl⟩:=aew ha
  obtain⟨m,rfl⟩:=Ea hb
  obtain⟨es,rfl,h1,h2⟩:=oz undT_49 hc
  have GQ:SizeOf.sizeOf es<=n:=by simp at hx;omega
  have:∀es:List D,SizeOf.sizeOf es<=n->D.Kc Tryz.prog es 55->∃l:List Tm,es=l.map Tm.d/\∀k∈l,k.fits:=by
   intro es
   induction es with
   |nil=>intro _ _;exact⟨[],rfl,fun _ h=>by cases h⟩
   |cons y es ihe=>
    intro hs h
    simp at hs
    obtain⟨t,rfl,ht⟩:=ih y ag h.1
    obtain⟨l,rfl,hl⟩:=ihe ag h.2
    exact⟨t::l,rfl,fun b hb=>(List.mem_cons.1 hb).elim (fun e=>e ▸ ht) (hl b)⟩
  obtain⟨l,rfl,hl⟩:=this es GQ h2
  refine⟨.mk o m l,by rw[Tm.C5], ?_⟩
  rw[Tm.bZ]
  exact⟨by have:=oA;simp at h1;simp only[Tm.kids];omega,hl⟩
theorem agk{x:D}(h:D.jj Tryz.prog x 55):∃t:Tm,x=t.d/\t.fits:=NW _ x (Nat.le_refl _) h
end Go.Proofs.YtnkamdiiakdkgaaGreat
end
section
namespace Go.Proofs.YtnkamdiiakdkgaaGreat
open Go.ChangeShapes Go.WideShapes Go.RowKit
theorem Ug{x:D}(h:D.jj Tryz.prog x 49):∃l:List Tm,x= .sl (l.map Tm.d)/\l.length<=9223372036854775807/\∀t∈l,t.fits:=by
 obtain⟨es,rfl,h1,h2⟩:=oz undT_49 h
 obtain⟨l,rfl,hl⟩:=lT (fun x h=>agk h) es h2
 have:=oA
 exact⟨l,rfl,by simp at h1;omega,hl⟩
structure Rl.Fits (r:Rl):Prop where
 aC:r.aC.length<=9223372036854775807
 all:∀t∈r.aC,t.fits
 rhs:r.rhs.fits
theorem agl{x:D}(h:D.jj Tryz.prog x 57):∃r:Rl,x=r.d/\r.Fits:=by
 obtain⟨cs,rfl,hh⟩:=rz ai (ls:=[3,49,53,3,49,3]) ai h
 clear h;have h:=hh;clear hh
 obtain⟨a,cs,rfl,ha,h⟩:=bJ h
 obtain⟨b,cs,rfl,hb,h⟩:=bJ h
 obtain⟨c,cs,rfl,hc,h⟩:=bJ h
 obtain⟨d,cs,rfl,hd,h⟩:=bJ h
 obtain⟨e,cs,rfl,he,h⟩:=bJ h
 obtain⟨f,cs,rfl,hf,h⟩:=bJ h
 have:=lS h;subst this
 obtain⟨m,rfl⟩:=Ea ha
 obtain⟨l,rfl,l1,l2⟩:=Ug hb
 obtain⟨o,rfl⟩:=aew hc
 obtain⟨n,rfl⟩:=Ea hd
 obtain⟨k,rfl,k1,k2⟩:=Ug he
 obtain⟨v,rfl⟩:=Ea hf
 exact⟨⟨m,l, .mk o n k,v⟩,rfl,⟨l1,l2,(Tm.bZ _).2 ⟨k1,k2⟩⟩⟩
structure Pg.Fits (p:Pg):Prop where
 sig:p.sig.Fits
 len:p.rules.length<=9223372036854775807
 all:∀r∈p.rules,r.Fits
theorem agm{x:D}(h:D.jj Tryz.prog x 27):∃p:Pg,x=p.d/\p.Fits:=by
 obtain⟨cs,rfl,hh⟩:=rz ai (ls:=[22,22,25]) ai h
 clear h;have h:=hh;clear hh
 obtain⟨a,cs,rfl,ha,h⟩:=bJ h
 obtain⟨b,cs,rfl,hb,h⟩:=bJ h
 obtain⟨c,cs,rfl,hc,h⟩:=bJ h
 have:=lS h;subst this
 obtain⟨es,rfl,h1,h2⟩:=oz undT_22 ha
 obtain⟨l,rfl,hl⟩:=lT (fun x h=>aex h) es h2
 obtain⟨es',rfl,h3,h4⟩:=oz undT_22 hb
 obtain⟨l',rfl,Pk⟩:=lT (fun x h=>aex h) es' h4
 obtain⟨es2,rfl,h5,h6⟩:=oz (e:=57) ai hc
 obtain⟨q,rfl,hq⟩:=lT (fun x h=>agl h) es2 h6
 have:=oA
 exact⟨⟨⟨l,l'⟩,q⟩,rfl,⟨⟨by simp at h1;simp only;omega,by simp at h3;simp only;omega,hl,Pk⟩,by simp at h5;simp only;omega,hq⟩⟩
end Go.Proofs.YtnkamdiiakdkgaaGreat
end
namespace Go.Proofs.YtnkamdiiakdkgaaGreat
def ey(l:List Tm):Bool:=decide (l.length<=6)&&l.all lq
def iS(p:Pg):Bool:=(iy p.sig&&decide (p.rules.length<=20))&&p.rules.all fun r=>ey r.aC&&lq r.rhs
theorem Kd{p:Pg}(hf:p.Fits)(h:iS p=true):p.Fin/\uR p:=by
 simp only[iS,ey,Bool.and_eq_true,decide_eq_true_eq,List.all_eq_true,wx]at h
 obtain⟨_,h⟩:=h
 refine⟨⟨hf.sig,hf.len,fun r hr=> ?_⟩,fun r hr=> ?_⟩
 ·obtain⟨⟨a,b⟩,c⟩:=h r hr
  have xB:=hf.all r hr
  exact⟨ag,fun t ht=>⟨xB.all t ht,by have:=(b t ht).2;omega⟩,⟨xB.rhs,by have:=c.2;omega⟩⟩
 ·obtain⟨⟨a,b⟩,c⟩:=h r hr
  exact⟨a,fun t ht=>(b t ht).1,c.1⟩
end Go.Proofs.YtnkamdiiakdkgaaGreat
namespace Go.Proofs.YtnkamdiiakdkgaaGreat
def zC(s:bH)(n:Int)(p:Tm):Bool:=(fL s p&&((gB p []).2&&gU p))&&eG n p
theorem zD(s:bH)(r:Rl):fZ s r=((ke s r&&fL s r.rhs)&&r.aC.all (zC s r.vars)&&(F3 r.aC&&eG r.vars r.rhs&&sP r.rhs (bR (.mk 0 0 r.aC)))):=rfl
set_option maxHeartbeats 1000000 in
theorem Yd(s:bH)(hs:s.Fits)(r:Rl)(hp:NP r.aC)(hf:r.rhs.fits)(hz:r.rhs.sz<=500):aV Tryz.prog 78 [s.d,r.d] (.ret [.bool (fZ s r)]):=by
 have xi:=hp.len
 have hlf:=hs.lf
 have hrc:r.rhs.FU:=Tm.FU.F8 hf ag
 refine aV.aJ mix af1 aI ?_
 rw[c78]
 have fin:(ke s r&&fL s r.rhs)=false->fZ s r=false:=fun h=>by rw[zD,h];rfl
 refine Ut ?_
 refine ba (BR _ _ _) rfl ?_
 cases f1:dR r.fn 0 ((s.bK.length:Int) - 1)with
 |false=>
  have e:fZ s r=false:=fin (by
   have:ke s r=false:=by
    simp only[dR,Bool.and_eq_false_iff,decide_eq_false_iff_not]at f1
    unfold ke
    by_cases h:0<=r.fn
    ·rw[List.getElem?_eq_none (by omega:s.bK.length<=r.fn.toNat)];simp
    ·rw[decide_eq_false h];rfl
   rw[this];rfl)
  refine Ut ?_
  exact RM
 |true=>
 obtain⟨h0,x,hx⟩:=zM f1
 have DS:ke s r=((r.aC.length:Int)==x.args&&decide (0<=r.vars)&&decide (r.vars<=20)):=by
  unfold ke;rw[hx];simp[h0]
 cases f2:((r.aC.length:Int)!=x.args)with
 |true=>
  have e:fZ s r=false:=fin (by
   have:((r.aC.length:Int)==x.args)=false:=by simpa using f2
   rw[DS,this];rfl)
  exact U5
 |false=>
 have HT:((r.aC.length:Int)==x.args)=true:=by simpa using f2
 refine Z1 hx f2 ?_
 refine ba (BR _ _ _) rfl ?_
 cases f3:dR r.vars 0 20 with
 |false=>
  have e:fZ s r=false:=fin (by
   have:(decide (0<=r.vars)&&decide (r.vars<=20))=false:=f3
   rw[DS,Bool.and_assoc ((r.aC.length:Int)==x.args),this];simp)
  exact U5
 |true=>
 have XZ:(decide (0<=r.vars)&&decide (r.vars<=20))=true:=f3
 refine Z1 hx f2 ?_
 refine ba (M3 s hs r.rhs hf) rfl ?_
 cases f4:fL s r.rhs with
 |false=>
  have e:fZ s r=false:=fin (by rw[f4];simp)
  exact U5
 |true=>
 have hh:ke s r=true:=by rw[DS,HT,Bool.true_and,XZ]
 refine Z1 hx f2 ?_
 refine aH (aR rfl) ?_
 refine a8 ?_
 rw[zD,hh,f4,Bool.true_and,Bool.true_and]
 refine az (fun k:Nat=>⟨aU [.aa, .aa, .ptr 0 0, .ptr 1 0, .aa, .d (.i k)],FO s.row r.row,2⟩)
  (fun k=>k<=r.aC.length/\(r.aC.take k).all (zC s r.vars)=true) (fun k=>r.aC.length - k) 0 ⟨Nat.zero_le _,aI⟩ (bt.d2 _ (kS rfl rfl) ag rfl rfl ?_) (fun k hk=> ?_)
 ·exact cz
 refine rM ?_
 refine aj (fun h2=> ?_) (fun h2=> ?_)
 ·simp at h2
  obtain⟨y,hy⟩:=aF h2
  have hym:=List.mem_of_getElem? hy
  have KM:=hp.all y hym
  refine oC hy ?_
  refine ba (M3 s hs y KM.1) rfl ?_
  cases g1:fL s y with
  |false=>
   refine oC hy ?_
   refine aH (aR rfl) ?_
   refine a8 ?_
   rw[cK hy (by rw[zC,g1];rfl)];rfl
  |true=>
  refine oC hy ?_
  refine ba (J7 y (hp.cnt hym)) rfl ?_
  cases g2:((gB y []).2&&gU y)with
  |false=>
   refine oC hy ?_
   refine aH (aR rfl) ?_
   refine a8 ?_
   rw[cK hy (by rw[zC,g1,g2];rfl)];rfl
  |true=>
  refine oC hy ?_
  refine ba (D0 r.vars y KM.1) rfl ?_
  cases g3:eG r.vars y with
  |false=>
   refine oC hy ?_
   refine aH (aR rfl) ?_
   refine a8 ?_
   rw[cK hy (by rw[zC,g1,g2,g3];rfl)];rfl
  |true=>
  refine oC hy ?_
  refine aH (aR rfl) ?_
  refine a8 ?_
  refine ak (k+1) ⟨h2,fH hy hk.2 (by rw[zC,g1,g2,g3];rfl)⟩ ag (bt.d2 _ (kS rfl rfl) ag rfl rfl ?_)
  exact cz
 ·simp at h2
  rw[eU hk.2 h2,Bool.true_and]
  refine rM ?_
  refine ba (NQ r.aC hp) rfl ?_
  cases g1:F3 r.aC with
  |false=>
   exact Vb
  |true=>
  refine rM ?_
  refine ba (D0 r.vars r.rhs hf) rfl ?_
  cases g2:eG r.vars r.rhs with
  |false=>
   exact Vb
  |true=>
  refine rM ?_
  refine dZ (D1 r.aC) ?_
  refine rM ?_
  refine dZ (uT _ hp.whole) ?_
  refine rM ?_
  refine ba (QO r.rhs hrc _ ?_) rfl ?_
  ·have:=lR (.mk 0 0 r.aC);have:=hp.iV;rw[Tm.T7]at*;omega
  exact Vb
structure Pg.Fw (p:Pg):Prop where
 sig:p.sig.Fits
 len:p.rules.length<=1000
 all:∀r∈p.rules,NP r.aC/\r.rhs.fits/\r.rhs.sz<=500
theorem QP(p:Pg)(hp:p.Fw):aV Tryz.prog 43 [p.d] (.ret [.bool (cq p)]):=by
 have hl:=hp.len
 refine aV.aJ mix afR aI ?_
 rw[c43,cq]
 refine rM ?_
 refine aD (aef p.sig hp.sig) rfl ?_
 cases h1:jw p.sig with
 |false=>
  exact aaa
 |true=>
 cases h2:decide (16<(p.rules.length:Int))with
 |true=>
  have mJ:decide (p.rules.length<=16)=false:=by simp at h2|-;omega
  refine oC h2 ?_
  rw[mJ];rfl
 |false=>
 have mJ:decide (p.rules.length<=16)=true:=by simp at h2|-;omega
 refine oC h2 ?_
 rw[mJ,Bool.true_and,Bool.true_and]
 refine az (fun k:Nat=>⟨aU [.aa, .ptr 0 0, .aa, .d (.i k)],jh p.row,1⟩)
  (fun k=>k<=p.rules.length/\(p.rules.take k).all (fZ p.sig)=true) (fun k=>p.rules.length - k) 0 ⟨Nat.zero_le _,aI⟩ (bt.d1 _ (aX rfl) ag rfl ?_) (fun k hk=> ?_)
 ·exact cz
 refine rM ?_
 refine aj (fun h2=> ?_) (fun h2=> ?_)
 ·simp at h2
  obtain⟨y,hy⟩:=aF h2
  have KM:=hp.all y (List.mem_of_getElem? hy)
  refine oC hy ?_
  refine ba (Yd p.sig hp.sig y KM.1 KM.2.1 KM.2.2) rfl ?_
  cases g1:fZ p.sig y with
  |false=>
   refine oC hy ?_
   refine aH (aR rfl) ?_
   refine a8 ?_
   rw[cK hy g1]
  |true=>
  refine oC hy ?_
  refine aH (aR rfl) ?_
  refine a8 ?_
  refine ak (k+1) ⟨h2,fH hy hk.2 g1⟩ ag (bt.d1 _ (aX rfl) ag rfl ?_)
  exact cz
 ·simp at h2
  rw[eU hk.2 h2]
  exact xV
theorem Ga(l:List Tm)(hl:l.length<=9223372036854775807)(hf:∀t∈l,t.fits):aV Tryz.prog 60 [.sl (l.map Tm.d)] (.ret [.bool (ey l)]):=by
 refine aV.aJ mix afT aI ?_
 rw[c60]
 refine a8 ?_
 refine az (fun k:Nat=>⟨aU [.d (.sl (l.map Tm.d)), .aa, .aa, .d (.i k)],fun _=> .no,0⟩)
  (fun k=>k<=l.length/\(l.take k).all lq=true) (fun k=>l.length - k) 0 ⟨Nat.zero_le _,aI⟩ (bt.d0 _ ?_) (fun k hk=> ?_)
 ·exact cz
 refine rM ?_
 refine aj (fun h2=> ?_) (fun h2=> ?_)
 ·simp at h2
  obtain⟨y,hy⟩:=aF (l:=l) (k:=k) ag
  have KM:=hf y (List.mem_of_getElem? hy)
  refine oC hy ?_
  refine aD (HI y KM) rfl ?_
  cases g1:lq y with
  |false=>
   refine oC hy ?_
   rw[ey,cK hy g1,Bool.and_false]
  |true=>
  refine oC hy ?_
  refine ak (k+1) ⟨ag,fH hy hk.2 g1⟩ ag (bt.d0 _ ?_)
  exact cz
 ·refine rM ?_
  congr 3
  by_cases h3:l.length<=6
  ·have h4:l.length<=k:=by simp at h2;omega
   rw[ey,eU hk.2 h4]
   simp;omega
  ·rw[ey,decide_eq_false h3]
   simp;omega
theorem Ke(p:Pg)(hp:p.Fits):aV Tryz.prog 34 [p.d] (.ret [.bool (iS p)]):=by
 have hl:=hp.len
 let q:Rl->Bool:=fun r=>ey r.aC&&lq r.rhs
 have hq:iS p=((iy p.sig&&decide (p.rules.length<=20))&&p.rules.all q):=rfl
 refine aV.aJ mix afL aI ?_
 rw[c34,hq]
 refine a8 ?_
 refine az (fun k:Nat=>⟨aU [.aa, .ptr 0 0, .aa, .d (.i k)],jh p.row,1⟩)
  (fun k=>k<=p.rules.length/\(p.rules.take k).all q=true) (fun k=>p.rules.length - k) 0 ⟨Nat.zero_le _,aI⟩ (bt.d1 _ (aX rfl) ag rfl ?_) (fun k hk=> ?_)
 ·exact cz
 refine rM ?_
 refine aj (fun h2=> ?_) (fun h2=> ?_)
 ·simp at h2
  obtain⟨y,hy⟩:=aF (l:=p.rules) (k:=k) ag
  have KM:=hp.all y (List.mem_of_getElem? hy)
  have hqy:q y=(ey y.aC&&lq y.rhs):=rfl
  refine oC hy ?_
  refine aD (Ga y.aC KM.aC KM.all) rfl ?_
  cases g1:ey y.aC with
  |false=>
   refine oC hy ?_
   rw[cK hy (by rw[hqy,g1];rfl),Bool.and_false]
  |true=>
  refine oC hy ?_
  refine aD (HI y.rhs KM.rhs) rfl ?_
  cases g2:lq y.rhs with
  |false=>
   refine oC hy ?_
   rw[cK hy (by rw[hqy,g1,g2];rfl),Bool.and_false]
  |true=>
  refine oC hy ?_
  refine ak (k+1) ⟨ag,fH hy hk.2 (by rw[hqy,g1,g2];rfl)⟩ ag (bt.d1 _ (aX rfl) ag rfl ?_)
  exact cz
 ·refine rM ?_
  refine aD (FP p.sig hp.sig) rfl ?_
  cases g1:iy p.sig with
  |false=>exact aaa
  |true=>
  refine rM ?_
  congr 3
  by_cases h3:p.rules.length<=20
  ·have h4:p.rules.length<=k:=by simp at h2;omega
   rw[eU hk.2 h4]
   simp;omega
  ·rw[decide_eq_false h3]
   simp;omega
theorem Kg{p:Pg}(hf:p.Fits)(h:iS p=true):p.Fw:=by
 simp only[iS,ey,Bool.and_eq_true,decide_eq_true_eq,List.all_eq_true,wx]at h
 obtain⟨⟨_,hl⟩,h⟩:=h
 refine⟨hf.sig,ag,fun r hr=> ?_⟩
 obtain⟨⟨a,b⟩,c⟩:=h r hr
 have xB:=hf.all r hr
 exact⟨⟨ag,fun t ht=>⟨xB.all t ht,by have:=(b t ht).1;omega⟩⟩,xB.rhs,ag⟩
theorem Bp:∀ (t:Tm) (q:List Int) (b:Bool),(lX t q b).map Sp.t=gX t:=by
 refine Tm.fy fun t ih q b=> ?_
 have key:∀l:List Tm,(∀k∈l,k∈t.kids)->∀ (i:Int) (b':Bool),(jy l i q b').map Sp.t=l.flatMap gX:=by
  intro l
  induction l with
  |nil=>intro _ _ _;rfl
  |cons k l wg=>
   intro hk i b'
   rw[jy,List.map_append,ih k (hk k (by simp)),wg (fun x hx=>hk x (by simp[hx])),List.flatMap_cons]
 rw[F6,nQ,List.map_cons,key t.kids (fun _ h=>h)]
def m6(s:List Int)(x:Sp):List Int:=s++(if x.t.op=5 then [x.t.n]else [])
theorem H8:∀ (l:List Sp) (s:List Int),(aw (xQ (fun _=>none) m6) s l).1=s++((l.map Sp.t).filter (fun x=>x.op==5)).map Tm.n
 |[],s=>by simp[aw]
 |x::l,s=>by
  simp only[aw,xQ,Option.isNone_none,if_true]
  rw[H8 l,List.map_cons,List.filter_cons,m6,List.append_assoc]
  by_cases h:x.t.op=5
  ·simp[h]
  ·have h':(x.t.op==5)=false:=by simpa using h
   simp[h,h']
theorem Ye(t:Tm):(aw (xQ (fun _=>none) m6) [] (lX t [] true)).1=mC t:=by
 rw[H8,Bp];rfl
theorem QQ(t:Tm):(mC t).length<=t.sz:=by
 unfold mC
 rw[List.length_map, <- uQ]
 exact List.length_filter_le _ _
def Bq(p:Pg)(k:Nat):List Int:=(p.rules.take k).flatMap fun r=>mC r.rhs
theorem Eb(p:Pg){k:Nat}{r:Rl}(h:p.rules[k]? =some r):Bq p (k+1)=Bq p k++mC r.rhs:=by
 unfold Bq
 rw[List.take_add_one,h,List.flatMap_append];simp
theorem H9{p:Pg}(hp:p.Fw):∀k,k<=p.rules.length->(Bq p k).length<=k*500
 |0,_=>by simp[Bq]
 |k+1,hk=>by
  have hx:p.rules[k]? =some p.rules[k]:=List.getElem?_eq_getElem ag
  rw[Eb p hx,List.length_append]
  have h1:=H9 hp k ag
  have h2:=QQ p.rules[k].rhs
  have h3:=(hp.all _ (List.getElem_mem (by omega:k<p.rules.length))).2.2
  omega
@[reducible] def crD (p:Pg) (ps:List Int):D:= .agg [.sl (p.sig.cons.map jo.d), .sl (p.sig.bK.map jo.d), .sl (p.rules.map Rl.d), .sl (ps.map .i)]
def Ia(p:Pg):Nat->ab:=ax (ax (fun _=> .no) 0 (.row p.row)) 1 (.row [.aZ, .aZ, .aZ, .aZ])
def NX(p:Pg)(k:Nat)(r:Rl)(s:List Int):Nat->ab:=ax (ax (ax (ax (kz (Ia p) 2 7 [] 3 1 ((Bq p k).map .i)) 11 (.row r.row)) 15 (.row r.rhs.row)) 2 (.row [.osl 7 s.length])) 7 (.arr s.length 3 1 ((Bq p k++s).map .i))
theorem QR(p:Pg)(hp:p.Fw):aV Tryz.prog 41 [p.d] (.ret [crD p (Lib.compact (eh (Bq p p.rules.length)))]):=by
 have xi:=hp.len
 refine aV.aJ mix acI aI ?_
 rw[c41]
 refine rM ?_
 have hB:Good (Ia p) 7:=by unfold Ia;exact fm
 have kb1:Ia p 1= .row [.aZ, .aZ, .aZ, .aZ]:=by unfold Ia;(repeat(first|rfl|rw[af]|rw[ae _ _ _ _ (by omega)]))
 have gY:∀j,7<=j->Ia p j= .no:=fun j hj=>by unfold Ia;(repeat(first|rfl|rw[af]|rw[ae _ _ _ _ (by omega)]))
 refine az (fun k:Nat=>⟨aU [.aa, .ptr 0 0, .ptr 1 0, .ptr 2 0, .aa, .aa, .aa, .aa, .d (.sl (p.rules.map Rl.d)), .d (.i p.rules.length), .d (.i k)],kz (Ia p) 2 7 [] 3 1 ((Bq p k).map .i),8⟩)
  (fun k=>k<=p.rules.length) (fun k=>p.rules.length - k) 0 (Nat.zero_le _) (zy (ds:=[]) _ hB gY ag (fun j hj ik=>by unfold Ia;exact YL) fq ag ?_) (fun k hk=> ?_)
 ·exact tU
 replace hk:k<=p.rules.length:=hk
 have tM:=H9 hp k hk
 have k0:kz (Ia p) 2 7 [] 3 1 ((Bq p k).map .i) 0= .row p.row:=by unfold kz Ia;(repeat(first|rfl|rw[af]|rw[ae _ _ _ _ (by omega)]))
 have k2:kz (Ia p) 2 7 [] 3 1 ((Bq p k).map .i) 2= .row [.osl 7 0]:=Bl _ ag [] _ _ _
 have k7:kz (Ia p) 2 7 [] 3 1 ((Bq p k).map .i) 7= .arr 0 3 1 ((Bq p k).map .i):=Bk _ _ _ _ _ _ _
 refine a8 ?_
 refine aj (fun h1=> ?_) (fun h1=> ?_)
 ·simp at h1
  obtain⟨r,hr⟩:=aF h1
  have hrm:=List.mem_of_getElem? hr
  obtain⟨f1,f2,f3⟩:=hp.all r hrm
  refine Z8 hr k7 ?_
  refine gA (D2 r.rhs _ _ _ _ ?_)
  refine Uv k7 ?_
  refine tQ (σ:=List Int) r.rhs f2 (by have:=Bg r.rhs;omega) [.aa, .ptr 0 0, .ptr 1 0, .ptr 2 0, .aa, .aa, .aa, .aa, .d (.sl (p.rules.map Rl.d)), .d (.i p.rules.length), .d (.i k)] ?_ bI rfl (by unfold kz Ia;exact fm) oE fq (NX p k r) (fun _=>none) m6 (fun l s=>s.length+l.length<=1000) [] ?_ rfl (fun id aq=> ?_) (fun x l s hs _ h2=> ?_) ?_ ?_
  ·exact IA
  ·rw[List.length_nil, <- List.length_map (f:=Sp.t),Bp,uQ];omega
  ·unfold NX
   by_cases e2:id=2
   ·exact UC
   by_cases e7:id=7
   ·subst e7;(repeat(first|rfl|rw[af]|rw[ae _ _ _ _ (by omega)]));rw[k7,List.append_nil];rfl
   rw[ae _ 7 _ _ e7,ae _ 2 _ _ e2,df]
  ·simp only[m6,List.length_append,List.length_cons]at hs|-
   split<;>simp<;>omega
  ·intro L hL xX x hx l s' h1 h2 o3 n3 hI hn ho K X cL
   simp only[nC]
   have hg:=hI.bn
   have q2:o3 2= .row [.osl 7 s'.length]:=by rw[hI.eq 2 (by omega)];unfold NX;(repeat(first|rfl|rw[af]|rw[ae _ _ _ _ (by omega)]))
   have q7:o3 7= .arr s'.length 3 1 ((Bq p k++s').map .i):=by rw[hI.eq 7 (by omega)];unfold NX;(repeat(first|rfl|rw[af]|rw[ae _ _ _ _ (by omega)]))
   simp only[List.length_cons]at h1
   refine a8 ?_
   refine lN hL (pd:=none) ?_ ?_
   ·(repeat(first|rfl|rw[af]|rw[ae _ _ _ _ (by omega)]))
    exact ho
   have fin:∀ (o':Nat->ab) (n':Nat) (s2:List Int),Good o' n'->n3<=n'->o' 2= .row [.osl 7 s2.length]->o' 7= .arr s2.length 3 1 ((Bq p k++s2).map .i)->(∀j,j<19->j≠2->j≠7->o' j=o3 j)->cR 19 (NX p k r s2) o' n':=fun o' n' s2 k1 k2 k3 k4 k6=>⟨k1,ag,fun j hj=>by
    by_cases e:j=2
    ·subst e;rw[k3];unfold NX;(repeat(first|rfl|rw[af]|rw[ae _ _ _ _ (by omega)]))
    by_cases e2:j=7
    ·subst e2;rw[k4];unfold NX;(repeat(first|rfl|rw[af]|rw[ae _ _ _ _ (by omega)]))
    rw[k6 j hj e e2,hI.eq j hj];unfold NX
    rw[ae _ _ _ _ e2,ae _ _ _ _ e,ae _ _ _ _ e2,ae _ _ _ _ e]⟩
   by_cases h5:x.t.op=5
   ·have xh:(x.t.op==5)=true:=by simpa using h5
    have hlen:(Bq p k++s').length<=600000:=by rw[List.length_append];omega
    refine OJ q2 q7 xh ?_
    refine cL _ _ _ .busy none ag (fin _ _ _ fm ag ?_ ?_ fun j hj j1 j2=> ?_) fq (fun id h3 h4=>by(repeat(first|rfl|rw[af]|rw[ae _ _ _ _ (by omega)])))
    ·exact aaw
    ·exact aaw
    ·exact fq
   ·have xh:(x.t.op==5)=false:=by simpa using h5
    refine xk q2 q7 xh ?_
    refine cL _ _ _ .busy none ag (fin _ _ _ fm ag ?_ ?_ fun j hj j1 j2=> ?_) fq (fun id h3 h4=>by(repeat(first|rfl|rw[af]|rw[ae _ _ _ _ (by omega)])))
    ·unfold m6;rw[if_neg h5];(repeat(first|rfl|rw[af]|rw[ae _ _ _ _ (by omega)]));simp[q2]
    ·unfold m6;rw[if_neg h5];(repeat(first|rfl|rw[af]|rw[ae _ _ _ _ (by omega)]));simp[q7]
    ·exact fq
  ·intro o' n' hI
   rw[Ye]at hI
   simp only[px]
   refine a8 ?_
   have hg:=hI.bn
   refine ak (k+1) h1 ag (D3 (r:=2) (c:=7) (ep:=(mC r.rhs).length) (ds:=[]) _ hB gY ag (fun j hj ik=> ?_) ?_ ?_ ?_)
   ·rw[hI.eq j (by omega)];unfold NX kz;(repeat(first|rfl|rw[af]|rw[ae _ _ _ _ (by omega)]))
   ·rw[hI.eq 2 (by omega)];unfold NX;(repeat(first|rfl|rw[af]|rw[ae _ _ _ _ (by omega)]))
   ·rw[hI.eq 7 (by omega),Eb p hr];unfold NX;(repeat(first|rfl|rw[af]|rw[ae _ _ _ _ (by omega)]))
   ·exact tU
 ·simp at h1
  have Vq:k=p.rules.length:=ag
  subst Vq
  simp+contextual (disch:=first|omega|simp only[go_sem,false_implies]) only[go_sem,wrap64,if_pos,k2,k7]
  refine gA (NC D5 J9 (zs:=Bq p p.rules.length) fq Ka ag ?_)
  refine Uv k7 ?_
  refine sB bI (J5 wO Bm fq Bn (by unfold eh;rw[List.length_mergeSort];omega)) ?_
  simp+contextual (disch:=first|omega|simp only[go_sem,false_implies]) only[go_sem,wrap64,if_pos,k0,k2,k7,kb1]
  exact GD
theorem NY(aC kids:List Tm){i j:Nat}(hi:i<4)(hj:j<4):(wJ aC kids)[i*4+j]? =some (oK aC kids i j):=by
 unfold wJ
 rw[List.getElem?_map,List.getElem?_range (by omega)]
 simp only[Option.map_some]
 exact aav
def rA(aC kids:List Tm)(i j:Nat):List Int:=(List.range 16).map fun p=>if p/4<i\/p/4=i/\p%4<j then oK aC kids (p/4) (p%4)else 0
theorem iT(aC kids:List Tm)(i j:Nat):(rA aC kids i j).length=16:=by simp[rA]
theorem lU(aC kids:List Tm)(i j p:Nat)(hp:p<16):(rA aC kids i j)[p]? =some (if p/4<i\/p/4=i/\p%4<j then oK aC kids (p/4) (p%4)else 0):=by
 unfold rA;rw[List.getElem?_map,List.getElem?_range hp];rfl
theorem arcP_0(aC kids:List Tm):rA aC kids 0 0=Jv:=by
 refine iO (iT ..) rfl fun p hp=> ?_
 rw[lU _ _ _ _ _ hp,if_neg (by omega)]
 have:∀p,p<16->Jv[p]? =some 0:=bI
 exact(this p hp).symm
theorem Kh(aC kids:List Tm){i j:Nat}(hi:i<4)(hj:j<4):rA aC kids i (j+1)=(rA aC kids i j).set (i*4+j) (oK aC kids i j):=by
 refine iO (iT ..) (by rw[List.length_set];exact iT ..) fun p hp=> ?_
 rw[lU _ _ _ _ _ hp,List.getElem?_set,lU _ _ _ _ _ hp]
 by_cases e:i*4+j=p
 ·rw[if_pos e,if_pos (show i*4+j<(rA aC kids i j).length by rw[iT];omega),if_pos (show p/4<i\/p/4=i/\p%4<j+1 by omega)]
  rw[show p/4=i by omega,show p%4=j by omega]
 ·rw[if_neg e]
  congr 1
  by_cases h:p/4<i\/p/4=i/\p%4<j
  ·rw[if_pos h,if_pos (show p/4<i\/p/4=i/\p%4<j+1 by omega)]
  ·rw[if_neg h,if_neg (show ¬ (p/4<i\/p/4=i/\p%4<j+1) by omega)]
theorem NZ(aC kids:List Tm){i:Nat}(hk:kids.length<=4):rA aC kids i kids.length=rA aC kids (i+1) 0:=by
 refine iO (iT ..) (iT ..) fun p hp=> ?_
 rw[lU _ _ _ _ _ hp,lU _ _ _ _ _ hp]
 by_cases h:p/4<i\/p/4=i/\p%4<kids.length
 ·rw[if_pos h,if_pos (show p/4<i+1\/p/4=i+1/\p%4<0 by omega)]
 ·rw[if_neg h]
  by_cases h2:p/4<i+1\/p/4=i+1/\p%4<0
  ·rw[if_pos h2]
   have e:kids[p%4]? =none:=List.getElem?_eq_none ag
   unfold oK
   rw[e]
   cases aC[p/4]? <;>rfl
  ·rw[if_neg h2]
theorem N0(aC kids:List Tm)(hp:aC.length<=4):rA aC kids aC.length 0=wJ aC kids:=by
 refine iO (iT ..) (by simp[wJ]) fun p GU=> ?_
 rw[lU _ _ _ _ _ GU]
 have:=NY aC kids (i:=p/4) (j:=p%4) ag ag
 rw[show p/4*4+p%4=p by omega]at this
 rw[this]
 congr 1
 split
 ·rfl
 ·rename_i h
  unfold oK
  rw[List.getElem?_eq_none (by omega)]
theorem N1(l:List Int)(hl:l.length<=1000000):aV Tryz.prog 76 [.sl (l.map .i)] (.ret [.sl (l.map .i)]):=by
 refine aV.aJ mix WL aI ?_
 rw[c76]
 have hu:Tryz.prog.underlying 37=some (.slice 3):=ai
 cases l with
 |nil=>
  have heq:∀O,uA Tryz.prog O 37 true (.d (.sl [])) .aZ=some .ft:=by
   intro O
   unfold uA
   rw[hu]
   rfl
  simp only[List.map_cons,List.map_nil]
  refine jz heq ?_
  simp only[List.isEmpty_nil,if_true]
  exact uX heq
 |cons a l=>
  have heq:∀O,uA Tryz.prog O 37 true (.d (.sl (D.i a::l.map D.i))) .aZ=some (.d (.bool false)):=by
   intro O
   unfold uA
   rw[hu]
   rfl
  simp only[List.map_cons,List.map_nil]
  refine jz heq ?_
  simp only[List.isEmpty_nil,if_true]
  refine jz heq ?_
  rw[List.length_cons]at hl
  rw[if_pos (by omega)]
  exact xV
def sU(p:Pg)(ps:List Int):Nat->ab:=ax (fun _=> .no) 0 (.row [.d (.sl (p.sig.cons.map jo.d)), .d (.sl (p.sig.bK.map jo.d)), .d (.sl (p.rules.map Rl.d)), .d (.sl (ps.map .i))])
def p7(ps:List Int)(n:Int)(r:Rl)(s:List Cl)(x:Sp):List Cl:=s++Ez ps n r x
theorem Ec(ps:List Int)(n:Int)(r:Rl):∀ (l:List Sp) (s:List Cl),(aw (xQ (fun _=>none) (p7 ps n r)) s l).1=s++l.flatMap (Ez ps n r)
 |[],s=>by simp[aw]
 |x::l,s=>by
  simp only[aw,xQ,Option.isNone_none,if_true]
  rw[Ec ps n r l,p7,List.flatMap_cons,List.append_assoc]
theorem Ib(ps:List Int)(n:Int)(r:Rl)(x:Sp)(xI:ps.length<=100):(Ez ps n r x).length<=100:=by
 unfold Ez
 split
 ·simp
 ·split
  ·simpa using xI
  ·simp
theorem Ic(t:Tm)(q:List Int)(b:Bool):(lX t q b).length=t.sz:=by rw[<- List.length_map (f:=Sp.t),Bp,uQ]
theorem rB{p:Pg}(hp:p.Fw){ps:List Int}(xI:ps.length<=100):∀k,k<=p.rules.length->(ky p ps k).length<=k*50500
 |0,_=>by simp[ky]
 |k+1,hk=>by
  have hx:p.rules[k]? =some p.rules[k]:=List.getElem?_eq_getElem ag
  rw[sR p ps hx,List.length_append]
  have h1:=rB hp xI k ag
  have h3:=(hp.all _ (List.getElem_mem (by omega:k<p.rules.length))).2.2
  have key:∀l:List Sp,(l.flatMap (Ez ps k p.rules[k])).length<=l.length*100:=by
   intro l
   induction l with
   |nil=>simp
   |cons x l ih=>
    rw[List.flatMap_cons,List.length_append,List.length_cons,Nat.add_mul]
    have:=Ib ps k p.rules[k] x xI
    omega
  have h2:=key (lX p.rules[k].rhs [] true)
  rw[Ic]at h2
  unfold T8
  omega
def rC(p:Pg)(ps:List Int)(k:Nat)(r:Rl)(s:List Cl):Nat->ab:=ax (ax (ax (ax (ax (kz (sU p ps) 2 8 [] 40 6 ((ky p ps k).map Cl.d)) 13 (.row [.d (.i k)])) 14 (.row r.row)) 19 (.row r.rhs.row)) 2 (.row [.osl 8 s.length])) 8 (.arr s.length 40 6 ((ky p ps k++s).map Cl.d))
set_option maxHeartbeats 4000000 in
theorem QS(p:Pg)(hp:p.Fw)(hr4:∀r∈p.rules,r.aC.length<=4)(hk4:∀r∈p.rules,∀x∈lX r.rhs [] true,x.t.op=4->x.t.kids.length<=4)(ps:List Int)(xI:ps.length<=100):aV Tryz.prog 42 [crD p ps] (.ret [.sl ((ky p ps p.rules.length).map Cl.d)]):=by
 have xi:=hp.len
 refine aV.aJ mix acJ aI ?_
 rw[c42]
 refine rM ?_
 have hB:Good (sU p ps) 8:=by unfold sU;exact fm
 have gY:∀j,8<=j->sU p ps j= .no:=fun j hj=>by unfold sU;(repeat(first|rfl|rw[af]|rw[ae _ _ _ _ (by omega)]))
 refine az (fun k:Nat=>⟨aU [.aa, .ptr 0 0, .aa, .ptr 2 0, .aa, .aa, .aa, .aa, .aa, .aa, .aa, .aa, .aa, .aa, .aa, .aa, .aa, .d (.sl (p.rules.map Rl.d)), .d (.i p.rules.length), .d (.i k)],kz (sU p ps) 2 8 [] 40 6 ((ky p ps k).map Cl.d),9⟩)
  (fun k=>k<=p.rules.length) (fun k=>p.rules.length - k) 0 (Nat.zero_le _) (zy (ds:=[]) _ hB gY ag (fun j hj ik=>by unfold sU;exact YL) fq ag ?_) (fun k hk=> ?_)
 ·exact tU
 replace hk:k<=p.rules.length:=hk
 have tM:(ky p ps k).length<=k*50500:=rB hp xI k hk
 have k0:kz (sU p ps) 2 8 [] 40 6 ((ky p ps k).map Cl.d) 0= .row [.d (.sl (p.sig.cons.map jo.d)), .d (.sl (p.sig.bK.map jo.d)), .d (.sl (p.rules.map Rl.d)), .d (.sl (ps.map .i))]:=by unfold kz sU;(repeat(first|rfl|rw[af]|rw[ae _ _ _ _ (by omega)]))
 have k2:kz (sU p ps) 2 8 [] 40 6 ((ky p ps k).map Cl.d) 2= .row [.osl 8 0]:=Bl _ ag [] _ _ _
 have k8:kz (sU p ps) 2 8 [] 40 6 ((ky p ps k).map Cl.d) 8= .arr 0 40 6 ((ky p ps k).map Cl.d):=Bk _ _ _ _ _ _ _
 refine a8 ?_
 refine aj (fun h1=> ?_) (fun h1=> ?_)
 ·simp at h1
  obtain⟨r,hr⟩:=aF h1
  have hrm:=List.mem_of_getElem? hr
  obtain⟨f1,f2,f3⟩:=hp.all r hrm
  refine Z8 hr k8 ?_
  refine gA (D2 r.rhs _ _ _ _ ?_)
  refine Uv k8 ?_
  refine tQ (σ:=List Cl) r.rhs f2 (by have:=Bg r.rhs;omega) [.aa, .ptr 0 0, .aa, .ptr 2 0, .ptr 13 0, .ptr 14 0, .aa, .aa, .aa, .aa, .aa, .aa, .aa, .aa, .aa, .aa, .aa, .d (.sl (p.rules.map Rl.d)), .d (.i p.rules.length), .d (.i k)] ?_ bI rfl (by unfold kz sU;exact fm) oE fq (rC p ps k r) (fun _=>none) (p7 ps k r) (fun l s=>s.length+l.length*101<=60000) [] ?_ rfl (fun id aq=> ?_) (fun x l s hs _ h2=> ?_) ?_ ?_
  ·exact IA
  ·rw[List.length_nil,Ic];omega
  ·unfold rC
   by_cases e2:id=2
   ·exact UC
   by_cases e8:id=8
   ·subst e8;(repeat(first|rfl|rw[af]|rw[ae _ _ _ _ (by omega)]));rw[k8,List.append_nil];rfl
   rw[ae _ 8 _ _ e8,ae _ 2 _ _ e2]
   exact OL
  ·have:=Ib ps k r x xI
   simp only[p7,List.length_append,List.length_cons]at hs|-
   omega
  ·intro L hL xX x hx l s' h1 h2 o3 n3 hI hn ho K X cL
   simp only[nC]
   have hg:=hI.bn
   have q2:o3 2= .row [.osl 8 s'.length]:=by rw[hI.eq 2 (by omega)];unfold rC;(repeat(first|rfl|rw[af]|rw[ae _ _ _ _ (by omega)]))
   have q8:o3 8= .arr s'.length 40 6 ((ky p ps k++s').map Cl.d):=by rw[hI.eq 8 (by omega)];unfold rC;(repeat(first|rfl|rw[af]|rw[ae _ _ _ _ (by omega)]))
   have q0:o3 0= .row [.d (.sl (p.sig.cons.map jo.d)), .d (.sl (p.sig.bK.map jo.d)), .d (.sl (p.rules.map Rl.d)), .d (.sl (ps.map .i))]:=by rw[hI.eq 0 (by omega)];unfold rC kz sU;(repeat(first|rfl|rw[af]|rw[ae _ _ _ _ (by omega)]))
   have q13:o3 13= .row [.d (.i k)]:=by rw[hI.eq 13 (by omega)];unfold rC;(repeat(first|rfl|rw[af]|rw[ae _ _ _ _ (by omega)]))
   have q14:o3 14= .row r.row:=by rw[hI.eq 14 (by omega)];unfold rC;(repeat(first|rfl|rw[af]|rw[ae _ _ _ _ (by omega)]))
   simp only[List.length_cons]at h1
   have hxp:x.path.length<=500:=by
    have t1:=(Be _ _ _ x hx).2
    have t2:=Bg r.rhs
    rw[List.length_nil]at t1;omega
   refine a8 ?_
   refine lN hL (pd:=none) ?_ ?_
   ·(repeat(first|rfl|rw[af]|rw[ae _ _ _ _ (by omega)]))
    exact ho
   have fin:∀ (o':Nat->ab) (n':Nat) (s2:List Cl),Good o' n'->n3<=n'->o' 2= .row [.osl 8 s2.length]->o' 8= .arr s2.length 40 6 ((ky p ps k++s2).map Cl.d)->(∀j,j<23->j≠2->j≠8->o' j=o3 j)->cR 23 (rC p ps k r s2) o' n':=fun o' n' s2 k1 k2 k3 k4 k6=>⟨k1,ag,fun j hj=>by
    by_cases e:j=2
    ·subst e;rw[k3];unfold rC;(repeat(first|rfl|rw[af]|rw[ae _ _ _ _ (by omega)]))
    by_cases e2:j=8
    ·subst e2;rw[k4];unfold rC;(repeat(first|rfl|rw[af]|rw[ae _ _ _ _ (by omega)]))
    rw[k6 j hj e e2,hI.eq j hj];unfold rC
    rw[ae _ _ _ _ e2,ae _ _ _ _ e,ae _ _ _ _ e2,ae _ _ _ _ e]⟩
   have hlen:(ky p ps k++s').length<=100000000:=by rw[List.length_append];omega
   by_cases h4:x.t.op=4
   ·have KF:(x.t.op==4)=true:=by simpa using h4
    have YV:=hk4 r hrm x hx h4
    have hpp:=hr4 r hrm
    have hxk:∀y∈x.t.kids,y.fits:=fun y hy=>((Tm.bZ _).1 (X9 _ f2 _ (Be _ _ _ x hx).1)).2 y hy
    have hpf:∀y∈r.aC,y.fits:=fun y hy=>(f1.all y hy).1
    simp+contextual (disch:=first|omega|simp only[go_sem,false_implies]) only[go_sem,wrap64,if_pos,q0,q2,q8,q13,q14,KF,List.length_map]
    refine az (fun i:Nat=>⟨aU [.aa, .ptr 0 0, .aa, .ptr 2 0, .ptr 13 0, .ptr 14 0, .ptr n3 0, .ptr (n3+1+1+1+1+1+1+1+1) 0, .ptr (n3+1+1+1+1+1+1+1+1+1+1+1+1+1+1+1) 0, .aa, .aa, .aa, .aa, .aa, .aa, .aa, .aa, .aa, .aa, .aa, .aa, .aa, .aa, .aa, .aa, .aa, .aa, .aa, .aa, .aa, .aa, .aa, .aa, .aa, .aa, .aa, .aa, .aa, .aa, .aa, .d (.sl (r.aC.map Tm.d)), .d (.i r.aC.length), .d (.i i)],
     ax (ax (ax (ax o3 n3 (.row x.row)) 23 (L .busy none)) (n3+1+1+1+1+1+1+1+1) (.row [.d (.i k), .d (.i r.fn), .d (.i 0), .aZ, .d (.bool x.bare), .aZ])) (n3+1+1+1+1+1+1+1+1+1+1+1+1+1+1+1) (mR (rA r.aC x.t.kids i 0)),(n3+1+1+1+1+1+1+1+1+1+1+1+1+1+1+1+1)⟩)
     (fun i=>i<=r.aC.length) (fun i=>r.aC.length - i) 0 (Nat.zero_le _) (bt.aT _ (show n3<=(n3+1+1+1+1+1+1+1+1+1+1+1+1+1+1+1+1)from ag) ag ?_ (fun j hj=> ?_) ?_) (fun i hi=> ?_)
    ·exact fm
    ·rw[arcP_0]
     by_cases ea:j=(n3+1+1+1+1+1+1+1+1+1+1+1+1+1+1+1)
     ·exact Ro
     by_cases ec:j=(n3+1+1+1+1+1+1+1+1)
     ·exact UD
     by_cases e23:j=23
     ·exact aaO
     by_cases en:j=n3
     ·exact Rp
     exact fq
    ·exact cz
    replace hi:i<=r.aC.length:=hi
    refine a8 ?_
    refine aj (fun h7=> ?_) (fun h7=> ?_)
    ·simp at h7
     obtain⟨pa,hpa⟩:=aF h7
     have agn:=List.mem_of_getElem? hpa
     refine oC hpa ?_
     refine az (fun j:Nat=>⟨aU [.aa, .ptr 0 0, .aa, .ptr 2 0, .ptr 13 0, .ptr 14 0, .ptr n3 0, .ptr (n3+1+1+1+1+1+1+1+1) 0, .ptr (n3+1+1+1+1+1+1+1+1+1+1+1+1+1+1+1) 0, .d (.i i), .ptr (n3+1+1+1+1+1+1+1+1+1+1+1+1+1+1+1+1+1+1+1+1) 0, .aa, .aa, .aa, .aa, .aa, .aa, .aa, .aa, .aa, .aa, .aa, .aa, .aa, .aa, .aa, .aa, .aa, .aa, .aa, .aa, .aa, .aa, .aa, .aa, .aa, .aa, .aa, .aa, .aa, .d (.sl (r.aC.map Tm.d)), .d (.i r.aC.length), .d (.i i), .aa, .aa, .aa, .aa, .aa, .aa, .d (.sl (x.t.kids.map Tm.d)), .d (.i x.t.kids.length), .d (.i j)],
      ax (ax (ax (ax (ax o3 n3 (.row x.row)) 23 (L .busy none)) (n3+1+1+1+1+1+1+1+1) (.row [.d (.i k), .d (.i r.fn), .d (.i 0), .aZ, .d (.bool x.bare), .aZ])) (n3+1+1+1+1+1+1+1+1+1+1+1+1+1+1+1) (mR (rA r.aC x.t.kids i j))) (n3+1+1+1+1+1+1+1+1+1+1+1+1+1+1+1+1+1+1+1+1) (.row pa.row),(n3+1+1+1+1+1+1+1+1+1+1+1+1+1+1+1+1+1+1+1+1+1)⟩)
      (fun j=>j<=x.t.kids.length) (fun j=>x.t.kids.length - j) 0 (Nat.zero_le _) (bt.aT _ (show n3<=(n3+1+1+1+1+1+1+1+1+1+1+1+1+1+1+1+1+1+1+1+1+1)from ag) ag ?_ (fun j hj=> ?_) ?_) (fun j hj=> ?_)
     ·exact fm
     ·by_cases eo:j=(n3+1+1+1+1+1+1+1+1+1+1+1+1+1+1+1+1+1+1+1+1)
      ·exact Rq
      repeat rw[ae _ (n3+1+1+1+1+1+1+1+1+1+1+1+1+1+1+1+1+1+1+1+1) _ _ eo]
     ·exact cz
     replace hj:j<=x.t.kids.length:=hj
     refine a8 ?_
     refine aj (fun h8=> ?_) (fun h8=> ?_)
     ·simp at h8
      obtain⟨ka,hka⟩:=aF h8
      have ago:=List.mem_of_getElem? hka
      have ZX:i<4:=ag
      have hj4:j<4:=ag
      refine oC hka ?_
      refine ba (F7 ka (hxk ka ago) pa (hpf pa agn)) rfl ?_
      have ua:=iT r.aC x.t.kids i j
      have M0:=sF (rA r.aC x.t.kids i j) (i*4+j) (ur ka pa) (by rw[ua];omega)
      have hav:oK r.aC x.t.kids i j=ur ka pa:=by unfold oK;rw[hpa,hka]
      rw[<- hav, <- Kh r.aC x.t.kids ZX hj4]at M0
      simp+contextual (disch:=first|omega|simp only[go_sem,false_implies]) only[go_sem,wrap64,if_pos,Int.toNat_natCast,Nat.mul_one,M0, <- hav]
      refine aH (bO (ids:=[]) (nx:=n3) aI aI [([],[]),([],[]),([25],[]),([20],[]),([],[]),([15],[]),([15],[]),([15],[15])] bI) ?_
      refine a8 ?_
      refine ak (j+1) h8 ag (bt.aT _ (show n3<=(n3+1+1+1+1+1+1+1+1+1+1+1+1+1+1+1+1+1+1+1+1+1)from ag) ag ?_ (fun q hq=> ?_) ?_)
      ·exact fm
      ·by_cases ea:q=(n3+1+1+1+1+1+1+1+1+1+1+1+1+1+1+1)
       ·exact Ro
       by_cases eo:q=(n3+1+1+1+1+1+1+1+1+1+1+1+1+1+1+1+1+1+1+1+1)
       ·exact Rq
       (repeat(first|rfl|rw[af]|rw[ae _ _ _ _ (by omega)]))
       rw[ae _ (n3+1+1+1+1+1+1+1+1+1+1+1+1+1+1+1+1+1+1+1+1) _ _ eo,ae _ (n3+1+1+1+1+1+1+1+1+1+1+1+1+1+1+1) _ _ ea]
      ·exact cz
     ·simp at h8
      have YY:j=x.t.kids.length:=ag
      subst YY
      refine a8 ?_
      refine ak (i+1) h7 ag (bt.aT _ (show n3<=(n3+1+1+1+1+1+1+1+1+1+1+1+1+1+1+1+1)from ag) ag ?_ (fun q hq=> ?_) ?_)
      ·exact fm
      ·rw[<- NZ _ _ YV,ae _ (n3+1+1+1+1+1+1+1+1+1+1+1+1+1+1+1+1+1+1+1+1) _ _ (by omega)]
      ·exact cz
    ·simp at h7
     have Vn:i=r.aC.length:=ag
     subst Vn
     rw[N0 _ _ hpp]
     have IY:=(DT r.aC x.t.kids).1
     simp+contextual (disch:=first|omega|simp only[go_sem,false_implies]) only[go_sem,wrap64,if_pos,gR _ IY,bF,bw,bX _ IY]
     refine dZ (XG _ IY) ?_
     refine a8 ?_
     refine aH (bO (ids:=[]) (nx:=n3) aI aI [([0],[]),([0],[]),([0],[]),([0],[]),([0],[]),([15],[]),([],[]),([8],[]),([8],[8]),([8],[]),([8],[8]),([8],[]),([8],[8])] bI) ?_
     refine On q2 q8 ?_
     refine cL _ _ _ .busy none ag (fin _ _ _ fm ag ?_ ?_ fun j hj j1 j2=> ?_) fq (fun id h3 h4=>by(repeat(first|rfl|rw[af]|rw[ae _ _ _ _ (by omega)])))
     ·unfold p7 Ez;rw[if_pos h4];(repeat(first|rfl|rw[af]|rw[ae _ _ _ _ (by omega)]));simp
     ·unfold p7 Ez;rw[if_pos h4, <- DV _ _ hpp YV];(repeat(first|rfl|rw[af]|rw[ae _ _ _ _ (by omega)]));simp
     ·exact fq
   have KF:(x.t.op==4)=false:=by simpa using h4
   by_cases h6:x.t.op=6
   ·have h6':(x.t.op==6)=true:=by simpa using h6
    simp+contextual (disch:=first|omega|simp only[go_sem,false_implies]) only[go_sem,wrap64,if_pos,q0,q2,q8,q13,q14,KF,h6',List.length_map]
    have hpn:V.refs (.d (.bool x.bare))=[]:=rfl
    refine az (fun i:Nat×V×V=>⟨aU [.aa, .ptr 0 0, .aa, .ptr 2 0, .ptr 13 0, .ptr 14 0, .ptr n3 0, .ptr (n3+1+1+1+1+1+1+1+1) 0, .aa, .aa, .aa, .aa, .aa, .aa, .aa, .aa, .aa, .aa, .aa, .aa, .aa, .aa, .aa, .aa, .aa, .aa, .aa, .aa, .aa, .aa, .aa, .aa, .aa, .aa, .aa, .aa, .aa, .aa, .aa, .aa, .aa, .aa, .aa, .aa, .aa, .aa, .aa, .aa, .aa, .aa, .aa, .aa, .aa, .aa, .aa, .aa, .aa, .aa, .aa, .aa, .aa, .aa, .aa, .aa, .aa, .aa, .aa, .aa, .aa, .aa, .aa, .aa, .aa, .aa, .aa, .aa, .aa, .aa, .aa, .aa, .aa, .aa, .d (.sl (ps.map .i)), .d (.i ps.length), .d (.i i.1)],
     ax (ax (ax (ax (ax o3 n3 (.row x.row)) 23 (L .busy none)) (n3+1+1+1+1+1+1+1+1) (.row [.d (.i k), .d (.i r.fn),i.2.1,i.2.2, .d (.bool x.bare), .aZ])) 2 (.row [.osl 8 (s'.length+i.1)])) 8 (.arr (s'.length+i.1) 40 6 ((ky p ps k++s'++(ps.take i.1).map fun to=>Cl.mk k r.fn to x.path x.bare []).map Cl.d)),n3+1+1+1+1+1+1+1+1+1⟩)
     (fun i=>i.1<=ps.length/\i.2.1.refs=[]/\i.2.2.refs=[]) (fun i=>ps.length - i.1) (0, .d (.i 0), .aZ) ⟨Nat.zero_le _,rfl,rfl⟩ (bt.aT _ (show n3<=n3+1+1+1+1+1+1+1+1+1 from ag) ag ?_ (fun j hj=> ?_) ?_) ?_
    ·exact fm
    ·by_cases e8:j=8
     ·subst e8;(repeat(first|rfl|rw[af]|rw[ae _ _ _ _ (by omega)]));rw[q8];simp
     by_cases e2:j=2
     ·subst e2;(repeat(first|rfl|rw[af]|rw[ae _ _ _ _ (by omega)]));rw[q2];simp
     by_cases ec:j=(n3+1+1+1+1+1+1+1+1)
     ·exact UD
     by_cases e23:j=23
     ·exact aaO
     by_cases en:j=n3
     ·exact Rp
     exact fq
    ·exact cz
    rintro⟨m,v2,v3⟩ ⟨g1,g2,g3⟩
    simp only at g1 g2 g3
    have ED:(ab.row [.d (.i k), .d (.i r.fn),v2,v3, .d (.bool x.bare), .aZ]).refs=[]:=by simp[ab.refs,V.aE,V.refs,g2,g3]
    have agL:(ky p ps k++s'++(ps.take m).map fun to=>Cl.mk k r.fn to x.path x.bare []).length<=100000100:=by
     rw[List.length_append,List.length_map,List.length_take];omega
    refine a8 ?_
    refine aj (fun h7=> ?_) (fun h7=> ?_)
    ·simp at h7
     obtain⟨to,hto⟩:=aF h7
     have EJ:ps.take (m+1)=ps.take m++[to]:=by rw[List.take_add_one,hto];rfl
     refine jz hto ?_
     refine a7 (N1 x.path ag) ?_
     refine rM ?_
     refine ak (m+1, .d (.i to), .d (.sl (x.path.map .i))) ⟨h7,rfl,rfl⟩ kp (bt.aT _ (show n3<=n3+1+1+1+1+1+1+1+1+1 from ag) ag ?_ (fun j hj=> ?_) ?_)
     ·exact fm
     ·by_cases e8:j=8
      ·subst e8;(repeat(first|rfl|rw[af]|rw[ae _ _ _ _ (by omega)]));rw[EJ];simp[Nat.add_assoc]
      by_cases e2:j=2
      ·exact UC
      by_cases ec:j=(n3+1+1+1+1+1+1+1+1)
      ·exact UD
      (repeat(first|rfl|rw[af]|rw[ae _ _ _ _ (by omega)]))
      rw[ae _ 8 _ _ e8,ae _ 2 _ _ e2,ae _ (n3+1+1+1+1+1+1+1+1) _ _ ec]
     ·exact cz
    ·simp at h7
     have hm:m=ps.length:=ag
     subst hm
     refine a8 ?_
     refine cL _ _ _ .busy none ag (fin _ _ _ ?_ ag ?_ ?_ fun j hj j1 j2=> ?_) fq (fun id h3 h4=>by(repeat(first|rfl|rw[af]|rw[ae _ _ _ _ (by omega)])))
     ·exact(((((hg.mono ag).ax ag rfl).ax ag (xX _ _ _ ag)).ax ag (by rw[ED];rfl)).ax ag zK).ax ag rfl
     ·exact aar
     ·exact aar
     ·exact fq
   ·have h6':(x.t.op==6)=false:=by simpa using h6
    simp+contextual (disch:=first|omega|simp only[go_sem,false_implies]) only[go_sem,wrap64,if_pos,q0,q2,q8,q13,q14,KF,h6',List.length_map]
    refine cL _ _ _ .busy none ag (fin _ _ _ fm ag ?_ ?_ fun j hj j1 j2=> ?_) fq (fun id h3 h4=>by(repeat(first|rfl|rw[af]|rw[ae _ _ _ _ (by omega)])))
    ·unfold p7 Ez;rw[if_neg h4,if_neg h6];(repeat(first|rfl|rw[af]|rw[ae _ _ _ _ (by omega)]));simp[q2]
    ·unfold p7 Ez;rw[if_neg h4,if_neg h6];(repeat(first|rfl|rw[af]|rw[ae _ _ _ _ (by omega)]));simp[q8]
    ·exact fq
  ·intro o' n' hI
   rw[Ec,List.nil_append]at hI
   simp only[px]
   refine a8 ?_
   have hg:=hI.bn
   refine ak (k+1) h1 ag (D3 (r:=2) (c:=8) (ep:=(T8 ps k r).length) (ds:=[]) _ hB gY ag (fun j hj ik=> ?_) ?_ ?_ ?_)
   ·rw[hI.eq j (by omega)];unfold rC kz;(repeat(first|rfl|rw[af]|rw[ae _ _ _ _ (by omega)]))
   ·rw[hI.eq 2 (by omega)];unfold rC;(repeat(first|rfl|rw[af]|rw[ae _ _ _ _ (by omega)]))
   ·rw[hI.eq 8 (by omega),sR p ps hr];unfold rC;(repeat(first|rfl|rw[af]|rw[ae _ _ _ _ (by omega)]))
   ·exact tU
 ·simp at h1
  have Vq:k=p.rules.length:=ag
  subst Vq
  simp+contextual (disch:=first|omega|simp only[go_sem,false_implies]) only[go_sem,wrap64,if_pos,k2,k8]
theorem N2{s:bH}(h:jw s=true):s.bK.length<=8:=by
 unfold jw at h
 split at h
 ·cases h
 ·rename_i h2
  simp at h2;omega
def mE(p:Pg):List Cl×Int:=if lQ p=true then(if(dh p).length<=60 then(dh p,0)else([],3))else([],2)
theorem zE(p:Pg)(hp:p.Fw)(h:cq p=true):aV Tryz.prog 41 [p.d] (.ret [crD p (pN p)]):=by
 have:=QR p hp
 rwa [show Bq p p.rules.length=p.rules.flatMap fun r=>mC r.rhs by unfold Bq;rw[List.take_length],Ya (fun r hr=>uS h hr)]at this
theorem Br{p:Pg}(h:cq p=true):(pN p).length<=100:=by
 unfold pN
 have h1:=List.length_filter_le (fun n=>(p.rules.flatMap fun r=>mC r.rhs).contains n) ((List.range p.sig.bK.length).map fun n:Nat=>(n:Int))
 rw[List.length_map,List.length_range]at h1
 have h2:=N2 (Bf h)
 omega
theorem N3(p:Pg)(hp:p.Fw)(h:cq p=true):aV Tryz.prog 42 [crD p (pN p)] (.ret [.sl ((dh p).map Cl.d)]):=
 QS p hp (fun r hr=>(uS h hr).len) (fun r hr x hx h4=>(uS h hr).kids (Bf h) hx h4) (pN p) (Br h)
theorem QT(p:Pg)(hf:p.Fin)(hp:p.Fw)(hq:lQ p=cq p):aV Tryz.prog 11 [p.d] (.ret [.sl ((mE p).1.map Cl.d), .i (mE p).2]):=by
 refine aV.aJ mix acD aI ?_
 rw[c11,mE]
 refine a8 ?_
 refine aD (DJ p hf) rfl ?_
 cases h1:lQ p with
 |false=>exact aab
 |true=>
 have h2:cq p=true:=hq ▸ h1
 refine EF ?_
 refine a7 (zE p hp h2) ?_
 refine a8 ?_
 refine a7 (N3 p hp h2) ?_
 have mX:(dh p).length<=50500000:=by
  have:=rB hp (Br h2) p.rules.length (Nat.le_refl _)
  have:=hp.len
  unfold dh;omega
 by_cases h3:(dh p).length<=60
 ·have mf:decide (((dh p).length:Int)>60)=false:=by simp;omega
  simp+contextual (disch:=first|omega|simp only[go_sem,false_implies]) only[go_sem,wrap64,if_pos,List.length_map,mf,if_pos h3]
 ·have mf:decide (((dh p).length:Int)>60)=true:=by simp;omega
  simp+contextual (disch:=first|omega|simp only[go_sem,false_implies]) only[go_sem,wrap64,if_pos,List.length_map,mf,if_neg h3]
theorem Yf(p:Pg)(hp:p.Fw):aV Tryz.prog 12 [p.d] (.ret [.bool (cq p)]):=by
 refine aV.aJ mix afH aI ?_
 rw[c12]
 refine a8 ?_
 refine aD (QP p hp) rfl ?_
 exact xV
theorem Yg(p:Pg)(hp:p.Fits):aV Tryz.prog 9 [p.d] (.ret [.bool (iS p)]):=by
 refine aV.aJ mix fn9 aI ?_
 rw[c9]
 refine a8 ?_
 refine aD (Ke p hp) rfl ?_
 exact xV
theorem aey{σ:Type}(l:List Int)(hl:l.length<=9223372036854775807)(g:Nat)(aM:List V)(base:Nat)(H:σ->Nat->ab)(step:σ->Int->σ×Bool)(hc:∀r∈V.aE aM,r<base)(ok:σ->Prop)(aW:∀x∈l,∀s,ok s->(step s x).2=true->ok (step s x).1)
 (h:∀x∈l,∀s,ok s->jg Tryz.prog g (.d (.i x)::aM) base (H s) (H (step s x).1) (.d (.bool (!(step s x).2)))) (s:σ) (iL:ok s):
 jg Tryz.prog 118 [.d (.sl (l.map D.i)), .func (.func g) [] aM] base (H s) (H (aw step s l).1) (.d (.i (pL step s l 0))):=by
 intro o nx hI K X hK
 have fu:∀r∈V.aE aM,r<nx:=fun r hr=>Nat.lt_of_lt_of_le (hc r hr) hI.le
 refine cH.aJ mix Th aI ?_
 rw[WU]
 refine cT ?_
 refine az (fun i:Nat×σ×(Nat->ab)×Nat=>⟨aU [.d (.sl (l.map D.i)), .func (.func g) [] aM, .aa, .aa, .aa, .aa, .aa, .d (.i l.length), .d (.i i.1)],i.2.2.1,i.2.2.2⟩)
  (fun i=>i.1<=l.length/\cR base (H i.2.1) i.2.2.1 i.2.2.2/\nx<=i.2.2.2/\(∀id,base<=id->id<nx->i.2.2.1 id=o id)/\aw step s l=aw step i.2.1 (l.drop i.1)/\ok i.2.1/\pL step s l 0=pL step i.2.1 (l.drop i.1) i.1) (fun i=>l.length - i.1) (0,s,o,nx)
  ⟨Nat.zero_le _,hI,Nat.le_refl _,fun _ _ _=>rfl,rfl,iL,rfl⟩ ?_ ?_
 ·exact Ls
 rintro⟨k,s',o',nx'⟩ ⟨hk,uw,hn,cP,hf,iG,u0⟩
 simp only at hk uw hn cP hf iG u0
 refine cT ?_
 refine aj (fun h1=> ?_) (fun h1=> ?_)
 ·simp at h1
  obtain⟨x,hx⟩:=aF h1
  have gf:=List.mem_of_getElem? hx
  have hd:l.drop k=x::l.drop (k+1):=by
   exact YO
  rw[hd]at hf u0
  simp only[aw,pL]at hf u0
  refine KO hx ?_
  refine dQ (h x gf s' iG _ _ (uw.mono ag) _ _ fun o2 n2 m1 m2 m3=> ?_)
  cases hb:(step s' x).2 with
  |true=>
   rw[hb]at hf u0
   simp only[if_true]at hf u0
   refine a8 ?_
   have wh:∀r∈V.aE aM,r<n2+1+1:=fun r hr=>by have:=fu r hr;omega
   exact zw0
  |false=>
   exact UX
 ·exact UZ
theorem Gb{σ:Type}(l:List Int)(hl:l.length<=9223372036854775807)(g:Nat)(aM:List V)(base:Nat)(H:σ->Nat->ab)(step:σ->Int->σ×Bool)(hc:∀r∈V.aE aM,r<base)(ok:σ->Prop)(aW:∀x∈l,∀s,ok s->(step s x).2=true->ok (step s x).1)
 (h:∀x∈l,∀s,ok s->jg Tryz.prog g (.d (.i x)::aM) base (H s) (H (step s x).1) (.d (.bool (!(step s x).2)))) (s:σ) (iL:ok s):
 jg Tryz.prog 81 [.d (.sl (l.map D.i)), .func (.func g) [] aM] base (H s) (H (aw step s l).1) (.d (.bool (!(aw step s l).2))):=by
 intro o nx hI K X hK
 have fu:∀r∈V.aE aM,r<nx:=fun r hr=>Nat.lt_of_lt_of_le (hc r hr) hI.le
 refine cH.aJ mix acW aI ?_
 rw[c81]
 refine iD ?_
 refine aS (aey l hl g aM base H step hc ok aW h s iL _ _ ?_ _ _ fun o2 n2 m1 m2 m3=> ?_)
 ·exact Gz
 refine iD ?_
 have e:decide (0<=pL step s l 0)= !(aw step s l).2:=by
  have:=A8 step l s 0 ag
  exact Vd
 rw[e]
 exact OO
theorem aez{x:Int}{g:Nat}{aM:List V}{base c bx:Nat}{h h2 O:Nat->ab}{r:Bool}(hS:jg Tryz.prog g (.d (.i x)::aM) base h h2 (.d (.bool r)))(hb:base<=bx)(Ot:bx<c)(hO:O bx= .row [.func (.func g) [] aM])(hc:∀r∈V.aE aM,r<base):
 jg Tryz.prog 82 [.d (.i x), .ptr bx 0] c (ext base h O) (ext base h2 O) (.d (.bool (!r))):=by
 intro o nx hI K X hK
 have hle:=hI.le
 have fu:∀r∈V.aE aM,r<nx:=fun r hr=>by have:=hc r hr;omega
 have ho:o bx= .row [.func (.func g) [] aM]:=by
  exact UO
 have y1:∀k,bx≠nx+k:=fun k=>ag
 have y2:bx≠nx:=ag
 refine cH.aJ mix acX aI ?_
 rw[c82]
 refine OH ho y1 y2 ?_
 refine dQ ((hS.ext (by omega:base<=c) O) _ _ ?_ _ _ fun o2 n2 m1 m2 m3=> ?_)
 ·exact Gz
 refine iD ?_
 exact OO
theorem N4{σ:Type}(l:List Int)(hl:l.length<=9223372036854775807)(g:Nat)(aM:List V)(base:Nat)(H:σ->Nat->ab)(step:σ->Int->σ×Bool)(hc:∀r∈V.aE aM,r<base)(ok:σ->Prop)(aW:∀x∈l,∀s,ok s->(step s x).2=true->ok (step s x).1)
 (h:∀x∈l,∀s,ok s->jg Tryz.prog g (.d (.i x)::aM) base (H s) (H (step s x).1) (.d (.bool (step s x).2))) (s:σ) (iL:ok s):
 jg Tryz.prog 46 [.d (.sl (l.map D.i)), .func (.func g) [] aM] base (H s) (H (aw step s l).1) (.d (.bool (aw step s l).2)):=by
 intro o nx hI K X hK
 have hle:=hI.le
 have fu:∀r∈V.aE aM,r<nx:=fun r hr=>Nat.lt_of_lt_of_le (hc r hr) hI.le
 refine cH.aJ mix acK aI ?_
 rw[c46]
 refine iD ?_
 refine aS (Gb l hl 82 [.ptr nx 0] (nx+1) (fun s=>ext base (H s) (ax o nx (.row [.func (.func g) [] aM]))) step oE ok aW (fun x hx s hs=>aez (h x hx s hs) hle ag (af _ _ _) hc) s iL _ _ ?_ _ _ fun o2 n2 m1 m2 m3=> ?_)
 ·have hr:(ab.row [V.func (.func g) [] aM]).refs.all (fun r=>decide (r<nx+4))=true:=by
   rw[List.all_eq_true]
   intro r hr
   have h1:r∈V.aE aM:=by simpa[ab.refs,V.aE,V.refs]using hr
   have:=fu r h1
   simp;omega
  exact UE
 refine iD ?_
 refine hK _ _ ag ⟨(m2.mono ag).bn,by have:=m2.le;omega,fun id aq=> ?_⟩ fun id i1 i2=> ?_
 ·exact ID
 ·exact UA
end Go.Proofs.YtnkamdiiakdkgaaGreat
