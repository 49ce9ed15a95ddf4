/-
  A PART OF THE PROOF. Conditions: none.
-/
import Derived.OpenShut
import Derived.Carry
import Derived.Handed
import Derived.JoinedOf
import Derived.ProofKit
import Derived.Test.YtnkamdiiakdkgaaGreatEt19
set_option linter.unusedSimpArgs false
set_option linter.unusedVariables false
section
namespace Go.Proofs.YtnkamdiiakdkgaaGreat
open Go.ChangeShapes Go.WideShapes Go.RowKit
def u9(P:Program)(rec:TypeId->Option (List TypeId)):Nat->List Field->Option (List TypeId)
 |_,[]=>some []
 |off,f::fs=>if f.offset=off then match rec f.type with
  |some l=>if P.cellsOf f.type=l.length then(u9 P rec (off+l.length) fs).map (l++·)else none
  |none=>none else none
def lX(P:Program):Nat->TypeId->Option (List TypeId)
 |0,_=>none
 |n+1,t=>match P.underlying t with
  |some .bool|some (.int _)|some .string|some (.slice _)=>some [t]
  |some (.struct fs)=>u9 P (lX P n) 0 fs.toList
  |some (.array k e)=>match lX P n e with
   |some l=>if P.cellsOf e=l.length then some (List.replicate k l).flatten else none
   |none=>none
  |_=>none
def isAgg(P:Program)(t:TypeId):Bool:=match P.underlying t with
 |some (.struct _)|some (.array _ _)=>true
 |_=>false
mutual
def D.gx (P:Program):D->TypeId->Prop
 | .int k n,t=>P.underlying t=some (.int k)/\(Lit.int k n).wf=true
 | .bool _,t=>P.underlying t=some .bool
 | .str l,t=>P.underlying t=some .string/\l.length<=maxLen
 | .sl es,t=>∃e,P.underlying t=some (.slice e)/\es.length<=maxLen/\D.Hn P es e
 | .agg cs,t=>isAgg P t=true/\∃ls,lX P 20 t=some ls/\D.iE P cs ls
 |_,_=>False
def D.Hn (P:Program):List D->TypeId->Prop
 |[],_=>True
 |x::l,e=>D.gx P x e/\D.Hn P l e
def D.iE (P:Program):List D->List TypeId->Prop
 |[],ts=>ts=[]
 |x::l,ts=>∃t r,ts=t::r/\D.gx P x t/\D.iE P l r
end
def s8(P:Program)(T:List TypeId):Bool:=T.all fun t=>match lX P 20 t with
 |some l=>decide (l.length=P.cellsOf t)&&decide (0<l.length)&&l.all fun u=>match P.underlying u with
  |some (.slice e)=>T.contains e
  |_=>true
 |none=>false
theorem qi{P:Program}:∀ {xs ys:List D} {l r:List TypeId},D.iE P xs l->D.iE P ys r->D.iE P (xs++ys) (l++r)
 |[],_,_,_,h,h'=>by simp only[D.iE]at h;subst h;exact h'
 |x::xs,_,_,_,h,h'=>by
  obtain⟨t,r,rfl,h1,h2⟩:=h
  exact⟨t,_,rfl,h1,qi h2 h'⟩
theorem bf{B:Nat->Prop}{w:World}:∀ {xs ys:List D} {l r:List Value},D.az B w xs l->D.az B w ys r->D.az B w (xs++ys) (l++r)
 |[],_,_,_,h,h'=>by simp only[D.az]at h;subst h;exact h'
 |x::xs,_,_,_,h,h'=>by
  obtain⟨t,r,rfl,h1,h2⟩:=h
  exact⟨t,_,rfl,h1,bf h2 h'⟩
theorem Flat.append {l r:List Value}(h:Flat l)(h':Flat r):Flat (l++r):=fun u hu=>(List.mem_append.1 hu).elim (h u) (h' u)
abbrev US:Nat->Prop:=fun _=>False
section
variable {H:Type}{enc:TypeId×Value->H}{P:Program}{W:World}{T:List TypeId}{b0:Nat}
def da(P:Program)(W:World)(l:List TypeId)(cs:List Value):Prop:=∃xs,D.iE P xs l/\D.az US W xs cs/\Flat cs
theorem da.append {l r:List TypeId}{cs ds:List Value}(h:da P W l cs)(h':da P W r ds):da P W (l++r) (cs++ds):=by
 obtain⟨xs,a1,a2,a3⟩:=h
 obtain⟨ys,b1,b2,b3⟩:=h'
 exact⟨xs++ys,qi a1 b1,bf a2 b2,a3.append b3⟩
theorem da.length {l:List TypeId}{cs:List Value}(h:da P W l cs):cs.length=l.length:=by
 obtain⟨xs,a1,a2,_⟩:=h
 rw[D.ax _ _ a2]
 clear a2
 induction xs generalizing l with
 |nil=>simp only[D.iE]at a1;simp[a1]
 |cons x xs ih=>obtain⟨t,r,rfl,_,h⟩:=a1;simp[ih h]
theorem da.nil:da P W [] []:=⟨[],rfl,rfl,fun _ h=>by cases h⟩
theorem Ce{α:Type}(cs:List α)(o k:Nat):cs.drop o=(cs.drop o).take k++cs.drop (o+k):=by
 rw[<- List.drop_drop];exact(List.take_append_drop k _).symm
theorem qj{rec:TypeId->Option (List TypeId)}{cs:List Value}{rd:TypeId->List Value->Prop}
 (bw:∀t l vs,rec t=some l->(∀u∈l,∀e,P.underlying u=some (.slice e)->e∈T)->P.cellsOf t=l.length->rd t vs->da P W l vs):
 ∀ (fs:List Field) (off:Nat) (l:List TypeId),u9 P rec off fs=some l->(∀u∈l,∀e,P.underlying u=some (.slice e)->e∈T)->(∀f∈fs,rd f.type ((cs.drop f.offset).take (P.cellsOf f.type)))->
   off+l.length=cs.length->da P W l (cs.drop off)
 |[],off,l,h,_,_,hl=>by
  simp only[u9,Option.some.injEq]at h
  subst h
  have:cs.drop off=[]:=List.drop_eq_nil_of_le (by simp at hl;omega)
  rw[this];exact da.nil
 |f::fs,off,l,h,hT,hr,hl=>by
  simp only[u9]at h
  split at h
  ·rename_i ho
   split at h
   ·rename_i l1 h1
    split at h
    ·rename_i hc
     simp only[Option.map_eq_some_iff]at h
     obtain⟨r,h2,rfl⟩:=h
     have hd:=hr f aJ
     rw[ho,hc]at hd
     rw[Ce cs off l1.length]
     simp only[List.length_append]at hl
     exact(bw f.type l1 _ h1 (fun u hu=>hT u (by simp[hu])) hc hd).append (qj bw fs _ r h2 (fun u hu=>hT u (by simp[hu])) (fun f hf=>hr f (by simp[hf])) ae)
    ·cases h
   ·cases h
  ·cases h
theorem sc{l:List TypeId}{cs:List Value}:∀ (k i:Nat),(∀j,j<k->da P W l ((cs.drop ((i+j)*l.length)).take l.length))->(i+k)*l.length=cs.length->da P W (List.replicate k l).flatten (cs.drop (i*l.length))
 |0,i,_,hl=>by
  have:cs.drop (i*l.length)=[]:=List.drop_eq_nil_of_le (by simp at hl;omega)
  rw[this];exact da.nil
 |k+1,i,h,hl=>by
  rw[List.replicate_succ,List.flatten_cons,Ce cs (i*l.length) l.length]
  refine(by simpa using h 0 ae:da P W l _).append ?_
  rw[show i*l.length+l.length=(i+1)*l.length by rw[Nat.add_mul];omega]
  refine sc k (i+1) (fun j hj=> ?_) (by rw[<- hl];congr 1;omega)
  have:=h (j+1) ae
  rwa [show i+(j+1)=i+1+j by omega]at this
theorem Cf{e:TypeId}{l:List TypeId}{cs:List Value}(hl:lX P 20 e=some l)(h:da P W l cs):∃ (ev:Value) (x:D),ev.cells.toList=cs/\D.gx P x e/\D.den US W x ev/\(isAgg P e=true->ev= .agg cs.toArray)/\(isAgg P e=false->cs=[ev]/\ev.oneCell'=true):=by
 obtain⟨xs,h1,h2,h3⟩:=h
 cases ha:isAgg P e with
 |true=>exact⟨.agg cs.toArray, .agg xs,by simp[Value.cells],⟨ha,l,hl,h1⟩,⟨_,rfl,by simpa using h2,by simpa using h3⟩,fun _=>rfl,(fun h=>by cases h)⟩
 |false=>
  have:l=[e]:=by
   unfold lX at hl
   unfold isAgg at ha
   split at hl<;>simp_all
  subst this
  obtain⟨t,r,e1,h4,h5⟩:∃x r,xs=x::r/\D.gx P x e/\D.iE P r []:=by
   cases xs with
   |nil=>simp[D.iE]at h1
   |cons x r=>obtain⟨t,r',e1,h4,h5⟩:=h1;injection e1 with e1 e2;subst e1;subst e2;exact⟨x,r,rfl,h4,h5⟩
  subst e1
  have:r=[]:=by cases r with
   |nil=>rfl
   |cons y r=>obtain⟨_,_,e,_⟩:=h5;cases e
  subst this
  obtain⟨u,us,rfl,h6,h7⟩:=h2
  simp only[D.az]at h7
  subst h7
  have ho:=h3 u aJ
  refine⟨u,t, ?_,h4,h6,(fun h=>by cases h),fun _=>⟨rfl,ho⟩⟩
  cases u<;>simp_all[Value.oneCell',Value.cells]
theorem Cg(hp:s8 P T=true){t:TypeId}(ht:t∈T):∃l,lX P 20 t=some l/\l.length=P.cellsOf t/\0<l.length/\∀u∈l,∀e,P.underlying u=some (.slice e)->e∈T:=by
 have:=List.all_eq_true.1 hp t ht
 split at this
 ·rename_i l hl
  simp only[Bool.and_eq_true,decide_eq_true_eq,List.all_eq_true]at this
  refine⟨l,hl,this.1.1,this.1.2,fun u hu e he=> ?_⟩
  have:=this.2 u hu
  rw[he]at this
  simpa using this
 ·cases this
theorem DK(hp:s8 P T=true):∀ (n m:Nat) (t:TypeId) (l:List TypeId) (cs:List Value) (x:DataW H×List MemPlace),lX P m t=some l->(∀u∈l,∀e,P.underlying u=some (.slice e)->e∈T)->
 P.cellsOf t=l.length->DataW.trod enc P W 0 (fun _=>true) true n t cs=some x->da P W l cs:=by
 intro n
 induction n with
 |zero=>intro m t l cs x _ _ _ h;simp[DataW.trod]at h
 |succ n ih=>
  intro m t l cs x hl hT hc h
  cases m with
  |zero=>simp[lX]at hl
  |succ m=>
  unfold lX at hl
  split at hl
  ·rename_i hu
   injection hl with hl;subst hl
   obtain⟨b,rfl,_⟩:=DataW.trod_bool hu h
   exact⟨[.bool b],⟨t,[],rfl,hu,rfl⟩,⟨_,_,rfl,rfl,rfl⟩,by simp[Flat,Value.oneCell']⟩
  ·rename_i k hu
   injection hl with hl;subst hl
   obtain⟨b,rfl,_,hw⟩:=DataW.trod_int hu h
   exact⟨[.int k b],⟨t,[],rfl,⟨hu,hw⟩,rfl⟩,⟨_,_,rfl,rfl,rfl⟩,by simp[Flat,Value.oneCell']⟩
  ·rename_i hu
   injection hl with hl;subst hl
   obtain⟨s,rfl,_,hw⟩:=DataW.trod_string hu h
   exact⟨[.str s.data.toList],⟨t,[],rfl,⟨hu,by simpa using hw⟩,rfl⟩,⟨_,_,rfl,⟨s,rfl,rfl⟩,rfl⟩,by simp[Flat,Value.oneCell']⟩
  ·rename_i e hu
   injection hl with hl;subst hl
   rcases DataW.trod_slice hu h with⟨rfl,_⟩|⟨a,len,cap,elems,rest,n',hn,rfl,_,_,h2,h3,h4,h5,h6,_⟩
   ·exact⟨[.sl []],⟨t,[],rfl,⟨e,hu,aJ,trivial⟩,rfl⟩,⟨_,_,rfl,⟨none,0,0,rfl,rfl,aJ,fun _=>rfl,0,(fun a ha=>by cases ha)⟩,rfl⟩,by simp[Flat,Value.oneCell']⟩
   ·injection hn with hn;subst hn
    obtain⟨l',g1,g2,g3,g4⟩:=Cg hp (hT t aJ e hu)
    have at':∀i,i<len->∃ev:Value,∃y:D,ev.cells.size=P.cellsOf e/\fW US W (a.add (i*P.cellsOf e)) ev.cells/\D.den US W y ev/\D.gx P y e:=by
     intro i hi
     have:=h5 i hi
     rw[List.getElem?_eq_getElem (by omega)]at this
     obtain⟨ci,k1,k2⟩:=Option.bind_eq_some_iff.1 this
     obtain⟨_,k3,k4⟩:=World.cells?_some k1
     have k5:=ih 20 e l' ci _ g1 g4 g2.symm k2
     obtain⟨ev,y,q1,q2,q3,_,_⟩:=Cf g1 k5
     have q4:ev.cells=ci.toArray:=by rw[<- q1]
     refine⟨ev,y,by rw[q4];simp[k5.length,g2],fun j u hj=>⟨?_,fun h=>h⟩,q3,q2⟩
     rw[q4]at hj
     have HA:ci[j]? =some u:=by simpa using hj
     have cm:j<P.cellsOf e:=by rw[<- g2, <- k5.length];exact(List.getElem?_eq_some_iff.1 HA).1
     rw[k4 j cm];exact HA
    have list:∀k i,i+k=len->∃es,es.length=k/\D.Hn P es e/\D.elems US W (P.cellsOf e) a i es:=by
     intro k
     induction k with
     |zero=>intro i _;exact⟨[],rfl,trivial,trivial⟩
     |succ k ihk=>
      intro i hi
      obtain⟨es,e1,e2,e3⟩:=ihk (i+1) ae
      obtain⟨ev,y,y1,y2,y3,y4⟩:=at' i ae
      exact⟨y::es,by simp[e1],⟨y4,e2⟩,⟨ev,y1,y2,y3⟩,e3⟩
    obtain⟨es,e1,e2,e3⟩:=list len 0 ae
    have abr:cap≠0->a.spot=none:=by
     intro il
     have QS:∀z,(W.cells? 0 (a.add (0*P.cellsOf e)) (P.cellsOf e)).bind (DataW.trod enc P W 0 (fun _=>true) true n e)=some z->a.spot=none:=by
      intro z hz
      obtain⟨ci,k1,k2⟩:=Option.bind_eq_some_iff.1 hz
      obtain⟨_,k3,k4⟩:=World.cells?_some k1
      have k5:=k4 0 ae
      rw[List.getElem?_eq_getElem (by omega)]at k5
      simpa[Addr.add]using World.cell?_spot k5
     by_cases hlen:0<len
     ·have:=h5 0 hlen
      rw[List.getElem?_eq_getElem (by omega)]at this
      exact QS _ this
     ·obtain⟨h7,h8⟩:=h6 rfl
      have:=h8 0 ae
      rw[List.getElem?_eq_getElem (by omega),show(len+0)=0 by omega]at this
      exact QS _ this
    exact⟨[.sl es],⟨t,[],rfl,⟨e,hu,ae,e2⟩,rfl⟩,⟨_,_,rfl,⟨some a,len,cap,rfl,e1.symm,h2,(fun h=>by cases h),P.cellsOf e,(fun a' NH=>by injection NH with NH;subst NH;exact⟨abr,e3⟩)⟩,rfl⟩,by simp[Flat,Value.oneCell']⟩
  ·rename_i fs hu
   obtain⟨xs,n',hn,_,h2,h3,h4⟩:=DataW.trod_struct hu h
   injection hn with hn;subst hn
   have:=qj (P:=P) (W:=W) (T:=T) (cs:=cs) (rd:=fun t vs=>∃y,DataW.trod enc P W 0 (fun _=>true) true n t vs=some y) (rec:=lX P m) (fun t l vs q1 q2 q3 ⟨y,q4⟩=>ih m t l vs y q1 q2 q3 q4) fs.toList 0 l hl hT ?_ ae
   ·simpa using this
   ·intro f hf
    obtain⟨i,hi,hfi⟩:=List.getElem_of_mem hf
    have:=h4 i f (by simp at hi;simp[<- hfi,Array.getElem?_eq_getElem hi])
    rw[List.getElem?_eq_getElem (by simp at hi;omega)]at this
    exact⟨_,this⟩
  ·rename_i k e hu
   split at hl
   ·rename_i l' Mk
    split at hl
    ·rename_i hce
     injection hl with hl;subst hl
     obtain⟨xs,n',hn,_,h2,h3,h4⟩:=DataW.trod_array hu h
     injection hn with hn;subst hn
     have hlen:cs.length=k*l'.length:=by rw[h2,hc];simp
     have hT':0<k->∀u∈l',∀e,P.underlying u=some (.slice e)->e∈T:=fun hk u hu=>hT u (List.mem_flatten.2 ⟨l',List.mem_replicate.2 ⟨ae,rfl⟩,hu⟩)
     have:=sc (P:=P) (W:=W) (l:=l') (cs:=cs) k 0 (fun j hj=> ?_) (by rw[hlen];simp)
     ·simpa using this
     ·have:=h4 j hj
      rw[hce,List.getElem?_eq_getElem (by omega)]at this
      rw[Nat.zero_add]
      exact ih m e l' _ _ Mk (hT' ae) hce this
    ·cases hl
   ·cases hl
  ·cases hl
theorem xq(hp:s8 P T=true):∀ (ts:List TypeId) (vs:List Value) (ds:List (DataW H)) (p:List MemPlace),(∀t∈ts,t∈T)->DataW.TrodAll enc P W 0 (fun _=>true) true ts vs ds p->
 (∀ (j:Nat) t v,ts[j]? =some t->vs[j]? =some v->Value.okWide P W .any b0 t v)->∃xs,D.iE P xs ts/\D.az US W xs vs
 |[],vs,ds,p,_,h,_=>by
  obtain⟨rfl,rfl,rfl⟩:=trodAll_nil h
  exact⟨[],rfl,rfl⟩
 |t::ts,vs,ds,p,hT,h,hv=>by
  obtain⟨v,vs',d,Yn,p1,q1,rfl,rfl,rfl,⟨n,h1⟩,h2⟩:=trodAll_cons h
  obtain⟨xs,a1,a2⟩:=xq hp ts vs' Yn q1 (fun t ht=>hT t (by simp[ht])) h2 (fun j t v h1 h2=>hv (j+1) t v (by simpa using h1) te)
  obtain⟨l,g1,g2,g3,g4⟩:=Cg hp (hT t aJ)
  obtain⟨ev,x,q1,q2,q3,q4,q5⟩:=Cf g1 (DK hp n 20 t l _ _ g1 g4 g2.symm h1)
  have aS:=hv 0 t v rfl rfl
  have:ev=v:=by
   cases ha:isAgg P t with
   |true=>
    have:∃cs,v= .agg cs:=by
     unfold isAgg at ha
     unfold Value.okWide at aS
     split at ha
     ·rename_i hu;rw[hu]at aS;obtain⟨cs,rfl,_⟩:=aS;exact⟨cs,rfl⟩
     ·rename_i hu;rw[hu]at aS;obtain⟨cs,rfl,_⟩:=aS;exact⟨cs,rfl⟩
     ·cases ha
    obtain⟨cs,rfl⟩:=this
    rw[q4 ha]
    simp[Value.cells]
   |false=>
    obtain⟨q6,q7⟩:=q5 ha
    cases v with
    |agg cs=>
     exfalso
     unfold isAgg at ha
     unfold Value.okWide at aS
     split at aS
     ·rename_i hu;rw[hu]at ha;cases ha
     ·rename_i hu;rw[hu]at ha;cases ha
     ·unfold Cell.okWide at aS
      split at aS
      case h_8=>
       unfold Cell.ok at aS
       split at aS<;>first|exact aS|contradiction
      all_goals contradiction
    |_=>simp only[Value.cells,List.cons.injEq,and_true]at q6;exact q6.symm
  subst this
  exact⟨x::xs,⟨t,ts,rfl,q2,a1⟩,⟨_,_,rfl,q3,a2⟩⟩
theorem dx.below {w w':World}(h:dx (fun _=>False) w w'):Below w.heap.size w w':=⟨h.os,h.tape,h.output,h.size,fun k hk=>h.block k hk (fun h=>h)⟩
theorem xr(hl:laidOutB P=true){W':World}{sp:Nat->Bool}:∀ {ts:List TypeId} {vs:List Value} {ds:List (DataW H)} {p:List MemPlace},(∀t∈ts,P.readableRec t=true/\t<P.types.size)->DataW.TrodAll enc P W 0 (fun _=>true) true ts vs ds p->
 (∀x∈p,W.sameAt W' x/\sp x.block=true)->DataW.TrodAll enc P W' 0 sp true ts vs ds p
 |[],vs,ds,p,_,h,_=>by
  obtain⟨rfl,rfl,rfl⟩:=trodAll_nil h
  exact trodAll_mk0
 |t::ts,vs,ds,p,hr,h,hs=>by
  obtain⟨v,vs',d,Yn,p1,q1,rfl,rfl,rfl,h1,h2⟩:=trodAll_cons h
  exact⟨p1,q1,WideElems.Trod_stays hl (hr t aJ).1 (hr t aJ).2 h1 (fun x hx=>(hs x og).1) (fun x hx=>(hs x og).2),xr hl (fun t ht=>hr t (by simp[ht])) h2 (fun x hx=>hs x og),rfl⟩
theorem K8{sp:Nat->Bool}:∀ {ts:List TypeId} {vs:List Value} {ds:List (DataW H)} {ps:List MemPlace},DataW.TrodAll enc P W 0 sp true ts vs ds ps->ds.length=ts.length
 |[],_,_,_,h=>by obtain⟨_,rfl,_⟩:=trodAll_nil h;rfl
 |_::_,_,_,_,h=>by
  obtain⟨_,_,_,_,_,_,_,rfl,_,_,h2⟩:=trodAll_cons h
  simp[K8 h2]
theorem zB{f:FuncId}{fn:Func}{s:ChangeSpec}{tb:TypeId}{fresh handsOn again:Bool}(xZ:fn.resultTypes=#[tb])(zF:P.underlying tb=some .bool)(QT:s.vars=[])
 (K9:∀ds:List (DataW H),ds.length=fn.params.toList.length->s.fn H ds={results:=[.lit (.bool true)],args:=ds}) (hp:s8 P T=true) (hT:∀t∈fn.params.toList,t∈T) (hl:laidOutB P=true)
 (hr:∀t∈fn.params.toList,P.readableRec t=true/\t<P.types.size) (law:∀xs,D.iE P xs fn.params.toList->aV P f xs (.ret [.bool true]))
 (base:Nat) (args:Array Value) (ds gs:List (DataW H)) (before:List MemPlace)
 (eK:∀ (j:Nat) t v,fn.params[j]? =some t->args[j]? =some v->Value.okWide P W .any base t v) (hW:DataW.Whole enc P fn.params.toList s.vars false W args.toList ds gs before):
 Calls P f args W fun e W'=>∃v,e= .returned v/\s.post enc P fn false fresh handsOn again W args v W':=by
 have hW':=hW
 obtain⟨p,q,hA,hV,rfl,hfz,hnd⟩:=hW
 rw[QT]at hV
 obtain⟨rfl,rfl⟩:=trodVars_none hV
 obtain⟨xs,a1,a2⟩:=xq (b0:=base) hp fn.params.toList args.toList ds p hT hA (fun j t v h1 h2=>eK j t v (by simpa using h1) te)
 refine((law xs a1).2 US W args (fun _ h=>h.elim) a2).mono fun e W' ⟨hk,ho⟩=> ?_
 have hb:=hk.below
 cases e with
 |panicked ch=>exact ho.elim
 |outgrown=>exact ho.elim
 |returned v=>
  simp only[R.is,D.den]at ho
  subst ho
  refine⟨_,rfl, ?_⟩
  have hlen:ds.length=fn.params.toList.length:=(K8 hA)
  have hold:∀x∈p,x.block<W.heap.size:=fun x hx=>by simpa using hW'.lt x vW
  have dB:∀sp:Nat->Bool,(∀x∈p,sp x.block=true)->DataW.TrodAll enc P W' 0 sp true fn.params.toList args.toList ds p:=fun sp Cq=>xr hl hr hA fun x hx=>⟨hb.same (hold x hx),Cq x hx⟩
  have QU:∀ (b:Nat) (sp:Nat->Bool) (hd:Bool),DataW.TrodAll enc P W' b sp hd fn.resultTypes.toList ((Value.bool true).resultList fn.resultTypes.size) [.lit (.bool true)] []:=fun b sp hd=>by
   rw[xZ]
   exact trodAll_cons_mk (p:=[]) (p':=[]) ⟨1,by simp[DataW.trod,Value.cells,zF]⟩ trodAll_mk0
  have La:∀sp:Nat->Bool,DataW.TrodVars enc P W' sp s.vars [] []:=fun sp=>by rw[QT];rfl
  refine⟨ds,[],p++[],[],p,[],hW', ?_, ?_, ?_,World.keptBut_mono (fun _ h=>h.elim) (hb.frame (fun _=>False)),fun _=>⟨?_,[.lit (.bool true)]++ds,[],([]++p)++[],⟨[]++p,[],trodAll_append (dB _ fun _ _=>rfl) (QU 0 (fun _=>true) true),La _,rfl, ?_,(fun h=>by cases h)⟩,fun x hx _=>by simpa using hx⟩⟩
  ·rw[List.append_nil,K9 ds hlen];exact QU _ _ _
  ·rw[List.append_nil,K9 ds hlen];exact dB _ fun x hx=>by simpa using hold x hx
  ·rw[List.append_nil,K9 ds hlen];exact La _
  ·intro j t r h1 h2
   rw[xZ]at h1 h2
   match j,h1,h2 with
   |0,h1,h2=>
    simp[Value.resultList]at h1 h2
    subst h1;subst h2
    simp[Value.okWide,zF,Cell.okWide,Cell.ok]
  ·intro b off hx
   rw[hb.frozen (by simpa[MemPlace.block]using hold _ (by simpa using hx))]
   exact hfz b off vW
end
section
variable {P:Program}{t e:TypeId}{x:D}
theorem lh{k:IntKind}(ht:P.underlying t=some (.int k))(h:D.gx P x t):∃n,x= .int k n/\(Lit.int k n).wf=true:=by
 cases x<;>simp only[D.gx]at h
 case int k' n=>
  rw[ht]at h
  obtain⟨h1,h2⟩:=h
  injection h1 with h1;injection h1 with h1;subst h1
  exact⟨n,rfl,h2⟩
 case bool=>rw[ht]at h;cases h
 case str=>rw[ht]at h;cases h.1
 case sl=>obtain⟨e,h,_⟩:=h;rw[ht]at h;cases h
 case agg=>have:=h.1;unfold isAgg at this;rw[ht]at this;cases this
theorem Ho(ht:P.underlying t=some .bool)(h:D.gx P x t):∃b,x= .bool b:=by
 cases x<;>simp only[D.gx]at h
 case int k' n=>rw[ht]at h;cases h.1
 case bool b=>exact⟨b,rfl⟩
 case str=>rw[ht]at h;cases h.1
 case sl=>obtain⟨e,h,_⟩:=h;rw[ht]at h;cases h
 case agg=>have:=h.1;unfold isAgg at this;rw[ht]at this;cases this
theorem Lb(ht:P.underlying t=some .string)(h:D.gx P x t):∃l,x= .str l/\l.length<=maxLen:=by
 cases x<;>simp only[D.gx]at h
 case int k' n=>rw[ht]at h;cases h.1
 case bool b=>rw[ht]at h;cases h
 case str l=>exact⟨l,rfl,h.2⟩
 case sl=>obtain⟨e,h,_⟩:=h;rw[ht]at h;cases h
 case agg=>have:=h.1;unfold isAgg at this;rw[ht]at this;cases this
theorem lS(ht:P.underlying t=some (.slice e))(h:D.gx P x t):∃es,x= .sl es/\es.length<=maxLen/\D.Hn P es e:=by
 cases x<;>simp only[D.gx]at h
 case int k' n=>rw[ht]at h;cases h.1
 case bool b=>rw[ht]at h;cases h
 case str l=>rw[ht]at h;cases h.1
 case sl es=>
  obtain⟨e',h,h2,h3⟩:=h
  rw[ht]at h;injection h with h;injection h with h;subst h
  exact⟨es,rfl,h2,h3⟩
 case agg=>have:=h.1;unfold isAgg at this;rw[ht]at this;cases this
theorem nb{ls:List TypeId}(ha:isAgg P t=true)(hl:lX P 20 t=some ls)(h:D.gx P x t):∃cs,x= .agg cs/\D.iE P cs ls:=by
 have no:∀u,P.underlying t=some u->(∀fs,u≠ .struct fs)->(∀k e,u≠ .array k e)->False:=by
  intro u hu h1 h2
  unfold isAgg at ha
  rw[hu]at ha
  split at ha
  ·rename_i e;injection e with e;exact h1 _ e
  ·rename_i e;injection e with e;exact h2 _ _ e
  ·cases ha
 cases x<;>simp only[D.gx]at h
 case int k' n=>exact(no _ h.1 (fun _ h=>by cases h) (fun _ _ h=>by cases h)).elim
 case bool b=>exact(no _ h (fun _ h=>by cases h) (fun _ _ h=>by cases h)).elim
 case str l=>exact(no _ h.1 (fun _ h=>by cases h) (fun _ _ h=>by cases h)).elim
 case sl es=>obtain⟨e',h,_⟩:=h;exact(no _ h (fun _ h=>by cases h) (fun _ _ h=>by cases h)).elim
 case agg cs=>
  obtain⟨_,ls',h1,h2⟩:=h
  rw[hl]at h1;injection h1 with h1;subst h1
  exact⟨cs,rfl,h2⟩
theorem aX{t:TypeId}{ts:List TypeId}{cs:List D}(h:D.iE P cs (t::ts)):∃x xs,cs=x::xs/\D.gx P x t/\D.iE P xs ts:=by
 cases cs with
 |nil=>simp[D.iE]at h
 |cons x xs=>obtain⟨_,_,e,h1,h2⟩:=h;injection e with e1 e2;subst e1;subst e2;exact⟨x,xs,rfl,h1,h2⟩
theorem jj{cs:List D}(h:D.iE P cs []):cs=[]:=by
 cases cs with
 |nil=>rfl
 |cons x xs=>obtain⟨_,_,e,_⟩:=h;cases e
theorem jK{α:Type}{f:α->D}{q:α->Prop}(hf:∀x,D.gx P x e->∃a,x=f a/\q a):∀ (es:List D),D.Hn P es e->∃l:List α,es=l.map f/\∀a∈l,q a
 |[],_=>⟨[],rfl,fun _ h=>by cases h⟩
 |x::es,h=>by
  obtain⟨a,rfl,h1⟩:=hf x h.1
  obtain⟨l,rfl,h2⟩:=jK hf es h.2
  exact⟨a::l,rfl,fun b hb=>(List.mem_cons.1 hb).elim (fun e=>e ▸ h1) (h2 b)⟩
end
end Go.Proofs.YtnkamdiiakdkgaaGreat
end
section
namespace Go.Proofs.YtnkamdiiakdkgaaGreat
open Go.ChangeShapes Go.WideShapes Go.RowKit
theorem nB:maxLen<=9223372036854775807:=bO
theorem Ch{x:D}(h:D.gx Tryz.prog x 3):∃n:Int,x= .i n:=by
 obtain⟨n,h,_⟩:=lh undT_3 h
 exact⟨n,h⟩
theorem abt{x:D}(h:D.gx Tryz.prog x 53):∃n:Int,x= .i n:=by
 obtain⟨n,h,_⟩:=lh undT_53 h
 exact⟨n,h⟩
theorem abu{x:D}(h:D.gx Tryz.prog x 102):∃r:iT,x=r.d/\r.name.length<=9223372036854775807:=by
 obtain⟨cs,rfl,hh⟩:=nb ag (ls:=[9,3]) ag h
 clear h;have h:=hh;clear hh
 obtain⟨a,cs,rfl,ha,h⟩:=aX h
 obtain⟨b,cs,rfl,hb,h⟩:=aX h
 have:=jj h;subst this
 obtain⟨l,rfl,hl⟩:=Lb ag ha
 obtain⟨n,rfl⟩:=Ch hb
 exact⟨⟨l,n⟩,rfl,by have:=nB;simp only;omega⟩
theorem Lc:∀ (n:Nat) (x:D),SizeOf.sizeOf x<=n->D.gx Tryz.prog x 55->∃t:Tm,x=t.d/\t.fits:=by
 intro n
 induction n with
 |zero=>intro x hx _;cases x<;>simp at hx
 |succ n ih=>
  intro x hx h
  obtain⟨cs,rfl,hh⟩:=nb ag (ls:=[53,3,49]) ag h
  clear h;have h:=hh;clear hh
  obtain⟨a,cs,rfl,ha,h⟩:=aX h
  obtain⟨b,cs,rfl,hb,h⟩:=aX h
  obtain⟨c,cs,rfl,hc,h⟩:=aX h
  have:=jj h;subst this
  obtain⟨o,rfl⟩:=abt ha
  obtain⟨m,rfl⟩:=Ch hb
  obtain⟨es,rfl,h1,h2⟩:=lS undT_49 hc
  have Eh:SizeOf.sizeOf es<=n:=by simp at hx;omega
  have:∀es:List D,SizeOf.sizeOf es<=n->D.Hn Tryz.prog es 55->∃l:List Tm,es=l.map Tm.d/\∀k∈l,k.fits:=by
   intro es
   induction es with
   |nil=>intro _ _;exact⟨[],rfl,fun _ h=>by cases h⟩
   |cons y es ihe=>
    intro hs h
    simp at hs
    obtain⟨t,rfl,ht⟩:=ih y ae h.1
    obtain⟨l,rfl,hl⟩:=ihe ae h.2
    exact⟨t::l,rfl,fun b hb=>(List.mem_cons.1 hb).elim (fun e=>e ▸ ht) (hl b)⟩
  obtain⟨l,rfl,hl⟩:=this es Eh h2
  refine⟨.mk o m l,by rw[Tm.Jq], ?_⟩
  rw[Tm.bR]
  exact⟨by have:=nB;simp at h1;simp only[Tm.kids];omega,hl⟩
theorem adq{x:D}(h:D.gx Tryz.prog x 55):∃t:Tm,x=t.d/\t.fits:=Lc _ x (Nat.le_refl _) h
end Go.Proofs.YtnkamdiiakdkgaaGreat
end
section
namespace Go.Proofs.YtnkamdiiakdkgaaGreat
open Go.ChangeShapes Go.WideShapes Go.RowKit
theorem QV{x:D}(h:D.gx Tryz.prog x 49):∃l:List Tm,x= .sl (l.map Tm.d)/\l.length<=9223372036854775807/\∀t∈l,t.fits:=by
 obtain⟨es,rfl,h1,h2⟩:=lS undT_49 h
 obtain⟨l,rfl,hl⟩:=jK (fun x h=>adq h) es h2
 have:=nB
 exact⟨l,rfl,by simp at h1;omega,hl⟩
structure Rl.Fits (r:Rl):Prop where
 aA:r.aA.length<=9223372036854775807
 all:∀t∈r.aA,t.fits
 rhs:r.rhs.fits
theorem adr{x:D}(h:D.gx Tryz.prog x 57):∃r:Rl,x=r.d/\r.Fits:=by
 obtain⟨cs,rfl,hh⟩:=nb ag (ls:=[3,49,53,3,49,3]) ag h
 clear h;have h:=hh;clear hh
 obtain⟨a,cs,rfl,ha,h⟩:=aX h
 obtain⟨b,cs,rfl,hb,h⟩:=aX h
 obtain⟨c,cs,rfl,hc,h⟩:=aX h
 obtain⟨d,cs,rfl,hd,h⟩:=aX h
 obtain⟨e,cs,rfl,he,h⟩:=aX h
 obtain⟨f,cs,rfl,hf,h⟩:=aX h
 have:=jj h;subst this
 obtain⟨m,rfl⟩:=Ch ha
 obtain⟨l,rfl,l1,l2⟩:=QV hb
 obtain⟨o,rfl⟩:=abt hc
 obtain⟨n,rfl⟩:=Ch hd
 obtain⟨k,rfl,k1,k2⟩:=QV he
 obtain⟨v,rfl⟩:=Ch hf
 exact⟨⟨m,l, .mk o n k,v⟩,rfl,⟨l1,l2,(Tm.bR _).2 ⟨k1,k2⟩⟩⟩
structure Pg.Fits (p:Pg):Prop where
 sig:p.sig.Fits
 len:p.rules.length<=9223372036854775807
 all:∀r∈p.rules,r.Fits
theorem ads{x:D}(h:D.gx Tryz.prog x 27):∃p:Pg,x=p.d/\p.Fits:=by
 obtain⟨cs,rfl,hh⟩:=nb ag (ls:=[22,22,25]) ag h
 clear h;have h:=hh;clear hh
 obtain⟨a,cs,rfl,ha,h⟩:=aX h
 obtain⟨b,cs,rfl,hb,h⟩:=aX h
 obtain⟨c,cs,rfl,hc,h⟩:=aX h
 have:=jj h;subst this
 obtain⟨es,rfl,h1,h2⟩:=lS undT_22 ha
 obtain⟨l,rfl,hl⟩:=jK (fun x h=>abu h) es h2
 obtain⟨es',rfl,h3,h4⟩:=lS undT_22 hb
 obtain⟨l',rfl,Mk⟩:=jK (fun x h=>abu h) es' h4
 obtain⟨es2,rfl,h5,h6⟩:=lS (e:=57) ag hc
 obtain⟨q,rfl,hq⟩:=jK (fun x h=>adr h) es2 h6
 have:=nB
 exact⟨⟨⟨l,l'⟩,q⟩,rfl,⟨⟨by simp at h1;simp only;omega,by simp at h3;simp only;omega,hl,Mk⟩,by simp at h5;simp only;omega,hq⟩⟩
end Go.Proofs.YtnkamdiiakdkgaaGreat
end
namespace Go.Proofs.YtnkamdiiakdkgaaGreat
def dW(l:List Tm):Bool:=decide (l.length<=6)&&l.all kE
def iF(p:Pg):Bool:=(gR p.sig&&decide (p.rules.length<=20))&&p.rules.all fun r=>dW r.aA&&kE r.rhs
theorem Hq{p:Pg}(hf:p.Fits)(h:iF p=true):p.Fin/\Fj p:=by
 simp only[iF,dW,Bool.and_eq_true,decide_eq_true_eq,List.all_eq_true,uO]at h
 obtain⟨_,h⟩:=h
 refine⟨⟨hf.sig,hf.len,fun r hr=> ?_⟩,fun r hr=> ?_⟩
 ·obtain⟨⟨a,b⟩,c⟩:=h r hr
  have xS:=hf.all r hr
  exact⟨ae,fun t ht=>⟨xS.all t ht,by have:=(b t ht).2;omega⟩,⟨xS.rhs,by have:=c.2;omega⟩⟩
 ·obtain⟨⟨a,b⟩,c⟩:=h r hr
  exact⟨a,fun t ht=>(b t ht).1,c.1⟩
end Go.Proofs.YtnkamdiiakdkgaaGreat
namespace Go.Proofs.YtnkamdiiakdkgaaGreat
def xu(s:bC)(n:Int)(p:Tm):Bool:=(fj s p&&((fR p []).2&&gw p))&&eu n p
theorem xw(s:bC)(r:Rl):fH s r=((jJ s r&&fj s r.rhs)&&r.aA.all (xu s r.vars)&&(DE r.aA&&eu r.vars r.rhs&&rk r.rhs (bL (.mk 0 0 r.aA)))):=rfl
set_option maxHeartbeats 1000000 in
theorem UT(s:bC)(hs:s.Fits)(r:Rl)(hp:K5 r.aA)(hf:r.rhs.fits)(hz:r.rhs.sz<=500):aV Tryz.prog 78 [s.d,r.d] (.ret [.bool (fH s r)]):=by
 have xM:=hp.len
 have hlf:=hs.lf
 have hrc:r.rhs.Dw:=Tm.Dw.DJ hf ae
 refine aV.aF mix ac6 aJ ?_
 rw[c78]
 have fin:(jJ s r&&fj s r.rhs)=false->fH s r=false:=fun h=>by rw[xw,h];rfl
 refine Q4 ?_
 refine bg (zW _ _ _) rfl ?_
 cases f1:dE r.fn 0 ((s.bG.length:Int) - 1)with
 |false=>
  have e:fH s r=false:=fin (by
   have:jJ s r=false:=by
    simp only[dE,Bool.and_eq_false_iff,decide_eq_false_iff_not]at f1
    unfold jJ
    by_cases h:0<=r.fn
    ·rw[List.getElem?_eq_none (by omega:s.bG.length<=r.fn.toNat)];simp
    ·rw[decide_eq_false h];rfl
   rw[this];rfl)
  refine Q4 ?_
  exact Oo
 |true=>
 obtain⟨h0,x,hx⟩:=xC f1
 have BX:jJ s r=((r.aA.length:Int)==x.args&&decide (0<=r.vars)&&decide (r.vars<=20)):=by
  unfold jJ;rw[hx];simp[h0]
 cases f2:((r.aA.length:Int)!=x.args)with
 |true=>
  have e:fH s r=false:=fin (by
   have:((r.aA.length:Int)==x.args)=false:=by simpa using f2
   rw[BX,this];rfl)
  exact RL
 |false=>
 have Kx:((r.aA.length:Int)==x.args)=true:=by simpa using f2
 refine Ws hx f2 ?_
 refine bg (zW _ _ _) rfl ?_
 cases f3:dE r.vars 0 20 with
 |false=>
  have e:fH s r=false:=fin (by
   have:(decide (0<=r.vars)&&decide (r.vars<=20))=false:=f3
   rw[BX,Bool.and_assoc ((r.aA.length:Int)==x.args),this];simp)
  exact RL
 |true=>
 have UD:(decide (0<=r.vars)&&decide (r.vars<=20))=true:=f3
 refine Ws hx f2 ?_
 refine bg (J9 s hs r.rhs hf) rfl ?_
 cases f4:fj s r.rhs with
 |false=>
  have e:fH s r=false:=fin (by rw[f4];simp)
  exact RL
 |true=>
 have hh:jJ s r=true:=by rw[BX,Kx,Bool.true_and,UD]
 refine Ws hx f2 ?_
 refine aO (aQ rfl) ?_
 refine aY ?_
 rw[xw,hh,f4,Bool.true_and,Bool.true_and]
 refine aB (fun k:Nat=>⟨a7 [.aa, .aa, .ptr 0 0, .ptr 1 0, .aa, .d (.i k)],Dr s.row r.row,2⟩)
  (fun k=>k<=r.aA.length/\(r.aA.take k).all (xu s r.vars)=true) (fun k=>r.aA.length - k) 0 ⟨Nat.zero_le _,aJ⟩ (br.d2 _ (ki rfl rfl) ae rfl rfl ?_) (fun k hk=> ?_)
 ·exact ct
 refine qq ?_
 refine ai (fun h2=> ?_) (fun h2=> ?_)
 ·simp at h2
  obtain⟨y,hy⟩:=aL h2
  have hym:=List.mem_of_getElem? hy
  have HJ:=hp.all y hym
  refine ng hy ?_
  refine bg (J9 s hs y HJ.1) rfl ?_
  cases g1:fj s y with
  |false=>
   refine ng hy ?_
   refine aO (aQ rfl) ?_
   refine aY ?_
   rw[cq hy (by rw[xu,g1];rfl)];rfl
  |true=>
  refine ng hy ?_
  refine bg (Hi y (hp.cnt hym)) rfl ?_
  cases g2:((fR y []).2&&gw y)with
  |false=>
   refine ng hy ?_
   refine aO (aQ rfl) ?_
   refine aY ?_
   rw[cq hy (by rw[xu,g1,g2];rfl)];rfl
  |true=>
  refine ng hy ?_
  refine bg (B7 r.vars y HJ.1) rfl ?_
  cases g3:eu r.vars y with
  |false=>
   refine ng hy ?_
   refine aO (aQ rfl) ?_
   refine aY ?_
   rw[cq hy (by rw[xu,g1,g2,g3];rfl)];rfl
  |true=>
  refine ng hy ?_
  refine aO (aQ rfl) ?_
  refine aY ?_
  refine aj (k+1) ⟨h2,fg hy hk.2 (by rw[xu,g1,g2,g3];rfl)⟩ ae (br.d2 _ (ki rfl rfl) ae rfl rfl ?_)
  exact ct
 ·simp at h2
  rw[eG hk.2 h2,Bool.true_and]
  refine qq ?_
  refine bg (K6 r.aA hp) rfl ?_
  cases g1:DE r.aA with
  |false=>
   exact RR
  |true=>
  refine qq ?_
  refine bg (B7 r.vars r.rhs hf) rfl ?_
  cases g2:eu r.vars r.rhs with
  |false=>
   exact RR
  |true=>
  refine qq ?_
  refine dL (B8 r.aA) ?_
  refine qq ?_
  refine dL (s7 _ hp.whole) ?_
  refine qq ?_
  refine bg (NO r.rhs hrc _ ?_) rfl ?_
  ·have:=lg (.mk 0 0 r.aA);have:=hp.iH;rw[Tm.QM]at*;omega
  exact RR
structure Pg.Fw (p:Pg):Prop where
 sig:p.sig.Fits
 len:p.rules.length<=1000
 all:∀r∈p.rules,K5 r.aA/\r.rhs.fits/\r.rhs.sz<=500
theorem NP(p:Pg)(hp:p.Fw):aV Tryz.prog 43 [p.d] (.ret [.bool (dM p)]):=by
 have hl:=hp.len
 refine aV.aF mix acS aJ ?_
 rw[c43,dM]
 refine qq ?_
 refine ay (abc p.sig hp.sig) rfl ?_
 cases h1:iY p.sig with
 |false=>
  exact WA
 |true=>
 cases h2:decide (16<(p.rules.length:Int))with
 |true=>
  have sq:decide (p.rules.length<=16)=false:=by simp at h2|-;omega
  refine ng h2 ?_
  rw[sq];rfl
 |false=>
 have sq:decide (p.rules.length<=16)=true:=by simp at h2|-;omega
 refine ng h2 ?_
 rw[sq,Bool.true_and,Bool.true_and]
 refine aB (fun k:Nat=>⟨a7 [.aa, .ptr 0 0, .aa, .d (.i k)],iO p.row,1⟩)
  (fun k=>k<=p.rules.length/\(p.rules.take k).all (fH p.sig)=true) (fun k=>p.rules.length - k) 0 ⟨Nat.zero_le _,aJ⟩ (br.d1 _ (aT rfl) ae rfl ?_) (fun k hk=> ?_)
 ·exact ct
 refine qq ?_
 refine ai (fun h2=> ?_) (fun h2=> ?_)
 ·simp at h2
  obtain⟨y,hy⟩:=aL h2
  have HJ:=hp.all y (List.mem_of_getElem? hy)
  refine ng hy ?_
  refine bg (UT p.sig hp.sig y HJ.1 HJ.2.1 HJ.2.2) rfl ?_
  cases g1:fH p.sig y with
  |false=>
   refine ng hy ?_
   refine aO (aQ rfl) ?_
   refine aY ?_
   rw[cq hy g1]
  |true=>
  refine ng hy ?_
  refine aO (aQ rfl) ?_
  refine aY ?_
  refine aj (k+1) ⟨h2,fg hy hk.2 g1⟩ ae (br.d1 _ (aT rfl) ae rfl ?_)
  exact ct
 ·simp at h2
  rw[eG hk.2 h2]
  exact vP
theorem DL(l:List Tm)(hl:l.length<=9223372036854775807)(hf:∀t∈l,t.fits):aV Tryz.prog 60 [.sl (l.map Tm.d)] (.ret [.bool (dW l)]):=by
 refine aV.aF mix acY aJ ?_
 rw[c60]
 refine aY ?_
 refine aB (fun k:Nat=>⟨a7 [.d (.sl (l.map Tm.d)), .aa, .aa, .d (.i k)],fun _=> .no,0⟩)
  (fun k=>k<=l.length/\(l.take k).all kE=true) (fun k=>l.length - k) 0 ⟨Nat.zero_le _,aJ⟩ (br.d0 _ ?_) (fun k hk=> ?_)
 ·exact ct
 refine qq ?_
 refine ai (fun h2=> ?_) (fun h2=> ?_)
 ·simp at h2
  obtain⟨y,hy⟩:=aL (l:=l) (k:=k) ae
  have HJ:=hf y (List.mem_of_getElem? hy)
  refine ng hy ?_
  refine ay (E2 y HJ) rfl ?_
  cases g1:kE y with
  |false=>
   refine ng hy ?_
   rw[dW,cq hy g1,Bool.and_false]
  |true=>
  refine ng hy ?_
  refine aj (k+1) ⟨ae,fg hy hk.2 g1⟩ ae (br.d0 _ ?_)
  exact ct
 ·refine qq ?_
  congr 3
  by_cases h3:l.length<=6
  ·have h4:l.length<=k:=by simp at h2;omega
   rw[dW,eG hk.2 h4]
   simp;omega
  ·rw[dW,decide_eq_false h3]
   simp;omega
theorem Hr(p:Pg)(hp:p.Fits):aV Tryz.prog 34 [p.d] (.ret [.bool (iF p)]):=by
 have hl:=hp.len
 let q:Rl->Bool:=fun r=>dW r.aA&&kE r.rhs
 have hq:iF p=((gR p.sig&&decide (p.rules.length<=20))&&p.rules.all q):=rfl
 refine aV.aF mix acM aJ ?_
 rw[c34,hq]
 refine aY ?_
 refine aB (fun k:Nat=>⟨a7 [.aa, .ptr 0 0, .aa, .d (.i k)],iO p.row,1⟩)
  (fun k=>k<=p.rules.length/\(p.rules.take k).all q=true) (fun k=>p.rules.length - k) 0 ⟨Nat.zero_le _,aJ⟩ (br.d1 _ (aT rfl) ae rfl ?_) (fun k hk=> ?_)
 ·exact ct
 refine qq ?_
 refine ai (fun h2=> ?_) (fun h2=> ?_)
 ·simp at h2
  obtain⟨y,hy⟩:=aL (l:=p.rules) (k:=k) ae
  have HJ:=hp.all y (List.mem_of_getElem? hy)
  have hqy:q y=(dW y.aA&&kE y.rhs):=rfl
  refine ng hy ?_
  refine ay (DL y.aA HJ.aA HJ.all) rfl ?_
  cases g1:dW y.aA with
  |false=>
   refine ng hy ?_
   rw[cq hy (by rw[hqy,g1];rfl),Bool.and_false]
  |true=>
  refine ng hy ?_
  refine ay (E2 y.rhs HJ.rhs) rfl ?_
  cases g2:kE y.rhs with
  |false=>
   refine ng hy ?_
   rw[cq hy (by rw[hqy,g1,g2];rfl),Bool.and_false]
  |true=>
  refine ng hy ?_
  refine aj (k+1) ⟨ae,fg hy hk.2 (by rw[hqy,g1,g2];rfl)⟩ ae (br.d1 _ (aT rfl) ae rfl ?_)
  exact ct
 ·refine qq ?_
  refine ay (Ds p.sig hp.sig) rfl ?_
  cases g1:gR p.sig with
  |false=>exact WA
  |true=>
  refine qq ?_
  congr 3
  by_cases h3:p.rules.length<=20
  ·have h4:p.rules.length<=k:=by simp at h2;omega
   rw[eG hk.2 h4]
   simp;omega
  ·rw[decide_eq_false h3]
   simp;omega
theorem Hs{p:Pg}(hf:p.Fits)(h:iF p=true):p.Fw:=by
 simp only[iF,dW,Bool.and_eq_true,decide_eq_true_eq,List.all_eq_true,uO]at h
 obtain⟨⟨_,hl⟩,h⟩:=h
 refine⟨hf.sig,ae,fun r hr=> ?_⟩
 obtain⟨⟨a,b⟩,c⟩:=h r hr
 have xS:=hf.all r hr
 exact⟨⟨ae,fun t ht=>⟨xS.all t ht,by have:=(b t ht).1;omega⟩⟩,xS.rhs,ae⟩
theorem zC:∀ (t:Tm) (q:List Int) (b:Bool),(ll t q b).map Sp.t=gz t:=by
 refine Tm.eY fun t ih q b=> ?_
 have key:∀l:List Tm,(∀k∈l,k∈t.kids)->∀ (i:Int) (b':Bool),(jb l i q b').map Sp.t=l.flatMap gz:=by
  intro l
  induction l with
  |nil=>intro _ _ _;rfl
  |cons k l uH=>
   intro hk i b'
   rw[jb,List.map_append,ih k (hk k (by simp)),uH (fun x hx=>hk x (by simp[hx])),List.flatMap_cons]
 rw[DH,m5,List.map_cons,key t.kids (fun _ h=>h)]
def l8(s:List Int)(x:Sp):List Int:=s++(if x.t.op=5 then [x.t.n]else [])
theorem Fs:∀ (l:List Sp) (s:List Int),(aq (vM (fun _=>none) l8) s l).1=s++((l.map Sp.t).filter (fun x=>x.op==5)).map Tm.n
 |[],s=>by simp[aq]
 |x::l,s=>by
  simp only[aq,vM,Option.isNone_none,if_true]
  rw[Fs l,List.map_cons,List.filter_cons,l8,List.append_assoc]
  by_cases h:x.t.op=5
  ·simp[h]
  ·have h':(x.t.op==5)=false:=by simpa using h
   simp[h,h']
theorem UU(t:Tm):(aq (vM (fun _=>none) l8) [] (ll t [] true)).1=rm t:=by
 rw[Fs,zC];rfl
theorem NQ(t:Tm):(rm t).length<=t.sz:=by
 unfold rm
 rw[List.length_map, <- sZ]
 exact List.length_filter_le _ _
def zD(p:Pg)(k:Nat):List Int:=(p.rules.take k).flatMap fun r=>rm r.rhs
theorem Ci(p:Pg){k:Nat}{r:Rl}(h:p.rules[k]? =some r):zD p (k+1)=zD p k++rm r.rhs:=by
 unfold zD
 rw[List.take_add_one,h,List.flatMap_append];simp
theorem Ft{p:Pg}(hp:p.Fw):∀k,k<=p.rules.length->(zD p k).length<=k*500
 |0,_=>by simp[zD]
 |k+1,hk=>by
  have hx:p.rules[k]? =some p.rules[k]:=List.getElem?_eq_getElem ae
  rw[Ci p hx,List.length_append]
  have h1:=Ft hp k ae
  have h2:=NQ p.rules[k].rhs
  have h3:=(hp.all _ (List.getElem_mem (by omega:k<p.rules.length))).2.2
  omega
@[reducible] def crD (p:Pg) (ps:List Int):D:= .agg [.sl (p.sig.cons.map iT.d), .sl (p.sig.bG.map iT.d), .sl (p.rules.map Rl.d), .sl (ps.map .i)]
def Fu(p:Pg):Nat->ab:=aD (aD (fun _=> .no) 0 (.row p.row)) 1 (.row [.bu, .bu, .bu, .bu])
def Ld(p:Pg)(k:Nat)(r:Rl)(s:List Int):Nat->ab:=aD (aD (aD (aD (jT (Fu p) 2 7 [] 3 1 ((zD p k).map .i)) 11 (.row r.row)) 15 (.row r.rhs.row)) 2 (.row [.osl 7 s.length])) 7 (.arr s.length 3 1 ((zD p k++s).map .i))
theorem NR(p:Pg)(hp:p.Fw):aV Tryz.prog 41 [p.d] (.ret [crD p (Lib.compact (dR (zD p p.rules.length)))]):=by
 have xM:=hp.len
 refine aV.aF mix ZB aJ ?_
 rw[c41]
 refine qq ?_
 have hB:Good (Fu p) 7:=by unfold Fu;exact ff
 have kb1:Fu p 1= .row [.bu, .bu, .bu, .bu]:=by unfold Fu;(repeat(first|rfl|rw[af]|rw[ah _ _ _ _ (by omega)]))
 have oP:∀j,7<=j->Fu p j= .no:=fun j hj=>by unfold Fu;(repeat(first|rfl|rw[af]|rw[ah _ _ _ _ (by omega)]))
 refine aB (fun k:Nat=>⟨a7 [.aa, .ptr 0 0, .ptr 1 0, .ptr 2 0, .aa, .aa, .aa, .aa, .d (.sl (p.rules.map Rl.d)), .d (.i p.rules.length), .d (.i k)],jT (Fu p) 2 7 [] 3 1 ((zD p k).map .i),8⟩)
  (fun k=>k<=p.rules.length) (fun k=>p.rules.length - k) 0 (Nat.zero_le _) (xp (ds:=[]) _ hB oP ae (fun j hj jY=>by unfold Fu;exact Vf) gY ae ?_) (fun k hk=> ?_)
 ·exact HN
 replace hk:k<=p.rules.length:=hk
 have QN:=Ft hp k hk
 have k0:jT (Fu p) 2 7 [] 3 1 ((zD p k).map .i) 0= .row p.row:=by unfold jT Fu;(repeat(first|rfl|rw[af]|rw[ah _ _ _ _ (by omega)]))
 have k2:jT (Fu p) 2 7 [] 3 1 ((zD p k).map .i) 2= .row [.osl 7 0]:=zx _ ae [] _ _ _
 have k7:jT (Fu p) 2 7 [] 3 1 ((zD p k).map .i) 7= .arr 0 3 1 ((zD p k).map .i):=zw _ _ _ _ _ _ _
 refine aY ?_
 refine ai (fun h1=> ?_) (fun h1=> ?_)
 ·simp at h1
  obtain⟨r,hr⟩:=aL h1
  have hrm:=List.mem_of_getElem? hr
  obtain⟨f1,f2,f3⟩:=hp.all r hrm
  refine Wy hr k7 ?_
  refine fQ (B9 r.rhs _ _ _ _ ?_)
  refine Q6 k7 ?_
  refine sb (σ:=List Int) r.rhs f2 (by have:=zp r.rhs;omega) [.aa, .ptr 0 0, .ptr 1 0, .ptr 2 0, .aa, .aa, .aa, .aa, .d (.sl (p.rules.map Rl.d)), .d (.i p.rules.length), .d (.i k)] ?_ bO rfl (by unfold jT Fu;exact ff) nF gY (Ld p k r) (fun _=>none) l8 (fun l s=>s.length+l.length<=1000) [] ?_ rfl (fun id au=> ?_) (fun x l s hs _ h2=> ?_) ?_ ?_
  ·exact FK
  ·rw[List.length_nil, <- List.length_map (f:=Sp.t),zC,sZ];omega
  ·unfold Ld
   by_cases e2:id=2
   ·exact Rg
   by_cases e7:id=7
   ·subst e7;(repeat(first|rfl|rw[af]|rw[ah _ _ _ _ (by omega)]));rw[k7,List.append_nil];rfl
   rw[ah _ 7 _ _ e7,ah _ 2 _ _ e2,et]
  ·simp only[l8,List.length_append,List.length_cons]at hs|-
   split<;>simp<;>omega
  ·intro L hL vR x hx l s' h1 h2 o3 n3 hI hn ho K X cu
   simp only[mJ]
   have hg:=hI.bz
   have q2:o3 2= .row [.osl 7 s'.length]:=by rw[hI.eq 2 (by omega)];unfold Ld;(repeat(first|rfl|rw[af]|rw[ah _ _ _ _ (by omega)]))
   have q7:o3 7= .arr s'.length 3 1 ((zD p k++s').map .i):=by rw[hI.eq 7 (by omega)];unfold Ld;(repeat(first|rfl|rw[af]|rw[ah _ _ _ _ (by omega)]))
   simp only[List.length_cons]at h1
   refine aY ?_
   refine kX hL (pd:=none) ?_ ?_
   ·(repeat(first|rfl|rw[af]|rw[ah _ _ _ _ (by omega)]))
    exact ho
   have fin:∀ (o':Nat->ab) (n':Nat) (s2:List Int),Good o' n'->n3<=n'->o' 2= .row [.osl 7 s2.length]->o' 7= .arr s2.length 3 1 ((zD p k++s2).map .i)->(∀j,j<19->j≠2->j≠7->o' j=o3 j)->cG 19 (Ld p k r s2) o' n':=fun o' n' s2 k1 k2 k3 k4 k6=>⟨k1,ae,fun j hj=>by
    by_cases e:j=2
    ·subst e;rw[k3];unfold Ld;(repeat(first|rfl|rw[af]|rw[ah _ _ _ _ (by omega)]))
    by_cases e2:j=7
    ·subst e2;rw[k4];unfold Ld;(repeat(first|rfl|rw[af]|rw[ah _ _ _ _ (by omega)]))
    rw[k6 j hj e e2,hI.eq j hj];unfold Ld
    rw[ah _ _ _ _ e2,ah _ _ _ _ e,ah _ _ _ _ e2,ah _ _ _ _ e]⟩
   by_cases h5:x.t.op=5
   ·have zI:(x.t.op==5)=true:=by simpa using h5
    have hlen:(zD p k++s').length<=600000:=by rw[List.length_append];omega
    refine Q5 q2 q7 zI ?_
    refine cu _ _ _ .busy none ae (fin _ _ _ ff ae ?_ ?_ fun j hj j1 j2=> ?_) gY (fun id h3 h4=>by(repeat(first|rfl|rw[af]|rw[ah _ _ _ _ (by omega)])))
    ·exact WY
    ·exact WY
    ·exact gY
   ·have zI:(x.t.op==5)=false:=by simpa using h5
    refine xy q2 q7 zI ?_
    refine cu _ _ _ .busy none ae (fin _ _ _ ff ae ?_ ?_ fun j hj j1 j2=> ?_) gY (fun id h3 h4=>by(repeat(first|rfl|rw[af]|rw[ah _ _ _ _ (by omega)])))
    ·unfold l8;rw[if_neg h5];(repeat(first|rfl|rw[af]|rw[ah _ _ _ _ (by omega)]));simp[q2]
    ·unfold l8;rw[if_neg h5];(repeat(first|rfl|rw[af]|rw[ah _ _ _ _ (by omega)]));simp[q7]
    ·exact gY
  ·intro o' n' hI
   rw[UU]at hI
   simp only[oA]
   refine aY ?_
   have hg:=hI.bz
   refine aj (k+1) h1 ae (Ca (r:=2) (c:=7) (ep:=(rm r.rhs).length) (ds:=[]) _ hB oP ae (fun j hj jY=> ?_) ?_ ?_ ?_)
   ·rw[hI.eq j (by omega)];unfold Ld jT;(repeat(first|rfl|rw[af]|rw[ah _ _ _ _ (by omega)]))
   ·rw[hI.eq 2 (by omega)];unfold Ld;(repeat(first|rfl|rw[af]|rw[ah _ _ _ _ (by omega)]))
   ·rw[hI.eq 7 (by omega),Ci p hr];unfold Ld;(repeat(first|rfl|rw[af]|rw[ah _ _ _ _ (by omega)]))
   ·exact HN
 ·simp at h1
  have Yb:k=p.rules.length:=ae
  subst Yb
  simp+contextual (disch:=first|omega|simp only[go_sem,false_implies]) only[go_sem,wrap64,if_pos,k2,k7]
  refine fQ (KN Cc Hk (zs:=zD p p.rules.length) gY Hl ae ?_)
  refine Q6 k7 ?_
  refine qU bO (Hg u7 zy gY zA (by unfold dR;rw[List.length_mergeSort];omega)) ?_
  simp+contextual (disch:=first|omega|simp only[go_sem,false_implies]) only[go_sem,wrap64,if_pos,k0,k2,k7,kb1]
  exact L0
theorem Le(aA kids:List Tm){i j:Nat}(hi:i<4)(hj:j<4):(u0 aA kids)[i*4+j]? =some (nO aA kids i j):=by
 unfold u0
 rw[List.getElem?_map,List.getElem?_range (by omega)]
 simp only[Option.map_some]
 exact WX
def qk(aA kids:List Tm)(i j:Nat):List Int:=(List.range 16).map fun p=>if p/4<i\/p/4=i/\p%4<j then nO aA kids (p/4) (p%4)else 0
theorem iG(aA kids:List Tm)(i j:Nat):(qk aA kids i j).length=16:=by simp[qk]
theorem lj(aA kids:List Tm)(i j p:Nat)(hp:p<16):(qk aA kids i j)[p]? =some (if p/4<i\/p/4=i/\p%4<j then nO aA kids (p/4) (p%4)else 0):=by
 unfold qk;rw[List.getElem?_map,List.getElem?_range hp];rfl
theorem arcP_0(aA kids:List Tm):qk aA kids 0 0=sS:=by
 refine iy (iG ..) rfl fun p hp=> ?_
 rw[lj _ _ _ _ _ hp,if_neg (by omega)]
 have:∀p,p<16->sS[p]? =some 0:=bO
 exact(this p hp).symm
theorem Ht(aA kids:List Tm){i j:Nat}(hi:i<4)(hj:j<4):qk aA kids i (j+1)=(qk aA kids i j).set (i*4+j) (nO aA kids i j):=by
 refine iy (iG ..) (by rw[List.length_set];exact iG ..) fun p hp=> ?_
 rw[lj _ _ _ _ _ hp,List.getElem?_set,lj _ _ _ _ _ hp]
 by_cases e:i*4+j=p
 ·rw[if_pos e,if_pos (show i*4+j<(qk aA kids i j).length by rw[iG];omega),if_pos (show p/4<i\/p/4=i/\p%4<j+1 by omega)]
  rw[show p/4=i by omega,show p%4=j by omega]
 ·rw[if_neg e]
  congr 1
  by_cases h:p/4<i\/p/4=i/\p%4<j
  ·rw[if_pos h,if_pos (show p/4<i\/p/4=i/\p%4<j+1 by omega)]
  ·rw[if_neg h,if_neg (show ¬ (p/4<i\/p/4=i/\p%4<j+1) by omega)]
theorem Lf(aA kids:List Tm){i:Nat}(hk:kids.length<=4):qk aA kids i kids.length=qk aA kids (i+1) 0:=by
 refine iy (iG ..) (iG ..) fun p hp=> ?_
 rw[lj _ _ _ _ _ hp,lj _ _ _ _ _ hp]
 by_cases h:p/4<i\/p/4=i/\p%4<kids.length
 ·rw[if_pos h,if_pos (show p/4<i+1\/p/4=i+1/\p%4<0 by omega)]
 ·rw[if_neg h]
  by_cases h2:p/4<i+1\/p/4=i+1/\p%4<0
  ·rw[if_pos h2]
   have e:kids[p%4]? =none:=List.getElem?_eq_none ae
   unfold nO
   rw[e]
   cases aA[p/4]? <;>rfl
  ·rw[if_neg h2]
theorem Lg(aA kids:List Tm)(hp:aA.length<=4):qk aA kids aA.length 0=u0 aA kids:=by
 refine iy (iG ..) (by simp[u0]) fun p wv=> ?_
 rw[lj _ _ _ _ _ wv]
 have:=Le aA kids (i:=p/4) (j:=p%4) ae ae
 rw[show p/4*4+p%4=p by omega]at this
 rw[this]
 congr 1
 split
 ·rfl
 ·rename_i h
  unfold nO
  rw[List.getElem?_eq_none (by omega)]
theorem Lh(l:List Int)(hl:l.length<=1000000):aV Tryz.prog 76 [.sl (l.map .i)] (.ret [.sl (l.map .i)]):=by
 refine aV.aF mix Tw aJ ?_
 rw[c76]
 have hu:Tryz.prog.underlying 37=some (.slice 3):=ag
 cases l with
 |nil=>
  have heq:∀O,vh Tryz.prog O 37 true (.d (.sl [])) .bu=some .eW:=by
   intro O
   unfold vh
   rw[hu]
   rfl
  simp only[List.map_cons,List.map_nil]
  refine gX heq ?_
  simp only[List.isEmpty_nil,if_true]
  exact FG heq
 |cons a l=>
  have heq:∀O,vh Tryz.prog O 37 true (.d (.sl (D.i a::l.map D.i))) .bu=some (.d (.bool false)):=by
   intro O
   unfold vh
   rw[hu]
   rfl
  simp only[List.map_cons,List.map_nil]
  refine gX heq ?_
  simp only[List.isEmpty_nil,if_true]
  refine gX heq ?_
  rw[List.length_cons]at hl
  rw[if_pos (by omega)]
  exact vP
def rq(p:Pg)(ps:List Int):Nat->ab:=aD (fun _=> .no) 0 (.row [.d (.sl (p.sig.cons.map iT.d)), .d (.sl (p.sig.bG.map iT.d)), .d (.sl (p.rules.map Rl.d)), .d (.sl (ps.map .i))])
def oV(ps:List Int)(n:Int)(r:Rl)(s:List Cl)(x:Sp):List Cl:=s++Hx ps n r x
theorem Cj(ps:List Int)(n:Int)(r:Rl):∀ (l:List Sp) (s:List Cl),(aq (vM (fun _=>none) (oV ps n r)) s l).1=s++l.flatMap (Hx ps n r)
 |[],s=>by simp[aq]
 |x::l,s=>by
  simp only[aq,vM,Option.isNone_none,if_true]
  rw[Cj ps n r l,oV,List.flatMap_cons,List.append_assoc]
theorem Fv(ps:List Int)(n:Int)(r:Rl)(x:Sp)(vE:ps.length<=100):(Hx ps n r x).length<=100:=by
 unfold Hx
 split
 ·simp
 ·split
  ·simpa using vE
  ·simp
theorem Fx(t:Tm)(q:List Int)(b:Bool):(ll t q b).length=t.sz:=by rw[<- List.length_map (f:=Sp.t),zC,sZ]
theorem va{p:Pg}(hp:p.Fw){ps:List Int}(vE:ps.length<=100):∀k,k<=p.rules.length->(kG p ps k).length<=k*50500
 |0,_=>by simp[kG]
 |k+1,hk=>by
  have hx:p.rules[k]? =some p.rules[k]:=List.getElem?_eq_getElem ae
  rw[xn p ps hx,List.length_append]
  have h1:=va hp vE k ae
  have h3:=(hp.all _ (List.getElem_mem (by omega:k<p.rules.length))).2.2
  have key:∀l:List Sp,(l.flatMap (Hx ps k p.rules[k])).length<=l.length*100:=by
   intro l
   induction l with
   |nil=>simp
   |cons x l ih=>
    rw[List.flatMap_cons,List.length_append,List.length_cons,Nat.add_mul]
    have:=Fv ps k p.rules[k] x vE
    omega
  have h2:=key (ll p.rules[k].rhs [] true)
  rw[Fx]at h2
  unfold ruC
  omega
def ql(p:Pg)(ps:List Int)(k:Nat)(r:Rl)(s:List Cl):Nat->ab:=aD (aD (aD (aD (aD (jT (rq p ps) 2 8 [] 40 6 ((kG p ps k).map Cl.d)) 13 (.row [.d (.i k)])) 14 (.row r.row)) 19 (.row r.rhs.row)) 2 (.row [.osl 8 s.length])) 8 (.arr s.length 40 6 ((kG p ps k++s).map Cl.d))
set_option maxHeartbeats 4000000 in
theorem NS(p:Pg)(hp:p.Fw)(hr4:∀r∈p.rules,r.aA.length<=4)(hk4:∀r∈p.rules,∀x∈ll r.rhs [] true,x.t.op=4->x.t.kids.length<=4)(ps:List Int)(vE:ps.length<=100):aV Tryz.prog 42 [crD p ps] (.ret [.sl ((kG p ps p.rules.length).map Cl.d)]):=by
 have xM:=hp.len
 refine aV.aF mix ZC aJ ?_
 rw[c42]
 refine qq ?_
 have hB:Good (rq p ps) 8:=by unfold rq;exact ff
 have oP:∀j,8<=j->rq p ps j= .no:=fun j hj=>by unfold rq;(repeat(first|rfl|rw[af]|rw[ah _ _ _ _ (by omega)]))
 refine aB (fun k:Nat=>⟨a7 [.aa, .ptr 0 0, .aa, .ptr 2 0, .aa, .aa, .aa, .aa, .aa, .aa, .aa, .aa, .aa, .aa, .aa, .aa, .aa, .d (.sl (p.rules.map Rl.d)), .d (.i p.rules.length), .d (.i k)],jT (rq p ps) 2 8 [] 40 6 ((kG p ps k).map Cl.d),9⟩)
  (fun k=>k<=p.rules.length) (fun k=>p.rules.length - k) 0 (Nat.zero_le _) (xp (ds:=[]) _ hB oP ae (fun j hj jY=>by unfold rq;exact Vf) gY ae ?_) (fun k hk=> ?_)
 ·exact HN
 replace hk:k<=p.rules.length:=hk
 have QN:(kG p ps k).length<=k*50500:=va hp vE k hk
 have k0:jT (rq p ps) 2 8 [] 40 6 ((kG p ps k).map Cl.d) 0= .row [.d (.sl (p.sig.cons.map iT.d)), .d (.sl (p.sig.bG.map iT.d)), .d (.sl (p.rules.map Rl.d)), .d (.sl (ps.map .i))]:=by unfold jT rq;(repeat(first|rfl|rw[af]|rw[ah _ _ _ _ (by omega)]))
 have k2:jT (rq p ps) 2 8 [] 40 6 ((kG p ps k).map Cl.d) 2= .row [.osl 8 0]:=zx _ ae [] _ _ _
 have k8:jT (rq p ps) 2 8 [] 40 6 ((kG p ps k).map Cl.d) 8= .arr 0 40 6 ((kG p ps k).map Cl.d):=zw _ _ _ _ _ _ _
 refine aY ?_
 refine ai (fun h1=> ?_) (fun h1=> ?_)
 ·simp at h1
  obtain⟨r,hr⟩:=aL h1
  have hrm:=List.mem_of_getElem? hr
  obtain⟨f1,f2,f3⟩:=hp.all r hrm
  refine Wy hr k8 ?_
  refine fQ (B9 r.rhs _ _ _ _ ?_)
  refine Q6 k8 ?_
  refine sb (σ:=List Cl) r.rhs f2 (by have:=zp r.rhs;omega) [.aa, .ptr 0 0, .aa, .ptr 2 0, .ptr 13 0, .ptr 14 0, .aa, .aa, .aa, .aa, .aa, .aa, .aa, .aa, .aa, .aa, .aa, .d (.sl (p.rules.map Rl.d)), .d (.i p.rules.length), .d (.i k)] ?_ bO rfl (by unfold jT rq;exact ff) nF gY (ql p ps k r) (fun _=>none) (oV ps k r) (fun l s=>s.length+l.length*101<=60000) [] ?_ rfl (fun id au=> ?_) (fun x l s hs _ h2=> ?_) ?_ ?_
  ·exact FK
  ·rw[List.length_nil,Fx];omega
  ·unfold ql
   by_cases e2:id=2
   ·exact Rg
   by_cases e8:id=8
   ·subst e8;(repeat(first|rfl|rw[af]|rw[ah _ _ _ _ (by omega)]));rw[k8,List.append_nil];rfl
   rw[ah _ 8 _ _ e8,ah _ 2 _ _ e2]
   exact LN
  ·have:=Fv ps k r x vE
   simp only[oV,List.length_append,List.length_cons]at hs|-
   omega
  ·intro L hL vR x hx l s' h1 h2 o3 n3 hI hn ho K X cu
   simp only[mJ]
   have hg:=hI.bz
   have q2:o3 2= .row [.osl 8 s'.length]:=by rw[hI.eq 2 (by omega)];unfold ql;(repeat(first|rfl|rw[af]|rw[ah _ _ _ _ (by omega)]))
   have q8:o3 8= .arr s'.length 40 6 ((kG p ps k++s').map Cl.d):=by rw[hI.eq 8 (by omega)];unfold ql;(repeat(first|rfl|rw[af]|rw[ah _ _ _ _ (by omega)]))
   have q0:o3 0= .row [.d (.sl (p.sig.cons.map iT.d)), .d (.sl (p.sig.bG.map iT.d)), .d (.sl (p.rules.map Rl.d)), .d (.sl (ps.map .i))]:=by rw[hI.eq 0 (by omega)];unfold ql jT rq;(repeat(first|rfl|rw[af]|rw[ah _ _ _ _ (by omega)]))
   have q13:o3 13= .row [.d (.i k)]:=by rw[hI.eq 13 (by omega)];unfold ql;(repeat(first|rfl|rw[af]|rw[ah _ _ _ _ (by omega)]))
   have q14:o3 14= .row r.row:=by rw[hI.eq 14 (by omega)];unfold ql;(repeat(first|rfl|rw[af]|rw[ah _ _ _ _ (by omega)]))
   simp only[List.length_cons]at h1
   have hxp:x.path.length<=500:=by
    have t1:=(zj _ _ _ x hx).2
    have t2:=zp r.rhs
    rw[List.length_nil]at t1;omega
   refine aY ?_
   refine kX hL (pd:=none) ?_ ?_
   ·(repeat(first|rfl|rw[af]|rw[ah _ _ _ _ (by omega)]))
    exact ho
   have fin:∀ (o':Nat->ab) (n':Nat) (s2:List Cl),Good o' n'->n3<=n'->o' 2= .row [.osl 8 s2.length]->o' 8= .arr s2.length 40 6 ((kG p ps k++s2).map Cl.d)->(∀j,j<23->j≠2->j≠8->o' j=o3 j)->cG 23 (ql p ps k r s2) o' n':=fun o' n' s2 k1 k2 k3 k4 k6=>⟨k1,ae,fun j hj=>by
    by_cases e:j=2
    ·subst e;rw[k3];unfold ql;(repeat(first|rfl|rw[af]|rw[ah _ _ _ _ (by omega)]))
    by_cases e2:j=8
    ·subst e2;rw[k4];unfold ql;(repeat(first|rfl|rw[af]|rw[ah _ _ _ _ (by omega)]))
    rw[k6 j hj e e2,hI.eq j hj];unfold ql
    rw[ah _ _ _ _ e2,ah _ _ _ _ e,ah _ _ _ _ e2,ah _ _ _ _ e]⟩
   have hlen:(kG p ps k++s').length<=100000000:=by rw[List.length_append];omega
   by_cases h4:x.t.op=4
   ·have Vu:(x.t.op==4)=true:=by simpa using h4
    have Vp:=hk4 r hrm x hx h4
    have hpp:=hr4 r hrm
    have hxk:∀y∈x.t.kids,y.fits:=fun y hy=>((Tm.bR _).1 (UM _ f2 _ (zj _ _ _ x hx).1)).2 y hy
    have hpf:∀y∈r.aA,y.fits:=fun y hy=>(f1.all y hy).1
    simp+contextual (disch:=first|omega|simp only[go_sem,false_implies]) only[go_sem,wrap64,if_pos,q0,q2,q8,q13,q14,Vu,List.length_map]
    refine aB (fun i:Nat=>⟨a7 [.aa, .ptr 0 0, .aa, .ptr 2 0, .ptr 13 0, .ptr 14 0, .ptr n3 0, .ptr (n3+1+1+1+1+1+1+1+1) 0, .ptr (n3+1+1+1+1+1+1+1+1+1+1+1+1+1+1+1) 0, .aa, .aa, .aa, .aa, .aa, .aa, .aa, .aa, .aa, .aa, .aa, .aa, .aa, .aa, .aa, .aa, .aa, .aa, .aa, .aa, .aa, .aa, .aa, .aa, .aa, .aa, .aa, .aa, .aa, .aa, .aa, .d (.sl (r.aA.map Tm.d)), .d (.i r.aA.length), .d (.i i)],
     aD (aD (aD (aD o3 n3 (.row x.row)) 23 (L .busy none)) (n3+1+1+1+1+1+1+1+1) (.row [.d (.i k), .d (.i r.fn), .d (.i 0), .bu, .d (.bool x.bare), .bu])) (n3+1+1+1+1+1+1+1+1+1+1+1+1+1+1+1) (mR (qk r.aA x.t.kids i 0)),(n3+1+1+1+1+1+1+1+1+1+1+1+1+1+1+1+1)⟩)
     (fun i=>i<=r.aA.length) (fun i=>r.aA.length - i) 0 (Nat.zero_le _) (br.aR _ (show n3<=(n3+1+1+1+1+1+1+1+1+1+1+1+1+1+1+1+1)from ae) ae ?_ (fun j hj=> ?_) ?_) (fun i hi=> ?_)
    ·exact ff
    ·rw[arcP_0]
     by_cases ea:j=(n3+1+1+1+1+1+1+1+1+1+1+1+1+1+1+1)
     ·exact Xf
     by_cases ec:j=(n3+1+1+1+1+1+1+1+1)
     ·exact Rh
     by_cases e23:j=23
     ·exact Xe
     by_cases en:j=n3
     ·exact Xg
     exact gY
    ·exact ct
    replace hi:i<=r.aA.length:=hi
    refine aY ?_
    refine ai (fun h7=> ?_) (fun h7=> ?_)
    ·simp at h7
     obtain⟨pa,Yj⟩:=aL h7
     have adt:=List.mem_of_getElem? Yj
     refine ng Yj ?_
     refine aB (fun j:Nat=>⟨a7 [.aa, .ptr 0 0, .aa, .ptr 2 0, .ptr 13 0, .ptr 14 0, .ptr n3 0, .ptr (n3+1+1+1+1+1+1+1+1) 0, .ptr (n3+1+1+1+1+1+1+1+1+1+1+1+1+1+1+1) 0, .d (.i i), .ptr (n3+1+1+1+1+1+1+1+1+1+1+1+1+1+1+1+1+1+1+1+1) 0, .aa, .aa, .aa, .aa, .aa, .aa, .aa, .aa, .aa, .aa, .aa, .aa, .aa, .aa, .aa, .aa, .aa, .aa, .aa, .aa, .aa, .aa, .aa, .aa, .aa, .aa, .aa, .aa, .aa, .d (.sl (r.aA.map Tm.d)), .d (.i r.aA.length), .d (.i i), .aa, .aa, .aa, .aa, .aa, .aa, .d (.sl (x.t.kids.map Tm.d)), .d (.i x.t.kids.length), .d (.i j)],
      aD (aD (aD (aD (aD o3 n3 (.row x.row)) 23 (L .busy none)) (n3+1+1+1+1+1+1+1+1) (.row [.d (.i k), .d (.i r.fn), .d (.i 0), .bu, .d (.bool x.bare), .bu])) (n3+1+1+1+1+1+1+1+1+1+1+1+1+1+1+1) (mR (qk r.aA x.t.kids i j))) (n3+1+1+1+1+1+1+1+1+1+1+1+1+1+1+1+1+1+1+1+1) (.row pa.row),(n3+1+1+1+1+1+1+1+1+1+1+1+1+1+1+1+1+1+1+1+1+1)⟩)
      (fun j=>j<=x.t.kids.length) (fun j=>x.t.kids.length - j) 0 (Nat.zero_le _) (br.aR _ (show n3<=(n3+1+1+1+1+1+1+1+1+1+1+1+1+1+1+1+1+1+1+1+1+1)from ae) ae ?_ (fun j hj=> ?_) ?_) (fun j hj=> ?_)
     ·exact ff
     ·by_cases eo:j=(n3+1+1+1+1+1+1+1+1+1+1+1+1+1+1+1+1+1+1+1+1)
      ·exact Xh
      repeat rw[ah _ (n3+1+1+1+1+1+1+1+1+1+1+1+1+1+1+1+1+1+1+1+1) _ _ eo]
     ·exact ct
     replace hj:j<=x.t.kids.length:=hj
     refine aY ?_
     refine ai (fun h8=> ?_) (fun h8=> ?_)
     ·simp at h8
      obtain⟨ka,hka⟩:=aL h8
      have adu:=List.mem_of_getElem? hka
      have hi4:i<4:=ae
      have hj4:j<4:=ae
      refine ng hka ?_
      refine bg (DI ka (hxk ka adu) pa (hpf pa adt)) rfl ?_
      have zL:=iG r.aA x.t.kids i j
      have J7:=qV (qk r.aA x.t.kids i j) (i*4+j) (sF ka pa) (by rw[zL];omega)
      have hav:nO r.aA x.t.kids i j=sF ka pa:=by unfold nO;rw[Yj,hka]
      rw[<- hav, <- Ht r.aA x.t.kids hi4 hj4]at J7
      simp+contextual (disch:=first|omega|simp only[go_sem,false_implies]) only[go_sem,wrap64,if_pos,Int.toNat_natCast,Nat.mul_one,J7, <- hav]
      refine aO (eF (ids:=[]) (nx:=n3) aJ aJ [([],[]),([],[]),([25],[]),([20],[]),([],[]),([15],[]),([15],[]),([15],[15])] bO) ?_
      refine aY ?_
      refine aj (j+1) h8 ae (br.aR _ (show n3<=(n3+1+1+1+1+1+1+1+1+1+1+1+1+1+1+1+1+1+1+1+1+1)from ae) ae ?_ (fun q hq=> ?_) ?_)
      ·exact ff
      ·by_cases ea:q=(n3+1+1+1+1+1+1+1+1+1+1+1+1+1+1+1)
       ·exact Xf
       by_cases eo:q=(n3+1+1+1+1+1+1+1+1+1+1+1+1+1+1+1+1+1+1+1+1)
       ·exact Xh
       (repeat(first|rfl|rw[af]|rw[ah _ _ _ _ (by omega)]))
       rw[ah _ (n3+1+1+1+1+1+1+1+1+1+1+1+1+1+1+1+1+1+1+1+1) _ _ eo,ah _ (n3+1+1+1+1+1+1+1+1+1+1+1+1+1+1+1) _ _ ea]
      ·exact ct
     ·simp at h8
      have Vs:j=x.t.kids.length:=ae
      subst Vs
      refine aY ?_
      refine aj (i+1) h7 ae (br.aR _ (show n3<=(n3+1+1+1+1+1+1+1+1+1+1+1+1+1+1+1+1)from ae) ae ?_ (fun q hq=> ?_) ?_)
      ·exact ff
      ·rw[<- Lf _ _ Vp,ah _ (n3+1+1+1+1+1+1+1+1+1+1+1+1+1+1+1+1+1+1+1+1) _ _ (by omega)]
      ·exact ct
    ·simp at h7
     have R3:i=r.aA.length:=ae
     subst R3
     rw[Lg _ _ hpp]
     have F3:=(BZ r.aA x.t.kids).1
     simp+contextual (disch:=first|omega|simp only[go_sem,false_implies]) only[go_sem,wrap64,if_pos,gu _ F3,dQ,eU,cU _ F3]
     refine dL (J8 _ F3) ?_
     refine aY ?_
     refine aO (eF (ids:=[]) (nx:=n3) aJ aJ [([0],[]),([0],[]),([0],[]),([0],[]),([0],[]),([15],[]),([],[]),([8],[]),([8],[8]),([8],[]),([8],[8]),([8],[]),([8],[8])] bO) ?_
     refine Hw q2 q8 ?_
     refine cu _ _ _ .busy none ae (fin _ _ _ ff ae ?_ ?_ fun j hj j1 j2=> ?_) gY (fun id h3 h4=>by(repeat(first|rfl|rw[af]|rw[ah _ _ _ _ (by omega)])))
     ·unfold oV Hx;rw[if_pos h4];(repeat(first|rfl|rw[af]|rw[ah _ _ _ _ (by omega)]));simp
     ·unfold oV Hx;rw[if_pos h4, <- B1 _ _ hpp Vp];(repeat(first|rfl|rw[af]|rw[ah _ _ _ _ (by omega)]));simp
     ·exact gY
   have Vu:(x.t.op==4)=false:=by simpa using h4
   by_cases h6:x.t.op=6
   ·have h6':(x.t.op==6)=true:=by simpa using h6
    simp+contextual (disch:=first|omega|simp only[go_sem,false_implies]) only[go_sem,wrap64,if_pos,q0,q2,q8,q13,q14,Vu,h6',List.length_map]
    have hpn:V.refs (.d (.bool x.bare))=[]:=rfl
    refine aB (fun i:Nat×V×V=>⟨a7 [.aa, .ptr 0 0, .aa, .ptr 2 0, .ptr 13 0, .ptr 14 0, .ptr n3 0, .ptr (n3+1+1+1+1+1+1+1+1) 0, .aa, .aa, .aa, .aa, .aa, .aa, .aa, .aa, .aa, .aa, .aa, .aa, .aa, .aa, .aa, .aa, .aa, .aa, .aa, .aa, .aa, .aa, .aa, .aa, .aa, .aa, .aa, .aa, .aa, .aa, .aa, .aa, .aa, .aa, .aa, .aa, .aa, .aa, .aa, .aa, .aa, .aa, .aa, .aa, .aa, .aa, .aa, .aa, .aa, .aa, .aa, .aa, .aa, .aa, .aa, .aa, .aa, .aa, .aa, .aa, .aa, .aa, .aa, .aa, .aa, .aa, .aa, .aa, .aa, .aa, .aa, .aa, .aa, .aa, .d (.sl (ps.map .i)), .d (.i ps.length), .d (.i i.1)],
     aD (aD (aD (aD (aD o3 n3 (.row x.row)) 23 (L .busy none)) (n3+1+1+1+1+1+1+1+1) (.row [.d (.i k), .d (.i r.fn),i.2.1,i.2.2, .d (.bool x.bare), .bu])) 2 (.row [.osl 8 (s'.length+i.1)])) 8 (.arr (s'.length+i.1) 40 6 ((kG p ps k++s'++(ps.take i.1).map fun to=>Cl.mk k r.fn to x.path x.bare []).map Cl.d)),n3+1+1+1+1+1+1+1+1+1⟩)
     (fun i=>i.1<=ps.length/\i.2.1.refs=[]/\i.2.2.refs=[]) (fun i=>ps.length - i.1) (0, .d (.i 0), .bu) ⟨Nat.zero_le _,rfl,rfl⟩ (br.aR _ (show n3<=n3+1+1+1+1+1+1+1+1+1 from ae) ae ?_ (fun j hj=> ?_) ?_) ?_
    ·exact ff
    ·by_cases e8:j=8
     ·subst e8;(repeat(first|rfl|rw[af]|rw[ah _ _ _ _ (by omega)]));rw[q8];simp
     by_cases e2:j=2
     ·subst e2;(repeat(first|rfl|rw[af]|rw[ah _ _ _ _ (by omega)]));rw[q2];simp
     by_cases ec:j=(n3+1+1+1+1+1+1+1+1)
     ·exact Rh
     by_cases e23:j=23
     ·exact Xe
     by_cases en:j=n3
     ·exact Xg
     exact gY
    ·exact ct
    rintro⟨m,v2,v3⟩ ⟨g1,g2,g3⟩
    simp only at g1 g2 g3
    have GM:(ab.row [.d (.i k), .d (.i r.fn),v2,v3, .d (.bool x.bare), .bu]).refs=[]:=by simp[ab.refs,V.aE,V.refs,g2,g3]
    have adQ:(kG p ps k++s'++(ps.take m).map fun to=>Cl.mk k r.fn to x.path x.bare []).length<=100000100:=by
     rw[List.length_append,List.length_map,List.length_take];omega
    refine aY ?_
    refine ai (fun h7=> ?_) (fun h7=> ?_)
    ·simp at h7
     obtain⟨to,hto⟩:=aL h7
     have Oq:ps.take (m+1)=ps.take m++[to]:=by rw[List.take_add_one,hto];rfl
     refine gX hto ?_
     refine aW (Lh x.path ae) ?_
     refine qq ?_
     refine aj (m+1, .d (.i to), .d (.sl (x.path.map .i))) ⟨h7,rfl,rfl⟩ jO (br.aR _ (show n3<=n3+1+1+1+1+1+1+1+1+1 from ae) ae ?_ (fun j hj=> ?_) ?_)
     ·exact ff
     ·by_cases e8:j=8
      ·subst e8;(repeat(first|rfl|rw[af]|rw[ah _ _ _ _ (by omega)]));rw[Oq];simp[Nat.add_assoc]
      by_cases e2:j=2
      ·exact Rg
      by_cases ec:j=(n3+1+1+1+1+1+1+1+1)
      ·exact Rh
      (repeat(first|rfl|rw[af]|rw[ah _ _ _ _ (by omega)]))
      rw[ah _ 8 _ _ e8,ah _ 2 _ _ e2,ah _ (n3+1+1+1+1+1+1+1+1) _ _ ec]
     ·exact ct
    ·simp at h7
     have hm:m=ps.length:=ae
     subst hm
     refine aY ?_
     refine cu _ _ _ .busy none ae (fin _ _ _ ?_ ae ?_ ?_ fun j hj j1 j2=> ?_) gY (fun id h3 h4=>by(repeat(first|rfl|rw[af]|rw[ah _ _ _ _ (by omega)])))
     ·exact(((((hg.mono ae).aD ae rfl).aD ae (vR _ _ _ ae)).aD ae (by rw[GM];rfl)).aD ae xB).aD ae rfl
     ·exact WT
     ·exact WT
     ·exact gY
   ·have h6':(x.t.op==6)=false:=by simpa using h6
    simp+contextual (disch:=first|omega|simp only[go_sem,false_implies]) only[go_sem,wrap64,if_pos,q0,q2,q8,q13,q14,Vu,h6',List.length_map]
    refine cu _ _ _ .busy none ae (fin _ _ _ ff ae ?_ ?_ fun j hj j1 j2=> ?_) gY (fun id h3 h4=>by(repeat(first|rfl|rw[af]|rw[ah _ _ _ _ (by omega)])))
    ·unfold oV Hx;rw[if_neg h4,if_neg h6];(repeat(first|rfl|rw[af]|rw[ah _ _ _ _ (by omega)]));simp[q2]
    ·unfold oV Hx;rw[if_neg h4,if_neg h6];(repeat(first|rfl|rw[af]|rw[ah _ _ _ _ (by omega)]));simp[q8]
    ·exact gY
  ·intro o' n' hI
   rw[Cj,List.nil_append]at hI
   simp only[oA]
   refine aY ?_
   have hg:=hI.bz
   refine aj (k+1) h1 ae (Ca (r:=2) (c:=8) (ep:=(ruC ps k r).length) (ds:=[]) _ hB oP ae (fun j hj jY=> ?_) ?_ ?_ ?_)
   ·rw[hI.eq j (by omega)];unfold ql jT;(repeat(first|rfl|rw[af]|rw[ah _ _ _ _ (by omega)]))
   ·rw[hI.eq 2 (by omega)];unfold ql;(repeat(first|rfl|rw[af]|rw[ah _ _ _ _ (by omega)]))
   ·rw[hI.eq 8 (by omega),xn p ps hr];unfold ql;(repeat(first|rfl|rw[af]|rw[ah _ _ _ _ (by omega)]))
   ·exact HN
 ·simp at h1
  have Yb:k=p.rules.length:=ae
  subst Yb
  simp+contextual (disch:=first|omega|simp only[go_sem,false_implies]) only[go_sem,wrap64,if_pos,k2,k8]
theorem Li{s:bC}(h:iY s=true):s.bG.length<=8:=by
 unfold iY at h
 split at h
 ·cases h
 ·rename_i h2
  simp at h2;omega
theorem Hu(p:Pg)(hp:p.Fw)(h:dM p=true):aV Tryz.prog 41 [p.d] (.ret [crD p (u1 p)]):=by
 have:=NR p hp
 rwa [show zD p p.rules.length=p.rules.flatMap fun r=>rm r.rhs by unfold zD;rw[List.take_length],UN (fun r hr=>s5 h hr)]at this
theorem Fy{p:Pg}(h:dM p=true):(u1 p).length<=100:=by
 unfold u1
 have h1:=List.length_filter_le (fun n=>(p.rules.flatMap fun r=>rm r.rhs).contains n) ((List.range p.sig.bG.length).map fun n:Nat=>(n:Int))
 rw[List.length_map,List.length_range]at h1
 have h2:=Li (zk h)
 omega
theorem UW(p:Pg)(hp:p.Fw)(h:dM p=true):aV Tryz.prog 42 [crD p (u1 p)] (.ret [.sl ((jS p).map Cl.d)]):=
 NS p hp (fun r hr=>(s5 h hr).len) (fun r hr x hx h4=>(s5 h hr).kids (zk h) hx h4) (u1 p) (Fy h)
theorem UX(p:Pg)(hp:p.Fw):aV Tryz.prog 12 [p.d] (.ret [.bool (dM p)]):=by
 refine aV.aF mix acH aJ ?_
 rw[c12]
 refine aY ?_
 refine ay (NP p hp) rfl ?_
 exact vP
theorem UY(p:Pg)(hp:p.Fits):aV Tryz.prog 9 [p.d] (.ret [.bool (iF p)]):=by
 refine aV.aF mix fn9 aJ ?_
 rw[c9]
 refine aY ?_
 refine ay (Hr p hp) rfl ?_
 exact vP
theorem abv{σ:Type}(l:List Int)(hl:l.length<=9223372036854775807)(g:Nat)(aP:List V)(base:Nat)(H:σ->Nat->ab)(step:σ->Int->σ×Bool)(hc:∀r∈V.aE aP,r<base)(ok:σ->Prop)(aS:∀x∈l,∀s,ok s->(step s x).2=true->ok (step s x).1)
 (h:∀x∈l,∀s,ok s->iN Tryz.prog g (.d (.i x)::aP) base (H s) (H (step s x).1) (.d (.bool (!(step s x).2)))) (s:σ) (iq:ok s):
 iN Tryz.prog 118 [.d (.sl (l.map D.i)), .func (.func g) [] aP] base (H s) (H (aq step s l).1) (.d (.i (oK step s l 0))):=by
 intro o nx hI K X hK
 have il:∀r∈V.aE aP,r<nx:=fun r hr=>Nat.lt_of_lt_of_le (hc r hr) hI.le
 refine cX.aF mix PY aJ ?_
 rw[TE]
 refine cI ?_
 refine aB (fun i:Nat×σ×(Nat->ab)×Nat=>⟨a7 [.d (.sl (l.map D.i)), .func (.func g) [] aP, .aa, .aa, .aa, .aa, .aa, .d (.i l.length), .d (.i i.1)],i.2.2.1,i.2.2.2⟩)
  (fun i=>i.1<=l.length/\cG base (H i.2.1) i.2.2.1 i.2.2.2/\nx<=i.2.2.2/\(∀id,base<=id->id<nx->i.2.2.1 id=o id)/\aq step s l=aq step i.2.1 (l.drop i.1)/\ok i.2.1/\oK step s l 0=oK step i.2.1 (l.drop i.1) i.1) (fun i=>l.length - i.1) (0,s,o,nx)
  ⟨Nat.zero_le _,hI,Nat.le_refl _,fun _ _ _=>rfl,rfl,iq,rfl⟩ ?_ ?_
 ·exact Xp
 rintro⟨k,s',o',nx'⟩ ⟨hk,sH,hn,cL,hf,hY,tg⟩
 simp only at hk sH hn cL hf hY tg
 refine cI ?_
 refine ai (fun h1=> ?_) (fun h1=> ?_)
 ·simp at h1
  obtain⟨x,hx⟩:=aL h1
  have iK:=List.mem_of_getElem? hx
  have hd:l.drop k=x::l.drop (k+1):=by
   exact Vj
  rw[hd]at hf tg
  simp only[aq,oK]at hf tg
  refine HL hx ?_
  refine dD (h x iK s' hY _ _ (sH.mono ae) _ _ fun o2 n2 m1 m2 m3=> ?_)
  cases hb:(step s' x).2 with
  |true=>
   rw[hb]at hf tg
   simp only[if_true]at hf tg
   refine aY ?_
   have E3:∀r∈V.aE aP,r<n2+1+1:=fun r hr=>by have:=il r hr;omega
   exact zw0
  |false=>
   exact RD
 ·exact RF
theorem DM{σ:Type}(l:List Int)(hl:l.length<=9223372036854775807)(g:Nat)(aP:List V)(base:Nat)(H:σ->Nat->ab)(step:σ->Int->σ×Bool)(hc:∀r∈V.aE aP,r<base)(ok:σ->Prop)(aS:∀x∈l,∀s,ok s->(step s x).2=true->ok (step s x).1)
 (h:∀x∈l,∀s,ok s->iN Tryz.prog g (.d (.i x)::aP) base (H s) (H (step s x).1) (.d (.bool (!(step s x).2)))) (s:σ) (iq:ok s):
 iN Tryz.prog 81 [.d (.sl (l.map D.i)), .func (.func g) [] aP] base (H s) (H (aq step s l).1) (.d (.bool (!(aq step s l).2))):=by
 intro o nx hI K X hK
 have il:∀r∈V.aE aP,r<nx:=fun r hr=>Nat.lt_of_lt_of_le (hc r hr) hI.le
 refine cX.aF mix ZM aJ ?_
 rw[c81]
 refine od ?_
 refine bd (abv l hl g aP base H step hc ok aS h s iq _ _ ?_ _ _ fun o2 n2 m1 m2 m3=> ?_)
 ·exact D2
 refine od ?_
 have e:decide (0<=oK step s l 0)= !(aq step s l).2:=by
  have:=zd step l s 0 ae
  exact RU
 rw[e]
 exact LR
theorem abw{x:Int}{g:Nat}{aP:List V}{base c bx:Nat}{h h2 O:Nat->ab}{r:Bool}(hS:iN Tryz.prog g (.d (.i x)::aP) base h h2 (.d (.bool r)))(hb:base<=bx)(Lu:bx<c)(hO:O bx= .row [.func (.func g) [] aP])(hc:∀r∈V.aE aP,r<base):
 iN Tryz.prog 82 [.d (.i x), .ptr bx 0] c (ext base h O) (ext base h2 O) (.d (.bool (!r))):=by
 intro o nx hI K X hK
 have hle:=hI.le
 have il:∀r∈V.aE aP,r<nx:=fun r hr=>by have:=hc r hr;omega
 have ho:o bx= .row [.func (.func g) [] aP]:=by
  exact Rv
 have y1:∀k,bx≠nx+k:=fun k=>ae
 have y2:bx≠nx:=ae
 refine cX.aF mix ZN aJ ?_
 rw[c82]
 refine LK ho y1 y2 ?_
 refine dD ((hS.ext (by omega:base<=c) O) _ _ ?_ _ _ fun o2 n2 m1 m2 m3=> ?_)
 ·exact D2
 refine od ?_
 exact LR
theorem Lj{σ:Type}(l:List Int)(hl:l.length<=9223372036854775807)(g:Nat)(aP:List V)(base:Nat)(H:σ->Nat->ab)(step:σ->Int->σ×Bool)(hc:∀r∈V.aE aP,r<base)(ok:σ->Prop)(aS:∀x∈l,∀s,ok s->(step s x).2=true->ok (step s x).1)
 (h:∀x∈l,∀s,ok s->iN Tryz.prog g (.d (.i x)::aP) base (H s) (H (step s x).1) (.d (.bool (step s x).2))) (s:σ) (iq:ok s):
 iN Tryz.prog 46 [.d (.sl (l.map D.i)), .func (.func g) [] aP] base (H s) (H (aq step s l).1) (.d (.bool (aq step s l).2)):=by
 intro o nx hI K X hK
 have hle:=hI.le
 have il:∀r∈V.aE aP,r<nx:=fun r hr=>Nat.lt_of_lt_of_le (hc r hr) hI.le
 refine cX.aF mix ZD aJ ?_
 rw[c46]
 refine od ?_
 refine bd (DM l hl 82 [.ptr nx 0] (nx+1) (fun s=>ext base (H s) (aD o nx (.row [.func (.func g) [] aP]))) step nF ok aS (fun x hx s hs=>abw (h x hx s hs) hle ae (af _ _ _) hc) s iq _ _ ?_ _ _ fun o2 n2 m1 m2 m3=> ?_)
 ·have hr:(ab.row [V.func (.func g) [] aP]).refs.all (fun r=>decide (r<nx+4))=true:=by
   rw[List.all_eq_true]
   intro r hr
   have h1:r∈V.aE aP:=by simpa[ab.refs,V.aE,V.refs]using hr
   have:=il r h1
   simp;omega
  exact Ri
 refine od ?_
 refine hK _ _ ae ⟨(m2.mono ae).bz,by have:=m2.le;omega,fun id au=> ?_⟩ fun id i1 i2=> ?_
 ·exact FN
 ·exact Re
theorem zE(a b:List cB)(q:Nat):(jB a b q).length<=q:=by
 unfold jB
 have:=List.length_filterMap_le (fun p=>if(yz a b (p/4:Nat) (p%4:Nat)).1=true then some (⟨(p/4:Nat),(p%4:Nat),(yz a b (p/4:Nat) (p%4:Nat)).2⟩:cB)else none) (List.range q)
 simpa using this
def vN(a b:List cB):List cB×Int:=if(dz a&&dz b)=true then(jB a b 16,0)else([],2)
theorem nC(a b:List cB)(ha:a.length<=1000000)(hb:b.length<=1000000):aV Tryz.prog 32 [.sl (a.map cB.d), .sl (b.map cB.d)] (.ret [.sl ((vN a b).1.map cB.d), .i (vN a b).2]):=by
 refine aV.aF mix Zy aJ ?_
 rw[c32]
 have za:(iC a).1.length=16/\(iC a).2=dz a:=by
  rw[nr];unfold iC
  cases h:iw a (-1) sS with
  |some m=>exact⟨(pQ h).1,rfl⟩
  |none=>exact⟨rfl,rfl⟩
 have zb:(iC b).1.length=16/\(iC b).2=dz b:=by
  rw[nr];unfold iC
  cases h:iw b (-1) sS with
  |some m=>exact⟨(pQ h).1,rfl⟩
  |none=>exact⟨rfl,rfl⟩
 have hta:=yU a ha
 have zF:=yU b hb
 rw[za.2]at hta
 rw[zb.2]at zF
 have ra:=gu _ za.1
 have rb:=gu _ zb.1
 have la:=cU _ za.1
 have lb:=cU _ zb.1
 refine aY ?_
 refine aW hta ?_
 simp+contextual (disch:=first|omega|simp only[go_sem,false_implies]) only[go_sem,wrap64,if_pos,eU,la,ra]
 refine aW zF ?_
 simp+contextual (disch:=first|omega|simp only[go_sem,false_implies]) only[go_sem,wrap64,if_pos,eU,lb,rb]
 cases hA:dz a with
 |false=>
  have e:vN a b=([],2):=by simp[vN,hA]
  rw[e]
  exact vP
 |true=>
 cases hB:dz b with
 |false=>
  have e:vN a b=([],2):=by simp[vN,hA,hB]
  rw[e]
  exact vP
 |true=>
  have e:vN a b=(jB a b 16,0):=by simp[vN,hA,hB]
  have e2:kW (bK (iC a).1 (iC b).1) 16=jB a b 16:=by
   rw[nr]at hA hB
   obtain⟨m,hm⟩:=Option.isSome_iff_exists.1 hA
   obtain⟨n,hn⟩:=Option.isSome_iff_exists.1 hB
   have x1:(iC a).1=m:=by unfold iC;rw[hm]
   have x2:(iC b).1=n:=by unfold iC;rw[hn]
   rw[x1,x2];exact mP hm hn
  have t16:(bK (iC a).1 (iC b).1).length=16:=by simp[bK]
  have hl:=J8 _ t16
  rw[e2]at hl
  rw[e]
  simp+contextual (disch:=first|omega|simp only[go_sem,false_implies]) only[go_sem,wrap64,if_pos,ra,rb,la,lb,dQ]
  refine aW (J6 _ _ za.1 zb.1) ?_
  refine aY ?_
  refine aW hl ?_
  exact vP
end Go.Proofs.YtnkamdiiakdkgaaGreat
