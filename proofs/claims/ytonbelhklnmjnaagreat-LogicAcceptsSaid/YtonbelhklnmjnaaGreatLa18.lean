/-
  A PART OF THE PROOF. Conditions: none.
-/
import Derived.OpenShut
import Derived.Carry
import Derived.Handed
import Derived.JoinedOf
import Derived.ProofKit
import Derived.Test.YtonbelhklnmjnaaGreatLa17
set_option linter.unusedSimpArgs false
set_option linter.unusedVariables false
section
namespace Go.Proofs.YtonbelhklnmjnaaGreat
open Go.ChangeShapes Go.WideShapes Go.RowKit
def wP(P:Program)(rec:TypeId->Option (List TypeId)):Nat->List Field->Option (List TypeId)
 |_,[]=>some []
 |off,f::fs=>if f.offset=off then match rec f.type with
  |some l=>if P.cellsOf f.type=l.length then(wP P rec (off+l.length) fs).map (l++·)else none
  |none=>none else none
def mW(P:Program):Nat->TypeId->Option (List TypeId)
 |0,_=>none
 |n+1,t=>match P.underlying t with
  |some .bool|some (.int _)|some .string|some (.slice _)=>some [t]
  |some (.struct fs)=>wP P (mW P n) 0 fs.toList
  |some (.array k e)=>match mW P n e with
   |some l=>if P.cellsOf e=l.length then some (List.replicate k l).flatten else none
   |none=>none
  |_=>none
def isAgg(P:Program)(t:TypeId):Bool:=match P.underlying t with
 |some (.struct _)|some (.array _ _)=>true
 |_=>false
mutual
def D.jO (P:Program):D->TypeId->Prop
 | .int k n,t=>P.underlying t=some (.int k)/\(Lit.int k n).wf=true
 | .bool _,t=>P.underlying t=some .bool
 | .str l,t=>P.underlying t=some .string/\l.length<=maxLen
 | .sl es,t=>∃e,P.underlying t=some (.slice e)/\es.length<=maxLen/\D.FF P es e
 | .agg cs,t=>isAgg P t=true/\∃ls,mW P 20 t=some ls/\D.jF P cs ls
 |_,_=>False
def D.FF (P:Program):List D->TypeId->Prop
 |[],_=>True
 |x::l,e=>D.jO P x e/\D.FF P l e
def D.jF (P:Program):List D->List TypeId->Prop
 |[],ts=>ts=[]
 |x::l,ts=>∃t r,ts=t::r/\D.jO P x t/\D.jF P l r
end
def uP(P:Program)(T:List TypeId):Bool:=T.all fun t=>match mW P 20 t with
 |some l=>decide (l.length=P.cellsOf t)&&decide (0<l.length)&&l.all fun u=>match P.underlying u with
  |some (.slice e)=>T.contains e
  |_=>true
 |none=>false
theorem rG{P:Program}:∀ {xs ys:List D} {l r:List TypeId},D.jF P xs l->D.jF P ys r->D.jF P (xs++ys) (l++r)
 |[],_,_,_,h,h'=>by simp only[D.jF]at h;subst h;exact h'
 |x::xs,_,_,_,h,h'=>by
  obtain⟨t,r,rfl,h1,h2⟩:=h
  exact⟨t,_,rfl,h1,rG h2 h'⟩
theorem bP{B:Nat->Prop}{w:World}:∀ {xs ys:List D} {l r:List Value},D.aP B w xs l->D.aP B w ys r->D.aP B w (xs++ys) (l++r)
 |[],_,_,_,h,h'=>by simp only[D.aP]at h;subst h;exact h'
 |x::xs,_,_,_,h,h'=>by
  obtain⟨t,r,rfl,h1,h2⟩:=h
  exact⟨t,_,rfl,h1,bP h2 h'⟩
theorem Flat.append {l r:List Value}(h:Flat l)(h':Flat r):Flat (l++r):=fun u hu=>(List.mem_append.1 hu).elim (h u) (h' u)
abbrev Xz:Nat->Prop:=fun _=>False
section
variable {H:Type}{enc:TypeId×Value->H}{P:Program}{W:World}{T:List TypeId}{b0:Nat}
def dQ(P:Program)(W:World)(l:List TypeId)(cs:List Value):Prop:=∃xs,D.jF P xs l/\D.aP Xz W xs cs/\Flat cs
theorem dQ.append {l r:List TypeId}{cs ds:List Value}(h:dQ P W l cs)(h':dQ P W r ds):dQ P W (l++r) (cs++ds):=by
 obtain⟨xs,a1,a2,a3⟩:=h
 obtain⟨ys,b1,b2,b3⟩:=h'
 exact⟨xs++ys,rG a1 b1,bP a2 b2,a3.append b3⟩
theorem dQ.length {l:List TypeId}{cs:List Value}(h:dQ P W l cs):cs.length=l.length:=by
 obtain⟨xs,a1,a2,_⟩:=h
 rw[D.aM _ _ a2]
 clear a2
 induction xs generalizing l with
 |nil=>simp only[D.jF]at a1;simp[a1]
 |cons x xs ih=>obtain⟨t,r,rfl,_,h⟩:=a1;simp[ih h]
theorem dQ.nil:dQ P W [] []:=⟨[],rfl,rfl,fun _ h=>by cases h⟩
theorem DJ{α:Type}(cs:List α)(o k:Nat):cs.drop o=(cs.drop o).take k++cs.drop (o+k):=by
 rw[<- List.drop_drop];exact(List.take_append_drop k _).symm
theorem rH{rec:TypeId->Option (List TypeId)}{cs:List Value}{rd:TypeId->List Value->Prop}
 (cf:∀t l vs,rec t=some l->(∀u∈l,∀e,P.underlying u=some (.slice e)->e∈T)->P.cellsOf t=l.length->rd t vs->dQ P W l vs):
 ∀ (fs:List Field) (off:Nat) (l:List TypeId),wP P rec off fs=some l->(∀u∈l,∀e,P.underlying u=some (.slice e)->e∈T)->(∀f∈fs,rd f.type ((cs.drop f.offset).take (P.cellsOf f.type)))->
   off+l.length=cs.length->dQ P W l (cs.drop off)
 |[],off,l,h,_,_,hl=>by
  simp only[wP,Option.some.injEq]at h
  subst h
  have:cs.drop off=[]:=List.drop_eq_nil_of_le (by simp at hl;omega)
  rw[this];exact dQ.nil
 |f::fs,off,l,h,hT,hr,hl=>by
  simp only[wP]at h
  split at h
  ·rename_i ho
   split at h
   ·rename_i l1 h1
    split at h
    ·rename_i hc
     simp only[Option.map_eq_some_iff]at h
     obtain⟨r,h2,rfl⟩:=h
     have hd:=hr f au
     rw[ho,hc]at hd
     rw[DJ cs off l1.length]
     simp only[List.length_append]at hl
     exact(cf f.type l1 _ h1 (fun u hu=>hT u (by simp[hu])) hc hd).append (rH cf fs _ r h2 (fun u hu=>hT u (by simp[hu])) (fun f hf=>hr f (by simp[hf])) ad)
    ·cases h
   ·cases h
  ·cases h
theorem tO{l:List TypeId}{cs:List Value}:∀ (k i:Nat),(∀j,j<k->dQ P W l ((cs.drop ((i+j)*l.length)).take l.length))->(i+k)*l.length=cs.length->dQ P W (List.replicate k l).flatten (cs.drop (i*l.length))
 |0,i,_,hl=>by
  have:cs.drop (i*l.length)=[]:=List.drop_eq_nil_of_le (by simp at hl;omega)
  rw[this];exact dQ.nil
 |k+1,i,h,hl=>by
  rw[List.replicate_succ,List.flatten_cons,DJ cs (i*l.length) l.length]
  refine(by simpa using h 0 ad:dQ P W l _).append ?_
  rw[show i*l.length+l.length=(i+1)*l.length by rw[Nat.add_mul];omega]
  refine tO k (i+1) (fun j hj=> ?_) (by rw[<- hl];congr 1;omega)
  have:=h (j+1) ad
  rwa [show i+(j+1)=i+1+j by omega]at this
theorem DK{e:TypeId}{l:List TypeId}{cs:List Value}(hl:mW P 20 e=some l)(h:dQ P W l cs):∃ (ev:Value) (x:D),ev.cells.toList=cs/\D.jO P x e/\D.den Xz W x ev/\(isAgg P e=true->ev= .agg cs.toArray)/\(isAgg P e=false->cs=[ev]/\ev.oneCell'=true):=by
 obtain⟨xs,h1,h2,h3⟩:=h
 cases ha:isAgg P e with
 |true=>exact⟨.agg cs.toArray, .agg xs,by simp[Value.cells],⟨ha,l,hl,h1⟩,⟨_,rfl,by simpa using h2,by simpa using h3⟩,fun _=>rfl,(fun h=>by cases h)⟩
 |false=>
  have:l=[e]:=by
   unfold mW at hl
   unfold isAgg at ha
   split at hl<;>simp_all
  subst this
  obtain⟨t,r,e1,h4,h5⟩:∃x r,xs=x::r/\D.jO P x e/\D.jF P r []:=by
   cases xs with
   |nil=>simp[D.jF]at h1
   |cons x r=>obtain⟨t,r',e1,h4,h5⟩:=h1;injection e1 with e1 e2;subst e1;subst e2;exact⟨x,r,rfl,h4,h5⟩
  subst e1
  have:r=[]:=by cases r with
   |nil=>rfl
   |cons y r=>obtain⟨_,_,e,_⟩:=h5;cases e
  subst this
  obtain⟨u,us,rfl,h6,h7⟩:=h2
  simp only[D.aP]at h7
  subst h7
  have ho:=h3 u au
  refine⟨u,t, ?_,h4,h6,(fun h=>by cases h),fun _=>⟨rfl,ho⟩⟩
  cases u<;>simp_all[Value.oneCell',Value.cells]
theorem DL(hp:uP P T=true){t:TypeId}(ht:t∈T):∃l,mW P 20 t=some l/\l.length=P.cellsOf t/\0<l.length/\∀u∈l,∀e,P.underlying u=some (.slice e)->e∈T:=by
 have:=List.all_eq_true.1 hp t ht
 split at this
 ·rename_i l hl
  simp only[Bool.and_eq_true,decide_eq_true_eq,List.all_eq_true]at this
  refine⟨l,hl,this.1.1,this.1.2,fun u hu e he=> ?_⟩
  have:=this.2 u hu
  rw[he]at this
  simpa using this
 ·cases this
theorem FG(hp:uP P T=true):∀ (n m:Nat) (t:TypeId) (l:List TypeId) (cs:List Value) (x:DataW H×List MemPlace),mW P m t=some l->(∀u∈l,∀e,P.underlying u=some (.slice e)->e∈T)->
 P.cellsOf t=l.length->DataW.trod enc P W 0 (fun _=>true) true n t cs=some x->dQ P W l cs:=by
 intro n
 induction n with
 |zero=>intro m t l cs x _ _ _ h;simp[DataW.trod]at h
 |succ n ih=>
  intro m t l cs x hl hT hc h
  cases m with
  |zero=>simp[mW]at hl
  |succ m=>
  unfold mW at hl
  split at hl
  ·rename_i hu
   injection hl with hl;subst hl
   obtain⟨b,rfl,_⟩:=DataW.trod_bool hu h
   exact⟨[.bool b],⟨t,[],rfl,hu,rfl⟩,⟨_,_,rfl,rfl,rfl⟩,by simp[Flat,Value.oneCell']⟩
  ·rename_i k hu
   injection hl with hl;subst hl
   obtain⟨b,rfl,_,hw⟩:=DataW.trod_int hu h
   exact⟨[.int k b],⟨t,[],rfl,⟨hu,hw⟩,rfl⟩,⟨_,_,rfl,rfl,rfl⟩,by simp[Flat,Value.oneCell']⟩
  ·rename_i hu
   injection hl with hl;subst hl
   obtain⟨s,rfl,_,hw⟩:=DataW.trod_string hu h
   exact⟨[.str s.data.toList],⟨t,[],rfl,⟨hu,by simpa using hw⟩,rfl⟩,⟨_,_,rfl,⟨s,rfl,rfl⟩,rfl⟩,by simp[Flat,Value.oneCell']⟩
  ·rename_i e hu
   injection hl with hl;subst hl
   rcases DataW.trod_slice hu h with⟨rfl,_⟩|⟨a,len,cap,elems,rest,n',hn,rfl,_,_,h2,h3,h4,h5,h6,_⟩
   ·exact⟨[.sl []],⟨t,[],rfl,⟨e,hu,au,trivial⟩,rfl⟩,⟨_,_,rfl,⟨none,0,0,rfl,rfl,au,fun _=>rfl,0,(fun a ha=>by cases ha)⟩,rfl⟩,by simp[Flat,Value.oneCell']⟩
   ·injection hn with hn;subst hn
    obtain⟨l',g1,g2,g3,g4⟩:=DL hp (hT t au e hu)
    have at':∀i,i<len->∃ev:Value,∃y:D,ev.cells.size=P.cellsOf e/\iy Xz W (a.add (i*P.cellsOf e)) ev.cells/\D.den Xz W y ev/\D.jO P y e:=by
     intro i hi
     have:=h5 i hi
     rw[List.getElem?_eq_getElem (by omega)]at this
     obtain⟨ci,k1,k2⟩:=Option.bind_eq_some_iff.1 this
     obtain⟨_,k3,k4⟩:=World.cells?_some k1
     have k5:=ih 20 e l' ci _ g1 g4 g2.symm k2
     obtain⟨ev,y,q1,q2,q3,_,_⟩:=DK g1 k5
     have q4:ev.cells=ci.toArray:=by rw[<- q1]
     refine⟨ev,y,by rw[q4];simp[k5.length,g2],fun j u hj=>⟨?_,fun h=>h⟩,q3,q2⟩
     rw[q4]at hj
     have JM:ci[j]? =some u:=by simpa using hj
     have db:j<P.cellsOf e:=by rw[<- g2, <- k5.length];exact(List.getElem?_eq_some_iff.1 JM).1
     rw[k4 j db];exact JM
    have list:∀k i,i+k=len->∃es,es.length=k/\D.FF P es e/\D.elems Xz W (P.cellsOf e) a i es:=by
     intro k
     induction k with
     |zero=>intro i _;exact⟨[],rfl,trivial,trivial⟩
     |succ k ihk=>
      intro i hi
      obtain⟨es,e1,e2,e3⟩:=ihk (i+1) ad
      obtain⟨ev,y,y1,y2,y3,y4⟩:=at' i ad
      exact⟨y::es,by simp[e1],⟨y4,e2⟩,⟨ev,y1,y2,y3⟩,e3⟩
    obtain⟨es,e1,e2,e3⟩:=list len 0 ad
    have ac6:cap≠0->a.spot=none:=by
     intro fN
     have To:∀z,(W.cells? 0 (a.add (0*P.cellsOf e)) (P.cellsOf e)).bind (DataW.trod enc P W 0 (fun _=>true) true n e)=some z->a.spot=none:=by
      intro z hz
      obtain⟨ci,k1,k2⟩:=Option.bind_eq_some_iff.1 hz
      obtain⟨_,k3,k4⟩:=World.cells?_some k1
      have k5:=k4 0 ad
      rw[List.getElem?_eq_getElem (by omega)]at k5
      simpa[Addr.add]using World.cell?_spot k5
     by_cases hlen:0<len
     ·have:=h5 0 hlen
      rw[List.getElem?_eq_getElem (by omega)]at this
      exact To _ this
     ·obtain⟨h7,h8⟩:=h6 rfl
      have:=h8 0 ad
      rw[List.getElem?_eq_getElem (by omega),show(len+0)=0 by omega]at this
      exact To _ this
    exact⟨[.sl es],⟨t,[],rfl,⟨e,hu,ad,e2⟩,rfl⟩,⟨_,_,rfl,⟨some a,len,cap,rfl,e1.symm,h2,(fun h=>by cases h),P.cellsOf e,(fun a' PO=>by injection PO with PO;subst PO;exact⟨ac6,e3⟩)⟩,rfl⟩,by simp[Flat,Value.oneCell']⟩
  ·rename_i fs hu
   obtain⟨xs,n',hn,_,h2,h3,h4⟩:=DataW.trod_struct hu h
   injection hn with hn;subst hn
   have:=rH (P:=P) (W:=W) (T:=T) (cs:=cs) (rd:=fun t vs=>∃y,DataW.trod enc P W 0 (fun _=>true) true n t vs=some y) (rec:=mW P m) (fun t l vs q1 q2 q3 ⟨y,q4⟩=>ih m t l vs y q1 q2 q3 q4) fs.toList 0 l hl hT ?_ ad
   ·simpa using this
   ·intro f hf
    obtain⟨i,hi,hfi⟩:=List.getElem_of_mem hf
    have:=h4 i f (by simp at hi;simp[<- hfi,Array.getElem?_eq_getElem hi])
    rw[List.getElem?_eq_getElem (by simp at hi;omega)]at this
    exact⟨_,this⟩
  ·rename_i k e hu
   split at hl
   ·rename_i l' jy
    split at hl
    ·rename_i hce
     injection hl with hl;subst hl
     obtain⟨xs,n',hn,_,h2,h3,h4⟩:=DataW.trod_array hu h
     injection hn with hn;subst hn
     have hlen:cs.length=k*l'.length:=by rw[h2,hc];simp
     have hT':0<k->∀u∈l',∀e,P.underlying u=some (.slice e)->e∈T:=fun hk u hu=>hT u (List.mem_flatten.2 ⟨l',List.mem_replicate.2 ⟨ad,rfl⟩,hu⟩)
     have:=tO (P:=P) (W:=W) (l:=l') (cs:=cs) k 0 (fun j hj=> ?_) (by rw[hlen];simp)
     ·simpa using this
     ·have:=h4 j hj
      rw[hce,List.getElem?_eq_getElem (by omega)]at this
      rw[Nat.zero_add]
      exact ih m e l' _ _ jy (hT' ad) hce this
    ·cases hl
   ·cases hl
  ·cases hl
theorem zy(hp:uP P T=true):∀ (ts:List TypeId) (vs:List Value) (ds:List (DataW H)) (p:List MemPlace),(∀t∈ts,t∈T)->DataW.TrodAll enc P W 0 (fun _=>true) true ts vs ds p->
 (∀ (j:Nat) t v,ts[j]? =some t->vs[j]? =some v->Value.okWide P W .any b0 t v)->∃xs,D.jF P xs ts/\D.aP Xz W xs vs
 |[],vs,ds,p,_,h,_=>by
  obtain⟨rfl,rfl,rfl⟩:=trodAll_nil h
  exact⟨[],rfl,rfl⟩
 |t::ts,vs,ds,p,hT,h,hv=>by
  obtain⟨v,vs',d,Zz,p1,q1,rfl,rfl,rfl,⟨n,h1⟩,h2⟩:=trodAll_cons h
  obtain⟨xs,a1,a2⟩:=zy hp ts vs' Zz q1 (fun t ht=>hT t (by simp[ht])) h2 (fun j t v h1 h2=>hv (j+1) t v (by simpa using h1) Em)
  obtain⟨l,g1,g2,g3,g4⟩:=DL hp (hT t au)
  obtain⟨ev,x,q1,q2,q3,q4,q5⟩:=DK g1 (FG hp n 20 t l _ _ g1 g4 g2.symm h1)
  have bA:=hv 0 t v rfl rfl
  have:ev=v:=by
   cases ha:isAgg P t with
   |true=>
    have:∃cs,v= .agg cs:=by
     unfold isAgg at ha
     unfold Value.okWide at bA
     split at ha
     ·rename_i hu;rw[hu]at bA;obtain⟨cs,rfl,_⟩:=bA;exact⟨cs,rfl⟩
     ·rename_i hu;rw[hu]at bA;obtain⟨cs,rfl,_⟩:=bA;exact⟨cs,rfl⟩
     ·cases ha
    obtain⟨cs,rfl⟩:=this
    rw[q4 ha]
    simp[Value.cells]
   |false=>
    obtain⟨q6,q7⟩:=q5 ha
    cases v with
    |agg cs=>
     exfalso
     unfold isAgg at ha
     unfold Value.okWide at bA
     split at bA
     ·rename_i hu;rw[hu]at ha;cases ha
     ·rename_i hu;rw[hu]at ha;cases ha
     ·unfold Cell.okWide at bA
      split at bA
      case h_8=>
       unfold Cell.ok at bA
       split at bA<;>first|exact bA|contradiction
      all_goals contradiction
    |_=>simp only[Value.cells,List.cons.injEq,and_true]at q6;exact q6.symm
  subst this
  exact⟨x::xs,⟨t,ts,rfl,q2,a1⟩,⟨_,_,rfl,q3,a2⟩⟩
theorem eO.below {w w':World}(h:eO (fun _=>False) w w'):Below w.heap.size w w':=⟨h.os,h.tape,h.output,h.size,fun k hk=>h.block k hk (fun h=>h)⟩
theorem zA(hl:laidOutB P=true){W':World}{sp:Nat->Bool}:∀ {ts:List TypeId} {vs:List Value} {ds:List (DataW H)} {p:List MemPlace},(∀t∈ts,P.readableRec t=true/\t<P.types.size)->DataW.TrodAll enc P W 0 (fun _=>true) true ts vs ds p->
 (∀x∈p,W.sameAt W' x/\sp x.block=true)->DataW.TrodAll enc P W' 0 sp true ts vs ds p
 |[],vs,ds,p,_,h,_=>by
  obtain⟨rfl,rfl,rfl⟩:=trodAll_nil h
  exact trodAll_mk0
 |t::ts,vs,ds,p,hr,h,hs=>by
  obtain⟨v,vs',d,Zz,p1,q1,rfl,rfl,rfl,h1,h2⟩:=trodAll_cons h
  exact⟨p1,q1,WideElems.Trod_stays hl (hr t au).1 (hr t au).2 h1 (fun x hx=>(hs x mf).1) (fun x hx=>(hs x mf).2),zA hl (fun t ht=>hr t (by simp[ht])) h2 (fun x hx=>hs x mf),rfl⟩
theorem MA{sp:Nat->Bool}:∀ {ts:List TypeId} {vs:List Value} {ds:List (DataW H)} {ps:List MemPlace},DataW.TrodAll enc P W 0 sp true ts vs ds ps->ds.length=ts.length
 |[],_,_,_,h=>by obtain⟨_,rfl,_⟩:=trodAll_nil h;rfl
 |_::_,_,_,_,h=>by
  obtain⟨_,_,_,_,_,_,_,rfl,_,_,h2⟩:=trodAll_cons h
  simp[MA h2]
theorem Bh{f:FuncId}{fn:Func}{s:ChangeSpec}{tb:TypeId}{fresh handsOn again:Bool}(Co:fn.resultTypes=#[tb])(HD:P.underlying tb=some .bool)(Tp:s.vars=[])
 (MB:∀ds:List (DataW H),ds.length=fn.params.toList.length->s.fn H ds={results:=[.lit (.bool true)],args:=ds}) (hp:uP P T=true) (hT:∀t∈fn.params.toList,t∈T) (hl:laidOutB P=true)
 (hr:∀t∈fn.params.toList,P.readableRec t=true/\t<P.types.size) (law:∀xs,D.jF P xs fn.params.toList->aR P f xs (.ret [.bool true]))
 (base:Nat) (args:Array Value) (ds gs:List (DataW H)) (before:List MemPlace)
 (fV:∀ (j:Nat) t v,fn.params[j]? =some t->args[j]? =some v->Value.okWide P W .any base t v) (hW:DataW.Whole enc P fn.params.toList s.vars false W args.toList ds gs before):
 Calls P f args W fun e W'=>∃v,e= .returned v/\s.post enc P fn false fresh handsOn again W args v W':=by
 have hW':=hW
 obtain⟨p,q,hA,hV,rfl,hfz,hnd⟩:=hW
 rw[Tp]at hV
 obtain⟨rfl,rfl⟩:=trodVars_none hV
 obtain⟨xs,a1,a2⟩:=zy (b0:=base) hp fn.params.toList args.toList ds p hT hA (fun j t v h1 h2=>fV j t v (by simpa using h1) Em)
 refine((law xs a1).2 Xz W args (fun _ h=>h.elim) a2).mono fun e W' ⟨hk,ho⟩=> ?_
 have hb:=hk.below
 cases e with
 |panicked ch=>exact ho.elim
 |outgrown=>exact ho.elim
 |returned v=>
  simp only[R.is,D.den]at ho
  subst ho
  refine⟨_,rfl, ?_⟩
  have hlen:ds.length=fn.params.toList.length:=(MA hA)
  have hold:∀x∈p,x.block<W.heap.size:=fun x hx=>by simpa using hW'.lt x HE
  have eg:∀sp:Nat->Bool,(∀x∈p,sp x.block=true)->DataW.TrodAll enc P W' 0 sp true fn.params.toList args.toList ds p:=fun sp vc=>zA hl hr hA fun x hx=>⟨hb.same (hold x hx),vc x hx⟩
  have Tq:∀ (b:Nat) (sp:Nat->Bool) (hd:Bool),DataW.TrodAll enc P W' b sp hd fn.resultTypes.toList ((Value.bool true).resultList fn.resultTypes.size) [.lit (.bool true)] []:=fun b sp hd=>by
   rw[Co]
   exact trodAll_cons_mk (p:=[]) (p':=[]) ⟨1,by simp[DataW.trod,Value.cells,HD]⟩ trodAll_mk0
  have MC:∀sp:Nat->Bool,DataW.TrodVars enc P W' sp s.vars [] []:=fun sp=>by rw[Tp];rfl
  refine⟨ds,[],p++[],[],p,[],hW', ?_, ?_, ?_,World.keptBut_mono (fun _ h=>h.elim) (hb.frame (fun _=>False)),fun _=>⟨?_,[.lit (.bool true)]++ds,[],([]++p)++[],⟨[]++p,[],trodAll_append (eg _ fun _ _=>rfl) (Tq 0 (fun _=>true) true),MC _,rfl, ?_,(fun h=>by cases h)⟩,fun x hx _=>by simpa using hx⟩⟩
  ·rw[List.append_nil,MB ds hlen];exact Tq _ _ _
  ·rw[List.append_nil,MB ds hlen];exact eg _ fun x hx=>by simpa using hold x hx
  ·rw[List.append_nil,MB ds hlen];exact MC _
  ·intro j t r h1 h2
   rw[Co]at h1 h2
   match j,h1,h2 with
   |0,h1,h2=>
    simp[Value.resultList]at h1 h2
    subst h1;subst h2
    simp[Value.okWide,HD,Cell.okWide,Cell.ok]
  ·intro b off hx
   rw[hb.frozen (by simpa[MemPlace.block]using hold _ (by simpa using hx))]
   exact hfz b off HE
end
section
variable {P:Program}{t e:TypeId}{x:D}
theorem wQ{k:IntKind}(ht:P.underlying t=some (.int k))(h:D.jO P x t):∃n,x= .int k n/\(Lit.int k n).wf=true:=by
 cases x<;>simp only[D.jO]at h
 case int k' n=>
  rw[ht]at h
  obtain⟨h1,h2⟩:=h
  injection h1 with h1;injection h1 with h1;subst h1
  exact⟨n,rfl,h2⟩
 case bool=>rw[ht]at h;cases h
 case str=>rw[ht]at h;cases h.1
 case sl=>obtain⟨e,h,_⟩:=h;rw[ht]at h;cases h
 case agg=>have:=h.1;unfold isAgg at this;rw[ht]at this;cases this
theorem MD(ht:P.underlying t=some .string)(h:D.jO P x t):∃l,x= .str l/\l.length<=maxLen:=by
 cases x<;>simp only[D.jO]at h
 case int k' n=>rw[ht]at h;cases h.1
 case bool b=>rw[ht]at h;cases h
 case str l=>exact⟨l,rfl,h.2⟩
 case sl=>obtain⟨e,h,_⟩:=h;rw[ht]at h;cases h
 case agg=>have:=h.1;unfold isAgg at this;rw[ht]at this;cases this
theorem oP(ht:P.underlying t=some (.slice e))(h:D.jO P x t):∃es,x= .sl es/\es.length<=maxLen/\D.FF P es e:=by
 cases x<;>simp only[D.jO]at h
 case int k' n=>rw[ht]at h;cases h.1
 case bool b=>rw[ht]at h;cases h
 case str l=>rw[ht]at h;cases h.1
 case sl es=>
  obtain⟨e',h,h2,h3⟩:=h
  rw[ht]at h;injection h with h;injection h with h;subst h
  exact⟨es,rfl,h2,h3⟩
 case agg=>have:=h.1;unfold isAgg at this;rw[ht]at this;cases this
theorem oq{ls:List TypeId}(ha:isAgg P t=true)(hl:mW P 20 t=some ls)(h:D.jO P x t):∃cs,x= .agg cs/\D.jF P cs ls:=by
 have no:∀u,P.underlying t=some u->(∀fs,u≠ .struct fs)->(∀k e,u≠ .array k e)->False:=by
  intro u hu h1 h2
  unfold isAgg at ha
  rw[hu]at ha
  split at ha
  ·rename_i e;injection e with e;exact h1 _ e
  ·rename_i e;injection e with e;exact h2 _ _ e
  ·cases ha
 cases x<;>simp only[D.jO]at h
 case int k' n=>exact(no _ h.1 (fun _ h=>by cases h) (fun _ _ h=>by cases h)).elim
 case bool b=>exact(no _ h (fun _ h=>by cases h) (fun _ _ h=>by cases h)).elim
 case str l=>exact(no _ h.1 (fun _ h=>by cases h) (fun _ _ h=>by cases h)).elim
 case sl es=>obtain⟨e',h,_⟩:=h;exact(no _ h (fun _ h=>by cases h) (fun _ _ h=>by cases h)).elim
 case agg cs=>
  obtain⟨_,ls',h1,h2⟩:=h
  rw[hl]at h1;injection h1 with h1;subst h1
  exact⟨cs,rfl,h2⟩
theorem bG{t:TypeId}{ts:List TypeId}{cs:List D}(h:D.jF P cs (t::ts)):∃x xs,cs=x::xs/\D.jO P x t/\D.jF P xs ts:=by
 cases cs with
 |nil=>simp[D.jF]at h
 |cons x xs=>obtain⟨_,_,e,h1,h2⟩:=h;injection e with e1 e2;subst e1;subst e2;exact⟨x,xs,rfl,h1,h2⟩
theorem ki{cs:List D}(h:D.jF P cs []):cs=[]:=by
 cases cs with
 |nil=>rfl
 |cons x xs=>obtain⟨_,_,e,_⟩:=h;cases e
theorem ou{α:Type}{f:α->D}{q:α->Prop}(hf:∀x,D.jO P x e->∃a,x=f a/\q a):∀ (es:List D),D.FF P es e->∃l:List α,es=l.map f/\∀a∈l,q a
 |[],_=>⟨[],rfl,fun _ h=>by cases h⟩
 |x::es,h=>by
  obtain⟨a,rfl,h1⟩:=hf x h.1
  obtain⟨l,rfl,h2⟩:=ou hf es h.2
  exact⟨a::l,rfl,fun b hb=>(List.mem_cons.1 hb).elim (fun e=>e ▸ h1) (h2 b)⟩
end
end Go.Proofs.YtonbelhklnmjnaaGreat
end
section
namespace Go.Proofs.YtonbelhklnmjnaaGreat
open Go.ChangeShapes Go.WideShapes Go.RowKit
theorem l9:maxLen<=9223372036854775807:=aT
theorem wR{x:D}(h:D.jO Tryz.prog x 3):∃n:Int,x= .i n:=by
 obtain⟨n,h,_⟩:=wQ undT_3 h
 exact⟨n,h⟩
theorem XA{x:D}(h:D.jO Tryz.prog x 29):∃n:Int,x= .i n:=by
 obtain⟨n,h,_⟩:=wQ undT_29 h
 exact⟨n,h⟩
theorem ac7{x:D}(h:D.jO Tryz.prog x 104):∃r:jW,x=r.d/\r.name.length<=9223372036854775807:=by
 obtain⟨cs,rfl,hh⟩:=oq ah (ls:=[9,3]) ah h
 clear h;have h:=hh;clear hh
 obtain⟨a,cs,rfl,ha,h⟩:=bG h
 obtain⟨b,cs,rfl,hb,h⟩:=bG h
 have:=ki h;subst this
 obtain⟨l,rfl,hl⟩:=MD ah ha
 obtain⟨n,rfl⟩:=wR hb
 exact⟨⟨l,n⟩,rfl,by have:=l9;simp only;omega⟩
theorem ME:∀ (n:Nat) (x:D),SizeOf.sizeOf x<=n->D.jO Tryz.prog x 31->∃t:Tm,x=t.d/\t.fits:=by
 intro n
 induction n with
 |zero=>intro x hx _;cases x<;>simp at hx
 |succ n ih=>
  intro x hx h
  obtain⟨cs,rfl,hh⟩:=oq ah (ls:=[29,3,28]) ah h
  clear h;have h:=hh;clear hh
  obtain⟨a,cs,rfl,ha,h⟩:=bG h
  obtain⟨b,cs,rfl,hb,h⟩:=bG h
  obtain⟨c,cs,rfl,hc,h⟩:=bG h
  have:=ki h;subst this
  obtain⟨o,rfl⟩:=XA ha
  obtain⟨m,rfl⟩:=wR hb
  obtain⟨es,rfl,h1,h2⟩:=oP undT_28 hc
  have Ec:SizeOf.sizeOf es<=n:=by simp at hx;omega
  have:∀es:List D,SizeOf.sizeOf es<=n->D.FF Tryz.prog es 31->∃l:List Tm,es=l.map Tm.d/\∀k∈l,k.fits:=by
   intro es
   induction es with
   |nil=>intro _ _;exact⟨[],rfl,fun _ h=>by cases h⟩
   |cons y es ihe=>
    intro hs h
    simp at hs
    obtain⟨t,rfl,ht⟩:=ih y ad h.1
    obtain⟨l,rfl,hl⟩:=ihe ad h.2
    exact⟨t::l,rfl,fun b hb=>(List.mem_cons.1 hb).elim (fun e=>e ▸ ht) (hl b)⟩
  obtain⟨l,rfl,hl⟩:=this es Ec h2
  refine⟨.mk o m l,by rw[Tm.lH], ?_⟩
  rw[Tm.aJ]
  exact⟨by have:=l9;simp at h1;simp only[Tm.kids];omega,hl⟩
theorem ac8{x:D}(h:D.jO Tryz.prog x 31):∃t:Tm,x=t.d/\t.fits:=ME _ x (Nat.le_refl _) h
end Go.Proofs.YtonbelhklnmjnaaGreat
end
section
namespace Go.Proofs.YtonbelhklnmjnaaGreat
open Go.ChangeShapes Go.WideShapes Go.RowKit
theorem DM{x:D}(h:D.jO Tryz.prog x 28):∃l:List Tm,x= .sl (l.map Tm.d)/\l.length<=9223372036854775807/\∀t∈l,t.fits:=by
 obtain⟨es,rfl,h1,h2⟩:=oP undT_28 h
 obtain⟨l,rfl,hl⟩:=ou (fun x h=>ac8 h) es h2
 have:=l9
 exact⟨l,rfl,by simp at h1;omega,hl⟩
structure Rl.Fits (r:Rl):Prop where
 bf:r.bf.length<=9223372036854775807
 all:∀t∈r.bf,t.fits
 rhs:r.rhs.fits
theorem ae7{x:D}(h:D.jO Tryz.prog x 106):∃r:Rl,x=r.d/\r.Fits:=by
 obtain⟨cs,rfl,hh⟩:=oq ah (ls:=[3,28,29,3,28,3]) ah h
 clear h;have h:=hh;clear hh
 obtain⟨a,cs,rfl,ha,h⟩:=bG h
 obtain⟨b,cs,rfl,hb,h⟩:=bG h
 obtain⟨c,cs,rfl,hc,h⟩:=bG h
 obtain⟨d,cs,rfl,hd,h⟩:=bG h
 obtain⟨e,cs,rfl,he,h⟩:=bG h
 obtain⟨f,cs,rfl,hf,h⟩:=bG h
 have:=ki h;subst this
 obtain⟨m,rfl⟩:=wR ha
 obtain⟨l,rfl,l1,l2⟩:=DM hb
 obtain⟨o,rfl⟩:=XA hc
 obtain⟨n,rfl⟩:=wR hd
 obtain⟨k,rfl,k1,k2⟩:=DM he
 obtain⟨v,rfl⟩:=wR hf
 exact⟨⟨m,l, .mk o n k,v⟩,rfl,⟨l1,l2,(Tm.aJ _).2 ⟨k1,k2⟩⟩⟩
structure Pg.Fits (p:Pg):Prop where
 sig:p.sig.Fits
 len:p.rules.length<=9223372036854775807
 all:∀r∈p.rules,r.Fits
theorem ae8{x:D}(h:D.jO Tryz.prog x 27):∃p:Pg,x=p.d/\p.Fits:=by
 obtain⟨cs,rfl,hh⟩:=oq ah (ls:=[22,22,25]) ah h
 clear h;have h:=hh;clear hh
 obtain⟨a,cs,rfl,ha,h⟩:=bG h
 obtain⟨b,cs,rfl,hb,h⟩:=bG h
 obtain⟨c,cs,rfl,hc,h⟩:=bG h
 have:=ki h;subst this
 obtain⟨es,rfl,h1,h2⟩:=oP undT_22 ha
 obtain⟨l,rfl,hl⟩:=ou (fun x h=>ac7 h) es h2
 obtain⟨es',rfl,h3,h4⟩:=oP undT_22 hb
 obtain⟨l',rfl,jy⟩:=ou (fun x h=>ac7 h) es' h4
 obtain⟨es2,rfl,h5,h6⟩:=oP (e:=106) ah hc
 obtain⟨q,rfl,hq⟩:=ou (fun x h=>ae7 h) es2 h6
 have:=l9
 exact⟨⟨⟨l,l'⟩,q⟩,rfl,⟨⟨by simp at h1;simp only;omega,by simp at h3;simp only;omega,hl,jy⟩,by simp at h5;simp only;omega,hq⟩⟩
end Go.Proofs.YtonbelhklnmjnaaGreat
end
namespace Go.Proofs.YtonbelhklnmjnaaGreat
def eY(l:List Tm):Bool:=decide (l.length<=6)&&l.all iF
def gB(p:Pg):Bool:=(jj p.sig&&decide (p.rules.length<=20))&&p.rules.all fun r=>eY r.bf&&iF r.rhs
theorem zB{p:Pg}(hf:p.Fits)(h:gB p=true):p.Fin/\G5 p:=by
 simp only[gB,eY,Bool.and_eq_true,decide_eq_true_eq,List.all_eq_true,qa]at h
 obtain⟨_,h⟩:=h
 refine⟨⟨hf.sig,hf.len,fun r hr=> ?_⟩,fun r hr=> ?_⟩
 ·obtain⟨⟨a,b⟩,c⟩:=h r hr
  have Ae:=hf.all r hr
  exact⟨ad,fun t ht=>⟨Ae.all t ht,by have:=(b t ht).2;omega⟩,⟨Ae.rhs,by have:=c.2;omega⟩⟩
 ·obtain⟨⟨a,b⟩,c⟩:=h r hr
  exact⟨a,fun t ht=>(b t ht).1,c.1⟩
theorem MF(l:List Int)(n:Int)(hl:l.length<=1000000):aR Tryz.prog 198 [.sl (l.map .i), .i n] (.ret [.bool (l.contains n)]):=by
 refine aR.ay mix acf au ?_
 rw[ace]
 refine aG ?_
 refine aE (fun k:Nat=>⟨bz [.d (.sl (l.map .i)), .d (.i n), .aa, .aa, .aa, .d (.i k)],fun _=> .no,0⟩)
  (fun k=>k<=l.length/\(l.take k).contains n=false) (fun k=>l.length - k) 0 ⟨Nat.zero_le _,au⟩ (bE.d0 _ ?_) (fun k hk=> ?_)
 ·exact cz
 refine aG ?_
 refine aq (fun h2=> ?_) (fun h2=> ?_)
 ·simp at h2
  obtain⟨x,hx⟩:=aw h2
  refine cg hx ?_
  refine aq (fun h3=> ?_) (fun h3=> ?_)
  ·refine aG ?_
   have:l.contains n=true:=by
    exact TO
   rw[this]
  ·refine aG ?_
   refine ax (k+1) ⟨h2, ?_⟩ ad (bE.d0 _ ?_)
   ·have h4: ¬n=x:=fun e=>by subst e;simp at h3
    have h5:=hk.2
    rw[List.take_add_one,hx]
    rw[Bool.eq_false_iff]at h5|-
    intro hc;apply h5
    rw[List.contains_iff_mem]at hc|-
    rcases List.mem_append.1 hc with hc|hc
    ·exact hc
    ·exact Ua
   ·exact cz
 ·simp at h2
  refine aG ?_
  have:=hk.2
  rw[List.take_of_length_le (by omega)]at this
  rw[this]
theorem wS:∀ (l:List Int) (n:Int),∃k,k<=l.length/\(∀x∈l.take k,x<n)/\(∀x,l[k]? =some x-> ¬x<n)/\kM l n=if l[k]? =some n then l else l.take k++n::l.drop k
 |[],n=>⟨0,Nat.zero_le _,au,au,by simp[kM]⟩
 |x::l,n=>by
  obtain⟨k,h1,h2,h3,h4⟩:=wS l n
  by_cases hx:x<n
  ·refine⟨k+1,by simp;omega, ?_,by simpa using h3, ?_⟩
   ·intro y hy
    simp only[List.take_succ_cons,List.mem_cons]at hy
    rcases hy with rfl|hy
    ·exact hx
    ·exact h2 y hy
   ·simp only[kM,if_pos hx,h4,List.getElem?_cons_succ,List.take_succ_cons,List.drop_succ_cons]
    split<;>simp
  ·refine⟨0,Nat.zero_le _,au,by simpa using hx, ?_⟩
   simp only[kM,if_neg hx]
   by_cases e:x=n
   ·subst e;simp
   ·simp[e]
theorem Hb(l:List Int)(n:Int)(hl:l.length<=1000000):aR Tryz.prog 103 [.sl (l.map .i), .i n] (.ret [.sl ((kM l n).map .i)]):=by
 obtain⟨j,j1,j2,j3,j4⟩:=wS l n
 have tk:∀ (i:Nat) (l:List Int),List.take i (l.map D.i)=(l.take i).map D.i:=fun i l=>List.map_take.symm
 have dr:∀ (i:Nat) (l:List Int),List.drop i (l.map D.i)=(l.drop i).map D.i:=fun i l=>List.map_drop.symm
 have ap:∀ (a b:List Int),a.map D.i++[D.i n]++b.map D.i=(a++n::b).map D.i:=fun a b=>au
 refine aR.ay mix aa0 au ?_
 rw[aaZ]
 refine aG ?_
 refine aE (fun k:Nat=>⟨bz [.d (.sl (l.map .i)), .d (.i n), .aa, .aa, .aa, .d (.i k)],fun _=> .no,0⟩)
  (fun k=>k<=j) (fun k=>l.length - k) 0 (Nat.zero_le _) (bE.d0 _ ?_) (fun k hk=> ?_)
 ·exact cz
 by_cases hkj:k=j
 ·subst hkj
  by_cases h5:k<l.length
  ·obtain⟨x,hx⟩:=aw h5
   have h6:=j3 x hx
   have xh:(k:Int)<l.length:=ad
   refine uT hx xh h6 ?_
   refine aq (fun h3=> ?_) (fun h3=> ?_)
   ·refine aG ?_
    have e:x=n:=by simpa using h3
    rw[j4,if_pos (by rw[hx,e])]
   ·have e: ¬x=n:=by simpa using h3
    rw[j4,if_neg (by rw[hx];simpa using e)]
    simp+contextual (disch:=first|omega|simp only[go_sem,false_implies]) only[go_sem,wrap64,if_pos,hx,xh,h6,tk,dr,List.take_length,List.length_map,List.length_take,List.length_drop,List.length_append,List.length_cons,List.length_nil]
    rw[ap]
    refine ai aT ?_
    exact bR
  ·have xh: ¬ (k:Int)<l.length:=ad
   have hx:l[k]? =none:=by simp;omega
   rw[j4,if_neg (by rw[hx];simp)]
   simp+contextual (disch:=first|omega|simp only[go_sem,false_implies]) only[go_sem,wrap64,if_pos,xh,tk,dr,List.take_length,List.length_map,List.length_take,List.length_drop,List.length_append,List.length_cons,List.length_nil]
   rw[ap]
   refine ai aT ?_
   exact bR
 ·have db:k<l.length:=ad
  obtain⟨x,hx⟩:=aw db
  have xh:(k:Int)<l.length:=ad
  have h6:x<n:=j2 x (List.mem_of_getElem? (i:=k) (by rw[List.getElem?_take_of_lt (by omega)];exact hx))
  refine uT hx xh h6 ?_
  refine ax (k+1) ad ad (bE.d0 _ ?_)
  exact cz
theorem qf(a b:List Int)(ha:a.length<=1000000)(hb:b.length<=1000000):aR Tryz.prog 15 [.sl (a.map .i), .sl (b.map .i)] (.ret [.bool (a==b)]):=by
 refine aR.ay mix aau au ?_
 rw[c15]
 refine aG ?_
 refine aq (fun h1=> ?_) (fun h1=> ?_)
 ·refine aG ?_
  have:(a==b)=false:=by
   rw[Bool.eq_false_iff];intro h
   have h:a=b:=by simpa using h
   subst h;simp at h1
  rw[this]
 ·have hl:a.length=b.length:=by simp at h1;omega
  refine aG ?_
  refine aE (fun k:Nat=>⟨bz [.d (.sl (a.map .i)), .d (.sl (b.map .i)), .aa, .aa, .aa, .d (.i k)],fun _=> .no,0⟩)
   (fun k=>k<=a.length/\a.take k=b.take k) (fun k=>a.length - k) 0 ⟨Nat.zero_le _,au⟩ (bE.d0 _ ?_) (fun k hk=> ?_)
  ·exact cz
  refine aG ?_
  refine aq (fun h2=> ?_) (fun h2=> ?_)
  ·simp at h2
   obtain⟨x,hx⟩:=aw h2
   obtain⟨y,hy⟩:=aw (l:=b) (k:=k) ad
   refine s9 hx hy ?_
   refine ai aT ?_
   refine aG ?_
   refine aq (fun h3=> ?_) (fun h3=> ?_)
   ·refine aG ?_
    have:(a==b)=false:=by
     rw[Bool.eq_false_iff];intro h
     have h:a=b:=by simpa using h
     subst h;rw[hx]at hy;injection hy with hy;simp[hy]at h3
    rw[this]
   ·refine aG ?_
    have e:x=y:=by simpa using h3
    refine ax (k+1) ⟨h2,by rw[List.take_add_one,List.take_add_one,hk.2,hx,hy,e]⟩ ad (bE.d0 _ ?_)
    exact cz
  ·simp at h2
   refine aG ?_
   have:=hk.2
   rw[List.take_of_length_le (by omega),List.take_of_length_le (by omega)]at this
   simp[this]
theorem oQ{op n:Int}{i:Nat}{l:List Int}{k:Nat}{v:Int}(h:l[k]? =some v)(out:List Int):mK op n i (l.take (k+1)) out=if(op !=8||(i:Int)!=1||v !=n)=true then kM (mK op n i (l.take k) out) v else mK op n i (l.take k) out:=by
 unfold mK
 rw[List.take_add_one,h,List.foldl_append]
 rfl
theorem mO:∀t:Tm,t.xN->aR Tryz.prog 61 [t.d] (.ret [.sl ((bt t).map .i)]):=by
 refine Tm.cB fun t ih ht=> ?_
 have fy:=(Tm.aJ _).1 ht.fits
 refine aR.ay mix aeF au ?_
 rw[c61]
 by_cases h1:t.op=1
 ·refine cg h1 ?_
  rw[oh,if_pos h1]
  rfl
 ·have bJ:(t.op==1)=false:=by simpa using h1
  refine cg bJ ?_
  rw[oh,if_neg h1]
  refine aE (fun i:Nat×List Int=>⟨bz [.aa, .ptr 0 0, .aa, .d (.sl (i.2.map .i)), .d (.i i.1)],fb t.row,1⟩)
   (fun i=>i.1<=t.kids.length/\jN t.op t.n t.kids 0 []=jN t.op t.n (t.kids.drop i.1) i.1 i.2/\i.2.length<=fU (t.kids.take i.1)) (fun i=>t.kids.length - i.1) (0,[]) ⟨Nat.zero_le _,rfl,Nat.zero_le _⟩
   (bE.acI (fun _=>False) 1 _ ad (yU (bw rfl fH)) (fun j hj=>aj _ _ _ _ ad) (fun _ h=>h.elim) ?_) ?_
  ·try dsimp only
   exact nj
  rintro⟨k,out⟩ ⟨hk,hv,hlen⟩
  simp only at hk hv hlen
  refine aG ?_
  refine aq (fun h2=> ?_) (fun h2=> ?_)
  ·simp at h2
   obtain⟨x,hx⟩:=aw h2
   have cw:=List.mem_of_getElem? hx
   have ed:fU (t.kids.take (k+1))=fU (t.kids.take k)+x.sz:=by
    rw[List.take_add_one,hx];simp[fU]
   have hle:fU (t.kids.take (k+1))<=fU t.kids:=by
    have:fU t.kids=fU (t.kids.take (k+1))+fU (t.kids.drop (k+1)):=by
     conv=>lhs;rw[<- List.take_append_drop (k+1) t.kids]
     exact N0
    omega
   have rS:fU t.kids<=1000000:=by have:=ht.size;rw[Tm.kI,Tm.iU]at this;omega
   have Oz:=eX x
   have hdr:t.kids.drop k=x::t.kids.drop (k+1):=by
    obtain⟨h5,h6⟩:=List.getElem?_eq_some_iff.1 hx
    exact T2
   refine cg hx ?_
   refine aO (ih x cw (ht.gx cw)) ?_
   refine cg hx ?_
   refine aE (fun j:Nat=>⟨bz [.aa, .ptr 0 0, .aa, .d (.sl ((mK t.op t.n k ((bt x).take j) out).map .i)), .d (.i k), .d (.sl ((bt x).map .i)), .d (.i j)],fb t.row,1⟩)
    (fun j=>j<=(bt x).length) (fun j=>(bt x).length - j) 0 (Nat.zero_le _) (bE.d1 _ (aU rfl) ad rfl ?_) (fun j hj=> ?_)
   ·exact cz
   refine aG ?_
   refine aq (fun h3=> ?_) (fun h3=> ?_)
   ·simp at h3
    obtain⟨v,JV⟩:=aw h3
    have rT:=oi t.op t.n k ((bt x).take j) out
    have htl:((bt x).take j).length<=(bt x).length:=by rw[List.length_take];omega
    cases b1:(t.op !=8)with
    |true=>
     have hc:(t.op !=8||(k:Int)!=1||v !=t.n)=true:=by rw[b1];rfl
     refine s9 JV b1 ?_
     refine ai aT ?_
     refine cg JV ?_
     refine aO (Hb _ v ad) ?_
     refine aG ?_
     refine ax (j+1) h3 ad (bE.d1 _ (aU rfl) ad rfl ?_)
     rw[oQ JV,if_pos hc]
     exact cz
    |false=>
     cases b2:((k:Int)!=1)with
     |true=>
      have hc:(t.op !=8||(k:Int)!=1||v !=t.n)=true:=by rw[b1,b2];rfl
      refine uT JV b1 b2 ?_
      refine ai aT ?_
      refine cg JV ?_
      refine aO (Hb _ v ad) ?_
      refine aG ?_
      refine ax (j+1) h3 ad (bE.d1 _ (aU rfl) ad rfl ?_)
      rw[oQ JV,if_pos hc]
      exact cz
     |false=>
      refine uT JV b1 b2 ?_
      refine ai aT ?_
      refine cg JV ?_
      refine aq (fun h4=> ?_) (fun h4=> ?_)
      ·have hc:(t.op !=8||(k:Int)!=1||v !=t.n)=true:=by rw[h4];simp
       refine cg JV ?_
       refine aO (Hb _ v ad) ?_
       refine aG ?_
       refine ax (j+1) h3 ad (bE.d1 _ (aU rfl) ad rfl ?_)
       rw[oQ JV,if_pos hc]
       exact cz
      ·have hc: ¬ (t.op !=8||(k:Int)!=1||v !=t.n)=true:=by rw[b1,b2,h4];simp
       refine cg JV ?_
       refine ax (j+1) h3 ad (bE.d1 _ (aU rfl) ad rfl ?_)
       rw[oQ JV,if_neg hc]
       exact cz
   ·simp at h3
    refine aG ?_
    rw[List.take_of_length_le (by omega)]
    refine ax (k+1,mK t.op t.n k (bt x) out) ⟨h2,by rw[hv,hdr];rfl, ?_⟩ mX (bE.d1 _ (aU rfl) ad rfl ?_)
    ·dsimp only
     have:=oi t.op t.n k (bt x) out
     omega
    ·exact cz
  ·simp at h2
   refine aG ?_
   rw[hv,List.drop_eq_nil_of_le (by omega)]
   rfl
theorem Qc:∀t:Tm,t.fits->aR Tryz.prog 195 [t.d] (.ret [.bool (gW t)]):=by
 refine Tm.cB fun t ih hf=> ?_
 have fy:=(Tm.aJ _).1 hf
 refine aR.ay mix ab9 au ?_
 rw[ab8,zw]
 refine aG ?_
 refine aE (fun k:Nat=>⟨bz [.aa, .ptr 0 0, .aa, .d (.i k)],fb t.row,1⟩)
  (fun k=>k<=t.kids.length/\(t.kids.take k).all gW=true) (fun k=>t.kids.length - k) 0 ⟨Nat.zero_le _,au⟩ (bE.d1 _ (aU rfl) ad rfl ?_) (fun k hk=> ?_)
 ·exact cz
 refine aG ?_
 refine aq (fun h2=> ?_) (fun h2=> ?_)
 ·simp at h2
  obtain⟨x,hx⟩:=aw h2
  have cw:=List.mem_of_getElem? hx
  refine cg hx ?_
  refine ag (ih x cw (fy.2 x cw)) rfl ?_
  refine aG ?_
  refine aq (fun h3=> ?_) (fun h3=> ?_)
  ·refine aG ?_
   simp at h3
   exact Oc
  ·refine aG ?_
   simp at h3
   refine ax (k+1) ⟨h2,cl hx hk.2 h3⟩ ad (bE.d1 _ (aU rfl) ad rfl ?_)
   exact cz
 ·refine aG ?_
  simp at h2
  rw[cm hk.2 h2];rfl
theorem XB:∀t:Tm,t.xN->∀b:List Int,b.length+t.sz<=1000000->aR Tryz.prog 194 [t.d, .sl (b.map .i)] (.ret [.sl ((gz t b).1.map .i), .bool (gz t b).2]):=by
 refine Tm.cB fun t ih ht b hb=> ?_
 have fy:=(Tm.aJ _).1 ht.fits
 refine aR.ay mix ab7 au ?_
 rw[ab6]
 by_cases h1:t.op=1
 ·rw[rC,if_pos h1]
  refine cg h1 ?_
  refine aZ (Hb _ _ ad) ?_
  refine aG ?_
  refine ao (MF _ _ ad) rfl ?_
  refine aG ?_
  refine ai aT ?_
  exact bR
 ·have bJ:(t.op==1)=false:=by simpa using h1
  rw[rC,if_neg h1]
  refine cg bJ ?_
  refine aE (fun i:Nat×List Int×Bool=>⟨bz [.aa, .d (.sl (i.2.1.map .i)), .ptr 0 0, .aa, .aa, .aa, .d (.bool i.2.2), .d (.i i.1)],fb t.row,1⟩)
   (fun i=>i.1<=t.kids.length/\gX t.kids b=(if i.2.2=true then gX (t.kids.drop i.1) i.2.1 else(i.2.1,false))/\i.2.1.length<=b.length+fU (t.kids.take i.1)) (fun i=>t.kids.length - i.1) (0,b,true) ⟨Nat.zero_le _,rfl,Nat.le_add_right _ _⟩ (bE.d1 _ (aU rfl) ad rfl ?_) ?_
  ·dsimp only
   exact cz
  rintro⟨k,b',is⟩ ⟨hk,hv,hlen⟩
  simp only at hk hv hlen
  have rS:=Tm.iU t
  have fin:is=false\/t.kids.length<=k->gX t.kids b=(b',is):=by
   intro h
   cases is with
   |false=>rw[hv];rfl
   |true=>
    have h:t.kids.length<=k:=by simpa using h
    rw[hv,List.drop_eq_nil_of_le h];rfl
  refine aG ?_
  cases is with
  |false=>
   refine aG ?_
   rw[fin (.inl rfl)]
  |true=>
   refine aG ?_
   refine aq (fun h2=> ?_) (fun h2=> ?_)
   ·simp at h2
    obtain⟨x,hx⟩:=aw h2
    have cw:=List.mem_of_getElem? hx
    have ed:fU (t.kids.take (k+1))=fU (t.kids.take k)+x.sz:=by
     rw[List.take_add_one,hx];simp[fU]
    have hle:fU t.kids=fU (t.kids.take (k+1))+fU (t.kids.drop (k+1)):=by
     conv=>lhs;rw[<- List.take_append_drop (k+1) t.kids]
     exact N0
    have hdr:t.kids.drop k=x::t.kids.drop (k+1):=by
     obtain⟨h5,h6⟩:=List.getElem?_eq_some_iff.1 hx
     exact T2
    refine cg hx ?_
    refine aO (ih x cw (ht.gx cw) b' ad) ?_
    refine aG ?_
    refine ax (k+1,(gz x b').1,(gz x b').2) ⟨h2, ?_, ?_⟩ mX (bE.d1 _ (aU rfl) ad rfl ?_)
    ·dsimp only
     rw[hv,if_pos rfl,hdr]
     simp only[gX]
    ·dsimp only
     have:=Ja x b'
     omega
    ·exact cz
   ·simp at h2
    refine aG ?_
    rw[fin (.inr h2)]
theorem Je(t:Tm)(ht:t.xN):aR Tryz.prog 137 [t.d] (.ret [.bool ((gz t []).2&&gW t)]):=by
 have ho:=XB t ht [] (by have:=ht.size;rw[Tm.kI]at this;simp;omega)
 simp only[List.map_nil]at ho
 refine aR.ay mix abv au ?_
 rw[abu]
 refine aG ?_
 refine aO ho ?_
 refine aG ?_
 refine gR (fD [.bool (gW t)] ?_ ?_)
 ·refine aG ?_
  exact fun _=>Qc t ht.fits
 exact bR
def IC.snd:IC->IC
 | .seq _ y=>y
 |c=>c
def IC.fst:IC->IC
 | .seq x _=>x
 | .block _ x=>x
 | .loop x=>x
 | .cond _ x _=>x
 |c=>c
theorem cp{c:Nat}{G:List Gr}{so:Nat->ae}{gone:Nat->Prop}{x x' y y':ae}(h:x=y)(h':x'=y')(hs:xK c G so gone y y'):xK c G so gone x x':=by rw[h,h'];exact hs
theorem kP{l:List Tm}{k:Tm}(h:k∈l):k.sz<=fU l:=by
 induction l with
 |nil=>cases h
 |cons x l ih=>
  rw[ej]
  rcases List.mem_cons.1 h with e|e
  ·subst e;omega
  ·have:=ih e;omega
theorem XC:∀t:Tm,t.iE<=t.sz:=by
 refine Tm.cB fun t ih=> ?_
 rw[Tm.wm,Tm.iU]
 have:=(uJ t.kids (fU t.kids)).2 fun k hk=>Nat.le_trans (ih k hk) (kP hk)
 omega
theorem Tm.xN.FH {t:Tm}(hf:t.fits)(h:t.sz<=900000):t.xN:=⟨⟨hf,Nat.le_trans (XC t) h⟩,by rw[Tm.kI];omega⟩
theorem qg(l:List Tm)(h:∀k∈l,(bV k).length<=k.sz):(bH l).length<=fU l:=by
 induction l with
 |nil=>simp[bH]
 |cons k l ih=>
  rw[bH,List.length_append,ej]
  have:=h k au
  have:=ih fun x hx=>h x mf
  omega
theorem kj:∀t:Tm,(bV t).length<=t.sz:=by
 refine Tm.cB fun t ih=> ?_
 have:=qg t.kids ih
 rw[iq,List.length_append,Tm.iU]
 split<;>simp<;>omega
theorem pw(a b:List Tm):bH (a++b)=bH a++bH b:=by
 induction a with
 |nil=>simp[bH]
 |cons k a ih=>simp[bH,ih]
def MG:IC:=Px.snd.snd.snd.fst.snd.fst.fst
theorem wT{t:Tm}(hf:t.fits)(hz:t.sz<=1000000)(ih:∀k∈t.kids,k.fits->k.sz<=1000000->aR Tryz.prog 196 [k.d] (.ret [.sl ((bV k).map .i)]))(p:List Int)(hp:p.length<=1){e:Nat->V}{o:Nat->ae}{nx:Nat}{Q:fG->S->Prop}
 (hs:bE 0 ⟨e,o,nx⟩ ⟨bz [.aa, .ptr 0 0, .aa, .osl 1 0, .d (.i 0)],aK (aK (fun _=> .no) 0 (.row t.row)) 1 (.arr 0 3 1 (p.map .i)),2⟩)
 (hQ:∀e' n',e' 3= .osl 1 0->Q (.exit 0) ⟨e',aK (aK (fun _=> .no) 0 (.row t.row)) 1 (.arr 0 3 1 ((p++bH t.kids).map .i)),n'⟩):
 rb 0 (fun Q s=>kS Tryz.prog 29 0 false MG Q s) Q ⟨e,o,nx⟩:=by
 have fy:=(Tm.aJ _).1 hf
 have rS:=Tm.iU t
 refine aE (fun i:Nat=>⟨bz [.aa, .ptr 0 0, .aa, .osl 1 0, .d (.i i)],aK (aK (fun _=> .no) 0 (.row t.row)) 1 (.arr 0 3 1 ((p++bH (t.kids.take i)).map .i)),2⟩)
  (fun i=>i<=t.kids.length) (fun i=>t.kids.length - i) 0 (Nat.zero_le _) ?_ fun k hk=> ?_
 ·simpa[bH]using hs
 replace hk:k<=t.kids.length:=hk
 simp only[MG,Px,IC.snd,IC.fst]
 refine fT ?_
 refine aq (fun h2=> ?_) (fun h2=> ?_)
 ·simp at h2
  obtain⟨x,hx⟩:=aw h2
  have cw:=List.mem_of_getElem? hx
  have wU:t.kids.take (k+1)=t.kids.take k++[x]:=by rw[List.take_add_one,hx];rfl
  have xi:(bH (t.kids.take k)).length<=fU (t.kids.take k):=qg _ fun y _=>kj y
  have ed:fU t.kids=fU (t.kids.take k)+fU (t.kids.drop k):=by
   conv=>lhs;rw[<- List.take_append_drop k t.kids]
   exact N0
  have Ea:=kP cw
  have oT:=kj x
  have Zf:(p++bH (t.kids.take k)).length<=1000001:=by rw[List.length_append];omega
  refine dn hx ?_
  refine aO (ih x cw (fy.2 x cw) ad) ?_
  refine dn hx ?_
  refine ax (k+1) h2 ad (bE.gU (fun j=>j=1) (.osl 1 1) 1 _ ad (yU (cp (y:= .row t.row) cY cY (bw rfl fH))) (ab _ _ _) (.inr ⟨1,1,rfl,rfl,by(repeat(first|rfl|rw[ab]|rw[aj _ _ _ _ (by omega)]));rw[wU,pw, <- List.append_assoc,List.map_append];simp[bH]⟩) (fun j hj=>by(repeat(first|rfl|rw[ab]|rw[aj _ _ _ _ (by omega)]))) (fun j h h2=>ad) ?_)
  exact nj
 ·simp at h2
  have rT:k=t.kids.length:=ad
  subst rT
  rw[List.take_length]
  refine fT ?_
  exact hQ _ _ rfl
theorem Qd:∀t:Tm,t.fits->t.sz<=1000000->aR Tryz.prog 196 [t.d] (.ret [.sl ((bV t).map .i)]):=by
 refine Tm.cB fun t ih hf hz=> ?_
 refine aR.ay mix aca au ?_
 rw[Px,iq]
 by_cases h8:t.op=8
 ·have Ei:(t.op==8)=true:=by simpa using h8
  refine cg Ei ?_
  rw[if_pos h8]
  refine wT hf hz ih [t.n] au ?_ fun e' n' he=> ?_
  ·refine bE.gU (fun j=>1<=j) _ 1 _ ad (yU (cp (y:= .row t.row) cY cY (bw rfl fH))) (ab _ _ _) (.inr ⟨_,_, ?_,rfl,by(repeat(first|rfl|rw[ab]|rw[aj _ _ _ _ (by omega)]))⟩) (fun j hj=>by(repeat(first|rfl|rw[ab]|rw[aj _ _ _ _ (by omega)]))) (fun j h h2=>ad) ?_
   ·decide
   ·exact nj
  ·exact Hq
 ·have Ei:(t.op==8)=false:=by simpa using h8
  refine cg Ei ?_
  rw[if_neg h8]
  refine wT hf hz ih [] au ?_ fun e' n' he=> ?_
  ·refine bE.gU (fun _=>False) .bT 1 _ ad (yU (bw rfl fH)) (ab _ _ _) (.inl ⟨rfl,rfl,aT⟩) (fun j hj=>by(repeat(first|rfl|rw[ab]|rw[aj _ _ _ _ (by omega)]))) (fun _ h=>h.elim) ?_
   exact nj
  ·exact Hq
theorem MH(l:List Int)(n:Int)(hl:l.length<=1000000):aR Tryz.prog 197 [.sl (l.map .i), .i n] (.ret [.i (l.count n)]):=by
 refine aR.ay mix acd au ?_
 rw[acb]
 refine aG ?_
 refine aE (fun k:Nat=>⟨bz [.d (.sl (l.map .i)), .d (.i n), .aa, .aa, .aa, .d (.i ((l.take k).count n)), .d (.i k)],fun _=> .no,0⟩)
  (fun k=>k<=l.length) (fun k=>l.length - k) 0 (Nat.zero_le _) (bE.d0 _ ?_) (fun k hk=> ?_)
 ·exact cz
 replace hk:k<=l.length:=hk
 have hc:(l.take k).count n<=1000000:=by have:=List.count_le_length (a:=n) (l:=l.take k);rw[List.length_take]at this;omega
 refine fT ?_
 refine aq (fun h2=> ?_) (fun h2=> ?_)
 ·simp at h2
  obtain⟨x,hx⟩:=aw h2
  have wU:(l.take (k+1)).count n=(l.take k).count n+if x=n then 1 else 0:=by rw[List.take_add_one,hx,List.count_append];simp[List.count_singleton]
  refine dn hx ?_
  refine aq (fun h3=> ?_) (fun h3=> ?_)
  ·have sx:x=n:=by simpa using h3
   rw[if_pos sx]at wU
   refine dn hx ?_
   refine ax (k+1) h2 ad (bE.d0 _ ?_)
   rw[wU]
   exact cz
  ·have sx: ¬x=n:=by simpa using h3
   rw[if_neg sx]at wU
   refine dn hx ?_
   refine ax (k+1) h2 ad (bE.d0 _ ?_)
   rw[wU]
   exact cz
 ·simp at h2
  refine aG ?_
  rw[List.take_of_length_le h2]
theorem tP(n:Int):∀l:List Tm,gy n l=l.all (dJ n)
 |[]=>rfl
 |k::l=>by simp[gy,tP n l]
theorem DN(n:Int):∀t:Tm,t.fits->aR Tryz.prog 138 [t.d, .i n] (.ret [.bool (dJ n t)]):=by
 refine Tm.cB fun t ih hf=> ?_
 have fy:=(Tm.aJ _).1 hf
 refine aR.ay mix abx au ?_
 rw[abw,qc,tP]
 refine aG ?_
 refine aE (fun k:Nat=>⟨bz [.aa, .d (.i n), .ptr 0 0, .aa, .aa, .d (.i k)],fb t.row,1⟩)
  (fun k=>k<=t.kids.length/\(t.kids.take k).all (dJ n)=true) (fun k=>t.kids.length - k) 0 ⟨Nat.zero_le _,au⟩ (bE.d1 _ (aU rfl) ad rfl ?_) (fun k hk=> ?_)
 ·exact cz
 refine aG ?_
 refine aq (fun h2=> ?_) (fun h2=> ?_)
 ·simp at h2
  obtain⟨x,hx⟩:=aw h2
  have cw:=List.mem_of_getElem? hx
  refine cg hx ?_
  refine ag (ih x cw (fy.2 x cw)) rfl ?_
  refine aG ?_
  refine aq (fun h3=> ?_) (fun h3=> ?_)
  ·refine aG ?_
   simp at h3
   exact Oc
  ·refine aG ?_
   simp at h3
   refine ax (k+1) ⟨h2,cl hx hk.2 h3⟩ ad (bE.d1 _ (aU rfl) ad rfl ?_)
   exact cz
 ·simp at h2
  rw[cm hk.2 h2,Bool.true_and]
  exact bR
theorem DO(l:List Tm):aR Tryz.prog 141 [.sl (l.map Tm.d)] (.ret [(Tm.mk 0 0 l).d]):=by
 refine aR.ay mix abD au ?_
 rw[abC,Tm.lH]
 exact bR
structure Jf (l:List Tm):Prop where
 len:l.length<=1000
 all:∀t∈l,t.fits/\t.sz<=500
theorem Jf.cnt {l:List Tm}(h:Jf l){t:Tm}(ht:t∈l):t.xN:=Tm.xN.FH (h.all t ht).1 (by have:=(h.all t ht).2;omega)
theorem Jf.fU {l:List Tm}(h:Jf l):fU l<=500000:=by
 have:∀l:List Tm,(∀t∈l,t.sz<=500)->Go.Proofs.YtonbelhklnmjnaaGreat.fU l<=500*l.length:=by
  intro l
  induction l with
  |nil=>intro _;simp[Go.Proofs.YtonbelhklnmjnaaGreat.fU]
  |cons k l ih=>intro h;rw[ej,List.length_cons];have:=h k au;have:=ih fun x hx=>h x mf;omega
 have:=this l fun t ht=>(h.all t ht).2
 have:=h.len
 omega
theorem Jf.fits {l:List Tm}(h:Jf l):(Tm.mk 0 0 l).fits:=by
 rw[Tm.aJ]
 exact⟨by have:=h.len;simp only[Tm.kids];omega,fun k hk=>(h.all k hk).1⟩
theorem Jf.whole {l:List Tm}(h:Jf l):(Tm.mk 0 0 l).xN:=Tm.xN.FH h.fits (by have:=h.fU;rw[Tm.GN];omega)
theorem MI(l:List Tm)(h:Jf l):aR Tryz.prog 139 [.sl (l.map Tm.d)] (.ret [.bool (DE l)]):=by
 have hlen:=h.len
 refine aR.ay mix abz au ?_
 rw[aby]
 refine aG ?_
 refine aE (fun k:Nat=>⟨bz [.d (.sl (l.map Tm.d)), .aa, .aa, .d (.i (((l.take k).map fun t=>(bt t).length).sum:Nat)), .d (.i k)],fun _=> .no,0⟩)
  (fun k=>k<=l.length) (fun k=>l.length - k) 0 (Nat.zero_le _) (bE.d0 _ ?_) (fun k hk=> ?_)
 ·exact cz
 replace hk:k<=l.length:=hk
 have hs:((l.take k).map fun t=>(bt t).length).sum<=500000:=by
  have h1:∀m:List Tm,(m.map fun t=>(bt t).length).sum<=Go.Proofs.YtonbelhklnmjnaaGreat.fU m:=by
   intro m
   induction m with
   |nil=>simp[Go.Proofs.YtonbelhklnmjnaaGreat.fU]
   |cons x m ih=>rw[List.map_cons,List.sum_cons,ej];have:=eX x;omega
  have h2:Go.Proofs.YtonbelhklnmjnaaGreat.fU l=Go.Proofs.YtonbelhklnmjnaaGreat.fU (l.take k)+Go.Proofs.YtonbelhklnmjnaaGreat.fU (l.drop k):=by
   conv=>lhs;rw[<- List.take_append_drop k l]
   unfold Go.Proofs.YtonbelhklnmjnaaGreat.fU;rw[List.map_append,List.sum_append]
  have:=h1 (l.take k)
  have:=h.fU
  omega
 refine fT ?_
 refine aq (fun h2=> ?_) (fun h2=> ?_)
 ·simp at h2
  obtain⟨x,hx⟩:=aw h2
  have cw:=List.mem_of_getElem? hx
  have hv:=eX x
  have hx5:=(h.all x cw).2
  have wU:((l.take (k+1)).map fun t=>(bt t).length).sum=((l.take k).map fun t=>(bt t).length).sum+(bt x).length:=by rw[List.take_add_one,hx,List.map_append,List.sum_append];simp
  refine dn hx ?_
  refine aO (mO x (h.cnt cw)) ?_
  refine dn hx ?_
  refine ax (k+1) h2 ad (bE.d0 _ ?_)
  rw[wU]
  exact cz
 ·simp at h2
  refine aG ?_
  refine aO (DO l) ?_
  refine aG ?_
  refine aO (mO _ h.whole) ?_
  rw[List.take_of_length_le h2]
  refine fT ?_
  congr 3
  rw[DE,Bool.eq_iff_iff]
  simp
  omega
theorem Qe(t:Tm)(ht:t.xN)(p:List Int)(hp:p.length<=1000000):aR Tryz.prog 140 [t.d, .sl (p.map .i)] (.ret [.bool (qe t p)]):=by
 have hz:t.sz<=1000000:=by have:=ht.size;rw[Tm.kI]at this;omega
 have hl:=kj t
 have hv:=eX t
 refine aR.ay mix abB au ?_
 rw[abA]
 refine aG ?_
 refine aZ (Qd t ht.fits hz) ?_
 refine aG ?_
 refine aZ (mO t ht) ?_
 refine aG ?_
 refine ai aT ?_
 refine aG ?_
 let q:Int->Bool:=fun v=> !(decide (1<((bV t).count v:Int))||p.contains v||(bt t).contains v)
 have hq:qe t p=(bV t).all q:=rfl
 rw[hq]
 refine aE (fun k:Nat=>⟨bz [.aa, .d (.sl (p.map .i)), .ptr 0 0, .aa, .aa, .d (.sl ((bV t).map .i)), .d (.sl ((bt t).map .i)), .d (.i k)],fb t.row,1⟩)
  (fun k=>k<=(bV t).length/\((bV t).take k).all q=true) (fun k=>(bV t).length - k) 0 ⟨Nat.zero_le _,au⟩ (bE.d1 _ (aU rfl) ad rfl ?_) (fun k hk=> ?_)
 ·exact cz
 refine fT ?_
 refine aq (fun h2=> ?_) (fun h2=> ?_)
 ·simp at h2
  obtain⟨x,hx⟩:=aw h2
  have hqx:q x= !(decide (1<((bV t).count x:Int))||p.contains x||(bt t).contains x):=rfl
  refine dn hx ?_
  refine ag (MH (bV t) x ad) rfl ?_
  cases h3:decide (1<((bV t).count x:Int))with
  |true=>
   refine iT hx h3 ?_
   rw[b8 hx (by rw[hqx,h3];rfl)]
  |false=>
   refine iT hx h3 ?_
   refine ag (MF p x ad) rfl ?_
   cases h4:p.contains x with
   |true=>
    refine iT hx h3 ?_
    rw[b8 hx (by rw[hqx,h3,h4];rfl)]
   |false=>
    refine iT hx h3 ?_
    refine ag (MF (bt t) x ad) rfl ?_
    cases h5:(bt t).contains x with
    |true=>
     refine iT hx h3 ?_
     rw[b8 hx (by rw[hqx,h3,h4,h5];rfl)]
    |false=>
     refine iT hx h3 ?_
     refine ax (k+1) ⟨h2,cl hx hk.2 (by rw[hqx,h3,h4,h5];rfl)⟩ ad (bE.d1 _ (aU rfl) ad rfl ?_)
     exact cz
 ·simp at h2
  rw[cm hk.2 h2]
  exact bR
def zC(s:ba)(n:Int)(p:Tm):Bool:=(dV s p&&((gz p []).2&&gW p))&&dJ n p
theorem zD(s:ba)(r:Rl):gk s r=((kN s r&&dV s r.rhs)&&r.bf.all (zC s r.vars)&&(DE r.bf&&dJ r.vars r.rhs&&qe r.rhs (bt (.mk 0 0 r.bf)))):=rfl
set_option maxHeartbeats 1000000 in
theorem XE(s:ba)(hs:s.Fits)(r:Rl)(hp:Jf r.bf)(hf:r.rhs.fits)(hz:r.rhs.sz<=500):aR Tryz.prog 101 [s.d,r.d] (.ret [.bool (gk s r)]):=by
 have BJ:=hp.len
 have hlf:=hs.lf
 have hrc:r.rhs.xN:=Tm.xN.FH hf ad
 refine aR.ay mix aaW au ?_
 rw[aaV]
 have fin:(kN s r&&dV s r.rhs)=false->gk s r=false:=fun h=>by rw[zD,h];rfl
 refine Tz ?_
 refine ao (wa _ _ _) rfl ?_
 cases f1:cP r.fn 0 ((s.bZ.length:Int) - 1)with
 |false=>
  have e:gk s r=false:=fin (by
   have:kN s r=false:=by
    simp only[cP,Bool.and_eq_false_iff,decide_eq_false_iff_not]at f1
    unfold kN
    by_cases h:0<=r.fn
    ·rw[List.getElem?_eq_none (by omega:s.bZ.length<=r.fn.toNat)];simp
    ·exact Ud
   rw[this];rfl)
  refine Tz ?_
  refine ai (ak rfl) ?_
  refine aG ?_
  rw[e]
 |true=>
 obtain⟨h0,x,hx⟩:=gK f1
 have DH:kN s r=((r.bf.length:Int)==x.args&&decide (0<=r.vars)&&decide (r.vars<=20)):=by
  unfold kN;rw[hx];simp[h0]
 cases f2:((r.bf.length:Int)!=x.args)with
 |true=>
  have e:gk s r=false:=fin (by
   have:((r.bf.length:Int)==x.args)=false:=by simpa using f2
   rw[DH,this];rfl)
  refine Ek hx f2 ?_
  refine ai (ak rfl) ?_
  refine aG ?_
  rw[e]
 |false=>
 have xm:((r.bf.length:Int)==x.args)=true:=by simpa using f2
 refine Ek hx f2 ?_
 refine ao (wa _ _ _) rfl ?_
 cases f3:cP r.vars 0 20 with
 |false=>
  have e:gk s r=false:=fin (by
   have:(decide (0<=r.vars)&&decide (r.vars<=20))=false:=f3
   rw[DH,Bool.and_assoc ((r.bf.length:Int)==x.args),this];simp)
  refine Ek hx f2 ?_
  refine ai (ak rfl) ?_
  refine aG ?_
  rw[e]
 |true=>
 have A9:(decide (0<=r.vars)&&decide (r.vars<=20))=true:=f3
 refine Ek hx f2 ?_
 refine ao (Ff s hs r.rhs hf) rfl ?_
 cases f4:dV s r.rhs with
 |false=>
  have e:gk s r=false:=fin (by rw[f4];simp)
  refine Ek hx f2 ?_
  refine ai (ak rfl) ?_
  refine aG ?_
  rw[e]
 |true=>
 have hh:kN s r=true:=by rw[DH,xm,Bool.true_and,A9]
 refine Ek hx f2 ?_
 refine ai (ak rfl) ?_
 refine aG ?_
 rw[zD,hh,f4,Bool.true_and,Bool.true_and]
 refine aE (fun k:Nat=>⟨bz [.aa, .aa, .ptr 0 0, .ptr 1 0, .aa, .d (.i k)],pY s.row r.row,2⟩)
  (fun k=>k<=r.bf.length/\(r.bf.take k).all (zC s r.vars)=true) (fun k=>r.bf.length - k) 0 ⟨Nat.zero_le _,au⟩ (bE.d2 _ (cR rfl rfl) ad rfl rfl ?_) (fun k hk=> ?_)
 ·exact cz
 refine fT ?_
 refine aq (fun h2=> ?_) (fun h2=> ?_)
 ·simp at h2
  obtain⟨y,hy⟩:=aw h2
  have sO:=List.mem_of_getElem? hy
  have Ej:=hp.all y sO
  refine dn hy ?_
  refine ao (Ff s hs y Ej.1) rfl ?_
  cases g1:dV s y with
  |false=>
   refine dn hy ?_
   refine ai (ak rfl) ?_
   refine aG ?_
   rw[b8 hy (by rw[zC,g1];rfl)];rfl
  |true=>
  refine dn hy ?_
  refine ao (Je y (hp.cnt sO)) rfl ?_
  cases g2:((gz y []).2&&gW y)with
  |false=>
   refine dn hy ?_
   refine ai (ak rfl) ?_
   refine aG ?_
   rw[b8 hy (by rw[zC,g1,g2];rfl)];rfl
  |true=>
  refine dn hy ?_
  refine ao (DN r.vars y Ej.1) rfl ?_
  cases g3:dJ r.vars y with
  |false=>
   refine dn hy ?_
   refine ai (ak rfl) ?_
   refine aG ?_
   rw[b8 hy (by rw[zC,g1,g2,g3];rfl)];rfl
  |true=>
  refine dn hy ?_
  refine ai (ak rfl) ?_
  refine aG ?_
  refine ax (k+1) ⟨h2,cl hy hk.2 (by rw[zC,g1,g2,g3];rfl)⟩ ad (bE.d2 _ (cR rfl rfl) ad rfl rfl ?_)
  exact cz
 ·simp at h2
  rw[cm hk.2 h2,Bool.true_and]
  refine fT ?_
  refine ao (MI r.bf hp) rfl ?_
  cases g1:DE r.bf with
  |false=>
   refine fT ?_
   refine ai (ak rfl) ?_
   exact bR
  |true=>
  refine fT ?_
  refine ao (DN r.vars r.rhs hf) rfl ?_
  cases g2:dJ r.vars r.rhs with
  |false=>
   refine fT ?_
   refine ai (ak rfl) ?_
   exact bR
  |true=>
  refine fT ?_
  refine aZ (DO r.bf) ?_
  refine fT ?_
  refine aZ (mO _ hp.whole) ?_
  refine fT ?_
  refine ao (Qe r.rhs hrc _ ?_) rfl ?_
  ·have:=eX (.mk 0 0 r.bf);have:=hp.fU;rw[Tm.GN]at*;omega
  refine fT ?_
  refine ai (ak rfl) ?_
  exact bR
structure Pg.Fw (p:Pg):Prop where
 sig:p.sig.Fits
 len:p.rules.length<=1000
 all:∀r∈p.rules,Jf r.bf/\r.rhs.fits/\r.rhs.sz<=500
theorem Qf(p:Pg)(hp:p.Fw):aR Tryz.prog 57 [p.d] (.ret [.bool (fe p)]):=by
 have hl:=hp.len
 refine aR.ay mix aeB au ?_
 rw[c57,fe]
 refine fT ?_
 refine ag (acL p.sig hp.sig) rfl ?_
 cases h1:kF p.sig with
 |false=>
  exact TF
 |true=>
 cases h2:decide (16<(p.rules.length:Int))with
 |true=>
  have iR:decide (p.rules.length<=16)=false:=by simp at h2|-;omega
  refine dn h2 ?_
  rw[iR];rfl
 |false=>
 have iR:decide (p.rules.length<=16)=true:=by simp at h2|-;omega
 refine dn h2 ?_
 rw[iR,Bool.true_and,Bool.true_and]
 refine aE (fun k:Nat=>⟨bz [.aa, .ptr 0 0, .aa, .d (.i k)],fb p.row,1⟩)
  (fun k=>k<=p.rules.length/\(p.rules.take k).all (gk p.sig)=true) (fun k=>p.rules.length - k) 0 ⟨Nat.zero_le _,au⟩ (bE.d1 _ (aU rfl) ad rfl ?_) (fun k hk=> ?_)
 ·exact cz
 refine fT ?_
 refine aq (fun h2=> ?_) (fun h2=> ?_)
 ·simp at h2
  obtain⟨y,hy⟩:=aw h2
  have Ej:=hp.all y (List.mem_of_getElem? hy)
  refine dn hy ?_
  refine ao (XE p.sig hp.sig y Ej.1 Ej.2.1 Ej.2.2) rfl ?_
  cases g1:gk p.sig y with
  |false=>
   refine dn hy ?_
   refine ai (ak rfl) ?_
   refine aG ?_
   rw[b8 hy g1]
  |true=>
  refine dn hy ?_
  refine ai (ak rfl) ?_
  refine aG ?_
  refine ax (k+1) ⟨h2,cl hy hk.2 g1⟩ ad (bE.d1 _ (aU rfl) ad rfl ?_)
  exact cz
 ·simp at h2
  rw[cm hk.2 h2]
  exact bR
theorem FI(l:List Tm)(hl:l.length<=9223372036854775807)(hf:∀t∈l,t.fits):aR Tryz.prog 120 [.sl (l.map Tm.d)] (.ret [.bool (eY l)]):=by
 refine aR.ay mix abk au ?_
 rw[abj]
 refine aG ?_
 refine aE (fun k:Nat=>⟨bz [.d (.sl (l.map Tm.d)), .aa, .aa, .d (.i k)],fun _=> .no,0⟩)
  (fun k=>k<=l.length/\(l.take k).all iF=true) (fun k=>l.length - k) 0 ⟨Nat.zero_le _,au⟩ (bE.d0 _ ?_) (fun k hk=> ?_)
 ·exact cz
 refine fT ?_
 refine aq (fun h2=> ?_) (fun h2=> ?_)
 ·simp at h2
  obtain⟨y,hy⟩:=aw (l:=l) (k:=k) ad
  have Ej:=hf y (List.mem_of_getElem? hy)
  refine dn hy ?_
  refine ag (AX y Ej) rfl ?_
  cases g1:iF y with
  |false=>
   refine dn hy ?_
   rw[eY,b8 hy g1,Bool.and_false]
  |true=>
  refine dn hy ?_
  refine ax (k+1) ⟨ad,cl hy hk.2 g1⟩ ad (bE.d0 _ ?_)
  exact cz
 ·refine fT ?_
  congr 3
  by_cases h3:l.length<=6
  ·have h4:l.length<=k:=by simp at h2;omega
   rw[eY,cm hk.2 h4]
   simp;omega
  ·rw[eY,decide_eq_false h3]
   simp;omega
theorem Jg(p:Pg)(hp:p.Fits):aR Tryz.prog 76 [p.d] (.ret [.bool (gB p)]):=by
 have hl:=hp.len
 let q:Rl->Bool:=fun r=>eY r.bf&&iF r.rhs
 have hq:gB p=((jj p.sig&&decide (p.rules.length<=20))&&p.rules.all q):=rfl
 refine aR.ay mix aeM au ?_
 rw[c76,hq]
 refine aG ?_
 refine aE (fun k:Nat=>⟨bz [.aa, .ptr 0 0, .aa, .d (.i k)],fb p.row,1⟩)
  (fun k=>k<=p.rules.length/\(p.rules.take k).all q=true) (fun k=>p.rules.length - k) 0 ⟨Nat.zero_le _,au⟩ (bE.d1 _ (aU rfl) ad rfl ?_) (fun k hk=> ?_)
 ·exact cz
 refine fT ?_
 refine aq (fun h2=> ?_) (fun h2=> ?_)
 ·simp at h2
  obtain⟨y,hy⟩:=aw (l:=p.rules) (k:=k) ad
  have Ej:=hp.all y (List.mem_of_getElem? hy)
  have hqy:q y=(eY y.bf&&iF y.rhs):=rfl
  refine dn hy ?_
  refine ag (FI y.bf Ej.bf Ej.all) rfl ?_
  cases g1:eY y.bf with
  |false=>
   refine dn hy ?_
   rw[b8 hy (by rw[hqy,g1];rfl),Bool.and_false]
  |true=>
  refine dn hy ?_
  refine ag (AX y.rhs Ej.rhs) rfl ?_
  cases g2:iF y.rhs with
  |false=>
   refine dn hy ?_
   rw[b8 hy (by rw[hqy,g1,g2];rfl),Bool.and_false]
  |true=>
  refine dn hy ?_
  refine ax (k+1) ⟨ad,cl hy hk.2 (by rw[hqy,g1,g2];rfl)⟩ ad (bE.d1 _ (aU rfl) ad rfl ?_)
  exact cz
 ·refine fT ?_
  refine ag (Fg p.sig hp.sig) rfl ?_
  cases g1:jj p.sig with
  |false=>exact TF
  |true=>
  refine fT ?_
  congr 3
  by_cases h3:p.rules.length<=20
  ·have h4:p.rules.length<=k:=by simp at h2;omega
   rw[cm hk.2 h4]
   simp;omega
  ·rw[decide_eq_false h3]
   simp;omega
theorem Jh{p:Pg}(hf:p.Fits)(h:gB p=true):p.Fw:=by
 simp only[gB,eY,Bool.and_eq_true,decide_eq_true_eq,List.all_eq_true,qa]at h
 obtain⟨⟨_,hl⟩,h⟩:=h
 refine⟨hf.sig,ad,fun r hr=> ?_⟩
 obtain⟨⟨a,b⟩,c⟩:=h r hr
 have Ae:=hf.all r hr
 exact⟨⟨ad,fun t ht=>⟨Ae.all t ht,by have:=(b t ht).1;omega⟩⟩,Ae.rhs,ad⟩
theorem Qg{f:Pf}{k:Nat}{x:Pf}(hx:f.kids[k]? =some x)(left d:Int)(h:0<=ct (f.sh.kids.take k) left d):ct (f.sh.kids.take (k+1)) left d=ez x.sh (ct (f.sh.kids.take k) left d) d:=
 tG (by rw[Pf.mM,List.getElem?_map,hx];rfl) left d h
theorem DP:∀t:Pf,t.fits->∀left depth:Int, -1<=left/\left<=1000000-> -1<=depth/\depth<=1000000->aR Tryz.prog 58 [t.d, .i left, .i depth] (.ret [.i (ez t.sh left depth)]):=by
 refine Pf.cB fun t ih hf left depth hl hd=> ?_
 have fy:=(Pf.aJ _).1 hf
 refine aR.ay mix aeC au ?_
 rw[c58]
 refine b7 ?_
 refine aq (fun h1=> ?_) (fun h1=> ?_)
 ·refine b7 ?_
  simp at h1
  rw[Dd h1]
 ·simp at h1
  refine b7 ?_
  rw[wrap64 (n:=left - 1) (by omega) (by omega),wb,if_neg (by omega)]
  have rT:t.sh.kids.length=t.kids.length:=by rw[Pf.mM,List.length_map]
  refine aE (fun k:Nat=>⟨bz [.aa, .d (.i (ct (t.sh.kids.take k) (left - 1) (depth - 1))), .d (.i depth), .ptr 0 0, .aa, .aa, .aa, .d (.i k)],fb t.row,1⟩)
   (fun k=>k<=t.kids.length) (fun k=>t.kids.length - k) 0 (Nat.zero_le _) (bE.d1 _ (aU rfl) ad rfl ?_) (fun k hk=> ?_)
  ·exact cz
  have hb:=yV (t.sh.kids.take k) (left - 1) (depth - 1) ad
  simp+contextual only[go_sem,List.length_map]
  refine aq (fun h2=> ?_) (fun h2=> ?_)
  ·simp at h2
   obtain⟨x,hx⟩:∃x,t.kids[k]? =some x:=⟨t.kids[k],by simp[h2.1]⟩
   have cw:=List.mem_of_getElem? hx
   refine eZ hx ?_
   rw[wrap64 (n:=depth - 1) (by omega) (by omega)]
   refine ag (ih x cw (fy.2.2.2.2 x cw) _ _ ad ad) rfl ?_
   refine b7 ?_
   rw[<- Qg hx _ _ h2.2]
   refine ax (k+1) h2.1 ad (bE.d1 _ (aU rfl) ad rfl ?_)
   exact cz
  ·refine b7 ?_
   simp only[Bool.and_eq_false_iff,decide_eq_false_iff_not]at h2
   congr 3
   rcases h2 with h2|h2
   ·rw[List.take_of_length_le (by omega)]
   ·exact tH _ _ ad
theorem MJ(s:ba)(hs:s.Fits)(l:List Tm)(hl:l.length<=9223372036854775807)(hf:∀t∈l,t.fits):aR Tryz.prog 24 [s.d, .sl (l.map Tm.d)] (.ret [.bool (ng s l)]):=by
 refine aR.ay mix ael au ?_
 rw[c24]
 refine aG ?_
 refine aE (fun k:Nat=>⟨bz [.aa, .d (.sl (l.map Tm.d)), .ptr 0 0, .aa, .aa, .d (.i k)],fb s.row,1⟩)
  (fun k=>k<=l.length/\(l.take k).all (BB s)=true) (fun k=>l.length - k) 0 ⟨Nat.zero_le _,au⟩ (bE.d1 _ (aU rfl) ad rfl ?_) (fun k hk=> ?_)
 ·exact cz
 refine fT ?_
 refine aq (fun h2=> ?_) (fun h2=> ?_)
 ·simp at h2
  obtain⟨y,hy⟩:=aw (l:=l) (k:=k) ad
  have Ej:=hf y (List.mem_of_getElem? hy)
  refine dn hy ?_
  refine ao (L8 s hs y Ej) rfl ?_
  cases g1:BB s y with
  |false=>
   refine dn hy ?_
   refine ai (ak rfl) ?_
   refine aG ?_
   rw[ng,b8 hy g1,Bool.and_false]
  |true=>
  refine dn hy ?_
  refine ai (ak rfl) ?_
  refine aG ?_
  refine ax (k+1) ⟨ad,cl hy hk.2 g1⟩ ad (bE.d1 _ (aU rfl) ad rfl ?_)
  exact cz
 ·refine fT ?_
  congr 3
  by_cases h3:l.length<=20
  ·have h4:l.length<=k:=by simp at h2;omega
   rw[ng,cm hk.2 h4]
   simp;omega
  ·rw[ng,decide_eq_false h3]
   simp;omega
def iN(l:List Tm):Bool:=decide (l.length<=25)&&l.all ll
theorem DS(l:List Tm)(hl:l.length<=9223372036854775807)(hf:∀t∈l,t.fits):aR Tryz.prog 22 [.sl (l.map Tm.d)] (.ret [.bool (iN l)]):=by
 refine aR.ay mix aek au ?_
 rw[c22]
 refine aG ?_
 refine aE (fun k:Nat=>⟨bz [.d (.sl (l.map Tm.d)), .aa, .aa, .d (.i k)],fun _=> .no,0⟩)
  (fun k=>k<=l.length/\(l.take k).all ll=true) (fun k=>l.length - k) 0 ⟨Nat.zero_le _,au⟩ (bE.d0 _ ?_) (fun k hk=> ?_)
 ·exact cz
 refine fT ?_
 refine aq (fun h2=> ?_) (fun h2=> ?_)
 ·simp at h2
  obtain⟨y,hy⟩:=aw (l:=l) (k:=k) ad
  have Ej:=hf y (List.mem_of_getElem? hy)
  refine dn hy ?_
  refine ag (wA y Ej) rfl ?_
  cases g1:ll y with
  |false=>
   refine dn hy ?_
   rw[iN,b8 hy g1,Bool.and_false]
  |true=>
  refine dn hy ?_
  refine ax (k+1) ⟨ad,cl hy hk.2 g1⟩ ad (bE.d0 _ ?_)
  exact cz
 ·refine fT ?_
  congr 3
  by_cases h3:l.length<=25
  ·have h4:l.length<=k:=by simp at h2;omega
   rw[iN,cm hk.2 h4]
   simp;omega
  ·rw[iN,decide_eq_false h3]
   simp;omega
theorem MK(s:ba)(hs:s.Fits):∀f:Pf,f.fits->aR Tryz.prog 59 [s.d,f.d] (.ret [.bool (kO s f)]):=by
 refine Pf.cB fun f ih hf=> ?_
 have fy:=(Pf.aJ _).1 hf
 refine aR.ay mix aeD au ?_
 rw[c59,oO]
 refine aG ?_
 refine ag (L8 s hs f.val fy.1) rfl ?_
 cases h1:BB s f.val with
 |false=>
  refine aG ?_
  rw[iL,h1];rfl
 |true=>
 refine aG ?_
 refine ag (MJ s hs f.binds fy.2.1 fy.2.2.1) rfl ?_
 cases h2:ng s f.binds with
 |false=>
  refine aG ?_
  rw[iL,h1,h2];rfl
 |true=>
 have hn:iL s f=(f.bp==6||(f.num==0&&f.binds.length==0)):=by rw[iL,h1,h2];rfl
 refine fT ?_
 refine aq (fun h3=> ?_) (fun h3=> ?_)
 ·have:iL s f=false:=by
   rw[hn]
   simp only[Bool.and_eq_true,bne_iff_ne,Bool.or_eq_true,decide_eq_true_eq]at h3
   simp only[Bool.or_eq_false_iff,beq_eq_false_iff_ne,Bool.and_eq_false_iff]
   refine⟨h3.1, ?_⟩
   rcases h3.2 with h|h
   ·exact .inl h
   ·exact .inr ad
  refine aG ?_
  rw[this];rfl
 ·have:iL s f=true:=by
   rw[hn]
   simp only[Bool.and_eq_false_iff,bne_eq_false_iff_eq,Bool.or_eq_false_iff,decide_eq_false_iff_not]at h3
   simp only[Bool.or_eq_true,beq_iff_eq,Bool.and_eq_true]
   rcases h3 with h|h
   ·exact .inl h
   ·exact .inr ⟨h.1,ad⟩
  refine aG ?_
  rw[this,Bool.true_and]
  refine aE (fun k:Nat=>⟨bz [.aa, .aa, .ptr 0 0, .ptr 1 0, .aa, .d (.i k)],pY s.row f.row,2⟩)
   (fun k=>k<=f.kids.length/\(f.kids.take k).all (kO s)=true) (fun k=>f.kids.length - k) 0 ⟨Nat.zero_le _,au⟩ (bE.d2 _ (cR rfl rfl) ad rfl rfl ?_) (fun k hk=> ?_)
  ·exact cz
  refine fT ?_
  refine aq (fun h2=> ?_) (fun h2=> ?_)
  ·simp at h2
   obtain⟨y,hy⟩:=aw (l:=f.kids) (k:=k) ad
   have sO:=List.mem_of_getElem? hy
   refine dn hy ?_
   refine ao (ih y sO (fy.2.2.2.2 y sO)) rfl ?_
   cases g1:kO s y with
   |false=>
    refine dn hy ?_
    refine ai (ak rfl) ?_
    refine aG ?_
    rw[b8 hy g1]
   |true=>
   refine dn hy ?_
   refine ai (ak rfl) ?_
   refine aG ?_
   refine ax (k+1) ⟨ad,cl hy hk.2 g1⟩ ad (bE.d2 _ (cR rfl rfl) ad rfl rfl ?_)
   exact cz
  ·simp at h2
   rw[cm hk.2 h2]
   exact bR
theorem ML(p:Pg)(hp:p.sig.Fits)(f:Pf)(hf:f.fits):aR Tryz.prog 13 [p.d,f.d] (.ret [.bool (gL p.sig f)]):=by
 refine aR.ay mix aee au ?_
 rw[c13,gL]
 refine aG ?_
 refine ag (DP f hf 500 150 ad ad) rfl ?_
 cases h1:decide (0<=ez f.sh 500 150)with
 |false=>exact uU h1
 |true=>
  refine cg h1 ?_
  refine ag (MK p.sig hp f hf) rfl ?_
  exact bR
mutual
def rI:Pf->Bool
 | .mk _ v _ b kids=>(ll v&&iN b)&&Bi kids
def Bi:List Pf->Bool
 |[]=>true
 |k::l=>rI k&&Bi l
end
theorem DT(f:Pf):rI f=((ll f.val&&iN f.binds)&&f.kids.all rI):=by
 have:∀l:List Pf,Bi l=l.all rI:=fun l=>by
  induction l with
  |nil=>rfl
  |cons k l ih=>simp[Bi,ih]
 cases f;rw[rI,this];rfl
theorem XF:∀f:Pf,f.fits->aR Tryz.prog 73 [f.d] (.ret [.bool (rI f)]):=by
 refine Pf.cB fun f ih hf=> ?_
 have fy:=(Pf.aJ _).1 hf
 refine aR.ay mix aeL au ?_
 rw[c73,DT]
 refine aG ?_
 refine ag (wA f.val fy.1) rfl ?_
 cases h1:ll f.val with
 |false=>exact bR
 |true=>
 refine aG ?_
 refine ag (DS f.binds fy.2.1 fy.2.2.1) rfl ?_
 cases h2:iN f.binds with
 |false=>exact bR
 |true=>
 refine aG ?_
 refine aE (fun k:Nat=>⟨bz [.aa, .ptr 0 0, .aa, .d (.i k)],fb f.row,1⟩)
  (fun k=>k<=f.kids.length/\(f.kids.take k).all rI=true) (fun k=>f.kids.length - k) 0 ⟨Nat.zero_le _,au⟩ (bE.d1 _ (aU rfl) ad rfl ?_) (fun k hk=> ?_)
 ·exact cz
 refine fT ?_
 refine aq (fun h2=> ?_) (fun h2=> ?_)
 ·simp at h2
  obtain⟨y,hy⟩:=aw (l:=f.kids) (k:=k) ad
  have sO:=List.mem_of_getElem? hy
  refine dn hy ?_
  refine ag (ih y sO (fy.2.2.2.2 y sO)) rfl ?_
  cases g1:rI y with
  |false=>
   refine dn hy ?_
   rw[b8 hy g1]
  |true=>
  refine dn hy ?_
  refine ax (k+1) ⟨ad,cl hy hk.2 g1⟩ ad (bE.d1 _ (aU rfl) ad rfl ?_)
  exact cz
 ·simp at h2
  rw[cm hk.2 h2]
  exact bR
def ma(f:Pf):Bool:=decide (0<=ez f.sh 520 160)&&rI f
theorem Ji(f:Pf)(hf:f.fits):aR Tryz.prog 34 [f.d] (.ret [.bool (ma f)]):=by
 refine aR.ay mix aep au ?_
 rw[c34,ma]
 refine aG ?_
 refine ag (DP f hf 520 160 ad ad) rfl ?_
 cases h1:decide (0<=ez f.sh 520 160)with
 |false=>exact uU h1
 |true=>
  refine cg h1 ?_
  refine ag (XF f hf) rfl ?_
  exact bR
def j5(s:ba)(env:List Tm)(e:Tm):Bool:=(ng s env&&dV s e)&&((bt e).length==0||decide ((bt e).getLast?.getD 0<(env.length:Int)))
theorem MM(p:Pg)(hp:p.sig.Fits)(env:List Tm)(hl:env.length<=9223372036854775807)(hf:∀t∈env,t.fits)(e:Tm)(he:e.xN):aR Tryz.prog 18 [p.d, .sl (env.map Tm.d),e.d] (.ret [.bool (j5 p.sig env e)]):=by
 have Oz:=eX e
 have hz:=he.size
 rw[Tm.kI]at hz
 refine aR.ay mix aei au ?_
 rw[c18,j5]
 refine aG ?_
 refine ag (MJ p.sig hp env hl hf) rfl ?_
 cases h1:ng p.sig env with
 |false=>exact bR
 |true=>
 refine aG ?_
 refine ag (Ff p.sig hp e he.fits) rfl ?_
 cases h2:dV p.sig e with
 |false=>exact bR
 |true=>
 refine aG ?_
 refine aO (mO e he) ?_
 cases h3:((bt e).length==0)with
 |true=>
  have sx:((bt e).length:Int)==0:=by simpa using h3
  simp+contextual (disch:=first|omega|simp only[go_sem,false_implies]) only[go_sem,wrap64,if_pos,List.length_map,sx]
 |false=>
  have sx:(((bt e).length:Int)==0)=false:=by simpa using h3
  have gu:0<(bt e).length:=by simp at h3;exact List.length_pos_iff.2 h3
  obtain⟨y,hy⟩:=aw (l:=bt e) (k:=(bt e).length - 1) ad
  have fW:((bt e).length:Int) - 1=(((bt e).length - 1:Nat):Int):=ad
  have Lm:(bt e).getLast?=some y:=by rw[List.getLast?_eq_getElem?,hy]
  simp+contextual (disch:=first|omega|simp only[go_sem,false_implies]) only[go_sem,wrap64,if_pos,List.length_map,sx,fW,hy,Lm,Option.getD_some]
def Hc:IC:=Py.snd.snd.snd.fst.snd.fst.fst
theorem tQ{t:Tm}(hf:t.fits)(hz:t.sz<=1000000)(ih:∀k∈t.kids,k.fits->k.sz<=1000000->aR Tryz.prog 235 [k.d] (.ret [.sl ((bV k).map .i)]))(p:List Int)(hp:p.length<=1){e:Nat->V}{o:Nat->ae}{nx:Nat}{Q:fG->S->Prop}
 (hs:bE 0 ⟨e,o,nx⟩ ⟨bz [.aa, .ptr 0 0, .aa, .osl 1 0, .d (.i 0)],aK (aK (fun _=> .no) 0 (.row t.row)) 1 (.arr 0 3 1 (p.map .i)),2⟩)
 (hQ:∀e' n',e' 3= .osl 1 0->Q (.exit 0) ⟨e',aK (aK (fun _=> .no) 0 (.row t.row)) 1 (.arr 0 3 1 ((p++bH t.kids).map .i)),n'⟩):
 rb 0 (fun Q s=>kS Tryz.prog 29 0 false Hc Q s) Q ⟨e,o,nx⟩:=by
 have fy:=(Tm.aJ _).1 hf
 have rS:=Tm.iU t
 refine aE (fun i:Nat=>⟨bz [.aa, .ptr 0 0, .aa, .osl 1 0, .d (.i i)],aK (aK (fun _=> .no) 0 (.row t.row)) 1 (.arr 0 3 1 ((p++bH (t.kids.take i)).map .i)),2⟩)
  (fun i=>i<=t.kids.length) (fun i=>t.kids.length - i) 0 (Nat.zero_le _) ?_ fun k hk=> ?_
 ·simpa[bH]using hs
 replace hk:k<=t.kids.length:=hk
 simp only[Hc,Py,IC.snd,IC.fst]
 refine fT ?_
 refine aq (fun h2=> ?_) (fun h2=> ?_)
 ·simp at h2
  obtain⟨x,hx⟩:=aw h2
  have cw:=List.mem_of_getElem? hx
  have wU:t.kids.take (k+1)=t.kids.take k++[x]:=by rw[List.take_add_one,hx];rfl
  have xi:(bH (t.kids.take k)).length<=fU (t.kids.take k):=qg _ fun y _=>kj y
  have ed:fU t.kids=fU (t.kids.take k)+fU (t.kids.drop k):=by
   conv=>lhs;rw[<- List.take_append_drop k t.kids]
   exact N0
  have Ea:=kP cw
  have oT:=kj x
  have Zf:(p++bH (t.kids.take k)).length<=1000001:=by rw[List.length_append];omega
  refine dn hx ?_
  refine aO (ih x cw (fy.2 x cw) ad) ?_
  refine dn hx ?_
  refine ax (k+1) h2 ad (bE.gU (fun j=>j=1) (.osl 1 1) 1 _ ad (yU (cp (y:= .row t.row) cY cY (bw rfl fH))) (ab _ _ _) (.inr ⟨1,1,rfl,rfl,by(repeat(first|rfl|rw[ab]|rw[aj _ _ _ _ (by omega)]));rw[wU,pw, <- List.append_assoc,List.map_append];simp[bH]⟩) (fun j hj=>by(repeat(first|rfl|rw[ab]|rw[aj _ _ _ _ (by omega)]))) (fun j h h2=>ad) ?_)
  exact nj
 ·simp at h2
  have rT:k=t.kids.length:=ad
  subst rT
  rw[List.take_length]
  refine fT ?_
  exact hQ _ _ rfl
theorem MN:∀t:Tm,t.fits->t.sz<=1000000->aR Tryz.prog 235 [t.d] (.ret [.sl ((bV t).map .i)]):=by
 refine Tm.cB fun t ih hf hz=> ?_
 refine aR.ay mix acA au ?_
 rw[Py,iq]
 by_cases h8:t.op=8
 ·have Ei:(t.op==8)=true:=by simpa using h8
  refine cg Ei ?_
  rw[if_pos h8]
  refine tQ hf hz ih [t.n] au ?_ fun e' n' he=> ?_
  ·refine bE.gU (fun j=>1<=j) _ 1 _ ad (yU (cp (y:= .row t.row) cY cY (bw rfl fH))) (ab _ _ _) (.inr ⟨_,_, ?_,rfl,by(repeat(first|rfl|rw[ab]|rw[aj _ _ _ _ (by omega)]))⟩) (fun j hj=>by(repeat(first|rfl|rw[ab]|rw[aj _ _ _ _ (by omega)]))) (fun j h h2=>ad) ?_
   ·decide
   ·exact nj
  ·exact Hq
 ·have Ei:(t.op==8)=false:=by simpa using h8
  refine cg Ei ?_
  rw[if_neg h8]
  refine tQ hf hz ih [] au ?_ fun e' n' he=> ?_
  ·refine bE.gU (fun _=>False) .bT 1 _ ad (yU (bw rfl fH)) (ab _ _ _) (.inl ⟨rfl,rfl,aT⟩) (fun j hj=>by(repeat(first|rfl|rw[ab]|rw[aj _ _ _ _ (by omega)]))) (fun _ h=>h.elim) ?_
   exact nj
  ·exact Hq
theorem Jj(l:List Tm):aR Tryz.prog 234 [.sl (l.map Tm.d)] (.ret [(Tm.mk 0 0 l).d]):=by
 refine aR.ay mix acz au ?_
 rw[acy,Tm.lH]
 exact bR
theorem MO(l:List Int)(n:Int)(hl:l.length<=1000000):aR Tryz.prog 236 [.sl (l.map .i), .i n] (.ret [.bool (l.contains n)]):=by
 refine aR.ay mix acC au ?_
 rw[acB]
 refine aG ?_
 refine aE (fun k:Nat=>⟨bz [.d (.sl (l.map .i)), .d (.i n), .aa, .aa, .aa, .d (.i k)],fun _=> .no,0⟩)
  (fun k=>k<=l.length/\(l.take k).contains n=false) (fun k=>l.length - k) 0 ⟨Nat.zero_le _,au⟩ (bE.d0 _ ?_) (fun k hk=> ?_)
 ·exact cz
 refine aG ?_
 refine aq (fun h2=> ?_) (fun h2=> ?_)
 ·simp at h2
  obtain⟨x,hx⟩:=aw h2
  refine cg hx ?_
  refine aq (fun h3=> ?_) (fun h3=> ?_)
  ·refine aG ?_
   have:l.contains n=true:=by
    exact TO
   rw[this]
  ·refine aG ?_
   refine ax (k+1) ⟨h2, ?_⟩ ad (bE.d0 _ ?_)
   ·have h4: ¬n=x:=fun e=>by subst e;simp at h3
    have h5:=hk.2
    rw[List.take_add_one,hx]
    rw[Bool.eq_false_iff]at h5|-
    intro hc;apply h5
    rw[List.contains_iff_mem]at hc|-
    rcases List.mem_append.1 hc with hc|hc
    ·exact hc
    ·exact Ua
   ·exact cz
 ·simp at h2
  refine aG ?_
  have:=hk.2
  rw[List.take_of_length_le (by omega)]at this
  rw[this]
theorem MP(l:List Int)(n:Int)(hl:l.length<=1000000):aR Tryz.prog 201 [.sl (l.map .i), .i n] (.ret [.bool (l.contains n)]):=by
 refine aR.ay mix acm au ?_
 rw[ack]
 refine aG ?_
 refine aE (fun k:Nat=>⟨bz [.d (.sl (l.map .i)), .d (.i n), .aa, .aa, .aa, .d (.i k)],fun _=> .no,0⟩)
  (fun k=>k<=l.length/\(l.take k).contains n=false) (fun k=>l.length - k) 0 ⟨Nat.zero_le _,au⟩ (bE.d0 _ ?_) (fun k hk=> ?_)
 ·exact cz
 refine aG ?_
 refine aq (fun h2=> ?_) (fun h2=> ?_)
 ·simp at h2
  obtain⟨x,hx⟩:=aw h2
  refine cg hx ?_
  refine aq (fun h3=> ?_) (fun h3=> ?_)
  ·refine aG ?_
   have:l.contains n=true:=by
    exact TO
   rw[this]
  ·refine aG ?_
   refine ax (k+1) ⟨h2, ?_⟩ ad (bE.d0 _ ?_)
   ·have h4: ¬n=x:=fun e=>by subst e;simp at h3
    have h5:=hk.2
    rw[List.take_add_one,hx]
    rw[Bool.eq_false_iff]at h5|-
    intro hc;apply h5
    rw[List.contains_iff_mem]at hc|-
    rcases List.mem_append.1 hc with hc|hc
    ·exact hc
    ·exact Ua
   ·exact cz
 ·simp at h2
  refine aG ?_
  have:=hk.2
  rw[List.take_of_length_le (by omega)]at this
  rw[this]
theorem ac9(n low high:Int):aR Tryz.prog 199 [.i n, .i low, .i high] (.ret [.bool (cP n low high)]):=by
 refine aR.ay mix ach au ?_
 rw[acg]
 refine b7 ?_
 rfl
end Go.Proofs.YtonbelhklnmjnaaGreat
