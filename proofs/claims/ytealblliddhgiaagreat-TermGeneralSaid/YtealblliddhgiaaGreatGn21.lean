/-
  TermGeneral: at every call the law answers true, and leaves all memory as it was. Conditions: none.
-/
import Derived.OpenShut
import Derived.Carry
import Derived.Handed
import Derived.JoinedOf
import Derived.ProofKit
import Derived.Test.YtealblliddhgiaaGreatRows
import Derived.Test.YtealblliddhgiaaGreatGn20
set_option linter.unusedSimpArgs false
set_option linter.unusedVariables false
section
namespace Go.Proofs.YtealblliddhgiaaGreat
open Go.ChangeShapes Go.WideShapes Go.RowKit
def uZ(P:Program)(rec:TypeId->Option (List TypeId)):Nat->List Field->Option (List TypeId)
 |_,[]=>some []
 |off,f::fs=>if f.offset=off then match rec f.type with
  |some l=>if P.cellsOf f.type=l.length then(uZ P rec (off+l.length) fs).map (l++·)else none
  |none=>none else none
def mw(P:Program):Nat->TypeId->Option (List TypeId)
 |0,_=>none
 |n+1,t=>match P.underlying t with
  |some .bool|some (.int _)|some .string|some (.slice _)=>some [t]
  |some (.struct fs)=>uZ P (mw P n) 0 fs.toList
  |some (.array k e)=>match mw P n e with
   |some l=>if P.cellsOf e=l.length then some (List.replicate k l).flatten else none
   |none=>none
  |_=>none
def isAgg(P:Program)(t:TypeId):Bool:=match P.underlying t with
 |some (.struct _)|some (.array _ _)=>true
 |_=>false
mutual
def D.jY (P:Program):D->TypeId->Prop
 | .int k n,t=>P.underlying t=some (.int k)/\(Lit.int k n).wf=true
 | .bool _,t=>P.underlying t=some .bool
 | .str l,t=>P.underlying t=some .string/\l.length<=maxLen
 | .sl es,t=>∃e,P.underlying t=some (.slice e)/\es.length<=maxLen/\D.F8 P es e
 | .agg cs,t=>isAgg P t=true/\∃ls,mw P 20 t=some ls/\D.iU P cs ls
 |_,_=>False
def D.F8 (P:Program):List D->TypeId->Prop
 |[],_=>True
 |x::l,e=>D.jY P x e/\D.F8 P l e
def D.iU (P:Program):List D->List TypeId->Prop
 |[],ts=>ts=[]
 |x::l,ts=>∃t r,ts=t::r/\D.jY P x t/\D.iU P l r
end
def sV(P:Program)(T:List TypeId):Bool:=T.all fun t=>match mw P 20 t with
 |some l=>decide (l.length=P.cellsOf t)&&decide (0<l.length)&&l.all fun u=>match P.underlying u with
  |some (.slice e)=>T.contains e
  |_=>true
 |none=>false
theorem qi{P:Program}:∀ {xs ys:List D} {l r:List TypeId},D.iU P xs l->D.iU P ys r->D.iU P (xs++ys) (l++r)
 |[],_,_,_,h,h'=>by simp only[D.iU]at h;subst h;exact h'
 |x::xs,_,_,_,h,h'=>by
  obtain⟨t,r,rfl,h1,h2⟩:=h
  exact⟨t,_,rfl,h1,qi h2 h'⟩
theorem bq{B:Nat->Prop}{w:World}:∀ {xs ys:List D} {l r:List Value},D.aE B w xs l->D.aE B w ys r->D.aE B w (xs++ys) (l++r)
 |[],_,_,_,h,h'=>by simp only[D.aE]at h;subst h;exact h'
 |x::xs,_,_,_,h,h'=>by
  obtain⟨t,r,rfl,h1,h2⟩:=h
  exact⟨t,_,rfl,h1,bq h2 h'⟩
theorem Flat.append {l r:List Value}(h:Flat l)(h':Flat r):Flat (l++r):=fun u hu=>(List.mem_append.1 hu).elim (h u) (h' u)
abbrev PN:Nat->Prop:=fun _=>False
section
variable {H:Type}{enc:TypeId×Value->H}{P:Program}{W:World}{T:List TypeId}{b0:Nat}
def dw(P:Program)(W:World)(l:List TypeId)(cs:List Value):Prop:=∃xs,D.iU P xs l/\D.aE PN W xs cs/\Flat cs
theorem dw.append {l r:List TypeId}{cs ds:List Value}(h:dw P W l cs)(h':dw P W r ds):dw P W (l++r) (cs++ds):=by
 obtain⟨xs,a1,a2,a3⟩:=h
 obtain⟨ys,b1,b2,b3⟩:=h'
 exact⟨xs++ys,qi a1 b1,bq a2 b2,a3.append b3⟩
theorem dw.length {l:List TypeId}{cs:List Value}(h:dw P W l cs):cs.length=l.length:=by
 obtain⟨xs,a1,a2,_⟩:=h
 rw[D.aG _ _ a2]
 clear a2
 induction xs generalizing l with
 |nil=>simp only[D.iU]at a1;simp[a1]
 |cons x xs ih=>obtain⟨t,r,rfl,_,h⟩:=a1;simp[ih h]
theorem dw.nil:dw P W [] []:=⟨[],rfl,rfl,fun _ h=>by cases h⟩
theorem BD{α:Type}(cs:List α)(o k:Nat):cs.drop o=(cs.drop o).take k++cs.drop (o+k):=by
 rw[<- List.drop_drop];exact(List.take_append_drop k _).symm
theorem qj{rec:TypeId->Option (List TypeId)}{cs:List Value}{rd:TypeId->List Value->Prop}
 (aT:∀t l vs,rec t=some l->(∀u∈l,∀e,P.underlying u=some (.slice e)->e∈T)->P.cellsOf t=l.length->rd t vs->dw P W l vs):
 ∀ (fs:List Field) (off:Nat) (l:List TypeId),uZ P rec off fs=some l->(∀u∈l,∀e,P.underlying u=some (.slice e)->e∈T)->(∀f∈fs,rd f.type ((cs.drop f.offset).take (P.cellsOf f.type)))->
   off+l.length=cs.length->dw P W l (cs.drop off)
 |[],off,l,h,_,_,hl=>by
  simp only[uZ,Option.some.injEq]at h
  subst h
  have:cs.drop off=[]:=List.drop_eq_nil_of_le (by simp at hl;omega)
  rw[this];exact dw.nil
 |f::fs,off,l,h,hT,hr,hl=>by
  simp only[uZ]at h
  split at h
  ·rename_i ho
   split at h
   ·rename_i l1 h1
    split at h
    ·rename_i hc
     simp only[Option.map_eq_some_iff]at h
     obtain⟨r,h2,rfl⟩:=h
     have hd:=hr f (by simp)
     rw[ho,hc]at hd
     rw[BD cs off l1.length]
     simp only[List.length_append]at hl
     exact(aT f.type l1 _ h1 (fun u hu=>hT u (by simp[hu])) hc hd).append (qj aT fs _ r h2 (fun u hu=>hT u (by simp[hu])) (fun f hf=>hr f (by simp[hf])) (by omega))
    ·cases h
   ·cases h
  ·cases h
theorem rV{l:List TypeId}{cs:List Value}:∀ (k i:Nat),(∀j,j<k->dw P W l ((cs.drop ((i+j)*l.length)).take l.length))->(i+k)*l.length=cs.length->dw P W (List.replicate k l).flatten (cs.drop (i*l.length))
 |0,i,_,hl=>by
  have:cs.drop (i*l.length)=[]:=List.drop_eq_nil_of_le (by simp at hl;omega)
  rw[this];exact dw.nil
 |k+1,i,h,hl=>by
  rw[List.replicate_succ,List.flatten_cons,BD cs (i*l.length) l.length]
  refine(by simpa using h 0 (by omega):dw P W l _).append ?_
  rw[show i*l.length+l.length=(i+1)*l.length by rw[Nat.add_mul];omega]
  refine rV k (i+1) (fun j hj=> ?_) (by rw[<- hl];congr 1;omega)
  have:=h (j+1) (by omega)
  rwa [show i+(j+1)=i+1+j by omega]at this
theorem BE{e:TypeId}{l:List TypeId}{cs:List Value}(hl:mw P 20 e=some l)(h:dw P W l cs):∃ (ev:Value) (x:D),ev.cells.toList=cs/\D.jY P x e/\D.den PN W x ev/\(isAgg P e=true->ev= .agg cs.toArray)/\(isAgg P e=false->cs=[ev]/\ev.oneCell'=true):=by
 obtain⟨xs,h1,h2,h3⟩:=h
 cases ha:isAgg P e with
 |true=>exact⟨.agg cs.toArray, .agg xs,by simp[Value.cells],⟨ha,l,hl,h1⟩,⟨_,rfl,by simpa using h2,by simpa using h3⟩,fun _=>rfl,(fun h=>by cases h)⟩
 |false=>
  have:l=[e]:=by
   unfold mw at hl
   unfold isAgg at ha
   split at hl<;>simp_all
  subst this
  obtain⟨t,r,e1,h4,h5⟩:∃x r,xs=x::r/\D.jY P x e/\D.iU P r []:=by
   cases xs with
   |nil=>simp[D.iU]at h1
   |cons x r=>obtain⟨t,r',e1,h4,h5⟩:=h1;injection e1 with e1 e2;subst e1;subst e2;exact⟨x,r,rfl,h4,h5⟩
  subst e1
  have:r=[]:=by cases r with
   |nil=>rfl
   |cons y r=>obtain⟨_,_,e,_⟩:=h5;cases e
  subst this
  obtain⟨u,us,rfl,h6,h7⟩:=h2
  simp only[D.aE]at h7
  subst h7
  have ho:=h3 u (by simp)
  refine⟨u,t, ?_,h4,h6,(fun h=>by cases h),fun _=>⟨rfl,ho⟩⟩
  cases u<;>simp_all[Value.oneCell',Value.cells]
theorem BF(hp:sV P T=true){t:TypeId}(ht:t∈T):∃l,mw P 20 t=some l/\l.length=P.cellsOf t/\0<l.length/\∀u∈l,∀e,P.underlying u=some (.slice e)->e∈T:=by
 have:=List.all_eq_true.1 hp t ht
 split at this
 ·rename_i l hl
  simp only[Bool.and_eq_true,decide_eq_true_eq,List.all_eq_true]at this
  refine⟨l,hl,this.1.1,this.1.2,fun u hu e he=> ?_⟩
  have:=this.2 u hu
  rw[he]at this
  simpa using this
 ·cases this
theorem Dd(hp:sV P T=true):∀ (n m:Nat) (t:TypeId) (l:List TypeId) (cs:List Value) (x:DataW H×List MemPlace),mw P m t=some l->(∀u∈l,∀e,P.underlying u=some (.slice e)->e∈T)->
 P.cellsOf t=l.length->DataW.trod enc P W 0 (fun _=>true) true n t cs=some x->dw P W l cs:=by
 intro n
 induction n with
 |zero=>intro m t l cs x _ _ _ h;simp[DataW.trod]at h
 |succ n ih=>
  intro m t l cs x hl hT hc h
  cases m with
  |zero=>simp[mw]at hl
  |succ m=>
  unfold mw at hl
  split at hl
  ·rename_i hu
   injection hl with hl;subst hl
   obtain⟨b,rfl,_⟩:=DataW.trod_bool hu h
   exact⟨[.bool b],⟨t,[],rfl,hu,rfl⟩,⟨_,_,rfl,rfl,rfl⟩,by simp[Flat,Value.oneCell']⟩
  ·rename_i k hu
   injection hl with hl;subst hl
   obtain⟨b,rfl,_,hw⟩:=DataW.trod_int hu h
   exact⟨[.int k b],⟨t,[],rfl,⟨hu,hw⟩,rfl⟩,⟨_,_,rfl,rfl,rfl⟩,by simp[Flat,Value.oneCell']⟩
  ·rename_i hu
   injection hl with hl;subst hl
   obtain⟨s,rfl,_,hw⟩:=DataW.trod_string hu h
   exact⟨[.str s.data.toList],⟨t,[],rfl,⟨hu,by simpa using hw⟩,rfl⟩,⟨_,_,rfl,⟨s,rfl,rfl⟩,rfl⟩,by simp[Flat,Value.oneCell']⟩
  ·rename_i e hu
   injection hl with hl;subst hl
   rcases DataW.trod_slice hu h with⟨rfl,_⟩|⟨a,len,cap,elems,rest,n',hn,rfl,_,_,h2,h3,h4,h5,h6,_⟩
   ·exact⟨[.sl []],⟨t,[],rfl,⟨e,hu,by simp,trivial⟩,rfl⟩,⟨_,_,rfl,⟨none,0,0,rfl,rfl,by simp,fun _=>rfl,0,(fun a ha=>by cases ha)⟩,rfl⟩,by simp[Flat,Value.oneCell']⟩
   ·injection hn with hn;subst hn
    obtain⟨l',g1,g2,g3,g4⟩:=BF hp (hT t (by simp) e hu)
    have at':∀i,i<len->∃ev:Value,∃y:D,ev.cells.size=P.cellsOf e/\gx PN W (a.add (i*P.cellsOf e)) ev.cells/\D.den PN W y ev/\D.jY P y e:=by
     intro i hi
     have:=h5 i hi
     rw[List.getElem?_eq_getElem (by omega)]at this
     obtain⟨ci,k1,k2⟩:=Option.bind_eq_some_iff.1 this
     obtain⟨_,k3,k4⟩:=World.cells?_some k1
     have k5:=ih 20 e l' ci _ g1 g4 g2.symm k2
     obtain⟨ev,y,q1,q2,q3,_,_⟩:=BE g1 k5
     have q4:ev.cells=ci.toArray:=by rw[<- q1]
     refine⟨ev,y,by rw[q4];simp[k5.length,g2],fun j u hj=>⟨?_,fun h=>h⟩,q3,q2⟩
     rw[q4]at hj
     have F9:ci[j]? =some u:=by simpa using hj
     have bC:j<P.cellsOf e:=by rw[<- g2, <- k5.length];exact(List.getElem?_eq_some_iff.1 F9).1
     rw[k4 j bC];exact F9
    have list:∀k i,i+k=len->∃es,es.length=k/\D.F8 P es e/\D.elems PN W (P.cellsOf e) a i es:=by
     intro k
     induction k with
     |zero=>intro i _;exact⟨[],rfl,trivial,trivial⟩
     |succ k pc=>
      intro i hi
      obtain⟨es,e1,e2,e3⟩:=pc (i+1) (by omega)
      obtain⟨ev,y,y1,y2,y3,y4⟩:=at' i (by omega)
      exact⟨y::es,by simp[e1],⟨y4,e2⟩,⟨ev,y1,y2,y3⟩,e3⟩
    obtain⟨es,e1,e2,e3⟩:=list len 0 (by omega)
    have U9:cap≠0->a.spot=none:=by
     intro xo
     have M9:∀z,(W.cells? 0 (a.add (0*P.cellsOf e)) (P.cellsOf e)).bind (DataW.trod enc P W 0 (fun _=>true) true n e)=some z->a.spot=none:=by
      intro z hz
      obtain⟨ci,k1,k2⟩:=Option.bind_eq_some_iff.1 hz
      obtain⟨_,k3,k4⟩:=World.cells?_some k1
      have k5:=k4 0 (by omega)
      rw[List.getElem?_eq_getElem (by omega)]at k5
      simpa[Addr.add]using World.cell?_spot k5
     by_cases hlen:0<len
     ·have:=h5 0 hlen
      rw[List.getElem?_eq_getElem (by omega)]at this
      exact M9 _ this
     ·obtain⟨h7,h8⟩:=h6 rfl
      have:=h8 0 (by omega)
      rw[List.getElem?_eq_getElem (by omega),show(len+0)=0 by omega]at this
      exact M9 _ this
    exact⟨[.sl es],⟨t,[],rfl,⟨e,hu,by omega,e2⟩,rfl⟩,⟨_,_,rfl,⟨some a,len,cap,rfl,e1.symm,h2,(fun h=>by cases h),P.cellsOf e,(fun a' QR=>by injection QR with QR;subst QR;exact⟨U9,e3⟩)⟩,rfl⟩,by simp[Flat,Value.oneCell']⟩
  ·rename_i fs hu
   obtain⟨xs,n',hn,_,h2,h3,h4⟩:=DataW.trod_struct hu h
   injection hn with hn;subst hn
   have:=qj (P:=P) (W:=W) (T:=T) (cs:=cs) (rd:=fun t vs=>∃y,DataW.trod enc P W 0 (fun _=>true) true n t vs=some y) (rec:=mw P m) (fun t l vs q1 q2 q3 ⟨y,q4⟩=>ih m t l vs y q1 q2 q3 q4) fs.toList 0 l hl hT ?_ (by omega)
   ·simpa using this
   ·intro f hf
    obtain⟨i,hi,hfi⟩:=List.getElem_of_mem hf
    have:=h4 i f (by simp at hi;simp[<- hfi,Array.getElem?_eq_getElem hi])
    rw[List.getElem?_eq_getElem (by simp at hi;omega)]at this
    exact⟨_,this⟩
  ·rename_i k e hu
   split at hl
   ·rename_i l' Jg
    split at hl
    ·rename_i hce
     injection hl with hl;subst hl
     obtain⟨xs,n',hn,_,h2,h3,h4⟩:=DataW.trod_array hu h
     injection hn with hn;subst hn
     have hlen:cs.length=k*l'.length:=by rw[h2,hc];simp
     have hT':0<k->∀u∈l',∀e,P.underlying u=some (.slice e)->e∈T:=fun hk u hu=>hT u (List.mem_flatten.2 ⟨l',List.mem_replicate.2 ⟨by omega,rfl⟩,hu⟩)
     have:=rV (P:=P) (W:=W) (l:=l') (cs:=cs) k 0 (fun j hj=> ?_) (by rw[hlen];simp)
     ·simpa using this
     ·have:=h4 j hj
      rw[hce,List.getElem?_eq_getElem (by omega)]at this
      rw[Nat.zero_add]
      exact ih m e l' _ _ Jg (hT' (by omega)) hce this
    ·cases hl
   ·cases hl
  ·cases hl
theorem xf(hp:sV P T=true):∀ (ts:List TypeId) (vs:List Value) (ds:List (DataW H)) (p:List MemPlace),(∀t∈ts,t∈T)->DataW.TrodAll enc P W 0 (fun _=>true) true ts vs ds p->
 (∀ (j:Nat) t v,ts[j]? =some t->vs[j]? =some v->Value.okWide P W .any b0 t v)->∃xs,D.iU P xs ts/\D.aE PN W xs vs
 |[],vs,ds,p,_,h,_=>by
  obtain⟨rfl,rfl,rfl⟩:=trodAll_nil h
  exact⟨[],rfl,rfl⟩
 |t::ts,vs,ds,p,hT,h,hv=>by
  obtain⟨v,Vk,d,Rq,p1,q1,rfl,rfl,rfl,⟨n,h1⟩,h2⟩:=trodAll_cons h
  obtain⟨xs,a1,a2⟩:=xf hp ts Vk Rq q1 (fun t ht=>hT t (by simp[ht])) h2 (fun j t v h1 h2=>hv (j+1) t v (by simpa using h1) (by simpa using h2))
  obtain⟨l,g1,g2,g3,g4⟩:=BF hp (hT t (by simp))
  obtain⟨ev,x,q1,q2,q3,q4,q5⟩:=BE g1 (Dd hp n 20 t l _ _ g1 g4 g2.symm h1)
  have bA:=hv 0 t v rfl rfl
  have:ev=v:=by
   cases ha:isAgg P t with
   |true=>
    have:∃cs,v= .agg cs:=by
     unfold isAgg at ha
     unfold Value.okWide at bA
     split at ha
     ·rename_i hu;rw[hu]at bA;obtain⟨cs,rfl,_⟩:=bA;exact⟨cs,rfl⟩
     ·rename_i hu;rw[hu]at bA;obtain⟨cs,rfl,_⟩:=bA;exact⟨cs,rfl⟩
     ·cases ha
    obtain⟨cs,rfl⟩:=this
    rw[q4 ha]
    simp[Value.cells]
   |false=>
    obtain⟨q6,q7⟩:=q5 ha
    cases v with
    |agg cs=>
     exfalso
     unfold isAgg at ha
     unfold Value.okWide at bA
     split at bA
     ·rename_i hu;rw[hu]at ha;cases ha
     ·rename_i hu;rw[hu]at ha;cases ha
     ·unfold Cell.okWide at bA
      split at bA
      case h_8=>
       unfold Cell.ok at bA
       split at bA<;>first|exact bA|contradiction
      all_goals contradiction
    |_=>simp only[Value.cells,List.cons.injEq,and_true]at q6;exact q6.symm
  subst this
  exact⟨x::xs,⟨t,ts,rfl,q2,a1⟩,⟨_,_,rfl,q3,a2⟩⟩
theorem eM.below {w w':World}(h:eM (fun _=>False) w w'):Below w.heap.size w w':=⟨h.os,h.tape,h.output,h.size,fun k hk=>h.block k hk (fun h=>h)⟩
theorem xg(hl:laidOutB P=true){W':World}{sp:Nat->Bool}:∀ {ts:List TypeId} {vs:List Value} {ds:List (DataW H)} {p:List MemPlace},(∀t∈ts,P.readableRec t=true/\t<P.types.size)->DataW.TrodAll enc P W 0 (fun _=>true) true ts vs ds p->
 (∀x∈p,W.sameAt W' x/\sp x.block=true)->DataW.TrodAll enc P W' 0 sp true ts vs ds p
 |[],vs,ds,p,_,h,_=>by
  obtain⟨rfl,rfl,rfl⟩:=trodAll_nil h
  exact trodAll_mk0
 |t::ts,vs,ds,p,hr,h,hs=>by
  obtain⟨v,Vk,d,Rq,p1,q1,rfl,rfl,rfl,h1,h2⟩:=trodAll_cons h
  exact⟨p1,q1,WideElems.Trod_stays hl (hr t (by simp)).1 (hr t (by simp)).2 h1 (fun x hx=>(hs x (by simp[hx])).1) (fun x hx=>(hs x (by simp[hx])).2),xg hl (fun t ht=>hr t (by simp[ht])) h2 (fun x hx=>hs x (by simp[hx])),rfl⟩
theorem I5{sp:Nat->Bool}:∀ {ts:List TypeId} {vs:List Value} {ds:List (DataW H)} {ps:List MemPlace},DataW.TrodAll enc P W 0 sp true ts vs ds ps->ds.length=ts.length
 |[],_,_,_,h=>by obtain⟨_,rfl,_⟩:=trodAll_nil h;rfl
 |_::_,_,_,_,h=>by
  obtain⟨_,_,_,_,_,_,_,rfl,_,_,h2⟩:=trodAll_cons h
  simp[I5 h2]
theorem yT{f:FuncId}{fn:Func}{s:ChangeSpec}{tb:TypeId}{fresh handsOn again:Bool}(sa:fn.resultTypes=#[tb])(Pm:P.underlying tb=some .bool)(Na:s.vars=[])
 (I6:∀ds:List (DataW H),ds.length=fn.params.toList.length->s.fn H ds={results:=[.lit (.bool true)],args:=ds}) (hp:sV P T=true) (hT:∀t∈fn.params.toList,t∈T) (hl:laidOutB P=true)
 (hr:∀t∈fn.params.toList,P.readableRec t=true/\t<P.types.size) (law:∀xs,D.iU P xs fn.params.toList->bJ P f xs (.ret [.bool true]))
 (base:Nat) (args:Array Value) (ds gs:List (DataW H)) (before:List MemPlace)
 (dx:∀ (j:Nat) t v,fn.params[j]? =some t->args[j]? =some v->Value.okWide P W .any base t v) (hW:DataW.Whole enc P fn.params.toList s.vars false W args.toList ds gs before):
 Calls P f args W fun e W'=>∃v,e= .returned v/\s.post enc P fn false fresh handsOn again W args v W':=by
 have hW':=hW
 obtain⟨p,q,hA,hV,rfl,hfz,PW⟩:=hW
 rw[Na]at hV
 obtain⟨rfl,rfl⟩:=trodVars_none hV
 obtain⟨xs,a1,a2⟩:=xf (b0:=base) hp fn.params.toList args.toList ds p hT hA (fun j t v h1 h2=>dx j t v (by simpa using h1) (by simpa using h2))
 refine((law xs a1).2 PN W args (fun _ h=>h.elim) a2).mono fun e W' ⟨hk,ho⟩=> ?_
 have hb:=hk.below
 cases e with
 |panicked ch=>exact ho.elim
 |outgrown=>exact ho.elim
 |returned v=>
  simp only[R.is,D.den]at ho
  subst ho
  refine⟨_,rfl, ?_⟩
  have hlen:ds.length=fn.params.toList.length:=(I5 hA)
  have hold:∀x∈p,x.block<W.heap.size:=fun x hx=>by simpa using hW'.lt x (by simpa using hx)
  have ei:∀sp:Nat->Bool,(∀x∈p,sp x.block=true)->DataW.TrodAll enc P W' 0 sp true fn.params.toList args.toList ds p:=fun sp BU=>xg hl hr hA fun x hx=>⟨hb.same (hold x hx),BU x hx⟩
  have Nb:∀ (b:Nat) (sp:Nat->Bool) (hd:Bool),DataW.TrodAll enc P W' b sp hd fn.resultTypes.toList ((Value.bool true).resultList fn.resultTypes.size) [.lit (.bool true)] []:=fun b sp hd=>by
   rw[sa]
   exact trodAll_cons_mk (p:=[]) (p':=[]) ⟨1,by simp[DataW.trod,Value.cells,Pm]⟩ trodAll_mk0
  have I7:∀sp:Nat->Bool,DataW.TrodVars enc P W' sp s.vars [] []:=fun sp=>by rw[Na];rfl
  refine⟨ds,[],p++[],[],p,[],hW', ?_, ?_, ?_,World.keptBut_mono (fun _ h=>h.elim) (hb.frame (fun _=>False)),fun _=>⟨?_,[.lit (.bool true)]++ds,[],([]++p)++[],⟨[]++p,[],trodAll_append (ei _ fun _ _=>rfl) (Nb 0 (fun _=>true) true),I7 _,rfl, ?_,(fun h=>by cases h)⟩,fun x hx _=>by simpa using hx⟩⟩
  ·rw[List.append_nil,I6 ds hlen];exact Nb _ _ _
  ·rw[List.append_nil,I6 ds hlen];exact ei _ fun x hx=>by simpa using hold x hx
  ·rw[List.append_nil,I6 ds hlen];exact I7 _
  ·intro j t r h1 h2
   rw[sa]at h1 h2
   match j,h1,h2 with
   |0,h1,h2=>
    simp[Value.resultList]at h1 h2
    subst h1;subst h2
    simp[Value.okWide,Pm,Cell.okWide,Cell.ok]
  ·intro b off hx
   rw[hb.frozen (by simpa[MemPlace.block]using hold _ (by simpa using hx))]
   exact hfz b off (by simpa using hx)
end
section
variable {P:Program}{t e:TypeId}{x:D}
theorem BG{k:IntKind}(ht:P.underlying t=some (.int k))(h:D.jY P x t):∃n,x= .int k n/\(Lit.int k n).wf=true:=by
 cases x<;>simp only[D.jY]at h
 case int k' n=>
  rw[ht]at h
  obtain⟨h1,h2⟩:=h
  injection h1 with h1;injection h1 with h1;subst h1
  exact⟨n,rfl,h2⟩
 case bool=>rw[ht]at h;cases h
 case str=>rw[ht]at h;cases h.1
 case sl=>obtain⟨e,h,_⟩:=h;rw[ht]at h;cases h
 case agg=>have:=h.1;unfold isAgg at this;rw[ht]at this;cases this
theorem I8(ht:P.underlying t=some .string)(h:D.jY P x t):∃l,x= .str l/\l.length<=maxLen:=by
 cases x<;>simp only[D.jY]at h
 case int k' n=>rw[ht]at h;cases h.1
 case bool b=>rw[ht]at h;cases h
 case str l=>exact⟨l,rfl,h.2⟩
 case sl=>obtain⟨e,h,_⟩:=h;rw[ht]at h;cases h
 case agg=>have:=h.1;unfold isAgg at this;rw[ht]at this;cases this
theorem qk(ht:P.underlying t=some (.slice e))(h:D.jY P x t):∃es,x= .sl es/\es.length<=maxLen/\D.F8 P es e:=by
 cases x<;>simp only[D.jY]at h
 case int k' n=>rw[ht]at h;cases h.1
 case bool b=>rw[ht]at h;cases h
 case str l=>rw[ht]at h;cases h.1
 case sl es=>
  obtain⟨e',h,h2,h3⟩:=h
  rw[ht]at h;injection h with h;injection h with h;subst h
  exact⟨es,rfl,h2,h3⟩
 case agg=>have:=h.1;unfold isAgg at this;rw[ht]at this;cases this
theorem ql{ls:List TypeId}(ha:isAgg P t=true)(hl:mw P 20 t=some ls)(h:D.jY P x t):∃cs,x= .agg cs/\D.iU P cs ls:=by
 have no:∀u,P.underlying t=some u->(∀fs,u≠ .struct fs)->(∀k e,u≠ .array k e)->False:=by
  intro u hu h1 h2
  unfold isAgg at ha
  rw[hu]at ha
  split at ha
  ·rename_i e;injection e with e;exact h1 _ e
  ·rename_i e;injection e with e;exact h2 _ _ e
  ·cases ha
 cases x<;>simp only[D.jY]at h
 case int k' n=>exact(no _ h.1 (fun _ h=>by cases h) (fun _ _ h=>by cases h)).elim
 case bool b=>exact(no _ h (fun _ h=>by cases h) (fun _ _ h=>by cases h)).elim
 case str l=>exact(no _ h.1 (fun _ h=>by cases h) (fun _ _ h=>by cases h)).elim
 case sl es=>obtain⟨e',h,_⟩:=h;exact(no _ h (fun _ h=>by cases h) (fun _ _ h=>by cases h)).elim
 case agg cs=>
  obtain⟨_,ls',h1,h2⟩:=h
  rw[hl]at h1;injection h1 with h1;subst h1
  exact⟨cs,rfl,h2⟩
theorem b8{t:TypeId}{ts:List TypeId}{cs:List D}(h:D.iU P cs (t::ts)):∃x xs,cs=x::xs/\D.jY P x t/\D.iU P xs ts:=by
 cases cs with
 |nil=>simp[D.iU]at h
 |cons x xs=>obtain⟨_,_,e,h1,h2⟩:=h;injection e with e1 e2;subst e1;subst e2;exact⟨x,xs,rfl,h1,h2⟩
theorem lN{cs:List D}(h:D.iU P cs []):cs=[]:=by
 cases cs with
 |nil=>rfl
 |cons x xs=>obtain⟨_,_,e,_⟩:=h;cases e
theorem nD{α:Type}{f:α->D}{q:α->Prop}(hf:∀x,D.jY P x e->∃a,x=f a/\q a):∀ (es:List D),D.F8 P es e->∃l:List α,es=l.map f/\∀a∈l,q a
 |[],_=>⟨[],rfl,fun _ h=>by cases h⟩
 |x::es,h=>by
  obtain⟨a,rfl,h1⟩:=hf x h.1
  obtain⟨l,rfl,h2⟩:=nD hf es h.2
  exact⟨a::l,rfl,fun b hb=>(List.mem_cons.1 hb).elim (fun e=>e ▸ h1) (h2 b)⟩
end
end Go.Proofs.YtealblliddhgiaaGreat
end
section
namespace Go.Proofs.YtealblliddhgiaaGreat
open Go.ChangeShapes Go.WideShapes Go.RowKit
theorem lO:maxLen<=9223372036854775807:=by decide
theorem EC{x:D}(h:D.jY Tryz.prog x 3):∃n:Int,x= .i n:=by
 obtain⟨n,h,_⟩:=BG undT_3 h
 exact⟨n,h⟩
theorem Va{x:D}(h:D.jY Tryz.prog x 25):∃n:Int,x= .i n:=by
 obtain⟨n,h,_⟩:=BG undT_25 h
 exact⟨n,h⟩
theorem Vb{x:D}(h:D.jY Tryz.prog x 103):∃r:pb,x=r.d/\r.name.length<=9223372036854775807:=by
 obtain⟨cs,rfl,hh⟩:=ql (by kernel_rfl) (ls:=[9,3]) (by kernel_rfl) h
 clear h;have h:=hh;clear hh
 obtain⟨a,cs,rfl,ha,h⟩:=b8 h
 obtain⟨b,cs,rfl,hb,h⟩:=b8 h
 have:=lN h;subst this
 obtain⟨l,rfl,hl⟩:=I8 (by kernel_rfl) ha
 obtain⟨n,rfl⟩:=EC hb
 exact⟨⟨l,n⟩,rfl,by have:=lO;simp only;omega⟩
theorem Vc{x:D}(h:D.jY Tryz.prog x 24):∃s:aO,x=s.d/\s.Fits:=by
 obtain⟨cs,rfl,hh⟩:=ql (by kernel_rfl) (ls:=[22,22]) (by kernel_rfl) h
 clear h;have h:=hh;clear hh
 obtain⟨a,cs,rfl,ha,h⟩:=b8 h
 obtain⟨b,cs,rfl,hb,h⟩:=b8 h
 have:=lN h;subst this
 obtain⟨es,rfl,h1,h2⟩:=qk undT_22 ha
 obtain⟨l,rfl,hl⟩:=nD (fun x h=>Vb h) es h2
 obtain⟨es',rfl,h3,h4⟩:=qk undT_22 hb
 obtain⟨l',rfl,Jg⟩:=nD (fun x h=>Vb h) es' h4
 have:=lO
 exact⟨⟨l,l'⟩,rfl,⟨by simp at h1;simp only;omega,by simp at h3;simp only;omega,hl,Jg⟩⟩
theorem I9:∀ (n:Nat) (x:D),SizeOf.sizeOf x<=n->D.jY Tryz.prog x 28->∃t:Tm,x=t.d/\t.fits:=by
 intro n
 induction n with
 |zero=>intro x hx _;cases x<;>simp at hx
 |succ n ih=>
  intro x hx h
  obtain⟨cs,rfl,hh⟩:=ql (by kernel_rfl) (ls:=[25,3,26]) (by kernel_rfl) h
  clear h;have h:=hh;clear hh
  obtain⟨a,cs,rfl,ha,h⟩:=b8 h
  obtain⟨b,cs,rfl,hb,h⟩:=b8 h
  obtain⟨c,cs,rfl,hc,h⟩:=b8 h
  have:=lN h;subst this
  obtain⟨o,rfl⟩:=Va ha
  obtain⟨m,rfl⟩:=EC hb
  obtain⟨es,rfl,h1,h2⟩:=qk undT_26 hc
  have Dm:SizeOf.sizeOf es<=n:=by simp at hx;omega
  have:∀es:List D,SizeOf.sizeOf es<=n->D.F8 Tryz.prog es 28->∃l:List Tm,es=l.map Tm.d/\∀k∈l,k.fits:=by
   intro es
   induction es with
   |nil=>intro _ _;exact⟨[],rfl,fun _ h=>by cases h⟩
   |cons y es ihe=>
    intro hs h
    simp at hs
    obtain⟨t,rfl,ht⟩:=ih y (by omega) h.1
    obtain⟨l,rfl,hl⟩:=ihe (by omega) h.2
    exact⟨t::l,rfl,fun b hb=>(List.mem_cons.1 hb).elim (fun e=>e ▸ ht) (hl b)⟩
  obtain⟨l,rfl,hl⟩:=this es Dm h2
  refine⟨.mk o m l,by rw[Tm.vy], ?_⟩
  rw[Tm.bR]
  exact⟨by have:=lO;simp at h1;simp only[Tm.kids];omega,hl⟩
theorem PO{x:D}(h:D.jY Tryz.prog x 28):∃t:Tm,x=t.d/\t.fits:=I9 _ x (Nat.le_refl _) h
end Go.Proofs.YtealblliddhgiaaGreat
end
namespace Go.Proofs.YtealblliddhgiaaGreat
theorem Zs(n:Int):bJ Tryz.prog 33 [.i n] (.ret [(Tm.mk 1 n []).d]):=by
 refine bJ.aZ mix SN (by simp) ?_
 rw[XI]
 simp+contextual (disch:=first|omega|simp only[go_sem,false_implies]) only[go_sem,wrap64,if_pos,and_self]
 refine aU (Pz n) ?_
 simp+contextual (disch:=first|omega|simp only[go_sem,false_implies]) only[go_sem,wrap64,if_pos,and_self]
end Go.Proofs.YtealblliddhgiaaGreat
namespace Go.Proofs.YtealblliddhgiaaGreat
def Vd:IC:=c5.snd.snd.snd.snd.snd.snd.snd.snd.snd.snd.snd.fst.snd.fst.fst
@[reducible] def Ja (s:aO) (a b:Tm):Nat->ae:=ak (ak (ak (fun _=> .no) 0 (.row s.row)) 1 (.row a.row)) 2 (.row b.row)
theorem jm{s:aO}{a b:Tm}{o:Nat->ae}(o0:o 0= .row s.row)(o1:o 1= .row a.row)(o2:o 2= .row b.row):∀j,j<3->o j=Ja s a b j:=fun j hj=>by
 rcases(by omega:j=0\/j=1\/j=2)with rfl|rfl|rfl
 ·rw[o0];(repeat(first|rfl|rw[aa]|rw[ad _ _ _ _ (by omega)]))
 ·rw[o1];(repeat(first|rfl|rw[aa]|rw[ad _ _ _ _ (by omega)]))
 ·rw[o2];(repeat(first|rfl|rw[aa]|rw[ad _ _ _ _ (by omega)]))
set_option maxHeartbeats 2000000 in
theorem Nc{s:aO}(hs:s.Fits){a b:Tm}{l u:List TB}{sm:Bool}(Ve:nT s=true)(hl:l.length<=1000)(hx:∀x∈l,x.term.Fin)(g2:dh s l=true)(bC:∀x∈l,bL s x.term=true)(DD:∀x∈l,Vs s x.term)
 (hu:j5 s u) (Jb:∀x∈u,bL s x.term=true) (Og:sm=true->Er (aj l) u)
 {o:Nat->ae} {nx:Nat} {e:Nat->V} {Q:fy->S->Prop}
 (hg:Good o nx) (h3:3<=nx) (o0:o 0= .row s.row) (o1:o 1= .row a.row) (o2:o 2= .row b.row)
 (he:fG 3 e [.ab, .ab, .ab, .d (.sl (l.map TB.d)), .ptr 0 0, .ptr 1 0, .ptr 2 0, .ab, .ab, .ab, .ab, .ab, .ab, .ab, .ab, .ab, .ab, .ab, .d (.bool sm), .d (.sl (u.map TB.d)), .ab, .d (.i 0)] 0)
 (hQ:∀e' o' nx',e' 4= .ptr 0 0->e' 5= .ptr 1 0->e' 6= .ptr 2 0->e' 19= .d (.sl (u.map TB.d))->3<=nx'->Good o' nx'->o' 0= .row s.row->o' 1= .row a.row->o' 2= .row b.row->Q (.exit 2) ⟨e',o',nx'⟩):
 od 0 (fun Q s=>kq Tryz.prog 305 0 false Vd Q s) Q ⟨e,o,nx⟩:=by
 have V8:=hu.len
 have rt:∀t:Tm,bL s t=true->eW s [t]=true:=fun t ht=>by rw[lF];simp[gK,Ve,ht]
 refine aW (fun i:Nat=>⟨bw [.ab, .ab, .ab, .d (.sl (l.map TB.d)), .ptr 0 0, .ptr 1 0, .ptr 2 0, .ab, .ab, .ab, .ab, .ab, .ab, .ab, .ab, .ab, .ab, .ab, .d (.bool sm), .d (.sl (u.map TB.d)), .ab, .d (.i i)],Ja s a b,3⟩) (fun i=>i<=u.length) (fun i=>u.length - i) 0 (Nat.zero_le _) ?_ ?_
 ·exact bW.bE _ (by omega) h3 (by repeat(first|exact hg.mono (by omega)|exact Good.nil|refine Good.ak ?_ (by omega) rfl|refine Good.ak ?_ (by omega) (bV _ _ _ (by omega))|refine Good.ak ?_ (by omega) (by simp[ae.refs,V.ag,V.refs]<;>omega))) (jm o0 o1 o2) he
 rintro i hi
 replace hi:i<=u.length:=hi
 simp only[Vd,c5,IC.snd,IC.fst]
 simp+contextual (disch:=first|omega|simp only[go_sem,false_implies]) only[go_sem,wrap64,if_pos,List.length_map]
 refine ay (fun h5=> ?_) (fun h5=> ?_)
 ·simp at h5
  obtain⟨x,yZ⟩:=aX h5
  have kx:=List.mem_of_getElem? yZ
  have tx:=Jb x kx
  have wx:=cz tx
  obtain⟨rx,vx⟩:=hu.ok x kx
  have Vf:x.term.Fin:=⟨Tm.fm _ (by omega),by omega⟩
  have hvc:=Py s hs x.term Vf
  rw[if_pos (rt _ tx),rt _ tx]at hvc
  have Vm:=Lj vx
  simp+contextual (disch:=first|omega|simp only[go_sem,false_implies]) only[go_sem,wrap64,if_pos,yZ,List.length_map]
  refine cD hvc ?_
  simp+contextual (disch:=first|omega|simp only[go_sem,false_implies]) only[go_sem,wrap64,if_pos,fH]
  refine aR (bQ rfl) ?_
  simp+contextual (disch:=first|omega|simp only[go_sem,false_implies]) only[go_sem,wrap64,if_pos,fH]
  refine aW (fun k:Nat=>⟨bw [.ab, .ab, .ab, .d (.sl (l.map TB.d)), .ptr 0 0, .ptr 1 0, .ptr 2 0, .ab, .ab, .ab, .ab, .ab, .ab, .ab, .ab, .ab, .ab, .ab, .d (.bool sm), .d (.sl (u.map TB.d)), .ab, .d (.i i), .d (.sl ((ct x.term).map .i)), .ab, .d (.i k)],Ja s a b,3⟩) (fun k=>k<=(ct x.term).length) (fun k=>(ct x.term).length - k) 0 (Nat.zero_le _) ?_ ?_
  ·refine bW.bE _ (by omega) (by omega) (by repeat(first|exact hg.mono (by omega)|exact Good.nil|refine Good.ak ?_ (by omega) rfl|refine Good.ak ?_ (by omega) (bV _ _ _ (by omega))|refine Good.ak ?_ (by omega) (by simp[ae.refs,V.ag,V.refs]<;>omega))) (jm (by(repeat(first|rfl|rw[aa]|rw[ad _ _ _ _ (by omega)]))) (by(repeat(first|rfl|rw[aa]|rw[ad _ _ _ _ (by omega)]))) (by(repeat(first|rfl|rw[aa]|rw[ad _ _ _ _ (by omega)])))) ?_
   (repeat(first|exact aq|refine ai ?_|refine ah rfl ?_|refine ah (aQ (aP (by omega))) ?_|refine aA rfl (by simp[V.refs,V.ag]<;>first|omega|assumption) ?_))
  rintro k hk
  replace hk:k<=(ct x.term).length:=hk
  simp+contextual (disch:=first|omega|simp only[go_sem,false_implies]) only[go_sem,wrap64,if_pos,List.length_map]
  refine ay (fun h6=> ?_) (fun h6=> ?_)
  ·simp at h6
   obtain⟨v,hv⟩:=aX h6
   have V4:=List.mem_of_getElem? hv
   have Vg:=hu.idem x kx v (((cL x.term).2 v).1 V4)
   have vj:=kQ Vg
   simp+contextual (disch:=first|omega|simp only[go_sem,false_implies]) only[go_sem,wrap64,if_pos,List.length_map]
   refine aW (fun j:Nat=>⟨bw [.ab, .ab, .ab, .d (.sl (l.map TB.d)), .ptr 0 0, .ptr 1 0, .ptr 2 0, .ab, .ab, .ab, .ab, .ab, .ab, .ab, .ab, .ab, .ab, .ab, .d (.bool sm), .d (.sl (u.map TB.d)), .ab, .d (.i i), .d (.sl ((ct x.term).map .i)), .ab, .d (.i k), .d (.i j)],Ja s a b,3⟩) (fun j=>j<=u.length) (fun j=>u.length - j) 0 (Nat.zero_le _) ?_ ?_
   ·refine bW.bE _ (by omega) (by omega) (by repeat(first|exact hg.mono (by omega)|exact Good.nil|refine Good.ak ?_ (by omega) rfl|refine Good.ak ?_ (by omega) (bV _ _ _ (by omega))|refine Good.ak ?_ (by omega) (by simp[ae.refs,V.ag,V.refs]<;>omega))) (jm (by(repeat(first|rfl|rw[aa]|rw[ad _ _ _ _ (by omega)]))) (by(repeat(first|rfl|rw[aa]|rw[ad _ _ _ _ (by omega)]))) (by(repeat(first|rfl|rw[aa]|rw[ad _ _ _ _ (by omega)])))) ?_
    (repeat(first|exact aq|refine ai ?_|refine ah rfl ?_|refine ah (aQ (aP (by omega))) ?_|refine aA rfl (by simp[V.refs,V.ag]<;>first|omega|assumption) ?_))
   rintro j hj
   replace hj:j<=u.length:=hj
   simp+contextual (disch:=first|omega|simp only[go_sem,false_implies]) only[go_sem,wrap64,if_pos,List.length_map]
   refine ay (fun h7=> ?_) (fun h7=> ?_)
   ·simp at h7
    obtain⟨y,hy⟩:=aX h7
    have PH:(y.var==v)=false:=by simpa using vj y (List.mem_of_getElem? hy)
    simp+contextual (disch:=first|omega|simp only[go_sem,false_implies]) only[go_sem,wrap64,if_pos,hy,hv,PH,List.length_map]
    refine aR (bQ rfl) ?_
    simp+contextual (disch:=first|omega|simp only[go_sem,false_implies]) only[go_sem,wrap64,if_pos,hy,hv,PH,List.length_map]
    refine aB (j+1) h7 (by omega) (bW.bE _ (by omega) (by omega) (by repeat(first|exact hg.mono (by omega)|exact Good.nil|refine Good.ak ?_ (by omega) rfl|refine Good.ak ?_ (by omega) (bV _ _ _ (by omega))|refine Good.ak ?_ (by omega) (by simp[ae.refs,V.ag,V.refs]<;>omega))) (jm (by(repeat(first|rfl|rw[aa]|rw[ad _ _ _ _ (by omega)]))) (by(repeat(first|rfl|rw[aa]|rw[ad _ _ _ _ (by omega)]))) (by(repeat(first|rfl|rw[aa]|rw[ad _ _ _ _ (by omega)])))) ?_)
    (repeat(first|exact aq|refine ai ?_|refine ah rfl ?_|refine ah (aQ (aP (by omega))) ?_|refine aA rfl (by simp[V.refs,V.ag]<;>first|omega|assumption) ?_))
   ·simp+contextual (disch:=first|omega|simp only[go_sem,false_implies]) only[go_sem,wrap64,if_pos,List.length_map]
    refine aB (k+1) h6 (by omega) (bW.bE _ (by omega) (by omega) (by repeat(first|exact hg.mono (by omega)|exact Good.nil|refine Good.ak ?_ (by omega) rfl|refine Good.ak ?_ (by omega) (bV _ _ _ (by omega))|refine Good.ak ?_ (by omega) (by simp[ae.refs,V.ag,V.refs]<;>omega))) (jm (by(repeat(first|rfl|rw[aa]|rw[ad _ _ _ _ (by omega)]))) (by(repeat(first|rfl|rw[aa]|rw[ad _ _ _ _ (by omega)]))) (by(repeat(first|rfl|rw[aa]|rw[ad _ _ _ _ (by omega)])))) ?_)
    (repeat(first|exact aq|refine ai ?_|refine ah rfl ?_|refine ah (aQ (aP (by omega))) ?_|refine aA rfl (by simp[V.refs,V.ag]<;>first|omega|assumption) ?_))
  ·simp+contextual (disch:=first|omega|simp only[go_sem,false_implies]) only[go_sem,wrap64,if_pos,List.length_map]
   cases sm with
   |false=>
    simp+contextual (disch:=first|omega|simp only[go_sem,false_implies]) only[go_sem,wrap64,if_pos,List.length_map]
    refine aB (i+1) h5 (by omega) (bW.bE _ (by omega) (by omega) (by repeat(first|exact hg.mono (by omega)|exact Good.nil|refine Good.ak ?_ (by omega) rfl|refine Good.ak ?_ (by omega) (bV _ _ _ (by omega))|refine Good.ak ?_ (by omega) (by simp[ae.refs,V.ag,V.refs]<;>omega))) (jm (by(repeat(first|rfl|rw[aa]|rw[ad _ _ _ _ (by omega)]))) (by(repeat(first|rfl|rw[aa]|rw[ad _ _ _ _ (by omega)]))) (by(repeat(first|rfl|rw[aa]|rw[ad _ _ _ _ (by omega)])))) ?_)
    (repeat(first|exact aq|refine ai ?_|refine ah rfl ?_|refine ah (aQ (aP (by omega))) ?_|refine aA rfl (by simp[V.refs,V.ag]<;>first|omega|assumption) ?_))
   |true=>
    have Og:=Og rfl
    have tv:=BC (s:=s) rx
    have tL:=Lo bC rx
    have wL:=cz tL
    have eq:aY (aj l) x.term=Lv (aj l) x.var:=by
     have:=Og x.var rx
     rwa [Lv,EB hu.ID kx]at this
    have sp:=ji s hs (.mk 1 x.var []) ⟨Tm.fm _ (by have:=(cz tv).2;omega),by have:=(cz tv).2;omega⟩ l (by omega) hx
    rw[yS (rt _ tv) g2 (Vs.var rx),iC,if_pos tL]at sp
    have sq:=ji s hs x.term Vf l (by omega) hx
    rw[yS (rt _ tx) g2 vx,eq,if_pos tL]at sq
    have Lf:(Lv (aj l) x.var).fits:=Tm.fm _ (by omega)
    have Zt:=ky _ Lf
    rw[lM wL.2]at Zt
    have sse:=uu _ Lf _ Lf
    rw[jU]at sse
    simp+contextual (disch:=first|omega|simp only[go_sem,false_implies]) only[go_sem,wrap64,if_pos,yZ,List.length_map]
    refine cD (Zs x.var) ?_
    simp+contextual (disch:=first|omega|simp only[go_sem,false_implies]) only[go_sem,wrap64,if_pos,yZ,List.length_map]
    refine cD sp ?_
    simp+contextual (disch:=first|omega|simp only[go_sem,false_implies]) only[go_sem,wrap64,if_pos,yZ,List.length_map]
    refine aR (by decide) ?_
    simp+contextual (disch:=first|omega|simp only[go_sem,false_implies]) only[go_sem,wrap64,if_pos,yZ,List.length_map]
    refine cD sq ?_
    simp+contextual (disch:=first|omega|simp only[go_sem,false_implies]) only[go_sem,wrap64,if_pos,yZ,List.length_map]
    refine aR (by decide) ?_
    simp+contextual (disch:=first|omega|simp only[go_sem,false_implies]) only[go_sem,wrap64,if_pos,yZ,List.length_map]
    refine aw Zt rfl ?_
    simp+contextual (disch:=first|omega|simp only[go_sem,false_implies]) only[go_sem,wrap64,if_pos,yZ,List.length_map]
    refine aw Zt rfl ?_
    simp+contextual (disch:=first|omega|simp only[go_sem,false_implies]) only[go_sem,wrap64,if_pos,yZ,List.length_map]
    refine aw sse rfl ?_
    simp+contextual (disch:=first|omega|simp only[go_sem,false_implies]) only[go_sem,wrap64,if_pos,yZ,List.length_map]
    refine aB (i+1) h5 (by omega) (bW.bE _ (by omega) (by omega) (by repeat(first|exact hg.mono (by omega)|exact Good.nil|refine Good.ak ?_ (by omega) rfl|refine Good.ak ?_ (by omega) (bV _ _ _ (by omega))|refine Good.ak ?_ (by omega) (by simp[ae.refs,V.ag,V.refs]<;>omega))) (jm (by(repeat(first|rfl|rw[aa]|rw[ad _ _ _ _ (by omega)]))) (by(repeat(first|rfl|rw[aa]|rw[ad _ _ _ _ (by omega)]))) (by(repeat(first|rfl|rw[aa]|rw[ad _ _ _ _ (by omega)])))) ?_)
    (repeat(first|exact aq|refine ai ?_|refine ah rfl ?_|refine ah (aQ (aP (by omega))) ?_|refine aA rfl (by simp[V.refs,V.ag]<;>first|omega|assumption) ?_))
 ·simp+contextual (disch:=first|omega|simp only[go_sem,false_implies]) only[go_sem,wrap64,if_pos,List.length_map]
  refine hQ _ _ _ rfl rfl rfl rfl (by omega) (by repeat(first|exact hg.mono (by omega)|exact Good.nil|refine Good.ak ?_ (by omega) rfl|refine Good.ak ?_ (by omega) (bV _ _ _ (by omega))|refine Good.ak ?_ (by omega) (by simp[ae.refs,V.ag,V.refs]<;>omega))) (by(repeat(first|rfl|rw[aa]|rw[ad _ _ _ _ (by omega)]))) (by(repeat(first|rfl|rw[aa]|rw[ad _ _ _ _ (by omega)]))) (by(repeat(first|rfl|rw[aa]|rw[ad _ _ _ _ (by omega)])))
end Go.Proofs.YtealblliddhgiaaGreat
namespace Go.Proofs.YtealblliddhgiaaGreat
set_option maxHeartbeats 20000000 in
theorem vG(s:aO)(hs:s.Fits)(a b:Tm)(l:List TB)(ha:a.fits)(hb:b.fits)(hl:l.length<=9223372036854775807/\∀b∈l,b.term.fits):bJ Tryz.prog 5 [s.d,a.d,b.d, .sl (l.map TB.d)] (.ret [.bool true]):=by
 obtain⟨hl,hx⟩:=hl
 refine bJ.aZ mix ZY (by simp) ?_
 rw[c5]
 simp+contextual (disch:=first|omega|simp only[go_sem,false_implies]) only[go_sem,wrap64,if_pos,and_self]
 refine aw (H9 s hs [a,b] (by simp) (by simp[ha,hb])) rfl ?_
 cases h1:qb s [a,b]with
 |false=>
  simp+contextual (disch:=first|omega|simp only[go_sem,false_implies]) only[go_sem,wrap64,if_pos,and_self]
  refine aw known rfl ?_
  simp+contextual (disch:=first|omega|simp only[go_sem,false_implies]) only[go_sem,wrap64,if_pos,and_self]
 |true=>
 simp+contextual (disch:=first|omega|simp only[go_sem,false_implies]) only[go_sem,wrap64,if_pos,and_self]
 refine aw (mn l hl hx) rfl ?_
 cases h2:jl l with
 |false=>
  simp+contextual (disch:=first|omega|simp only[go_sem,false_implies]) only[go_sem,wrap64,if_pos,and_self]
  refine aw known rfl ?_
  simp+contextual (disch:=first|omega|simp only[go_sem,false_implies]) only[go_sem,wrap64,if_pos,and_self]
 |true=>
 simp+contextual (disch:=first|omega|simp only[go_sem,false_implies]) only[go_sem,wrap64,if_pos,and_self]
 refine aw (FN s hs a b ha hb) rfl ?_
 cases g1:lD s a b with
 |false=>
  simp+contextual (disch:=first|omega|simp only[go_sem,false_implies]) only[go_sem,wrap64,if_pos,and_self]
  refine aw known rfl ?_
  simp+contextual (disch:=first|omega|simp only[go_sem,false_implies]) only[go_sem,wrap64,if_pos,and_self]
 |true=>
 simp+contextual (disch:=first|omega|simp only[go_sem,false_implies]) only[go_sem,wrap64,if_pos,and_self]
 refine aw (yR s hs l hl hx) rfl ?_
 cases g2:dh s l with
 |false=>
  simp+contextual (disch:=first|omega|simp only[go_sem,false_implies]) only[go_sem,wrap64,if_pos,and_self]
  refine aw known rfl ?_
  simp+contextual (disch:=first|omega|simp only[go_sem,false_implies]) only[go_sem,wrap64,if_pos,and_self]
 |true=>
 simp only[qb,Bool.and_eq_true,List.all_cons,List.all_nil,Bool.and_true]at h1
 have ca:=Tm.Ps.A9 ha h1.1.1
 have cb:=Tm.Ps.A9 hb h1.1.2
 have za:=(jT a).1 h1.1.1
 have zb:=(jT b).1 h1.1.2
 have hv:cX s [a,b]=true:=BB g1
 have Ve:nT s=true:=by
  have:=(uY g1).1
  simp only[gK,Bool.and_eq_true]at this
  exact this.1
 have rt:∀t:Tm,bL s t=true->eW s [t]=true:=fun t ht=>by rw[lF];simp[gK,Ve,ht]
 obtain⟨⟨va,vb⟩,ta,tb⟩:=I3 hv
 have wa:=cz ta
 have wb:=cz tb
 obtain⟨f,r,hr⟩:=F2 (s:=s) 20 _ a b [] (by simp) (Nat.le_refl _) j5.nil va vb
 have hu:=Lm s hs a b ca.toFin cb.toFin (f:=f) (r:=r) (fun _=>hr)
 have fa:a.ow:=Tm.yN a (by omega)
 have fb:b.ow:=Tm.yN b (by omega)
 have hfw:=EA f a b [] r hr fa fb (fun _ h=>by cases h)
 have hm:=Ll s hs a b ca.toFin cb.toFin
 simp+contextual (disch:=first|omega|simp only[go_sem,false_implies]) only[go_sem,wrap64,if_pos,and_self]
 refine aU hm ?_
 unfold jl at h2
 rw[Bool.and_eq_true,decide_eq_true_eq,List.all_eq_true]at h2
 have zx:∀x∈l,x.term.sz<=50/\x.term.ck<=14:=fun x h=>(jT _).1 (h2.2 x h)
 have PJ:∀x∈l,x.term.Fin:=fun x h=>⟨hx x h,by have:=(zx x h).2;omega⟩
 have hln:l.length<=25:=by omega
 have g3:=g2
 unfold dh at g3
 rw[Bool.and_eq_true]at g3
 have W7:=(oX l (-1) g3.2).1
 have bC:∀x∈l,bL s x.term=true:=fun x h=>(W7 x h).2.2
 have hA:=ji s hs a ca.toFin l hl PJ
 rw[yS (rt a ta) g2 va]at hA
 have hB:=ji s hs b cb.toFin l hl PJ
 rw[yS (rt b tb) g2 vb]at hB
 have xq:(de a b []).2=true->bJ Tryz.prog 14 [s.d,a.d, .sl ((de a b []).1.map TB.d)] (.ret [b.d, .i 0]):=fun h=>by
  obtain⟨m1,m2⟩:=Dc va vb wb.2 h
  obtain⟨_,_,k3,_⟩:=I4 a b [] va vb ⟨List.Pairwise.nil,fun _ h=>(by cases h)⟩ h
  have PZ:=m1.len
  have Dn:∀x∈(de a b []).1,bL s x.term=true:=fun x hx=>by
   have:=m2 x hx
   simp only[bL,Bool.and_eq_true,decide_eq_true_eq,jS]
   exact⟨by omega,(m1.ok x hx).2.1⟩
  have:=ji s hs a ca.toFin (de a b []).1 (by omega) (fun x hx=>⟨Tm.fm _ (by have:=m2 x hx;omega),by have:=m2 x hx;omega⟩)
  rwa [yS (rt a ta) (rm m1 Dn) va,k3,if_pos tb]at this
 have dA:r.2=true->j5 s r.1/\aY (aj r.1) a=aY (aj r.1) b:=fun h=>by
  have e:gu f a b []=some (r.1,true):=by rw[hr, <- h]
  exact⟨(ny f a b [] r.1 e j5.nil va vb).1,Bu f a b [] r.1 e j5.nil va vb⟩
 have sb:=ky b hb
 rw[h1.1.2]at sb
 have sbb:=uu b hb b hb
 rw[jU]at sbb
 cases Zu:(de a b []).2
 focus
  have em:o7 s a b=([],5):=by simp[o7,hv,Zu]
  simp+contextual (disch:=first|omega|simp only[go_sem,false_implies]) only[go_sem,wrap64,if_pos,em]
 rotate_left
 focus
  have em:o7 s a b=((de a b []).1,0):=by simp[o7,hv,Zu]
  simp+contextual (disch:=first|omega|simp only[go_sem,false_implies]) only[go_sem,wrap64,if_pos,em]
  refine aU (xq Zu) ?_
  simp+contextual (disch:=first|omega|simp only[go_sem,false_implies]) only[go_sem,wrap64,if_pos,em]
  refine aw sb rfl ?_
  simp+contextual (disch:=first|omega|simp only[go_sem,false_implies]) only[go_sem,wrap64,if_pos,em]
  refine aw sbb rfl ?_
  simp+contextual (disch:=first|omega|simp only[go_sem,false_implies]) only[go_sem,wrap64,if_pos,em]
 all_goals
  refine aW (fun i:Nat=>⟨bw [.ab, .ab, .ab, .d (.sl (l.map TB.d)), .ptr 0 0, .ptr 1 0, .ptr 2 0, .ab, .ab, .ab, .ab, .ab, .ab, .d (.i i)],Ja s a b,3⟩) (fun i=>i<=l.length/\∀x∈l.take i,eE x.term=true) (fun i=>l.length - i) 0 ⟨Nat.zero_le _,fun x hx=>by simp at hx⟩ (bW.bE _ (by omega) (by omega) (by repeat(first|exact hg.mono (by omega)|exact Good.nil|refine Good.ak ?_ (by omega) rfl|refine Good.ak ?_ (by omega) (bV _ _ _ (by omega))|refine Good.ak ?_ (by omega) (by simp[ae.refs,V.ag,V.refs]<;>omega))) (jm (by(repeat(first|rfl|rw[aa]|rw[ad _ _ _ _ (by omega)]))) (by(repeat(first|rfl|rw[aa]|rw[ad _ _ _ _ (by omega)]))) (by(repeat(first|rfl|rw[aa]|rw[ad _ _ _ _ (by omega)])))) ?_) ?_
  ·(repeat(first|exact aq|refine ai ?_|refine ah rfl ?_|refine ah (aQ (aP (by omega))) ?_|refine aA rfl (by simp[V.refs,V.ag]<;>first|omega|assumption) ?_))
  rintro i ⟨hi,dx⟩
  simp+contextual (disch:=first|omega|simp only[go_sem,false_implies]) only[go_sem,wrap64,if_pos,List.length_map]
  refine ay (fun h5=> ?_) (fun h5=> ?_)
  ·simp at h5
   obtain⟨x,yZ⟩:=aX h5
   have kx:=List.mem_of_getElem? yZ
   simp+contextual (disch:=first|omega|simp only[go_sem,false_implies]) only[go_sem,wrap64,if_pos,yZ,List.length_map]
   refine aw (yp x.term (hx x kx)) rfl ?_
   cases UT:eE x.term with
   |false=>
    simp+contextual (disch:=first|omega|simp only[go_sem,false_implies]) only[go_sem,wrap64,if_pos,yZ,List.length_map]
    refine aw known rfl ?_
    simp+contextual (disch:=first|omega|simp only[go_sem,false_implies]) only[go_sem,wrap64,if_pos,yZ,List.length_map]
   |true=>
    simp+contextual (disch:=first|omega|simp only[go_sem,false_implies]) only[go_sem,wrap64,if_pos,yZ,List.length_map]
    refine aB (i+1) ⟨h5,fun y hy=> ?_⟩ (by omega) (bW.bE _ (by omega) (by omega) (by repeat(first|exact hg.mono (by omega)|exact Good.nil|refine Good.ak ?_ (by omega) rfl|refine Good.ak ?_ (by omega) (bV _ _ _ (by omega))|refine Good.ak ?_ (by omega) (by simp[ae.refs,V.ag,V.refs]<;>omega))) (jm (by(repeat(first|rfl|rw[aa]|rw[ad _ _ _ _ (by omega)]))) (by(repeat(first|rfl|rw[aa]|rw[ad _ _ _ _ (by omega)]))) (by(repeat(first|rfl|rw[aa]|rw[ad _ _ _ _ (by omega)])))) ?_)
    ·rw[List.take_add_one,yZ]at hy
     rcases List.mem_append.1 hy with hy|hy
     ·exact dx y hy
     ·simp at hy;rw[hy];exact UT
    ·(repeat(first|exact aq|refine ai ?_|refine ah rfl ?_|refine ah (aQ (aP (by omega))) ?_|refine aA rfl (by simp[V.refs,V.ag]<;>first|omega|assumption) ?_))
  simp at h5
  rw[List.take_of_length_le h5]at dx
  have DD:∀x∈l,Vs s x.term:=fun x hx=>⟨by have:=bC x hx;simp only[bL,Bool.and_eq_true]at this;exact this.2,dx x hx⟩
  have Zv:aY (aj l) a=aY (aj l) b->r.2=true/\Er (aj l) r.1:=fun e=>yG f a b [] r hr j5.nil va vb Er.nil e
  simp+contextual (disch:=first|omega|simp only[go_sem,false_implies]) only[go_sem,wrap64,if_pos,List.length_map]
  refine aU hA ?_
  simp+contextual (disch:=first|omega|simp only[go_sem,false_implies]) only[go_sem,wrap64,if_pos,and_self]
  refine aU hB ?_
  cases fA:bL s (aY (aj l) a)
  focus
   simp+contextual (disch:=first|omega|simp only[go_sem,false_implies]) only[go_sem,wrap64,if_pos,fA]
  rotate_left
  cases fB:bL s (aY (aj l) b)
  focus
   simp+contextual (disch:=first|omega|simp only[go_sem,false_implies]) only[go_sem,wrap64,if_pos,fA,fB]
  rotate_left
  focus
   have wA:=cz fA
   have wB:=cz fB
   have fAf:(aY (aj l) a).fits:=Tm.fm _ (by omega)
   have fBf:(aY (aj l) b).fits:=Tm.fm _ (by omega)
   have sA:=ky _ fAf
   rw[lM wA.2]at sA
   have sB:=ky _ fBf
   rw[lM wB.2]at sB
   simp+contextual (disch:=first|omega|simp only[go_sem,false_implies]) only[go_sem,wrap64,if_pos,fA,fB]
   refine aw sA rfl ?_
   simp+contextual (disch:=first|omega|simp only[go_sem,false_implies]) only[go_sem,wrap64,if_pos,fA,fB]
   refine aw sB rfl ?_
   simp+contextual (disch:=first|omega|simp only[go_sem,false_implies]) only[go_sem,wrap64,if_pos,fA,fB]
   refine aw (uu _ fAf _ fBf) rfl ?_
   cases PQ:iM (aY (aj l) a) (aY (aj l) b)
   focus
    simp+contextual (disch:=first|omega|simp only[go_sem,false_implies]) only[go_sem,wrap64,if_pos,fA,fB,PQ]
   rotate_left
   focus
    simp+contextual (disch:=first|omega|simp only[go_sem,false_implies]) only[go_sem,wrap64,if_pos,fA,fB,PQ]
  focus
   refine aU hu ?_
   obtain⟨Nd,Og⟩:=Zv ((iA _ _).1 PQ)
   obtain⟨qh,Zw⟩:=dA Nd
   cases B7:r.1.all (fun x=>bL s x.term)with
   |false=>
    have eu:iD s a b r=([],3):=by simp[iD,hv,Nd,B7]
    simp+contextual (disch:=first|omega|simp only[go_sem,false_implies]) only[go_sem,wrap64,if_pos,eu,fH]
    refine aw known rfl ?_
    simp+contextual (disch:=first|omega|simp only[go_sem,false_implies]) only[go_sem,wrap64,if_pos,eu,fH]
   |true=>
    have eu:iD s a b r=(r.1,0):=by simp[iD,hv,Nd,B7]
    have Jb:=List.all_eq_true.1 B7
    have V8:=qh.len
    have PR:=rm qh.IG Jb
    have Lp:∀x∈r.1,x.term.Fin:=fun x hx=>⟨Tm.uW _ (hfw x hx),by have:=(cz (Jb x hx)).2;omega⟩
    have Jc:=mn r.1 (by omega) (fun x hx=>(Lp x hx).fits)
    rw[xe V8 (fun x hx=>(cz (Jb x hx)).2)]at Jc
    have Jd:=yR s hs r.1 (by omega) (fun x hx=>(Lp x hx).fits)
    rw[PR]at Jd
    have Vh:=ji s hs a ca.toFin r.1 (by omega) Lp
    rw[yS (rt a ta) PR va]at Vh
    have Vi:=ji s hs b cb.toFin r.1 (by omega) Lp
    rw[yS (rt b tb) PR vb, <- Zw]at Vi
    simp+contextual (disch:=first|omega|simp only[go_sem,false_implies]) only[go_sem,wrap64,if_pos,eu,fH]
    refine aw Jc rfl ?_
    simp+contextual (disch:=first|omega|simp only[go_sem,false_implies]) only[go_sem,wrap64,if_pos,eu,fH]
    refine aw Jd rfl ?_
    simp+contextual (disch:=first|omega|simp only[go_sem,false_implies]) only[go_sem,wrap64,if_pos,eu,fH]
    refine Nc hs (a:=a) (b:=b) (l:=l) (u:=r.1) (sm:=true) Ve (by omega) PJ g2 bC DD qh Jb (fun _=>Og) (by repeat(first|exact hg.mono (by omega)|exact Good.nil|refine Good.ak ?_ (by omega) rfl|refine Good.ak ?_ (by omega) (bV _ _ _ (by omega))|refine Good.ak ?_ (by omega) (by simp[ae.refs,V.ag,V.refs]<;>omega))) (by omega) (by(repeat(first|rfl|rw[aa]|rw[ad _ _ _ _ (by omega)]))) (by(repeat(first|rfl|rw[aa]|rw[ad _ _ _ _ (by omega)]))) (by(repeat(first|rfl|rw[aa]|rw[ad _ _ _ _ (by omega)]))) ?_ fun e' o' nx' q4 q5 q6 qc n3 hg p0 p1 p2=> ?_
    ·(repeat(first|exact aq|refine ai ?_|refine ah rfl ?_|refine ah (aQ (aP (by omega))) ?_|refine aA rfl (by simp[V.refs,V.ag]<;>first|omega|assumption) ?_))
    have w0:∀k,0≠nx'+k:=fun k=>by omega
    have w1:∀k,1≠nx'+k:=fun k=>by omega
    have w2:∀k,2≠nx'+k:=fun k=>by omega
    simp+contextual (disch:=first|omega|simp only[go_sem,false_implies]) only[go_sem,wrap64,if_pos,q4,q5,q6,qc,p0,p1,p2,w0,w1,w2,Nat.add_assoc,Nat.left_eq_add,Nat.add_eq_left,Nat.add_left_cancel_iff]
    refine aU Vh ?_
    simp+contextual (disch:=first|omega|simp only[go_sem,false_implies]) only[go_sem,wrap64,if_pos,q4,q5,q6,qc,p0,p1,p2,w0,w1,w2,Nat.add_assoc,Nat.left_eq_add,Nat.add_eq_left,Nat.add_left_cancel_iff]
    refine aU Vi ?_
    cases fU:bL s (aY (aj r.1) a)with
    |false=>
     simp+contextual (disch:=first|omega|simp only[go_sem,false_implies]) only[go_sem,wrap64,if_pos,fU,q4,q5,q6,qc,p0,p1,p2,w0,w1,w2,Nat.add_assoc,Nat.left_eq_add,Nat.add_eq_left,Nat.add_left_cancel_iff]
     refine aw known rfl ?_
     simp+contextual (disch:=first|omega|simp only[go_sem,false_implies]) only[go_sem,wrap64,if_pos,fU,q4,q5,q6,qc,p0,p1,p2,w0,w1,w2,Nat.add_assoc,Nat.left_eq_add,Nat.add_eq_left,Nat.add_left_cancel_iff]
    |true=>
     have wU:=cz fU
     have PS:(aY (aj r.1) a).fits:=Tm.fm _ (by omega)
     have sU:=ky _ PS
     rw[lM wU.2]at sU
     have Vj:=uu _ PS _ PS
     rw[jU]at Vj
     simp+contextual (disch:=first|omega|simp only[go_sem,false_implies]) only[go_sem,wrap64,if_pos,fU,q4,q5,q6,qc,p0,p1,p2,w0,w1,w2,Nat.add_assoc,Nat.left_eq_add,Nat.add_eq_left,Nat.add_left_cancel_iff]
     refine aw sU rfl ?_
     simp+contextual (disch:=first|omega|simp only[go_sem,false_implies]) only[go_sem,wrap64,if_pos,fU,q4,q5,q6,qc,p0,p1,p2,w0,w1,w2,Nat.add_assoc,Nat.left_eq_add,Nat.add_eq_left,Nat.add_left_cancel_iff]
     refine aw sU rfl ?_
     simp+contextual (disch:=first|omega|simp only[go_sem,false_implies]) only[go_sem,wrap64,if_pos,fU,q4,q5,q6,qc,p0,p1,p2,w0,w1,w2,Nat.add_assoc,Nat.left_eq_add,Nat.add_eq_left,Nat.add_left_cancel_iff]
     refine aw Vj rfl ?_
     simp+contextual (disch:=first|omega|simp only[go_sem,false_implies]) only[go_sem,wrap64,if_pos,fU,q4,q5,q6,qc,p0,p1,p2,w0,w1,w2,Nat.add_assoc,Nat.left_eq_add,Nat.add_eq_left,Nat.add_left_cancel_iff]
     refine aw known rfl ?_
     simp+contextual (disch:=first|omega|simp only[go_sem,false_implies]) only[go_sem,wrap64,if_pos,fU,q4,q5,q6,qc,p0,p1,p2,w0,w1,w2,Nat.add_assoc,Nat.left_eq_add,Nat.add_eq_left,Nat.add_left_cancel_iff]
  all_goals
   refine aU hu ?_
   cases Nd:r.2 with
   |false=>
    have eu:iD s a b r=([],5):=by simp[iD,hv,Nd]
    simp+contextual (disch:=first|omega|simp only[go_sem,false_implies]) only[go_sem,wrap64,if_pos,eu,fH]
    refine aw known rfl ?_
    simp+contextual (disch:=first|omega|simp only[go_sem,false_implies]) only[go_sem,wrap64,if_pos,eu,fH]
   |true=>
    obtain⟨qh,Zw⟩:=dA Nd
    cases B7:r.1.all (fun x=>bL s x.term)with
    |false=>
     have eu:iD s a b r=([],3):=by simp[iD,hv,Nd,B7]
     simp+contextual (disch:=first|omega|simp only[go_sem,false_implies]) only[go_sem,wrap64,if_pos,eu,fH]
     refine aw known rfl ?_
     simp+contextual (disch:=first|omega|simp only[go_sem,false_implies]) only[go_sem,wrap64,if_pos,eu,fH]
    |true=>
     have eu:iD s a b r=(r.1,0):=by simp[iD,hv,Nd,B7]
     have Jb:=List.all_eq_true.1 B7
     have V8:=qh.len
     have PR:=rm qh.IG Jb
     have Lp:∀x∈r.1,x.term.Fin:=fun x hx=>⟨Tm.uW _ (hfw x hx),by have:=(cz (Jb x hx)).2;omega⟩
     have Jc:=mn r.1 (by omega) (fun x hx=>(Lp x hx).fits)
     rw[xe V8 (fun x hx=>(cz (Jb x hx)).2)]at Jc
     have Jd:=yR s hs r.1 (by omega) (fun x hx=>(Lp x hx).fits)
     rw[PR]at Jd
     have Vh:=ji s hs a ca.toFin r.1 (by omega) Lp
     rw[yS (rt a ta) PR va]at Vh
     have Vi:=ji s hs b cb.toFin r.1 (by omega) Lp
     rw[yS (rt b tb) PR vb, <- Zw]at Vi
     simp+contextual (disch:=first|omega|simp only[go_sem,false_implies]) only[go_sem,wrap64,if_pos,eu,fH]
     refine aw Jc rfl ?_
     simp+contextual (disch:=first|omega|simp only[go_sem,false_implies]) only[go_sem,wrap64,if_pos,eu,fH]
     refine aw Jd rfl ?_
     simp+contextual (disch:=first|omega|simp only[go_sem,false_implies]) only[go_sem,wrap64,if_pos,eu,fH]
     refine Nc hs (a:=a) (b:=b) (l:=l) (u:=r.1) (sm:=false) Ve (by omega) PJ g2 bC DD qh Jb (fun h=>by cases h) (by repeat(first|exact hg.mono (by omega)|exact Good.nil|refine Good.ak ?_ (by omega) rfl|refine Good.ak ?_ (by omega) (bV _ _ _ (by omega))|refine Good.ak ?_ (by omega) (by simp[ae.refs,V.ag,V.refs]<;>omega))) (by omega) (by(repeat(first|rfl|rw[aa]|rw[ad _ _ _ _ (by omega)]))) (by(repeat(first|rfl|rw[aa]|rw[ad _ _ _ _ (by omega)]))) (by(repeat(first|rfl|rw[aa]|rw[ad _ _ _ _ (by omega)]))) ?_ fun e' o' nx' q4 q5 q6 qc n3 hg p0 p1 p2=> ?_
     ·(repeat(first|exact aq|refine ai ?_|refine ah rfl ?_|refine ah (aQ (aP (by omega))) ?_|refine aA rfl (by simp[V.refs,V.ag]<;>first|omega|assumption) ?_))
     have w0:∀k,0≠nx'+k:=fun k=>by omega
     have w1:∀k,1≠nx'+k:=fun k=>by omega
     have w2:∀k,2≠nx'+k:=fun k=>by omega
     simp+contextual (disch:=first|omega|simp only[go_sem,false_implies]) only[go_sem,wrap64,if_pos,q4,q5,q6,qc,p0,p1,p2,w0,w1,w2,Nat.add_assoc,Nat.left_eq_add,Nat.add_eq_left,Nat.add_left_cancel_iff]
     refine aU Vh ?_
     simp+contextual (disch:=first|omega|simp only[go_sem,false_implies]) only[go_sem,wrap64,if_pos,q4,q5,q6,qc,p0,p1,p2,w0,w1,w2,Nat.add_assoc,Nat.left_eq_add,Nat.add_eq_left,Nat.add_left_cancel_iff]
     refine aU Vi ?_
     cases fU:bL s (aY (aj r.1) a)with
     |false=>
      simp+contextual (disch:=first|omega|simp only[go_sem,false_implies]) only[go_sem,wrap64,if_pos,fU,q4,q5,q6,qc,p0,p1,p2,w0,w1,w2,Nat.add_assoc,Nat.left_eq_add,Nat.add_eq_left,Nat.add_left_cancel_iff]
      refine aw known rfl ?_
      simp+contextual (disch:=first|omega|simp only[go_sem,false_implies]) only[go_sem,wrap64,if_pos,fU,q4,q5,q6,qc,p0,p1,p2,w0,w1,w2,Nat.add_assoc,Nat.left_eq_add,Nat.add_eq_left,Nat.add_left_cancel_iff]
     |true=>
      have wU:=cz fU
      have PS:(aY (aj r.1) a).fits:=Tm.fm _ (by omega)
      have sU:=ky _ PS
      rw[lM wU.2]at sU
      have Vj:=uu _ PS _ PS
      rw[jU]at Vj
      simp+contextual (disch:=first|omega|simp only[go_sem,false_implies]) only[go_sem,wrap64,if_pos,fU,q4,q5,q6,qc,p0,p1,p2,w0,w1,w2,Nat.add_assoc,Nat.left_eq_add,Nat.add_eq_left,Nat.add_left_cancel_iff]
      refine aw sU rfl ?_
      simp+contextual (disch:=first|omega|simp only[go_sem,false_implies]) only[go_sem,wrap64,if_pos,fU,q4,q5,q6,qc,p0,p1,p2,w0,w1,w2,Nat.add_assoc,Nat.left_eq_add,Nat.add_eq_left,Nat.add_left_cancel_iff]
      refine aw sU rfl ?_
      simp+contextual (disch:=first|omega|simp only[go_sem,false_implies]) only[go_sem,wrap64,if_pos,fU,q4,q5,q6,qc,p0,p1,p2,w0,w1,w2,Nat.add_assoc,Nat.left_eq_add,Nat.add_eq_left,Nat.add_left_cancel_iff]
      refine aw Vj rfl ?_
      simp+contextual (disch:=first|omega|simp only[go_sem,false_implies]) only[go_sem,wrap64,if_pos,fU,q4,q5,q6,qc,p0,p1,p2,w0,w1,w2,Nat.add_assoc,Nat.left_eq_add,Nat.add_eq_left,Nat.add_left_cancel_iff]
      refine aw known rfl ?_
      simp+contextual (disch:=first|omega|simp only[go_sem,false_implies]) only[go_sem,wrap64,if_pos,fU,q4,q5,q6,qc,p0,p1,p2,w0,w1,w2,Nat.add_assoc,Nat.left_eq_add,Nat.add_eq_left,Nat.add_left_cancel_iff]
end Go.Proofs.YtealblliddhgiaaGreat
section
namespace Go.Proofs.YtealblliddhgiaaGreat
open Go.ChangeShapes Go.WideShapes Go.RowKit
theorem Zx{x:D}(h:D.jY Tryz.prog x 52):∃b:TB,x=b.d/\b.term.fits:=by
 obtain⟨cs,rfl,hh⟩:=ql (by kernel_rfl) (ls:=[3,25,3,26]) (by kernel_rfl) h
 clear h;have h:=hh;clear hh
 obtain⟨v,cs,rfl,hv,h⟩:=b8 h
 obtain⟨a,cs,rfl,ha,h⟩:=b8 h
 obtain⟨b,cs,rfl,hb,h⟩:=b8 h
 obtain⟨c,cs,rfl,hc,h⟩:=b8 h
 have:=lN h;subst this
 obtain⟨k,rfl⟩:=EC hv
 obtain⟨o,rfl⟩:=Va ha
 obtain⟨m,rfl⟩:=EC hb
 obtain⟨es,rfl,h1,h2⟩:=qk undT_26 hc
 obtain⟨l,rfl,hl⟩:=nD (fun x h=>PO h) es h2
 refine⟨⟨k, .mk o m l⟩,rfl, ?_⟩
 rw[Tm.bR]
 exact⟨by have:=lO;simp at h1;simp only[Tm.kids];omega,hl⟩
theorem Lq{x:D}(h:D.jY Tryz.prog x 29):∃l:List TB,x= .sl (l.map TB.d)/\(l.length<=9223372036854775807/\∀b∈l,b.term.fits):=by
 obtain⟨es,rfl,h1,h2⟩:=qk undT_29 h
 obtain⟨l,rfl,hl⟩:=nD (fun x h=>Zx h) es h2
 exact⟨l,rfl,by have:=lO;simp at h1;omega,hl⟩
end Go.Proofs.YtealblliddhgiaaGreat
end
section
namespace Go.Proofs.YtealblliddhgiaaGreat
open Go.ChangeShapes Go.WideShapes Go.RowKit
set_option maxRecDepth 100000 in
theorem o8(os:Os)(started:os.Started)(H:Type)(enc:TypeId×Value->H):
 ReturnsInHanded {} Tryz.checked os 5 .any (Rows.termGeneralSpec.pre6 enc Tryz.prog Tryz.f5 Rows.termGeneralRow.domain false) (Rows.termGeneralSpec.post enc Tryz.prog Tryz.f5 Rows.termGeneralRow.apart Rows.termGeneralRow.fresh Rows.termGeneralRow.handsOn Rows.termGeneralRow.again):=by
 refine returnsInHanded_of_change (C:=Tryz.checked) (by kernel_rfl) started (by kernel_rfl) Tryz.func5
  (ChangeSpec.witness6 (enc:=enc) (C:=Tryz.checked) false ⟨#[],#[.agg #[.slice none 0 0, .slice none 0 0], .agg #[.int .i64 0, .int .i64 0, .slice none 0 0], .agg #[.int .i64 0, .int .i64 0, .slice none 0 0], .slice none 0 0],[]⟩ 8 (by kernel_rfl) (by kernel_rfl) (by kernel_rfl) (by kernel_rfl)) ?_
 intro W base args ds gs before dx hW _ _
 refine yT (T:=[24,22,103,9,3,28,26,25,29,52]) (tb:=4) (by kernel_rfl) (by kernel_rfl) rfl (fun ds h=>by match ds,h with|[_,_,_,_],_=>rfl) (by kernel_rfl) (by intro t ht;rw[Tryz.params5]at ht;simp at ht;rcases ht with rfl|rfl|rfl<;>simp) (by kernel_rfl) (by intro t ht;rw[Tryz.params5]at ht;simp at ht;rcases ht with rfl|rfl|rfl<;>exact⟨by kernel_rfl,of_decide_eq_true (by kernel_rfl)⟩)
  (fun xs hx=> ?_) base args ds gs before dx hW
 rw[Tryz.params5]at hx
 obtain⟨x0,xs,rfl,hx0,hx⟩:=b8 hx
 obtain⟨x1,xs,rfl,Zb,hx⟩:=b8 hx
 obtain⟨x2,xs,rfl,Dp,hx⟩:=b8 hx
 obtain⟨x3,xs,rfl,hx3,hx⟩:=b8 hx
 have:=lN hx;subst this
 obtain⟨s0,rfl,rD⟩:=Vc hx0
 obtain⟨t1,rfl,yV⟩:=PO Zb
 obtain⟨t2,rfl,ht2⟩:=PO Dp
 obtain⟨l3,rfl,Vl⟩:=Lq hx3
 exact vG s0 rD t1 t2 l3 yV ht2 Vl
theorem termGeneral_holds:Rows.TermGeneralSaid:=
 OpenClaim.holds_of_wide 5 Tryz.f5 rfl rfl rfl rfl rfl rfl rfl ⟨rfl,rfl,rfl,rfl,rfl⟩ rfl rfl rfl rfl rfl (by kernel_rfl) Tryz.func5 (by kernel_rfl)
  (of_decide_eq_true (by kernel_rfl)) (by unfold Func.isWrapper;first|(rw[if_pos (by decide+kernel)];kernel_rfl)|(rw[if_neg (by decide+kernel)];exact⟨rfl,rfl⟩))
  (fun os started H enc _=>o8 os started H enc)
end Go.Proofs.YtealblliddhgiaaGreat
end
