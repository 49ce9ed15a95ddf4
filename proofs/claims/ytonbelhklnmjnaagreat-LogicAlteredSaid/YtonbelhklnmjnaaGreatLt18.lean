/-
  A PART OF THE PROOF. Conditions: none.
-/
import Derived.OpenShut
import Derived.Carry
import Derived.Handed
import Derived.JoinedOf
import Derived.ProofKit
import Derived.Test.YtonbelhklnmjnaaGreatLt17
set_option linter.unusedSimpArgs false
set_option linter.unusedVariables false
section
namespace Go.Proofs.YtonbelhklnmjnaaGreat
open Go.ChangeShapes Go.WideShapes Go.RowKit
def vV(P:Program)(rec:TypeId->Option (List TypeId)):Nat->List Field->Option (List TypeId)
 |_,[]=>some []
 |off,f::fs=>if f.offset=off then match rec f.type with
  |some l=>if P.cellsOf f.type=l.length then(vV P rec (off+l.length) fs).map (l++·)else none
  |none=>none else none
def mH(P:Program):Nat->TypeId->Option (List TypeId)
 |0,_=>none
 |n+1,t=>match P.underlying t with
  |some .bool|some (.int _)|some .string|some (.slice _)=>some [t]
  |some (.struct fs)=>vV P (mH P n) 0 fs.toList
  |some (.array k e)=>match mH P n e with
   |some l=>if P.cellsOf e=l.length then some (List.replicate k l).flatten else none
   |none=>none
  |_=>none
def isAgg(P:Program)(t:TypeId):Bool:=match P.underlying t with
 |some (.struct _)|some (.array _ _)=>true
 |_=>false
mutual
def D.jA (P:Program):D->TypeId->Prop
 | .int k n,t=>P.underlying t=some (.int k)/\(Lit.int k n).wf=true
 | .bool _,t=>P.underlying t=some .bool
 | .str l,t=>P.underlying t=some .string/\l.length<=maxLen
 | .sl es,t=>∃e,P.underlying t=some (.slice e)/\es.length<=maxLen/\D.EU P es e
 | .agg cs,t=>isAgg P t=true/\∃ls,mH P 20 t=some ls/\D.jB P cs ls
 |_,_=>False
def D.EU (P:Program):List D->TypeId->Prop
 |[],_=>True
 |x::l,e=>D.jA P x e/\D.EU P l e
def D.jB (P:Program):List D->List TypeId->Prop
 |[],ts=>ts=[]
 |x::l,ts=>∃t r,ts=t::r/\D.jA P x t/\D.jB P l r
end
def ub(P:Program)(T:List TypeId):Bool:=T.all fun t=>match mH P 20 t with
 |some l=>decide (l.length=P.cellsOf t)&&decide (0<l.length)&&l.all fun u=>match P.underlying u with
  |some (.slice e)=>T.contains e
  |_=>true
 |none=>false
theorem qN{P:Program}:∀ {xs ys:List D} {l r:List TypeId},D.jB P xs l->D.jB P ys r->D.jB P (xs++ys) (l++r)
 |[],_,_,_,h,h'=>by simp only[D.jB]at h;subst h;exact h'
 |x::xs,_,_,_,h,h'=>by
  obtain⟨t,r,rfl,h1,h2⟩:=h
  exact⟨t,_,rfl,h1,qN h2 h'⟩
theorem bI{B:Nat->Prop}{w:World}:∀ {xs ys:List D} {l r:List Value},D.aN B w xs l->D.aN B w ys r->D.aN B w (xs++ys) (l++r)
 |[],_,_,_,h,h'=>by simp only[D.aN]at h;subst h;exact h'
 |x::xs,_,_,_,h,h'=>by
  obtain⟨t,r,rfl,h1,h2⟩:=h
  exact⟨t,_,rfl,h1,bI h2 h'⟩
theorem Flat.append {l r:List Value}(h:Flat l)(h':Flat r):Flat (l++r):=fun u hu=>(List.mem_append.1 hu).elim (h u) (h' u)
abbrev Wx:Nat->Prop:=fun _=>False
section
variable {H:Type}{enc:TypeId×Value->H}{P:Program}{W:World}{T:List TypeId}{b0:Nat}
def dK(P:Program)(W:World)(l:List TypeId)(cs:List Value):Prop:=∃xs,D.jB P xs l/\D.aN Wx W xs cs/\Flat cs
theorem dK.append {l r:List TypeId}{cs ds:List Value}(h:dK P W l cs)(h':dK P W r ds):dK P W (l++r) (cs++ds):=by
 obtain⟨xs,a1,a2,a3⟩:=h
 obtain⟨ys,b1,b2,b3⟩:=h'
 exact⟨xs++ys,qN a1 b1,bI a2 b2,a3.append b3⟩
theorem dK.length {l:List TypeId}{cs:List Value}(h:dK P W l cs):cs.length=l.length:=by
 obtain⟨xs,a1,a2,_⟩:=h
 rw[D.aH _ _ a2]
 clear a2
 induction xs generalizing l with
 |nil=>simp only[D.jB]at a1;simp[a1]
 |cons x xs ih=>obtain⟨t,r,rfl,_,h⟩:=a1;simp[ih h]
theorem dK.nil:dK P W [] []:=⟨[],rfl,rfl,fun _ h=>by cases h⟩
theorem CY{α:Type}(cs:List α)(o k:Nat):cs.drop o=(cs.drop o).take k++cs.drop (o+k):=by
 rw[<- List.drop_drop];exact(List.take_append_drop k _).symm
theorem qO{rec:TypeId->Option (List TypeId)}{cs:List Value}{rd:TypeId->List Value->Prop}
 (bV:∀t l vs,rec t=some l->(∀u∈l,∀e,P.underlying u=some (.slice e)->e∈T)->P.cellsOf t=l.length->rd t vs->dK P W l vs):
 ∀ (fs:List Field) (off:Nat) (l:List TypeId),vV P rec off fs=some l->(∀u∈l,∀e,P.underlying u=some (.slice e)->e∈T)->(∀f∈fs,rd f.type ((cs.drop f.offset).take (P.cellsOf f.type)))->
   off+l.length=cs.length->dK P W l (cs.drop off)
 |[],off,l,h,_,_,hl=>by
  simp only[vV,Option.some.injEq]at h
  subst h
  have:cs.drop off=[]:=List.drop_eq_nil_of_le (by simp at hl;omega)
  rw[this];exact dK.nil
 |f::fs,off,l,h,hT,hr,hl=>by
  simp only[vV]at h
  split at h
  ·rename_i ho
   split at h
   ·rename_i l1 h1
    split at h
    ·rename_i hc
     simp only[Option.map_eq_some_iff]at h
     obtain⟨r,h2,rfl⟩:=h
     have hd:=hr f aj
     rw[ho,hc]at hd
     rw[CY cs off l1.length]
     simp only[List.length_append]at hl
     exact(bV f.type l1 _ h1 (fun u hu=>hT u (by simp[hu])) hc hd).append (qO bV fs _ r h2 (fun u hu=>hT u (by simp[hu])) (fun f hf=>hr f (by simp[hf])) ad)
    ·cases h
   ·cases h
  ·cases h
theorem s5{l:List TypeId}{cs:List Value}:∀ (k i:Nat),(∀j,j<k->dK P W l ((cs.drop ((i+j)*l.length)).take l.length))->(i+k)*l.length=cs.length->dK P W (List.replicate k l).flatten (cs.drop (i*l.length))
 |0,i,_,hl=>by
  have:cs.drop (i*l.length)=[]:=List.drop_eq_nil_of_le (by simp at hl;omega)
  rw[this];exact dK.nil
 |k+1,i,h,hl=>by
  rw[List.replicate_succ,List.flatten_cons,CY cs (i*l.length) l.length]
  refine(by simpa using h 0 ad:dK P W l _).append ?_
  rw[show i*l.length+l.length=(i+1)*l.length by rw[Nat.add_mul];omega]
  refine s5 k (i+1) (fun j hj=> ?_) (by rw[<- hl];congr 1;omega)
  have:=h (j+1) ad
  rwa [show i+(j+1)=i+1+j by omega]at this
theorem CZ{e:TypeId}{l:List TypeId}{cs:List Value}(hl:mH P 20 e=some l)(h:dK P W l cs):∃ (ev:Value) (x:D),ev.cells.toList=cs/\D.jA P x e/\D.den Wx W x ev/\(isAgg P e=true->ev= .agg cs.toArray)/\(isAgg P e=false->cs=[ev]/\ev.oneCell'=true):=by
 obtain⟨xs,h1,h2,h3⟩:=h
 cases ha:isAgg P e with
 |true=>exact⟨.agg cs.toArray, .agg xs,by simp[Value.cells],⟨ha,l,hl,h1⟩,⟨_,rfl,by simpa using h2,by simpa using h3⟩,fun _=>rfl,(fun h=>by cases h)⟩
 |false=>
  have:l=[e]:=by
   unfold mH at hl
   unfold isAgg at ha
   split at hl<;>simp_all
  subst this
  obtain⟨t,r,e1,h4,h5⟩:∃x r,xs=x::r/\D.jA P x e/\D.jB P r []:=by
   cases xs with
   |nil=>simp[D.jB]at h1
   |cons x r=>obtain⟨t,r',e1,h4,h5⟩:=h1;injection e1 with e1 e2;subst e1;subst e2;exact⟨x,r,rfl,h4,h5⟩
  subst e1
  have:r=[]:=by cases r with
   |nil=>rfl
   |cons y r=>obtain⟨_,_,e,_⟩:=h5;cases e
  subst this
  obtain⟨u,us,rfl,h6,h7⟩:=h2
  simp only[D.aN]at h7
  subst h7
  have ho:=h3 u aj
  refine⟨u,t, ?_,h4,h6,(fun h=>by cases h),fun _=>⟨rfl,ho⟩⟩
  cases u<;>simp_all[Value.oneCell',Value.cells]
theorem C0(hp:ub P T=true){t:TypeId}(ht:t∈T):∃l,mH P 20 t=some l/\l.length=P.cellsOf t/\0<l.length/\∀u∈l,∀e,P.underlying u=some (.slice e)->e∈T:=by
 have:=List.all_eq_true.1 hp t ht
 split at this
 ·rename_i l hl
  simp only[Bool.and_eq_true,decide_eq_true_eq,List.all_eq_true]at this
  refine⟨l,hl,this.1.1,this.1.2,fun u hu e he=> ?_⟩
  have:=this.2 u hu
  rw[he]at this
  simpa using this
 ·cases this
theorem EV(hp:ub P T=true):∀ (n m:Nat) (t:TypeId) (l:List TypeId) (cs:List Value) (x:DataW H×List MemPlace),mH P m t=some l->(∀u∈l,∀e,P.underlying u=some (.slice e)->e∈T)->
 P.cellsOf t=l.length->DataW.trod enc P W 0 (fun _=>true) true n t cs=some x->dK P W l cs:=by
 intro n
 induction n with
 |zero=>intro m t l cs x _ _ _ h;simp[DataW.trod]at h
 |succ n ih=>
  intro m t l cs x hl hT hc h
  cases m with
  |zero=>simp[mH]at hl
  |succ m=>
  unfold mH at hl
  split at hl
  ·rename_i hu
   injection hl with hl;subst hl
   obtain⟨b,rfl,_⟩:=DataW.trod_bool hu h
   exact⟨[.bool b],⟨t,[],rfl,hu,rfl⟩,⟨_,_,rfl,rfl,rfl⟩,by simp[Flat,Value.oneCell']⟩
  ·rename_i k hu
   injection hl with hl;subst hl
   obtain⟨b,rfl,_,hw⟩:=DataW.trod_int hu h
   exact⟨[.int k b],⟨t,[],rfl,⟨hu,hw⟩,rfl⟩,⟨_,_,rfl,rfl,rfl⟩,by simp[Flat,Value.oneCell']⟩
  ·rename_i hu
   injection hl with hl;subst hl
   obtain⟨s,rfl,_,hw⟩:=DataW.trod_string hu h
   exact⟨[.str s.data.toList],⟨t,[],rfl,⟨hu,by simpa using hw⟩,rfl⟩,⟨_,_,rfl,⟨s,rfl,rfl⟩,rfl⟩,by simp[Flat,Value.oneCell']⟩
  ·rename_i e hu
   injection hl with hl;subst hl
   rcases DataW.trod_slice hu h with⟨rfl,_⟩|⟨a,len,cap,elems,rest,n',hn,rfl,_,_,h2,h3,h4,h5,h6,_⟩
   ·exact⟨[.sl []],⟨t,[],rfl,⟨e,hu,aj,trivial⟩,rfl⟩,⟨_,_,rfl,⟨none,0,0,rfl,rfl,aj,fun _=>rfl,0,(fun a ha=>by cases ha)⟩,rfl⟩,by simp[Flat,Value.oneCell']⟩
   ·injection hn with hn;subst hn
    obtain⟨l',g1,g2,g3,g4⟩:=C0 hp (hT t aj e hu)
    have at':∀i,i<len->∃ev:Value,∃y:D,ev.cells.size=P.cellsOf e/\iw Wx W (a.add (i*P.cellsOf e)) ev.cells/\D.den Wx W y ev/\D.jA P y e:=by
     intro i hi
     have:=h5 i hi
     rw[List.getElem?_eq_getElem (by omega)]at this
     obtain⟨ci,k1,k2⟩:=Option.bind_eq_some_iff.1 this
     obtain⟨_,k3,k4⟩:=World.cells?_some k1
     have k5:=ih 20 e l' ci _ g1 g4 g2.symm k2
     obtain⟨ev,y,q1,q2,q3,_,_⟩:=CZ g1 k5
     have q4:ev.cells=ci.toArray:=by rw[<- q1]
     refine⟨ev,y,by rw[q4];simp[k5.length,g2],fun j u hj=>⟨?_,fun h=>h⟩,q3,q2⟩
     rw[q4]at hj
     have IY:ci[j]? =some u:=by simpa using hj
     have cJ:j<P.cellsOf e:=by rw[<- g2, <- k5.length];exact(List.getElem?_eq_some_iff.1 IY).1
     rw[k4 j cJ];exact IY
    have list:∀k i,i+k=len->∃es,es.length=k/\D.EU P es e/\D.elems Wx W (P.cellsOf e) a i es:=by
     intro k
     induction k with
     |zero=>intro i _;exact⟨[],rfl,trivial,trivial⟩
     |succ k ihk=>
      intro i hi
      obtain⟨es,e1,e2,e3⟩:=ihk (i+1) ad
      obtain⟨ev,y,y1,y2,y3,y4⟩:=at' i ad
      exact⟨y::es,by simp[e1],⟨y4,e2⟩,⟨ev,y1,y2,y3⟩,e3⟩
    obtain⟨es,e1,e2,e3⟩:=list len 0 ad
    have abb:cap≠0->a.spot=none:=by
     intro fG
     have Sn:∀z,(W.cells? 0 (a.add (0*P.cellsOf e)) (P.cellsOf e)).bind (DataW.trod enc P W 0 (fun _=>true) true n e)=some z->a.spot=none:=by
      intro z hz
      obtain⟨ci,k1,k2⟩:=Option.bind_eq_some_iff.1 hz
      obtain⟨_,k3,k4⟩:=World.cells?_some k1
      have k5:=k4 0 ad
      rw[List.getElem?_eq_getElem (by omega)]at k5
      simpa[Addr.add]using World.cell?_spot k5
     by_cases hlen:0<len
     ·have:=h5 0 hlen
      rw[List.getElem?_eq_getElem (by omega)]at this
      exact Sn _ this
     ·obtain⟨h7,h8⟩:=h6 rfl
      have:=h8 0 ad
      rw[List.getElem?_eq_getElem (by omega),show(len+0)=0 by omega]at this
      exact Sn _ this
    exact⟨[.sl es],⟨t,[],rfl,⟨e,hu,ad,e2⟩,rfl⟩,⟨_,_,rfl,⟨some a,len,cap,rfl,e1.symm,h2,(fun h=>by cases h),P.cellsOf e,(fun a' OK=>by injection OK with OK;subst OK;exact⟨abb,e3⟩)⟩,rfl⟩,by simp[Flat,Value.oneCell']⟩
  ·rename_i fs hu
   obtain⟨xs,n',hn,_,h2,h3,h4⟩:=DataW.trod_struct hu h
   injection hn with hn;subst hn
   have:=qO (P:=P) (W:=W) (T:=T) (cs:=cs) (rd:=fun t vs=>∃y,DataW.trod enc P W 0 (fun _=>true) true n t vs=some y) (rec:=mH P m) (fun t l vs q1 q2 q3 ⟨y,q4⟩=>ih m t l vs y q1 q2 q3 q4) fs.toList 0 l hl hT ?_ ad
   ·simpa using this
   ·intro f hf
    obtain⟨i,hi,hfi⟩:=List.getElem_of_mem hf
    have:=h4 i f (by simp at hi;simp[<- hfi,Array.getElem?_eq_getElem hi])
    rw[List.getElem?_eq_getElem (by simp at hi;omega)]at this
    exact⟨_,this⟩
  ·rename_i k e hu
   split at hl
   ·rename_i l' zm
    split at hl
    ·rename_i hce
     injection hl with hl;subst hl
     obtain⟨xs,n',hn,_,h2,h3,h4⟩:=DataW.trod_array hu h
     injection hn with hn;subst hn
     have hlen:cs.length=k*l'.length:=by rw[h2,hc];simp
     have hT':0<k->∀u∈l',∀e,P.underlying u=some (.slice e)->e∈T:=fun hk u hu=>hT u (List.mem_flatten.2 ⟨l',List.mem_replicate.2 ⟨ad,rfl⟩,hu⟩)
     have:=s5 (P:=P) (W:=W) (l:=l') (cs:=cs) k 0 (fun j hj=> ?_) (by rw[hlen];simp)
     ·simpa using this
     ·have:=h4 j hj
      rw[hce,List.getElem?_eq_getElem (by omega)]at this
      rw[Nat.zero_add]
      exact ih m e l' _ _ zm (hT' ad) hce this
    ·cases hl
   ·cases hl
  ·cases hl
theorem yF(hp:ub P T=true):∀ (ts:List TypeId) (vs:List Value) (ds:List (DataW H)) (p:List MemPlace),(∀t∈ts,t∈T)->DataW.TrodAll enc P W 0 (fun _=>true) true ts vs ds p->
 (∀ (j:Nat) t v,ts[j]? =some t->vs[j]? =some v->Value.okWide P W .any b0 t v)->∃xs,D.jB P xs ts/\D.aN Wx W xs vs
 |[],vs,ds,p,_,h,_=>by
  obtain⟨rfl,rfl,rfl⟩:=trodAll_nil h
  exact⟨[],rfl,rfl⟩
 |t::ts,vs,ds,p,hT,h,hv=>by
  obtain⟨v,Th,d,Yy,p1,q1,rfl,rfl,rfl,⟨n,h1⟩,h2⟩:=trodAll_cons h
  obtain⟨xs,a1,a2⟩:=yF hp ts Th Yy q1 (fun t ht=>hT t (by simp[ht])) h2 (fun j t v h1 h2=>hv (j+1) t v (by simpa using h1) Dy)
  obtain⟨l,g1,g2,g3,g4⟩:=C0 hp (hT t aj)
  obtain⟨ev,x,q1,q2,q3,q4,q5⟩:=CZ g1 (EV hp n 20 t l _ _ g1 g4 g2.symm h1)
  have bp:=hv 0 t v rfl rfl
  have:ev=v:=by
   cases ha:isAgg P t with
   |true=>
    have:∃cs,v= .agg cs:=by
     unfold isAgg at ha
     unfold Value.okWide at bp
     split at ha
     ·rename_i hu;rw[hu]at bp;obtain⟨cs,rfl,_⟩:=bp;exact⟨cs,rfl⟩
     ·rename_i hu;rw[hu]at bp;obtain⟨cs,rfl,_⟩:=bp;exact⟨cs,rfl⟩
     ·cases ha
    obtain⟨cs,rfl⟩:=this
    rw[q4 ha]
    simp[Value.cells]
   |false=>
    obtain⟨q6,q7⟩:=q5 ha
    cases v with
    |agg cs=>
     exfalso
     unfold isAgg at ha
     unfold Value.okWide at bp
     split at bp
     ·rename_i hu;rw[hu]at ha;cases ha
     ·rename_i hu;rw[hu]at ha;cases ha
     ·unfold Cell.okWide at bp
      split at bp
      case h_8=>
       unfold Cell.ok at bp
       split at bp<;>first|exact bp|contradiction
      all_goals contradiction
    |_=>simp only[Value.cells,List.cons.injEq,and_true]at q6;exact q6.symm
  subst this
  exact⟨x::xs,⟨t,ts,rfl,q2,a1⟩,⟨_,_,rfl,q3,a2⟩⟩
theorem eK.below {w w':World}(h:eK (fun _=>False) w w'):Below w.heap.size w w':=⟨h.os,h.tape,h.output,h.size,fun k hk=>h.block k hk (fun h=>h)⟩
theorem yG(hl:laidOutB P=true){W':World}{sp:Nat->Bool}:∀ {ts:List TypeId} {vs:List Value} {ds:List (DataW H)} {p:List MemPlace},(∀t∈ts,P.readableRec t=true/\t<P.types.size)->DataW.TrodAll enc P W 0 (fun _=>true) true ts vs ds p->
 (∀x∈p,W.sameAt W' x/\sp x.block=true)->DataW.TrodAll enc P W' 0 sp true ts vs ds p
 |[],vs,ds,p,_,h,_=>by
  obtain⟨rfl,rfl,rfl⟩:=trodAll_nil h
  exact trodAll_mk0
 |t::ts,vs,ds,p,hr,h,hs=>by
  obtain⟨v,Th,d,Yy,p1,q1,rfl,rfl,rfl,h1,h2⟩:=trodAll_cons h
  exact⟨p1,q1,WideElems.Trod_stays hl (hr t aj).1 (hr t aj).2 h1 (fun x hx=>(hs x lY).1) (fun x hx=>(hs x lY).2),yG hl (fun t ht=>hr t (by simp[ht])) h2 (fun x hx=>hs x lY),rfl⟩
theorem LN{sp:Nat->Bool}:∀ {ts:List TypeId} {vs:List Value} {ds:List (DataW H)} {ps:List MemPlace},DataW.TrodAll enc P W 0 sp true ts vs ds ps->ds.length=ts.length
 |[],_,_,_,h=>by obtain⟨_,rfl,_⟩:=trodAll_nil h;rfl
 |_::_,_,_,_,h=>by
  obtain⟨_,_,_,_,_,_,_,rfl,_,_,h2⟩:=trodAll_cons h
  simp[LN h2]
theorem Ax{f:FuncId}{fn:Func}{s:ChangeSpec}{tb:TypeId}{fresh handsOn again:Bool}(BD:fn.resultTypes=#[tb])(GR:P.underlying tb=some .bool)(Sp:s.vars=[])
 (LO:∀ds:List (DataW H),ds.length=fn.params.toList.length->s.fn H ds={results:=[.lit (.bool true)],args:=ds}) (hp:ub P T=true) (hT:∀t∈fn.params.toList,t∈T) (hl:laidOutB P=true)
 (hr:∀t∈fn.params.toList,P.readableRec t=true/\t<P.types.size) (law:∀xs,D.jB P xs fn.params.toList->a8 P f xs (.ret [.bool true]))
 (base:Nat) (args:Array Value) (ds gs:List (DataW H)) (before:List MemPlace)
 (fO:∀ (j:Nat) t v,fn.params[j]? =some t->args[j]? =some v->Value.okWide P W .any base t v) (hW:DataW.Whole enc P fn.params.toList s.vars false W args.toList ds gs before):
 Calls P f args W fun e W'=>∃v,e= .returned v/\s.post enc P fn false fresh handsOn again W args v W':=by
 have hW':=hW
 obtain⟨p,q,hA,hV,rfl,hfz,hnd⟩:=hW
 rw[Sp]at hV
 obtain⟨rfl,rfl⟩:=trodVars_none hV
 obtain⟨xs,a1,a2⟩:=yF (b0:=base) hp fn.params.toList args.toList ds p hT hA (fun j t v h1 h2=>fO j t v (by simpa using h1) Dy)
 refine((law xs a1).2 Wx W args (fun _ h=>h.elim) a2).mono fun e W' ⟨hk,ho⟩=> ?_
 have hb:=hk.below
 cases e with
 |panicked ch=>exact ho.elim
 |outgrown=>exact ho.elim
 |returned v=>
  simp only[R.is,D.den]at ho
  subst ho
  refine⟨_,rfl, ?_⟩
  have hlen:ds.length=fn.params.toList.length:=(LN hA)
  have hold:∀x∈p,x.block<W.heap.size:=fun x hx=>by simpa using hW'.lt x GU
  have dZ:∀sp:Nat->Bool,(∀x∈p,sp x.block=true)->DataW.TrodAll enc P W' 0 sp true fn.params.toList args.toList ds p:=fun sp ux=>yG hl hr hA fun x hx=>⟨hb.same (hold x hx),ux x hx⟩
  have Sq:∀ (b:Nat) (sp:Nat->Bool) (hd:Bool),DataW.TrodAll enc P W' b sp hd fn.resultTypes.toList ((Value.bool true).resultList fn.resultTypes.size) [.lit (.bool true)] []:=fun b sp hd=>by
   rw[BD]
   exact trodAll_cons_mk (p:=[]) (p':=[]) ⟨1,by simp[DataW.trod,Value.cells,GR]⟩ trodAll_mk0
  have LP:∀sp:Nat->Bool,DataW.TrodVars enc P W' sp s.vars [] []:=fun sp=>by rw[Sp];rfl
  refine⟨ds,[],p++[],[],p,[],hW', ?_, ?_, ?_,World.keptBut_mono (fun _ h=>h.elim) (hb.frame (fun _=>False)),fun _=>⟨?_,[.lit (.bool true)]++ds,[],([]++p)++[],⟨[]++p,[],trodAll_append (dZ _ fun _ _=>rfl) (Sq 0 (fun _=>true) true),LP _,rfl, ?_,(fun h=>by cases h)⟩,fun x hx _=>by simpa using hx⟩⟩
  ·rw[List.append_nil,LO ds hlen];exact Sq _ _ _
  ·rw[List.append_nil,LO ds hlen];exact dZ _ fun x hx=>by simpa using hold x hx
  ·rw[List.append_nil,LO ds hlen];exact LP _
  ·intro j t r h1 h2
   rw[BD]at h1 h2
   match j,h1,h2 with
   |0,h1,h2=>
    simp[Value.resultList]at h1 h2
    subst h1;subst h2
    simp[Value.okWide,GR,Cell.okWide,Cell.ok]
  ·intro b off hx
   rw[hb.frozen (by simpa[MemPlace.block]using hold _ (by simpa using hx))]
   exact hfz b off GU
end
section
variable {P:Program}{t e:TypeId}{x:D}
theorem qP{k:IntKind}(ht:P.underlying t=some (.int k))(h:D.jA P x t):∃n,x= .int k n/\(Lit.int k n).wf=true:=by
 cases x<;>simp only[D.jA]at h
 case int k' n=>
  rw[ht]at h
  obtain⟨h1,h2⟩:=h
  injection h1 with h1;injection h1 with h1;subst h1
  exact⟨n,rfl,h2⟩
 case bool=>rw[ht]at h;cases h
 case str=>rw[ht]at h;cases h.1
 case sl=>obtain⟨e,h,_⟩:=h;rw[ht]at h;cases h
 case agg=>have:=h.1;unfold isAgg at this;rw[ht]at this;cases this
theorem LQ(ht:P.underlying t=some .string)(h:D.jA P x t):∃l,x= .str l/\l.length<=maxLen:=by
 cases x<;>simp only[D.jA]at h
 case int k' n=>rw[ht]at h;cases h.1
 case bool b=>rw[ht]at h;cases h
 case str l=>exact⟨l,rfl,h.2⟩
 case sl=>obtain⟨e,h,_⟩:=h;rw[ht]at h;cases h
 case agg=>have:=h.1;unfold isAgg at this;rw[ht]at this;cases this
theorem oj(ht:P.underlying t=some (.slice e))(h:D.jA P x t):∃es,x= .sl es/\es.length<=maxLen/\D.EU P es e:=by
 cases x<;>simp only[D.jA]at h
 case int k' n=>rw[ht]at h;cases h.1
 case bool b=>rw[ht]at h;cases h
 case str l=>rw[ht]at h;cases h.1
 case sl es=>
  obtain⟨e',h,h2,h3⟩:=h
  rw[ht]at h;injection h with h;injection h with h;subst h
  exact⟨es,rfl,h2,h3⟩
 case agg=>have:=h.1;unfold isAgg at this;rw[ht]at this;cases this
theorem nR{ls:List TypeId}(ha:isAgg P t=true)(hl:mH P 20 t=some ls)(h:D.jA P x t):∃cs,x= .agg cs/\D.jB P cs ls:=by
 have no:∀u,P.underlying t=some u->(∀fs,u≠ .struct fs)->(∀k e,u≠ .array k e)->False:=by
  intro u hu h1 h2
  unfold isAgg at ha
  rw[hu]at ha
  split at ha
  ·rename_i e;injection e with e;exact h1 _ e
  ·rename_i e;injection e with e;exact h2 _ _ e
  ·cases ha
 cases x<;>simp only[D.jA]at h
 case int k' n=>exact(no _ h.1 (fun _ h=>by cases h) (fun _ _ h=>by cases h)).elim
 case bool b=>exact(no _ h (fun _ h=>by cases h) (fun _ _ h=>by cases h)).elim
 case str l=>exact(no _ h.1 (fun _ h=>by cases h) (fun _ _ h=>by cases h)).elim
 case sl es=>obtain⟨e',h,_⟩:=h;exact(no _ h (fun _ h=>by cases h) (fun _ _ h=>by cases h)).elim
 case agg cs=>
  obtain⟨_,ls',h1,h2⟩:=h
  rw[hl]at h1;injection h1 with h1;subst h1
  exact⟨cs,rfl,h2⟩
theorem br{t:TypeId}{ts:List TypeId}{cs:List D}(h:D.jB P cs (t::ts)):∃x xs,cs=x::xs/\D.jA P x t/\D.jB P xs ts:=by
 cases cs with
 |nil=>simp[D.jB]at h
 |cons x xs=>obtain⟨_,_,e,h1,h2⟩:=h;injection e with e1 e2;subst e1;subst e2;exact⟨x,xs,rfl,h1,h2⟩
theorem j5{cs:List D}(h:D.jB P cs []):cs=[]:=by
 cases cs with
 |nil=>rfl
 |cons x xs=>obtain⟨_,_,e,_⟩:=h;cases e
theorem nS{α:Type}{f:α->D}{q:α->Prop}(hf:∀x,D.jA P x e->∃a,x=f a/\q a):∀ (es:List D),D.EU P es e->∃l:List α,es=l.map f/\∀a∈l,q a
 |[],_=>⟨[],rfl,fun _ h=>by cases h⟩
 |x::es,h=>by
  obtain⟨a,rfl,h1⟩:=hf x h.1
  obtain⟨l,rfl,h2⟩:=nS hf es h.2
  exact⟨a::l,rfl,fun b hb=>(List.mem_cons.1 hb).elim (fun e=>e ▸ h1) (h2 b)⟩
end
end Go.Proofs.YtonbelhklnmjnaaGreat
end
section
namespace Go.Proofs.YtonbelhklnmjnaaGreat
open Go.ChangeShapes Go.WideShapes Go.RowKit
theorem lW:maxLen<=9223372036854775807:=aZ
theorem vW{x:D}(h:D.jA Tryz.prog x 3):∃n:Int,x= .i n:=by
 obtain⟨n,h,_⟩:=qP undT_3 h
 exact⟨n,h⟩
theorem Wy{x:D}(h:D.jA Tryz.prog x 29):∃n:Int,x= .i n:=by
 obtain⟨n,h,_⟩:=qP undT_29 h
 exact⟨n,h⟩
theorem abc{x:D}(h:D.jA Tryz.prog x 104):∃r:ky,x=r.d/\r.name.length<=9223372036854775807:=by
 obtain⟨cs,rfl,hh⟩:=nR af (ls:=[9,3]) af h
 clear h;have h:=hh;clear hh
 obtain⟨a,cs,rfl,ha,h⟩:=br h
 obtain⟨b,cs,rfl,hb,h⟩:=br h
 have:=j5 h;subst this
 obtain⟨l,rfl,hl⟩:=LQ af ha
 obtain⟨n,rfl⟩:=vW hb
 exact⟨⟨l,n⟩,rfl,by have:=lW;simp only;omega⟩
theorem LR:∀ (n:Nat) (x:D),SizeOf.sizeOf x<=n->D.jA Tryz.prog x 31->∃t:Tm,x=t.d/\t.fits:=by
 intro n
 induction n with
 |zero=>intro x hx _;cases x<;>simp at hx
 |succ n ih=>
  intro x hx h
  obtain⟨cs,rfl,hh⟩:=nR af (ls:=[29,3,28]) af h
  clear h;have h:=hh;clear hh
  obtain⟨a,cs,rfl,ha,h⟩:=br h
  obtain⟨b,cs,rfl,hb,h⟩:=br h
  obtain⟨c,cs,rfl,hc,h⟩:=br h
  have:=j5 h;subst this
  obtain⟨o,rfl⟩:=Wy ha
  obtain⟨m,rfl⟩:=vW hb
  obtain⟨es,rfl,h1,h2⟩:=oj undT_28 hc
  have Dm:SizeOf.sizeOf es<=n:=by simp at hx;omega
  have:∀es:List D,SizeOf.sizeOf es<=n->D.EU Tryz.prog es 31->∃l:List Tm,es=l.map Tm.d/\∀k∈l,k.fits:=by
   intro es
   induction es with
   |nil=>intro _ _;exact⟨[],rfl,fun _ h=>by cases h⟩
   |cons y es ihe=>
    intro hs h
    simp at hs
    obtain⟨t,rfl,ht⟩:=ih y ad h.1
    obtain⟨l,rfl,hl⟩:=ihe ad h.2
    exact⟨t::l,rfl,fun b hb=>(List.mem_cons.1 hb).elim (fun e=>e ▸ ht) (hl b)⟩
  obtain⟨l,rfl,hl⟩:=this es Dm h2
  refine⟨.mk o m l,by rw[Tm.lz], ?_⟩
  rw[Tm.aP]
  exact⟨by have:=lW;simp at h1;simp only[Tm.kids];omega,hl⟩
theorem Wz{x:D}(h:D.jA Tryz.prog x 31):∃t:Tm,x=t.d/\t.fits:=LR _ x (Nat.le_refl _) h
end Go.Proofs.YtonbelhklnmjnaaGreat
end
section
namespace Go.Proofs.YtonbelhklnmjnaaGreat
open Go.ChangeShapes Go.WideShapes Go.RowKit
theorem C1{x:D}(h:D.jA Tryz.prog x 28):∃l:List Tm,x= .sl (l.map Tm.d)/\l.length<=9223372036854775807/\∀t∈l,t.fits:=by
 obtain⟨es,rfl,h1,h2⟩:=oj undT_28 h
 obtain⟨l,rfl,hl⟩:=nS (fun x h=>Wz h) es h2
 have:=lW
 exact⟨l,rfl,by simp at h1;omega,hl⟩
structure Rl.Fits (r:Rl):Prop where
 bn:r.bn.length<=9223372036854775807
 all:∀t∈r.bn,t.fits
 rhs:r.rhs.fits
theorem adk{x:D}(h:D.jA Tryz.prog x 106):∃r:Rl,x=r.d/\r.Fits:=by
 obtain⟨cs,rfl,hh⟩:=nR af (ls:=[3,28,29,3,28,3]) af h
 clear h;have h:=hh;clear hh
 obtain⟨a,cs,rfl,ha,h⟩:=br h
 obtain⟨b,cs,rfl,hb,h⟩:=br h
 obtain⟨c,cs,rfl,hc,h⟩:=br h
 obtain⟨d,cs,rfl,hd,h⟩:=br h
 obtain⟨e,cs,rfl,he,h⟩:=br h
 obtain⟨f,cs,rfl,hf,h⟩:=br h
 have:=j5 h;subst this
 obtain⟨m,rfl⟩:=vW ha
 obtain⟨l,rfl,l1,l2⟩:=C1 hb
 obtain⟨o,rfl⟩:=Wy hc
 obtain⟨n,rfl⟩:=vW hd
 obtain⟨k,rfl,k1,k2⟩:=C1 he
 obtain⟨v,rfl⟩:=vW hf
 exact⟨⟨m,l, .mk o n k,v⟩,rfl,⟨l1,l2,(Tm.aP _).2 ⟨k1,k2⟩⟩⟩
structure Pg.Fits (p:Pg):Prop where
 sig:p.sig.Fits
 len:p.rules.length<=9223372036854775807
 all:∀r∈p.rules,r.Fits
theorem adl{x:D}(h:D.jA Tryz.prog x 27):∃p:Pg,x=p.d/\p.Fits:=by
 obtain⟨cs,rfl,hh⟩:=nR af (ls:=[22,22,25]) af h
 clear h;have h:=hh;clear hh
 obtain⟨a,cs,rfl,ha,h⟩:=br h
 obtain⟨b,cs,rfl,hb,h⟩:=br h
 obtain⟨c,cs,rfl,hc,h⟩:=br h
 have:=j5 h;subst this
 obtain⟨es,rfl,h1,h2⟩:=oj undT_22 ha
 obtain⟨l,rfl,hl⟩:=nS (fun x h=>abc h) es h2
 obtain⟨es',rfl,h3,h4⟩:=oj undT_22 hb
 obtain⟨l',rfl,zm⟩:=nS (fun x h=>abc h) es' h4
 obtain⟨es2,rfl,h5,h6⟩:=oj (e:=106) af hc
 obtain⟨q,rfl,hq⟩:=nS (fun x h=>adk h) es2 h6
 have:=lW
 exact⟨⟨⟨l,l'⟩,q⟩,rfl,⟨⟨by simp at h1;simp only;omega,by simp at h3;simp only;omega,hl,zm⟩,by simp at h5;simp only;omega,hq⟩⟩
end Go.Proofs.YtonbelhklnmjnaaGreat
end
namespace Go.Proofs.YtonbelhklnmjnaaGreat
def eU(l:List Tm):Bool:=decide (l.length<=6)&&l.all iD
def gv(p:Pg):Bool:=(jb p.sig&&decide (p.rules.length<=20))&&p.rules.all fun r=>eU r.bn&&iD r.rhs
theorem yH{p:Pg}(hf:p.Fits)(h:gv p=true):p.Fin/\Gl p:=by
 simp only[gv,eU,Bool.and_eq_true,decide_eq_true_eq,List.all_eq_true,pC]at h
 obtain⟨_,h⟩:=h
 refine⟨⟨hf.sig,hf.len,fun r hr=> ?_⟩,fun r hr=> ?_⟩
 ·obtain⟨⟨a,b⟩,c⟩:=h r hr
  have zl:=hf.all r hr
  exact⟨ad,fun t ht=>⟨zl.all t ht,by have:=(b t ht).2;omega⟩,⟨zl.rhs,by have:=c.2;omega⟩⟩
 ·obtain⟨⟨a,b⟩,c⟩:=h r hr
  exact⟨a,fun t ht=>(b t ht).1,c.1⟩
theorem LS(l:List Int)(n:Int)(hl:l.length<=1000000):a8 Tryz.prog 198 [.sl (l.map .i), .i n] (.ret [.bool (l.contains n)]):=by
 refine a8.aB mix aaH aj ?_
 rw[aaG]
 refine aJ ?_
 refine aL (fun k:Nat=>⟨bB [.d (.sl (l.map .i)), .d (.i n), .aa, .aa, .aa, .d (.i k)],fun _=> .no,0⟩)
  (fun k=>k<=l.length/\(l.take k).contains n=false) (fun k=>l.length - k) 0 ⟨Nat.zero_le _,aj⟩ (bM.d0 _ ?_) (fun k hk=> ?_)
 ·exact cM
 refine aJ ?_
 refine ak (fun h2=> ?_) (fun h2=> ?_)
 ·simp at h2
  obtain⟨x,hx⟩:=aw h2
  refine dD hx ?_
  refine ak (fun h3=> ?_) (fun h3=> ?_)
  ·refine aJ ?_
   have:l.contains n=true:=by
    rw[List.contains_iff_mem, <- (by simpa using h3:x=n)];exact List.mem_of_getElem? hx
   rw[this]
  ·refine aJ ?_
   refine au (k+1) ⟨h2, ?_⟩ ad (bM.d0 _ ?_)
   ·have h4: ¬n=x:=fun e=>by subst e;simp at h3
    have h5:=hk.2
    rw[List.take_add_one,hx]
    rw[Bool.eq_false_iff]at h5|-
    intro hc;apply h5
    rw[List.contains_iff_mem]at hc|-
    rcases List.mem_append.1 hc with hc|hc
    ·exact hc
    ·simp at hc;exact absurd hc h4
   ·exact cM
 ·simp at h2
  refine aJ ?_
  have:=hk.2
  rw[List.take_of_length_le (by omega)]at this
  rw[this]
theorem vX:∀ (l:List Int) (n:Int),∃k,k<=l.length/\(∀x∈l.take k,x<n)/\(∀x,l[k]? =some x-> ¬x<n)/\kH l n=if l[k]? =some n then l else l.take k++n::l.drop k
 |[],n=>⟨0,Nat.zero_le _,aj,aj,by simp[kH]⟩
 |x::l,n=>by
  obtain⟨k,h1,h2,h3,h4⟩:=vX l n
  by_cases hx:x<n
  ·refine⟨k+1,by simp;omega, ?_,by simpa using h3, ?_⟩
   ·intro y hy
    simp only[List.take_succ_cons,List.mem_cons]at hy
    rcases hy with rfl|hy
    ·exact hx
    ·exact h2 y hy
   ·simp only[kH,if_pos hx,h4,List.getElem?_cons_succ,List.take_succ_cons,List.drop_succ_cons]
    split<;>simp
  ·refine⟨0,Nat.zero_le _,aj,by simpa using hx, ?_⟩
   simp only[kH,if_neg hx]
   by_cases e:x=n
   ·subst e;simp
   ·simp[e]
theorem Gq(l:List Int)(n:Int)(hl:l.length<=1000000):a8 Tryz.prog 103 [.sl (l.map .i), .i n] (.ret [.sl ((kH l n).map .i)]):=by
 obtain⟨j,j1,j2,j3,j4⟩:=vX l n
 have tk:∀ (i:Nat) (l:List Int),List.take i (l.map D.i)=(l.take i).map D.i:=fun i l=>List.map_take.symm
 have dr:∀ (i:Nat) (l:List Int),List.drop i (l.map D.i)=(l.drop i).map D.i:=fun i l=>List.map_drop.symm
 have ap:∀ (a b:List Int),a.map D.i++[D.i n]++b.map D.i=(a++n::b).map D.i:=fun a b=>aj
 refine a8.aB mix Z2 aj ?_
 rw[Z1]
 refine aJ ?_
 refine aL (fun k:Nat=>⟨bB [.d (.sl (l.map .i)), .d (.i n), .aa, .aa, .aa, .d (.i k)],fun _=> .no,0⟩)
  (fun k=>k<=j) (fun k=>l.length - k) 0 (Nat.zero_le _) (bM.d0 _ ?_) (fun k hk=> ?_)
 ·exact cM
 by_cases hkj:k=j
 ·subst hkj
  by_cases h5:k<l.length
  ·obtain⟨x,hx⟩:=aw h5
   have h6:=j3 x hx
   have AM:(k:Int)<l.length:=ad
   refine yS hx AM h6 ?_
   refine ak (fun h3=> ?_) (fun h3=> ?_)
   ·refine aJ ?_
    have e:x=n:=by simpa using h3
    rw[j4,if_pos (by rw[hx,e])]
   ·have e: ¬x=n:=by simpa using h3
    rw[j4,if_neg (by rw[hx];simpa using e)]
    simp+contextual (disch:=first|omega|simp only[go_sem,false_implies]) only[go_sem,wrap64,if_pos,hx,AM,h6,tk,dr,List.take_length,List.length_map,List.length_take,List.length_drop,List.length_append,List.length_cons,List.length_nil]
    rw[ap]
    refine ao aZ ?_
    exact cI
  ·have AM: ¬ (k:Int)<l.length:=ad
   have hx:l[k]? =none:=by simp;omega
   rw[j4,if_neg (by rw[hx];simp)]
   simp+contextual (disch:=first|omega|simp only[go_sem,false_implies]) only[go_sem,wrap64,if_pos,AM,tk,dr,List.take_length,List.length_map,List.length_take,List.length_drop,List.length_append,List.length_cons,List.length_nil]
   rw[ap]
   refine ao aZ ?_
   exact cI
 ·have cJ:k<l.length:=ad
  obtain⟨x,hx⟩:=aw cJ
  have AM:(k:Int)<l.length:=ad
  have h6:x<n:=j2 x (List.mem_of_getElem? (i:=k) (by rw[List.getElem?_take_of_lt (by omega)];exact hx))
  refine yS hx AM h6 ?_
  refine au (k+1) ad ad (bM.d0 _ ?_)
  exact cM
theorem om{op n:Int}{i:Nat}{l:List Int}{k:Nat}{v:Int}(h:l[k]? =some v)(out:List Int):mw op n i (l.take (k+1)) out=if(op !=8||(i:Int)!=1||v !=n)=true then kH (mw op n i (l.take k) out) v else mw op n i (l.take k) out:=by
 unfold mw
 rw[List.take_add_one,h,List.foldl_append]
 rfl
theorem qQ:∀t:Tm,t.wU->a8 Tryz.prog 61 [t.d] (.ret [.sl ((bH t).map .i)]):=by
 refine Tm.ck fun t ih ht=> ?_
 have fm:=(Tm.aP _).1 ht.fits
 refine a8.aB mix acP aj ?_
 rw[c61]
 by_cases h1:t.op=1
 ·refine dD h1 ?_
  rw[nO,if_pos h1]
  rfl
 ·have cB:(t.op==1)=false:=by simpa using h1
  refine dD cB ?_
  rw[nO,if_neg h1]
  refine aL (fun i:Nat×List Int=>⟨bB [.aa, .ptr 0 0, .aa, .d (.sl (i.2.map .i)), .d (.i i.1)],fu t.row,1⟩)
   (fun i=>i.1<=t.kids.length/\jJ t.op t.n t.kids 0 []=jJ t.op t.n (t.kids.drop i.1) i.1 i.2/\i.2.length<=ir (t.kids.take i.1)) (fun i=>t.kids.length - i.1) (0,[]) ⟨Nat.zero_le _,rfl,Nat.zero_le _⟩
   (bM.aaR (fun _=>False) 1 _ ad (lt1 (b8 rfl lA)) (fun j hj=>ah _ _ _ _ ad) (fun _ h=>h.elim) ?_) ?_
  ·try dsimp only
   exact Dw
  rintro⟨k,out⟩ ⟨hk,hv,hlen⟩
  simp only at hk hv hlen
  refine aJ ?_
  refine ak (fun h2=> ?_) (fun h2=> ?_)
  ·simp at h2
   obtain⟨x,hx⟩:=aw h2
   have de:=List.mem_of_getElem? hx
   have eh:ir (t.kids.take (k+1))=ir (t.kids.take k)+x.sz:=by
    rw[List.take_add_one,hx];simp[ir]
   have hle:ir (t.kids.take (k+1))<=ir t.kids:=by
    have:ir t.kids=ir (t.kids.take (k+1))+ir (t.kids.drop (k+1)):=by
     conv=>lhs;rw[<- List.take_append_drop (k+1) t.kids]
     exact SO
    omega
   have tj:ir t.kids<=1000000:=by have:=ht.size;rw[Tm.kE,Tm.jM]at this;omega
   have PI:=ik x
   have hdr:t.kids.drop k=x::t.kids.drop (k+1):=by
    obtain⟨h5,h6⟩:=List.getElem?_eq_some_iff.1 hx
    exact SZ
   refine dD hx ?_
   refine bg (ih x de (ht.lx de)) ?_
   refine dD hx ?_
   refine aL (fun j:Nat=>⟨bB [.aa, .ptr 0 0, .aa, .d (.sl ((mw t.op t.n k ((bH x).take j) out).map .i)), .d (.i k), .d (.sl ((bH x).map .i)), .d (.i j)],fu t.row,1⟩)
    (fun j=>j<=(bH x).length) (fun j=>(bH x).length - j) 0 (Nat.zero_le _) (bM.d1 _ (aW rfl) ad rfl ?_) (fun j hj=> ?_)
   ·exact cM
   refine aJ ?_
   refine ak (fun h3=> ?_) (fun h3=> ?_)
   ·simp at h3
    obtain⟨v,I9⟩:=aw h3
    have Gc:=nP t.op t.n k ((bH x).take j) out
    have htl:((bH x).take j).length<=(bH x).length:=by rw[List.length_take];omega
    cases b1:(t.op !=8)with
    |true=>
     have hc:(t.op !=8||(k:Int)!=1||v !=t.n)=true:=by rw[b1];rfl
     refine ud I9 b1 ?_
     refine ao aZ ?_
     refine dD I9 ?_
     refine bg (Gq _ v ad) ?_
     refine aJ ?_
     refine au (j+1) h3 ad (bM.d1 _ (aW rfl) ad rfl ?_)
     rw[om I9,if_pos hc]
     exact cM
    |false=>
     cases b2:((k:Int)!=1)with
     |true=>
      have hc:(t.op !=8||(k:Int)!=1||v !=t.n)=true:=by rw[b1,b2];rfl
      refine yS I9 b1 b2 ?_
      refine ao aZ ?_
      refine dD I9 ?_
      refine bg (Gq _ v ad) ?_
      refine aJ ?_
      refine au (j+1) h3 ad (bM.d1 _ (aW rfl) ad rfl ?_)
      rw[om I9,if_pos hc]
      exact cM
     |false=>
      refine yS I9 b1 b2 ?_
      refine ao aZ ?_
      refine dD I9 ?_
      refine ak (fun h4=> ?_) (fun h4=> ?_)
      ·have hc:(t.op !=8||(k:Int)!=1||v !=t.n)=true:=by rw[h4];simp
       refine dD I9 ?_
       refine bg (Gq _ v ad) ?_
       refine aJ ?_
       refine au (j+1) h3 ad (bM.d1 _ (aW rfl) ad rfl ?_)
       rw[om I9,if_pos hc]
       exact cM
      ·have hc: ¬ (t.op !=8||(k:Int)!=1||v !=t.n)=true:=by rw[b1,b2,h4];simp
       refine dD I9 ?_
       refine au (j+1) h3 ad (bM.d1 _ (aW rfl) ad rfl ?_)
       rw[om I9,if_neg hc]
       exact cM
   ·simp at h3
    refine aJ ?_
    rw[List.take_of_length_le (by omega)]
    refine au (k+1,mw t.op t.n k (bH x) out) ⟨h2,by rw[hv,hdr];rfl, ?_⟩ mL (bM.d1 _ (aW rfl) ad rfl ?_)
    ·dsimp only
     have:=nP t.op t.n k (bH x) out
     omega
    ·exact cM
  ·simp at h2
   refine aJ ?_
   rw[hv,List.drop_eq_nil_of_le (by omega)]
   rfl
theorem O1:∀t:Tm,t.fits->a8 Tryz.prog 195 [t.d] (.ret [.bool (gR t)]):=by
 refine Tm.ck fun t ih hf=> ?_
 have fm:=(Tm.aP _).1 hf
 refine a8.aB mix aaC aj ?_
 rw[aaB,yC]
 refine aJ ?_
 refine aL (fun k:Nat=>⟨bB [.aa, .ptr 0 0, .aa, .d (.i k)],fu t.row,1⟩)
  (fun k=>k<=t.kids.length/\(t.kids.take k).all gR=true) (fun k=>t.kids.length - k) 0 ⟨Nat.zero_le _,aj⟩ (bM.d1 _ (aW rfl) ad rfl ?_) (fun k hk=> ?_)
 ·exact cM
 refine aJ ?_
 refine ak (fun h2=> ?_) (fun h2=> ?_)
 ·simp at h2
  obtain⟨x,hx⟩:=aw h2
  have de:=List.mem_of_getElem? hx
  refine dD hx ?_
  refine ai (ih x de (fm.2 x de)) rfl ?_
  refine aJ ?_
  refine ak (fun h3=> ?_) (fun h3=> ?_)
  ·refine aJ ?_
   simp at h3
   exact Td
  ·refine aJ ?_
   simp at h3
   refine au (k+1) ⟨h2,cG hx hk.2 h3⟩ ad (bM.d1 _ (aW rfl) ad rfl ?_)
   exact cM
 ·refine aJ ?_
  simp at h2
  rw[cH hk.2 h2];rfl
theorem WA:∀t:Tm,t.wU->∀b:List Int,b.length+t.sz<=1000000->a8 Tryz.prog 194 [t.d, .sl (b.map .i)] (.ret [.sl ((gu t b).1.map .i), .bool (gu t b).2]):=by
 refine Tm.ck fun t ih ht b hb=> ?_
 have fm:=(Tm.aP _).1 ht.fits
 refine a8.aB mix aaA aj ?_
 rw[aaz]
 by_cases h1:t.op=1
 ·rw[qK,if_pos h1]
  refine dD h1 ?_
  refine bw (Gq _ _ ad) ?_
  refine aJ ?_
  refine aq (LS _ _ ad) rfl ?_
  refine aJ ?_
  refine ao aZ ?_
  exact cI
 ·have cB:(t.op==1)=false:=by simpa using h1
  rw[qK,if_neg h1]
  refine dD cB ?_
  refine aL (fun i:Nat×List Int×Bool=>⟨bB [.aa, .d (.sl (i.2.1.map .i)), .ptr 0 0, .aa, .aa, .aa, .d (.bool i.2.2), .d (.i i.1)],fu t.row,1⟩)
   (fun i=>i.1<=t.kids.length/\gS t.kids b=(if i.2.2=true then gS (t.kids.drop i.1) i.2.1 else(i.2.1,false))/\i.2.1.length<=b.length+ir (t.kids.take i.1)) (fun i=>t.kids.length - i.1) (0,b,true) ⟨Nat.zero_le _,rfl,Nat.le_add_right _ _⟩ (bM.d1 _ (aW rfl) ad rfl ?_) ?_
  ·dsimp only
   exact cM
  rintro⟨k,b',is⟩ ⟨hk,hv,hlen⟩
  simp only at hk hv hlen
  have tj:=Tm.jM t
  have fin:is=false\/t.kids.length<=k->gS t.kids b=(b',is):=by
   intro h
   cases is with
   |false=>rw[hv];rfl
   |true=>
    have h:t.kids.length<=k:=by simpa using h
    rw[hv,List.drop_eq_nil_of_le h];rfl
  refine aJ ?_
  cases is with
  |false=>
   refine aJ ?_
   rw[fin (.inl rfl)]
  |true=>
   refine aJ ?_
   refine ak (fun h2=> ?_) (fun h2=> ?_)
   ·simp at h2
    obtain⟨x,hx⟩:=aw h2
    have de:=List.mem_of_getElem? hx
    have eh:ir (t.kids.take (k+1))=ir (t.kids.take k)+x.sz:=by
     rw[List.take_add_one,hx];simp[ir]
    have hle:ir t.kids=ir (t.kids.take (k+1))+ir (t.kids.drop (k+1)):=by
     conv=>lhs;rw[<- List.take_append_drop (k+1) t.kids]
     exact SO
    have hdr:t.kids.drop k=x::t.kids.drop (k+1):=by
     obtain⟨h5,h6⟩:=List.getElem?_eq_some_iff.1 hx
     exact SZ
    refine dD hx ?_
    refine bg (ih x de (ht.lx de) b' ad) ?_
    refine aJ ?_
    refine au (k+1,(gu x b').1,(gu x b').2) ⟨h2, ?_, ?_⟩ mL (bM.d1 _ (aW rfl) ad rfl ?_)
    ·dsimp only
     rw[hv,if_pos rfl,hdr]
     simp only[gS]
    ·dsimp only
     have:=Im x b'
     omega
    ·exact cM
   ·simp at h2
    refine aJ ?_
    rw[fin (.inr h2)]
theorem Ir(t:Tm)(ht:t.wU):a8 Tryz.prog 137 [t.d] (.ret [.bool ((gu t []).2&&gR t)]):=by
 have ho:=WA t ht [] (by have:=ht.size;rw[Tm.kE]at this;simp;omega)
 simp only[List.map_nil]at ho
 refine a8.aB mix aai aj ?_
 rw[aah]
 refine aJ ?_
 refine bg ho ?_
 refine aJ ?_
 refine gO (ft [.bool (gR t)] ?_ ?_)
 ·refine aJ ?_
  exact fun _=>O1 t ht.fits
 exact cI
def IC.snd:IC->IC
 | .seq _ y=>y
 |c=>c
def IC.fst:IC->IC
 | .seq x _=>x
 | .block _ x=>x
 | .loop x=>x
 | .cond _ x _=>x
 |c=>c
theorem dL{c:Nat}{G:List Gr}{so:Nat->ab}{gone:Nat->Prop}{x x' y y':ab}(h:x=y)(h':x'=y')(hs:wR c G so gone y y'):wR c G so gone x x':=by rw[h,h'];exact hs
theorem pH{l:List Tm}{k:Tm}(h:k∈l):k.sz<=ir l:=by
 induction l with
 |nil=>cases h
 |cons x l ih=>
  rw[eO]
  rcases List.mem_cons.1 h with e|e
  ·subst e;omega
  ·have:=ih e;omega
theorem WB:∀t:Tm,t.ja<=t.sz:=by
 refine Tm.ck fun t ih=> ?_
 rw[Tm.vz,Tm.jM]
 have:=(tV t.kids (ir t.kids)).2 fun k hk=>Nat.le_trans (ih k hk) (pH hk)
 omega
theorem Tm.wU.EW {t:Tm}(hf:t.fits)(h:t.sz<=900000):t.wU:=⟨⟨hf,Nat.le_trans (WB t) h⟩,by rw[Tm.kE];omega⟩
theorem vY(l:List Tm)(h:∀k∈l,(cL k).length<=k.sz):(bL l).length<=ir l:=by
 induction l with
 |nil=>simp[bL]
 |cons k l ih=>
  rw[bL,List.length_append,eO]
  have:=h k aj
  have:=ih fun x hx=>h x lY
  omega
theorem sr:∀t:Tm,(cL t).length<=t.sz:=by
 refine Tm.ck fun t ih=> ?_
 have:=vY t.kids ih
 rw[jg,List.length_append,Tm.jM]
 split<;>simp<;>omega
theorem w8(a b:List Tm):bL (a++b)=bL a++bL b:=by
 induction a with
 |nil=>simp[bL]
 |cons k a ih=>simp[bL,ih]
def LU:IC:=Ou.snd.snd.snd.fst.snd.fst.fst
theorem vZ{t:Tm}(hf:t.fits)(hz:t.sz<=1000000)(ih:∀k∈t.kids,k.fits->k.sz<=1000000->a8 Tryz.prog 196 [k.d] (.ret [.sl ((cL k).map .i)]))(p:List Int)(hp:p.length<=1){e:Nat->V}{o:Nat->ab}{nx:Nat}{Q:fS->S->Prop}
 (hs:bM 0 ⟨e,o,nx⟩ ⟨bB [.aa, .ptr 0 0, .aa, .osl 1 0, .d (.i 0)],aM (aM (fun _=> .no) 0 (.row t.row)) 1 (.arr 0 3 1 (p.map .i)),2⟩)
 (hQ:∀e' n',e' 3= .osl 1 0->Q (.exit 0) ⟨e',aM (aM (fun _=> .no) 0 (.row t.row)) 1 (.arr 0 3 1 ((p++bL t.kids).map .i)),n'⟩):
 uV 0 (fun Q s=>kX Tryz.prog 29 0 false LU Q s) Q ⟨e,o,nx⟩:=by
 have fm:=(Tm.aP _).1 hf
 have tj:=Tm.jM t
 refine aL (fun i:Nat=>⟨bB [.aa, .ptr 0 0, .aa, .osl 1 0, .d (.i i)],aM (aM (fun _=> .no) 0 (.row t.row)) 1 (.arr 0 3 1 ((p++bL (t.kids.take i)).map .i)),2⟩)
  (fun i=>i<=t.kids.length) (fun i=>t.kids.length - i) 0 (Nat.zero_le _) ?_ fun k hk=> ?_
 ·simpa[bL]using hs
 replace hk:k<=t.kids.length:=hk
 simp only[LU,Ou,IC.snd,IC.fst]
 refine jk ?_
 refine ak (fun h2=> ?_) (fun h2=> ?_)
 ·simp at h2
  obtain⟨x,hx⟩:=aw h2
  have de:=List.mem_of_getElem? hx
  have C2:t.kids.take (k+1)=t.kids.take k++[x]:=by rw[List.take_add_one,hx];rfl
  have xq:(bL (t.kids.take k)).length<=ir (t.kids.take k):=vY _ fun y _=>sr y
  have eh:ir t.kids=ir (t.kids.take k)+ir (t.kids.drop k):=by
   conv=>lhs;rw[<- List.take_append_drop k t.kids]
   exact SO
  have DH:=pH de
  have Jm:=sr x
  have hl3:(p++bL (t.kids.take k)).length<=1000001:=by rw[List.length_append];omega
  refine eG hx ?_
  refine bg (ih x de (fm.2 x de) ad) ?_
  refine eG hx ?_
  refine au (k+1) h2 ad (bM.vi (fun j=>j=1) (.osl 1 1) 1 _ ad (lt1 (dL (y:= .row t.row) dC dC (b8 rfl lA))) (ae _ _ _) (.inr ⟨1,1,rfl,rfl,by(repeat(first|rfl|rw[ae]|rw[ah _ _ _ _ (by omega)]));rw[C2,w8, <- List.append_assoc,List.map_append];simp[bL]⟩) (fun j hj=>by(repeat(first|rfl|rw[ae]|rw[ah _ _ _ _ (by omega)]))) (fun j h h2=>ad) ?_)
  exact Dw
 ·simp at h2
  have Gc:k=t.kids.length:=ad
  subst Gc
  rw[List.take_length]
  refine jk ?_
  exact hQ _ _ rfl
theorem O2:∀t:Tm,t.fits->t.sz<=1000000->a8 Tryz.prog 196 [t.d] (.ret [.sl ((cL t).map .i)]):=by
 refine Tm.ck fun t ih hf hz=> ?_
 refine a8.aB mix aaD aj ?_
 rw[Ou,jg]
 by_cases h8:t.op=8
 ·have Sr:(t.op==8)=true:=by simpa using h8
  refine dD Sr ?_
  rw[if_pos h8]
  refine vZ hf hz ih [t.n] aj ?_ fun e' n' he=> ?_
  ·refine bM.vi (fun j=>1<=j) _ 1 _ ad (lt1 (dL (y:= .row t.row) dC dC (b8 rfl lA))) (ae _ _ _) (.inr ⟨_,_, ?_,rfl,by(repeat(first|rfl|rw[ae]|rw[ah _ _ _ _ (by omega)]))⟩) (fun j hj=>by(repeat(first|rfl|rw[ae]|rw[ah _ _ _ _ (by omega)]))) (fun j h h2=>ad) ?_
   ·decide
   ·exact Dw
  ·exact X6
 ·have Sr:(t.op==8)=false:=by simpa using h8
  refine dD Sr ?_
  rw[if_neg h8]
  refine vZ hf hz ih [] aj ?_ fun e' n' he=> ?_
  ·refine bM.vi (fun _=>False) .bO 1 _ ad (lt1 (b8 rfl lA)) (ae _ _ _) (.inl ⟨rfl,rfl,aZ⟩) (fun j hj=>by(repeat(first|rfl|rw[ae]|rw[ah _ _ _ _ (by omega)]))) (fun _ h=>h.elim) ?_
   exact Dw
  ·exact X6
theorem LV(l:List Int)(n:Int)(hl:l.length<=1000000):a8 Tryz.prog 197 [.sl (l.map .i), .i n] (.ret [.i (l.count n)]):=by
 refine a8.aB mix aaF aj ?_
 rw[aaE]
 refine aJ ?_
 refine aL (fun k:Nat=>⟨bB [.d (.sl (l.map .i)), .d (.i n), .aa, .aa, .aa, .d (.i ((l.take k).count n)), .d (.i k)],fun _=> .no,0⟩)
  (fun k=>k<=l.length) (fun k=>l.length - k) 0 (Nat.zero_le _) (bM.d0 _ ?_) (fun k hk=> ?_)
 ·exact cM
 replace hk:k<=l.length:=hk
 have hc:(l.take k).count n<=1000000:=by have:=List.count_le_length (a:=n) (l:=l.take k);rw[List.length_take]at this;omega
 refine jk ?_
 refine ak (fun h2=> ?_) (fun h2=> ?_)
 ·simp at h2
  obtain⟨x,hx⟩:=aw h2
  have C2:(l.take (k+1)).count n=(l.take k).count n+if x=n then 1 else 0:=by rw[List.take_add_one,hx,List.count_append];simp[List.count_singleton]
  refine eG hx ?_
  refine ak (fun h3=> ?_) (fun h3=> ?_)
  ·have rG:x=n:=by simpa using h3
   rw[if_pos rG]at C2
   refine eG hx ?_
   refine au (k+1) h2 ad (bM.d0 _ ?_)
   rw[C2]
   exact cM
  ·have rG: ¬x=n:=by simpa using h3
   rw[if_neg rG]at C2
   refine eG hx ?_
   refine au (k+1) h2 ad (bM.d0 _ ?_)
   rw[C2]
   exact cM
 ·simp at h2
  refine aJ ?_
  rw[List.take_of_length_le h2]
theorem s6(n:Int):∀l:List Tm,gr n l=l.all (dz n)
 |[]=>rfl
 |k::l=>by simp[gr,s6 n l]
theorem C3(n:Int):∀t:Tm,t.fits->a8 Tryz.prog 138 [t.d, .i n] (.ret [.bool (dz n t)]):=by
 refine Tm.ck fun t ih hf=> ?_
 have fm:=(Tm.aP _).1 hf
 refine a8.aB mix aak aj ?_
 rw[aaj,pE,s6]
 refine aJ ?_
 refine aL (fun k:Nat=>⟨bB [.aa, .d (.i n), .ptr 0 0, .aa, .aa, .d (.i k)],fu t.row,1⟩)
  (fun k=>k<=t.kids.length/\(t.kids.take k).all (dz n)=true) (fun k=>t.kids.length - k) 0 ⟨Nat.zero_le _,aj⟩ (bM.d1 _ (aW rfl) ad rfl ?_) (fun k hk=> ?_)
 ·exact cM
 refine aJ ?_
 refine ak (fun h2=> ?_) (fun h2=> ?_)
 ·simp at h2
  obtain⟨x,hx⟩:=aw h2
  have de:=List.mem_of_getElem? hx
  refine dD hx ?_
  refine ai (ih x de (fm.2 x de)) rfl ?_
  refine aJ ?_
  refine ak (fun h3=> ?_) (fun h3=> ?_)
  ·refine aJ ?_
   simp at h3
   exact Td
  ·refine aJ ?_
   simp at h3
   refine au (k+1) ⟨h2,cG hx hk.2 h3⟩ ad (bM.d1 _ (aW rfl) ad rfl ?_)
   exact cM
 ·simp at h2
  rw[cH hk.2 h2,Bool.true_and]
  exact cI
theorem C4(l:List Tm):a8 Tryz.prog 141 [.sl (l.map Tm.d)] (.ret [(Tm.mk 0 0 l).d]):=by
 refine a8.aB mix aaq aj ?_
 rw[aap,Tm.lz]
 exact cI
structure LW (l:List Tm):Prop where
 len:l.length<=1000
 all:∀t∈l,t.fits/\t.sz<=500
theorem LW.cnt {l:List Tm}(h:LW l){t:Tm}(ht:t∈l):t.wU:=Tm.wU.EW (h.all t ht).1 (by have:=(h.all t ht).2;omega)
theorem LW.ir {l:List Tm}(h:LW l):ir l<=500000:=by
 have:∀l:List Tm,(∀t∈l,t.sz<=500)->Go.Proofs.YtonbelhklnmjnaaGreat.ir l<=500*l.length:=by
  intro l
  induction l with
  |nil=>intro _;simp[Go.Proofs.YtonbelhklnmjnaaGreat.ir]
  |cons k l ih=>intro h;rw[eO,List.length_cons];have:=h k aj;have:=ih fun x hx=>h x lY;omega
 have:=this l fun t ht=>(h.all t ht).2
 have:=h.len
 omega
theorem LW.fits {l:List Tm}(h:LW l):(Tm.mk 0 0 l).fits:=by
 rw[Tm.aP]
 exact⟨by have:=h.len;simp only[Tm.kids];omega,fun k hk=>(h.all k hk).1⟩
theorem LW.whole {l:List Tm}(h:LW l):(Tm.mk 0 0 l).wU:=Tm.wU.EW h.fits (by have:=h.ir;rw[Tm.Sl];omega)
theorem LX(l:List Tm)(h:LW l):a8 Tryz.prog 139 [.sl (l.map Tm.d)] (.ret [.bool (CQ l)]):=by
 have hlen:=h.len
 refine a8.aB mix aam aj ?_
 rw[aal]
 refine aJ ?_
 refine aL (fun k:Nat=>⟨bB [.d (.sl (l.map Tm.d)), .aa, .aa, .d (.i (((l.take k).map fun t=>(bH t).length).sum:Nat)), .d (.i k)],fun _=> .no,0⟩)
  (fun k=>k<=l.length) (fun k=>l.length - k) 0 (Nat.zero_le _) (bM.d0 _ ?_) (fun k hk=> ?_)
 ·exact cM
 replace hk:k<=l.length:=hk
 have hs:((l.take k).map fun t=>(bH t).length).sum<=500000:=by
  have h1:∀m:List Tm,(m.map fun t=>(bH t).length).sum<=Go.Proofs.YtonbelhklnmjnaaGreat.ir m:=by
   intro m
   induction m with
   |nil=>simp[Go.Proofs.YtonbelhklnmjnaaGreat.ir]
   |cons x m ih=>rw[List.map_cons,List.sum_cons,eO];have:=ik x;omega
  have h2:Go.Proofs.YtonbelhklnmjnaaGreat.ir l=Go.Proofs.YtonbelhklnmjnaaGreat.ir (l.take k)+Go.Proofs.YtonbelhklnmjnaaGreat.ir (l.drop k):=by
   conv=>lhs;rw[<- List.take_append_drop k l]
   unfold Go.Proofs.YtonbelhklnmjnaaGreat.ir;rw[List.map_append,List.sum_append]
  have:=h1 (l.take k)
  have:=h.ir
  omega
 refine jk ?_
 refine ak (fun h2=> ?_) (fun h2=> ?_)
 ·simp at h2
  obtain⟨x,hx⟩:=aw h2
  have de:=List.mem_of_getElem? hx
  have hv:=ik x
  have hx5:=(h.all x de).2
  have C2:((l.take (k+1)).map fun t=>(bH t).length).sum=((l.take k).map fun t=>(bH t).length).sum+(bH x).length:=by rw[List.take_add_one,hx,List.map_append,List.sum_append];simp
  refine eG hx ?_
  refine bg (qQ x (h.cnt de)) ?_
  refine eG hx ?_
  refine au (k+1) h2 ad (bM.d0 _ ?_)
  rw[C2]
  exact cM
 ·simp at h2
  refine aJ ?_
  refine bg (C4 l) ?_
  refine aJ ?_
  refine bg (qQ _ h.whole) ?_
  rw[List.take_of_length_le h2]
  refine jk ?_
  congr 3
  rw[CQ,Bool.eq_iff_iff]
  simp
  omega
theorem O3(t:Tm)(ht:t.wU)(p:List Int)(hp:p.length<=1000000):a8 Tryz.prog 140 [t.d, .sl (p.map .i)] (.ret [.bool (pG t p)]):=by
 have hz:t.sz<=1000000:=by have:=ht.size;rw[Tm.kE]at this;omega
 have hl:=sr t
 have hv:=ik t
 refine a8.aB mix aao aj ?_
 rw[aan]
 refine aJ ?_
 refine bw (O2 t ht.fits hz) ?_
 refine aJ ?_
 refine bw (qQ t ht) ?_
 refine aJ ?_
 refine ao aZ ?_
 refine aJ ?_
 let q:Int->Bool:=fun v=> !(decide (1<((cL t).count v:Int))||p.contains v||(bH t).contains v)
 have hq:pG t p=(cL t).all q:=rfl
 rw[hq]
 refine aL (fun k:Nat=>⟨bB [.aa, .d (.sl (p.map .i)), .ptr 0 0, .aa, .aa, .d (.sl ((cL t).map .i)), .d (.sl ((bH t).map .i)), .d (.i k)],fu t.row,1⟩)
  (fun k=>k<=(cL t).length/\((cL t).take k).all q=true) (fun k=>(cL t).length - k) 0 ⟨Nat.zero_le _,aj⟩ (bM.d1 _ (aW rfl) ad rfl ?_) (fun k hk=> ?_)
 ·exact cM
 refine jk ?_
 refine ak (fun h2=> ?_) (fun h2=> ?_)
 ·simp at h2
  obtain⟨x,hx⟩:=aw h2
  have hqx:q x= !(decide (1<((cL t).count x:Int))||p.contains x||(bH t).contains x):=rfl
  refine eG hx ?_
  refine ai (LV (cL t) x ad) rfl ?_
  cases h3:decide (1<((cL t).count x:Int))with
  |true=>
   refine oo hx h3 ?_
   rw[cc hx (by rw[hqx,h3];rfl)]
  |false=>
   refine oo hx h3 ?_
   refine ai (LS p x ad) rfl ?_
   cases h4:p.contains x with
   |true=>
    refine oo hx h3 ?_
    rw[cc hx (by rw[hqx,h3,h4];rfl)]
   |false=>
    refine oo hx h3 ?_
    refine ai (LS (bH t) x ad) rfl ?_
    cases h5:(bH t).contains x with
    |true=>
     refine oo hx h3 ?_
     rw[cc hx (by rw[hqx,h3,h4,h5];rfl)]
    |false=>
     refine oo hx h3 ?_
     refine au (k+1) ⟨h2,cG hx hk.2 (by rw[hqx,h3,h4,h5];rfl)⟩ ad (bM.d1 _ (aW rfl) ad rfl ?_)
     exact cM
 ·simp at h2
  rw[cH hk.2 h2]
  exact cI
def yI(s:a7)(n:Int)(p:Tm):Bool:=(dP s p&&((gu p []).2&&gR p))&&dz n p
theorem yJ(s:a7)(r:Rl):fY s r=((kI s r&&dP s r.rhs)&&r.bn.all (yI s r.vars)&&(CQ r.bn&&dz r.vars r.rhs&&pG r.rhs (bH (.mk 0 0 r.bn)))):=rfl
set_option maxHeartbeats 1000000 in
theorem WC(s:a7)(hs:s.Fits)(r:Rl)(hp:LW r.bn)(hf:r.rhs.fits)(hz:r.rhs.sz<=500):a8 Tryz.prog 101 [s.d,r.d] (.ret [.bool (fY s r)]):=by
 have Dz:=hp.len
 have hlf:=hs.lf
 have hrc:r.rhs.wU:=Tm.wU.EW hf ad
 refine a8.aB mix ZY aj ?_
 rw[ZX]
 have fin:(kI s r&&dP s r.rhs)=false->fY s r=false:=fun h=>by rw[yJ,h];rfl
 refine SA ?_
 refine aq (vl _ _ _) rfl ?_
 cases f1:c6 r.fn 0 ((s.bX.length:Int) - 1)with
 |false=>
  have e:fY s r=false:=fin (by
   have:kI s r=false:=by
    simp only[c6,Bool.and_eq_false_iff,decide_eq_false_iff_not]at f1
    unfold kI
    by_cases h:0<=r.fn
    ·rw[List.getElem?_eq_none (by omega:s.bX.length<=r.fn.toNat)];simp
    ·rw[decide_eq_false h];rfl
   rw[this];rfl)
  refine SA ?_
  refine ao (aI rfl) ?_
  refine aJ ?_
  rw[e]
 |true=>
 obtain⟨h0,x,hx⟩:=gG f1
 have CU:kI s r=((r.bn.length:Int)==x.args&&decide (0<=r.vars)&&decide (r.vars<=20)):=by
  unfold kI;rw[hx];simp[h0]
 cases f2:((r.bn.length:Int)!=x.args)with
 |true=>
  have e:fY s r=false:=fin (by
   have:((r.bn.length:Int)==x.args)=false:=by simpa using f2
   rw[CU,this];rfl)
  refine Du hx f2 ?_
  refine ao (aI rfl) ?_
  refine aJ ?_
  rw[e]
 |false=>
 have Ds:((r.bn.length:Int)==x.args)=true:=by simpa using f2
 refine Du hx f2 ?_
 refine aq (vl _ _ _) rfl ?_
 cases f3:c6 r.vars 0 20 with
 |false=>
  have e:fY s r=false:=fin (by
   have:(decide (0<=r.vars)&&decide (r.vars<=20))=false:=f3
   rw[CU,Bool.and_assoc ((r.bn.length:Int)==x.args),this];simp)
  refine Du hx f2 ?_
  refine ao (aI rfl) ?_
  refine aJ ?_
  rw[e]
 |true=>
 have Gd:(decide (0<=r.vars)&&decide (r.vars<=20))=true:=f3
 refine Du hx f2 ?_
 refine aq (Ew s hs r.rhs hf) rfl ?_
 cases f4:dP s r.rhs with
 |false=>
  have e:fY s r=false:=fin (by rw[f4];simp)
  refine Du hx f2 ?_
  refine ao (aI rfl) ?_
  refine aJ ?_
  rw[e]
 |true=>
 have hh:kI s r=true:=by rw[CU,Ds,Bool.true_and,Gd]
 refine Du hx f2 ?_
 refine ao (aI rfl) ?_
 refine aJ ?_
 rw[yJ,hh,f4,Bool.true_and,Bool.true_and]
 refine aL (fun k:Nat=>⟨bB [.aa, .aa, .ptr 0 0, .ptr 1 0, .aa, .d (.i k)],rV s.row r.row,2⟩)
  (fun k=>k<=r.bn.length/\(r.bn.take k).all (yI s r.vars)=true) (fun k=>r.bn.length - k) 0 ⟨Nat.zero_le _,aj⟩ (bM.d2 _ (dk rfl rfl) ad rfl rfl ?_) (fun k hk=> ?_)
 ·exact cM
 refine jk ?_
 refine ak (fun h2=> ?_) (fun h2=> ?_)
 ·simp at h2
  obtain⟨y,hy⟩:=aw h2
  have Ex:=List.mem_of_getElem? hy
  have Dt:=hp.all y Ex
  refine eG hy ?_
  refine aq (Ew s hs y Dt.1) rfl ?_
  cases g1:dP s y with
  |false=>
   refine eG hy ?_
   refine ao (aI rfl) ?_
   refine aJ ?_
   rw[cc hy (by rw[yI,g1];rfl)];rfl
  |true=>
  refine eG hy ?_
  refine aq (Ir y (hp.cnt Ex)) rfl ?_
  cases g2:((gu y []).2&&gR y)with
  |false=>
   refine eG hy ?_
   refine ao (aI rfl) ?_
   refine aJ ?_
   rw[cc hy (by rw[yI,g1,g2];rfl)];rfl
  |true=>
  refine eG hy ?_
  refine aq (C3 r.vars y Dt.1) rfl ?_
  cases g3:dz r.vars y with
  |false=>
   refine eG hy ?_
   refine ao (aI rfl) ?_
   refine aJ ?_
   rw[cc hy (by rw[yI,g1,g2,g3];rfl)];rfl
  |true=>
  refine eG hy ?_
  refine ao (aI rfl) ?_
  refine aJ ?_
  refine au (k+1) ⟨h2,cG hy hk.2 (by rw[yI,g1,g2,g3];rfl)⟩ ad (bM.d2 _ (dk rfl rfl) ad rfl rfl ?_)
  exact cM
 ·simp at h2
  rw[cH hk.2 h2,Bool.true_and]
  refine jk ?_
  refine aq (LX r.bn hp) rfl ?_
  cases g1:CQ r.bn with
  |false=>
   refine jk ?_
   refine ao (aI rfl) ?_
   exact cI
  |true=>
  refine jk ?_
  refine aq (C3 r.vars r.rhs hf) rfl ?_
  cases g2:dz r.vars r.rhs with
  |false=>
   refine jk ?_
   refine ao (aI rfl) ?_
   exact cI
  |true=>
  refine jk ?_
  refine bw (C4 r.bn) ?_
  refine jk ?_
  refine bw (qQ _ hp.whole) ?_
  refine jk ?_
  refine aq (O3 r.rhs hrc _ ?_) rfl ?_
  ·have:=ik (.mk 0 0 r.bn);have:=hp.ir;rw[Tm.Sl]at*;omega
  refine jk ?_
  refine ao (aI rfl) ?_
  exact cI
structure Pg.Fw (p:Pg):Prop where
 sig:p.sig.Fits
 len:p.rules.length<=1000
 all:∀r∈p.rules,LW r.bn/\r.rhs.fits/\r.rhs.sz<=500
theorem O4(p:Pg)(hp:p.Fw):a8 Tryz.prog 57 [p.d] (.ret [.bool (eE p)]):=by
 have hl:=hp.len
 refine a8.aB mix acL aj ?_
 rw[c57,eE]
 refine jk ?_
 refine ai (aaU p.sig hp.sig) rfl ?_
 cases h1:kB p.sig with
 |false=>
  exact SD
 |true=>
 cases h2:decide (16<(p.rules.length:Int))with
 |true=>
  have kn:decide (p.rules.length<=16)=false:=by simp at h2|-;omega
  refine eG h2 ?_
  rw[kn];rfl
 |false=>
 have kn:decide (p.rules.length<=16)=true:=by simp at h2|-;omega
 refine eG h2 ?_
 rw[kn,Bool.true_and,Bool.true_and]
 refine aL (fun k:Nat=>⟨bB [.aa, .ptr 0 0, .aa, .d (.i k)],fu p.row,1⟩)
  (fun k=>k<=p.rules.length/\(p.rules.take k).all (fY p.sig)=true) (fun k=>p.rules.length - k) 0 ⟨Nat.zero_le _,aj⟩ (bM.d1 _ (aW rfl) ad rfl ?_) (fun k hk=> ?_)
 ·exact cM
 refine jk ?_
 refine ak (fun h2=> ?_) (fun h2=> ?_)
 ·simp at h2
  obtain⟨y,hy⟩:=aw h2
  have Dt:=hp.all y (List.mem_of_getElem? hy)
  refine eG hy ?_
  refine aq (WC p.sig hp.sig y Dt.1 Dt.2.1 Dt.2.2) rfl ?_
  cases g1:fY p.sig y with
  |false=>
   refine eG hy ?_
   refine ao (aI rfl) ?_
   refine aJ ?_
   rw[cc hy g1]
  |true=>
  refine eG hy ?_
  refine ao (aI rfl) ?_
  refine aJ ?_
  refine au (k+1) ⟨h2,cG hy hk.2 g1⟩ ad (bM.d1 _ (aW rfl) ad rfl ?_)
  exact cM
 ·simp at h2
  rw[cH hk.2 h2]
  exact cI
theorem EX(l:List Tm)(hl:l.length<=9223372036854775807)(hf:∀t∈l,t.fits):a8 Tryz.prog 120 [.sl (l.map Tm.d)] (.ret [.bool (eU l)]):=by
 refine a8.aB mix Z8 aj ?_
 rw[Z7]
 refine aJ ?_
 refine aL (fun k:Nat=>⟨bB [.d (.sl (l.map Tm.d)), .aa, .aa, .d (.i k)],fun _=> .no,0⟩)
  (fun k=>k<=l.length/\(l.take k).all iD=true) (fun k=>l.length - k) 0 ⟨Nat.zero_le _,aj⟩ (bM.d0 _ ?_) (fun k hk=> ?_)
 ·exact cM
 refine jk ?_
 refine ak (fun h2=> ?_) (fun h2=> ?_)
 ·simp at h2
  obtain⟨y,hy⟩:=aw (l:=l) (k:=k) ad
  have Dt:=hf y (List.mem_of_getElem? hy)
  refine eG hy ?_
  refine ai (Ae y Dt) rfl ?_
  cases g1:iD y with
  |false=>
   refine eG hy ?_
   rw[eU,cc hy g1,Bool.and_false]
  |true=>
  refine eG hy ?_
  refine au (k+1) ⟨ad,cG hy hk.2 g1⟩ ad (bM.d0 _ ?_)
  exact cM
 ·refine jk ?_
  congr 3
  by_cases h3:l.length<=6
  ·have h4:l.length<=k:=by simp at h2;omega
   rw[eU,cH hk.2 h4]
   simp;omega
  ·rw[eU,decide_eq_false h3]
   simp;omega
theorem Is(p:Pg)(hp:p.Fits):a8 Tryz.prog 76 [p.d] (.ret [.bool (gv p)]):=by
 have hl:=hp.len
 let q:Rl->Bool:=fun r=>eU r.bn&&iD r.rhs
 have hq:gv p=((jb p.sig&&decide (p.rules.length<=20))&&p.rules.all q):=rfl
 refine a8.aB mix acU aj ?_
 rw[c76,hq]
 refine aJ ?_
 refine aL (fun k:Nat=>⟨bB [.aa, .ptr 0 0, .aa, .d (.i k)],fu p.row,1⟩)
  (fun k=>k<=p.rules.length/\(p.rules.take k).all q=true) (fun k=>p.rules.length - k) 0 ⟨Nat.zero_le _,aj⟩ (bM.d1 _ (aW rfl) ad rfl ?_) (fun k hk=> ?_)
 ·exact cM
 refine jk ?_
 refine ak (fun h2=> ?_) (fun h2=> ?_)
 ·simp at h2
  obtain⟨y,hy⟩:=aw (l:=p.rules) (k:=k) ad
  have Dt:=hp.all y (List.mem_of_getElem? hy)
  have hqy:q y=(eU y.bn&&iD y.rhs):=rfl
  refine eG hy ?_
  refine ai (EX y.bn Dt.bn Dt.all) rfl ?_
  cases g1:eU y.bn with
  |false=>
   refine eG hy ?_
   rw[cc hy (by rw[hqy,g1];rfl),Bool.and_false]
  |true=>
  refine eG hy ?_
  refine ai (Ae y.rhs Dt.rhs) rfl ?_
  cases g2:iD y.rhs with
  |false=>
   refine eG hy ?_
   rw[cc hy (by rw[hqy,g1,g2];rfl),Bool.and_false]
  |true=>
  refine eG hy ?_
  refine au (k+1) ⟨ad,cG hy hk.2 (by rw[hqy,g1,g2];rfl)⟩ ad (bM.d1 _ (aW rfl) ad rfl ?_)
  exact cM
 ·refine jk ?_
  refine ai (Ey p.sig hp.sig) rfl ?_
  cases g1:jb p.sig with
  |false=>exact SD
  |true=>
  refine jk ?_
  congr 3
  by_cases h3:p.rules.length<=20
  ·have h4:p.rules.length<=k:=by simp at h2;omega
   rw[cH hk.2 h4]
   simp;omega
  ·rw[decide_eq_false h3]
   simp;omega
theorem It{p:Pg}(hf:p.Fits)(h:gv p=true):p.Fw:=by
 simp only[gv,eU,Bool.and_eq_true,decide_eq_true_eq,List.all_eq_true,pC]at h
 obtain⟨⟨_,hl⟩,h⟩:=h
 refine⟨hf.sig,ad,fun r hr=> ?_⟩
 obtain⟨⟨a,b⟩,c⟩:=h r hr
 have zl:=hf.all r hr
 exact⟨⟨ad,fun t ht=>⟨zl.all t ht,by have:=(b t ht).1;omega⟩⟩,zl.rhs,ad⟩
theorem O5{f:Pf}{k:Nat}{x:Pf}(hx:f.kids[k]? =some x)(left d:Int)(h:0<=cl (f.sh.kids.take k) left d):cl (f.sh.kids.take (k+1)) left d=eo x.sh (cl (f.sh.kids.take k) left d) d:=
 sR (by rw[Pf.mz,List.getElem?_map,hx];rfl) left d h
theorem C5:∀t:Pf,t.fits->∀left depth:Int, -1<=left/\left<=1000000-> -1<=depth/\depth<=1000000->a8 Tryz.prog 58 [t.d, .i left, .i depth] (.ret [.i (eo t.sh left depth)]):=by
 refine Pf.ck fun t ih hf left depth hl hd=> ?_
 have fm:=(Pf.aP _).1 hf
 refine a8.aB mix acM aj ?_
 rw[c58]
 refine b9 ?_
 refine ak (fun h1=> ?_) (fun h1=> ?_)
 ·refine b9 ?_
  simp at h1
  rw[Cr h1]
 ·simp at h1
  refine b9 ?_
  rw[wrap64 (n:=left - 1) (by omega) (by omega),vm,if_neg (by omega)]
  have Gc:t.sh.kids.length=t.kids.length:=by rw[Pf.mz,List.length_map]
  refine aL (fun k:Nat=>⟨bB [.aa, .d (.i (cl (t.sh.kids.take k) (left - 1) (depth - 1))), .d (.i depth), .ptr 0 0, .aa, .aa, .aa, .d (.i k)],fu t.row,1⟩)
   (fun k=>k<=t.kids.length) (fun k=>t.kids.length - k) 0 (Nat.zero_le _) (bM.d1 _ (aW rfl) ad rfl ?_) (fun k hk=> ?_)
  ·exact cM
  have hb:=yg (t.sh.kids.take k) (left - 1) (depth - 1) ad
  simp+contextual only[go_sem,List.length_map]
  refine ak (fun h2=> ?_) (fun h2=> ?_)
  ·simp at h2
   obtain⟨x,hx⟩:∃x,t.kids[k]? =some x:=⟨t.kids[k],by simp[h2.1]⟩
   have de:=List.mem_of_getElem? hx
   refine fg hx ?_
   rw[wrap64 (n:=depth - 1) (by omega) (by omega)]
   refine ai (ih x de (fm.2.2.2.2 x de) _ _ ad ad) rfl ?_
   refine b9 ?_
   rw[<- O5 hx _ _ h2.2]
   refine au (k+1) h2.1 ad (bM.d1 _ (aW rfl) ad rfl ?_)
   exact cM
  ·refine b9 ?_
   simp only[Bool.and_eq_false_iff,decide_eq_false_iff_not]at h2
   congr 3
   rcases h2 with h2|h2
   ·rw[List.take_of_length_le (by omega)]
   ·exact sS _ _ ad
theorem LY(s:a7)(hs:s.Fits)(l:List Tm)(hl:l.length<=9223372036854775807)(hf:∀t∈l,t.fits):a8 Tryz.prog 24 [s.d, .sl (l.map Tm.d)] (.ret [.bool (mQ s l)]):=by
 refine a8.aB mix acu aj ?_
 rw[c24]
 refine aJ ?_
 refine aL (fun k:Nat=>⟨bB [.aa, .d (.sl (l.map Tm.d)), .ptr 0 0, .aa, .aa, .d (.i k)],fu s.row,1⟩)
  (fun k=>k<=l.length/\(l.take k).all (vF s)=true) (fun k=>l.length - k) 0 ⟨Nat.zero_le _,aj⟩ (bM.d1 _ (aW rfl) ad rfl ?_) (fun k hk=> ?_)
 ·exact cM
 refine jk ?_
 refine ak (fun h2=> ?_) (fun h2=> ?_)
 ·simp at h2
  obtain⟨y,hy⟩:=aw (l:=l) (k:=k) ad
  have Dt:=hf y (List.mem_of_getElem? hy)
  refine eG hy ?_
  refine aq (EF s hs y Dt) rfl ?_
  cases g1:vF s y with
  |false=>
   refine eG hy ?_
   refine ao (aI rfl) ?_
   refine aJ ?_
   rw[mQ,cc hy g1,Bool.and_false]
  |true=>
  refine eG hy ?_
  refine ao (aI rfl) ?_
  refine aJ ?_
  refine au (k+1) ⟨ad,cG hy hk.2 g1⟩ ad (bM.d1 _ (aW rfl) ad rfl ?_)
  exact cM
 ·refine jk ?_
  congr 3
  by_cases h3:l.length<=20
  ·have h4:l.length<=k:=by simp at h2;omega
   rw[mQ,cH hk.2 h4]
   simp;omega
  ·rw[mQ,decide_eq_false h3]
   simp;omega
def gH(l:List Tm):Bool:=decide (l.length<=25)&&l.all iG
theorem C6(l:List Tm)(hl:l.length<=9223372036854775807)(hf:∀t∈l,t.fits):a8 Tryz.prog 22 [.sl (l.map Tm.d)] (.ret [.bool (gH l)]):=by
 refine a8.aB mix acr aj ?_
 rw[c22]
 refine aJ ?_
 refine aL (fun k:Nat=>⟨bB [.d (.sl (l.map Tm.d)), .aa, .aa, .d (.i k)],fun _=> .no,0⟩)
  (fun k=>k<=l.length/\(l.take k).all iG=true) (fun k=>l.length - k) 0 ⟨Nat.zero_le _,aj⟩ (bM.d0 _ ?_) (fun k hk=> ?_)
 ·exact cM
 refine jk ?_
 refine ak (fun h2=> ?_) (fun h2=> ?_)
 ·simp at h2
  obtain⟨y,hy⟩:=aw (l:=l) (k:=k) ad
  have Dt:=hf y (List.mem_of_getElem? hy)
  refine eG hy ?_
  refine ai (vH y Dt) rfl ?_
  cases g1:iG y with
  |false=>
   refine eG hy ?_
   rw[gH,cc hy g1,Bool.and_false]
  |true=>
  refine eG hy ?_
  refine au (k+1) ⟨ad,cG hy hk.2 g1⟩ ad (bM.d0 _ ?_)
  exact cM
 ·refine jk ?_
  congr 3
  by_cases h3:l.length<=25
  ·have h4:l.length<=k:=by simp at h2;omega
   rw[gH,cH hk.2 h4]
   simp;omega
  ·rw[gH,decide_eq_false h3]
   simp;omega
theorem LZ(s:a7)(hs:s.Fits):∀f:Pf,f.fits->a8 Tryz.prog 59 [s.d,f.d] (.ret [.bool (gf s f)]):=by
 refine Pf.ck fun f ih hf=> ?_
 have fm:=(Pf.aP _).1 hf
 refine a8.aB mix acN aj ?_
 rw[c59,jh]
 refine aJ ?_
 refine ai (EF s hs f.val fm.1) rfl ?_
 cases h1:vF s f.val with
 |false=>
  refine aJ ?_
  rw[fZ,h1];rfl
 |true=>
 refine aJ ?_
 refine ai (LY s hs f.binds fm.2.1 fm.2.2.1) rfl ?_
 cases h2:mQ s f.binds with
 |false=>
  refine aJ ?_
  rw[fZ,h1,h2];rfl
 |true=>
 have hn:fZ s f=(f.bG==6||(f.num==0&&f.binds.length==0)):=by rw[fZ,h1,h2];rfl
 refine jk ?_
 refine ak (fun h3=> ?_) (fun h3=> ?_)
 ·have:fZ s f=false:=by
   rw[hn]
   simp only[Bool.and_eq_true,bne_iff_ne,Bool.or_eq_true,decide_eq_true_eq]at h3
   simp only[Bool.or_eq_false_iff,beq_eq_false_iff_ne,Bool.and_eq_false_iff]
   refine⟨h3.1, ?_⟩
   rcases h3.2 with h|h
   ·exact .inl h
   ·exact .inr ad
  refine aJ ?_
  rw[this];rfl
 ·have:fZ s f=true:=by
   rw[hn]
   simp only[Bool.and_eq_false_iff,bne_eq_false_iff_eq,Bool.or_eq_false_iff,decide_eq_false_iff_not]at h3
   simp only[Bool.or_eq_true,beq_iff_eq,Bool.and_eq_true]
   rcases h3 with h|h
   ·exact .inl h
   ·exact .inr ⟨h.1,ad⟩
  refine aJ ?_
  rw[this,Bool.true_and]
  refine aL (fun k:Nat=>⟨bB [.aa, .aa, .ptr 0 0, .ptr 1 0, .aa, .d (.i k)],rV s.row f.row,2⟩)
   (fun k=>k<=f.kids.length/\(f.kids.take k).all (gf s)=true) (fun k=>f.kids.length - k) 0 ⟨Nat.zero_le _,aj⟩ (bM.d2 _ (dk rfl rfl) ad rfl rfl ?_) (fun k hk=> ?_)
  ·exact cM
  refine jk ?_
  refine ak (fun h2=> ?_) (fun h2=> ?_)
  ·simp at h2
   obtain⟨y,hy⟩:=aw (l:=f.kids) (k:=k) ad
   have Ex:=List.mem_of_getElem? hy
   refine eG hy ?_
   refine aq (ih y Ex (fm.2.2.2.2 y Ex)) rfl ?_
   cases g1:gf s y with
   |false=>
    refine eG hy ?_
    refine ao (aI rfl) ?_
    refine aJ ?_
    rw[cc hy g1]
   |true=>
   refine eG hy ?_
   refine ao (aI rfl) ?_
   refine aJ ?_
   refine au (k+1) ⟨ad,cG hy hk.2 g1⟩ ad (bM.d2 _ (dk rfl rfl) ad rfl rfl ?_)
   exact cM
  ·simp at h2
   rw[cH hk.2 h2]
   exact cI
theorem L0(p:Pg)(hp:p.sig.Fits)(f:Pf)(hf:f.fits):a8 Tryz.prog 13 [p.d,f.d] (.ret [.bool (dT p.sig f)]):=by
 refine a8.aB mix acn aj ?_
 rw[c13,dT]
 refine aJ ?_
 refine ai (C5 f hf 500 150 ad ad) rfl ?_
 cases h1:decide (0<=eo f.sh 500 150)with
 |false=>exact yT h1
 |true=>
  refine dD h1 ?_
  refine ai (LZ p.sig hp f hf) rfl ?_
  exact cI
mutual
def mI:Pf->Bool
 | .mk _ v _ b kids=>(iG v&&gH b)&&Ay kids
def Ay:List Pf->Bool
 |[]=>true
 |k::l=>mI k&&Ay l
end
theorem qR(f:Pf):mI f=((iG f.val&&gH f.binds)&&f.kids.all mI):=by
 have:∀l:List Pf,Ay l=l.all mI:=fun l=>by
  induction l with
  |nil=>rfl
  |cons k l ih=>simp[Ay,ih]
 cases f;rw[mI,this];rfl
theorem WD:∀f:Pf,f.fits->a8 Tryz.prog 73 [f.d] (.ret [.bool (mI f)]):=by
 refine Pf.ck fun f ih hf=> ?_
 have fm:=(Pf.aP _).1 hf
 refine a8.aB mix acT aj ?_
 rw[c73,qR]
 refine aJ ?_
 refine ai (vH f.val fm.1) rfl ?_
 cases h1:iG f.val with
 |false=>exact cI
 |true=>
 refine aJ ?_
 refine ai (C6 f.binds fm.2.1 fm.2.2.1) rfl ?_
 cases h2:gH f.binds with
 |false=>exact cI
 |true=>
 refine aJ ?_
 refine aL (fun k:Nat=>⟨bB [.aa, .ptr 0 0, .aa, .d (.i k)],fu f.row,1⟩)
  (fun k=>k<=f.kids.length/\(f.kids.take k).all mI=true) (fun k=>f.kids.length - k) 0 ⟨Nat.zero_le _,aj⟩ (bM.d1 _ (aW rfl) ad rfl ?_) (fun k hk=> ?_)
 ·exact cM
 refine jk ?_
 refine ak (fun h2=> ?_) (fun h2=> ?_)
 ·simp at h2
  obtain⟨y,hy⟩:=aw (l:=f.kids) (k:=k) ad
  have Ex:=List.mem_of_getElem? hy
  refine eG hy ?_
  refine ai (ih y Ex (fm.2.2.2.2 y Ex)) rfl ?_
  cases g1:mI y with
  |false=>
   refine eG hy ?_
   rw[cc hy g1]
  |true=>
  refine eG hy ?_
  refine au (k+1) ⟨ad,cG hy hk.2 g1⟩ ad (bM.d1 _ (aW rfl) ad rfl ?_)
  exact cM
 ·simp at h2
  rw[cH hk.2 h2]
  exact cI
def kK(f:Pf):Bool:=decide (0<=eo f.sh 520 160)&&mI f
theorem Iu(f:Pf)(hf:f.fits):a8 Tryz.prog 34 [f.d] (.ret [.bool (kK f)]):=by
 refine a8.aB mix acy aj ?_
 rw[c34,kK]
 refine aJ ?_
 refine ai (C5 f hf 520 160 ad ad) rfl ?_
 cases h1:decide (0<=eo f.sh 520 160)with
 |false=>exact yT h1
 |true=>
  refine dD h1 ?_
  refine ai (WD f hf) rfl ?_
  exact cI
def gI(s:a7)(env:List Tm)(e:Tm):Bool:=(mQ s env&&dP s e)&&((bH e).length==0||decide ((bH e).getLast?.getD 0<(env.length:Int)))
theorem L1(p:Pg)(hp:p.sig.Fits)(env:List Tm)(hl:env.length<=9223372036854775807)(hf:∀t∈env,t.fits)(e:Tm)(he:e.wU):a8 Tryz.prog 18 [p.d, .sl (env.map Tm.d),e.d] (.ret [.bool (gI p.sig env e)]):=by
 have PI:=ik e
 have hz:=he.size
 rw[Tm.kE]at hz
 refine a8.aB mix acq aj ?_
 rw[c18,gI]
 refine aJ ?_
 refine ai (LY p.sig hp env hl hf) rfl ?_
 cases h1:mQ p.sig env with
 |false=>exact cI
 |true=>
 refine aJ ?_
 refine ai (Ew p.sig hp e he.fits) rfl ?_
 cases h2:dP p.sig e with
 |false=>exact cI
 |true=>
 refine aJ ?_
 refine bg (qQ e he) ?_
 cases h3:((bH e).length==0)with
 |true=>
  have rG:((bH e).length:Int)==0:=by simpa using h3
  simp+contextual (disch:=first|omega|simp only[go_sem,false_implies]) only[go_sem,wrap64,if_pos,List.length_map,rG]
 |false=>
  have rG:(((bH e).length:Int)==0)=false:=by simpa using h3
  have fP:0<(bH e).length:=by simp at h3;exact List.length_pos_iff.2 h3
  obtain⟨y,hy⟩:=aw (l:=bH e) (k:=(bH e).length - 1) ad
  have fQ:((bH e).length:Int) - 1=(((bH e).length - 1:Nat):Int):=ad
  have Kq:(bH e).getLast?=some y:=by rw[List.getLast?_eq_getElem?,hy]
  simp+contextual (disch:=first|omega|simp only[go_sem,false_implies]) only[go_sem,wrap64,if_pos,List.length_map,rG,fQ,hy,Kq,Option.getD_some]
theorem WE:fK.d= .agg [.i 16, .i 0, .sl []]:=by unfold fK;rw[Tm.lz];rfl
theorem WG(b:Bool):(gU b).d= .agg [.i 3, .i (if b=true then 1 else 0), .sl []]:=by unfold gU;rw[Tm.lz];rfl
def bdN(n:Int):Prop:= -1000000<=n/\n<=1000000
theorem EY(op a b:Int):(wZ op a b).d=if op=15 then(gU (decide (a<b))).d else .agg [.i 2, .i (if op=14 then a - b else a+b), .sl []]:=by
 unfold wZ
 split
 ·rfl
 ·rw[Tm.lz];rfl
theorem L2{l:List Tm}{t x:Tm}(h1:t.op=1)(hx:l[t.n.toNat]? =some x):il l t=x:=by rw[vT,if_pos h1,hx];rfl
def v7(n:Nat)(t:Tm):Prop:=∀x∈iM t,x.op=1->0<=x.n/\x.n<n
theorem v7.lx {n:Nat}{t k:Tm}(h:v7 n t)(hk:k∈t.kids):v7 n k:=fun x hx=>h x (by rw[nN];exact List.mem_cons_of_mem _ (List.mem_flatMap.2 ⟨k,hk,hx⟩))
def mJ(n:Nat):List Tm:=(List.range n).map fun i:Nat=> .mk 1 (i:Int) []
theorem EZ(n:Nat):mJ (n+1)=mJ n++[.mk 1 (n:Int) []]:=by simp[mJ,List.range_succ]
theorem yK:a8 Tryz.prog 94 [.sl []] (.ret [.sl []]):=by
 refine a8.aB mix KU aj ?_
 rw[XK]
 have hu:Tryz.prog.underlying 28=some (.slice 31):=af
 have heq:∀O,pU Tryz.prog O 28 true (.d (.sl [])) .bO=some .fh:=by
  intro O
  unfold pU
  rw[hu]
  rfl
 refine dD heq ?_
 simp only[List.isEmpty_nil,if_true]
 exact yT heq
theorem v8(l:List Tm)(iJ:l≠[])(hl:l.length<=1000000)(o:Nat->ab)(nx:Nat)(K X:V->(Nat->ab)->Nat->Prop)
 (hK:K (.osl (nx+3) 1) (aM o (nx+3) (.arr 1 31 3 (l.map Tm.d))) (nx+7)):
 cO Tryz.prog 94 [.d (.sl (l.map Tm.d))] o nx K X:=by
 refine cO.aB mix KU aj ?_
 rw[XK]
 have hu:Tryz.prog.underlying 28=some (.slice 31):=af
 have heq:∀O,pU Tryz.prog O 28 true (.d (.sl (l.map Tm.d))) .bO=some (.d (.bool false)):=by
  intro O
  unfold pU
  rw[hu]
  cases l with
  |nil=>exact absurd rfl iJ
  |cons a l=>rfl
 refine AU heq ?_
 simp only[List.isEmpty_nil,if_true]
 refine AU heq ?_
 rw[jn]
 exact hK
theorem C7(l:List Tm)(hl:l.length<=1000000)(h:∀t∈l,a8 Tryz.prog 53 [.sl (t.kids.map Tm.d)] (.ret [.sl (t.kids.map Tm.d)])):a8 Tryz.prog 53 [.sl (l.map Tm.d)] (.ret [.sl (l.map Tm.d)]):=by
 refine a8.aB mix ZC aj ?_
 rw[c53]
 cases iJ:l with
 |nil=>
  refine aJ ?_
  refine bg yK ?_
  refine aJ ?_
  refine aL (fun _:Unit=>⟨bB [.aa, .aa, .aa, .d (.sl []), .aa, .aa, .aa, .aa, .d (.sl []), .d (.i 0), .d (.i 0)],fun _=> .no,1⟩) (fun _=>True) (fun _=>0) () trivial (bM.bT _ ad ad dv (fun _ _=>rfl) ?_) (fun _ _=> ?_)
  ·exact cM
  exact cI
 |cons a r=>
  rw[<- iJ]
  have WH:l≠[]:=by rw[iJ];simp
  refine aJ ?_
  refine da (v8 l WH hl _ _ _ _ ?_)
  refine aJ ?_
  refine aL (fun i:Nat=>⟨bB [.aa, .aa, .aa, .osl 5 1, .aa, .aa, .aa, .aa, .osl 5 1, .d (.i l.length), .d (.i i)],aM (fun _=> .no) 5 (.arr 1 31 3 (l.map Tm.d)),6⟩)
   (fun k=>k<=l.length) (fun k=>l.length - k) 0 (Nat.zero_le _) (bM.bT _ ad ad dv (fun j hj=>by(repeat(first|rfl|rw[ae]|rw[ah _ _ _ _ (by omega)]))) ?_) (fun k hk=> ?_)
  ·exact cM
  replace hk:k<=l.length:=hk
  refine aJ ?_
  refine ak (fun h2=> ?_) (fun h2=> ?_)
  ·simp at h2
   obtain⟨x,hx⟩:=aw h2
   have de:=List.mem_of_getElem? hx
   refine dD hx ?_
   refine bg (h x de) ?_
   refine dD hx ?_
   have hxd:x.d= .agg [.i x.op, .i x.n, .sl (x.kids.map Tm.d)]:=by cases x;rw[Tm.lz];rfl
   have l9:(l.map Tm.d).set k x.d=l.map Tm.d:=by
    apply List.ext_getElem?
    intro i
    rw[List.getElem?_set]
    by_cases e:k=i
    ·subst e
     rw[if_pos rfl,if_pos (by simpa using h2),List.getElem?_map,hx];rfl
    ·rw[if_neg e]
   simp only[hxd,List.length_cons,List.length_nil,List.take,List.drop,List.append_nil,List.cons_append,List.nil_append]
   rw[if_pos (by omega)]
   refine dD l9 ?_
   refine au (k+1) h2 ad (bM.bT _ ad ad dv (fun j hj=> ?_) ?_)
   ·skip
    by_cases e:j=5
    ·subst e;(repeat(first|rfl|rw[ae]|rw[ah _ _ _ _ (by omega)]))
    ·rw[ah _ _ _ _ e,ah _ _ _ _ (by omega),ah _ _ _ _ (by omega)]
   ·exact cM
  ·simp at h2
   exact cI
theorem O6{l:List Tm}{k:Tm}(h:k∈l):k.sz<=ir l:=by
 induction l with
 |nil=>cases h
 |cons x l ih=>
  rw[eO]
  rcases List.mem_cons.1 h with rfl|h
  ·omega
  ·have:=ih h;omega
theorem Gs:∀l:List Tm,l.length<=ir l
 |[]=>Nat.zero_le _
 |x::l=>by
  have:=Gs l
  have:=Tm.vy x
  rw[eO,List.length_cons];omega
theorem C8:∀t:Tm,t.sz<=1000000->a8 Tryz.prog 53 [.sl (t.kids.map Tm.d)] (.ret [.sl (t.kids.map Tm.d)]):=by
 refine Tm.ck fun t ih hz=> ?_
 rw[Tm.jM]at hz
 have h1:=Gs t.kids
 exact C7 t.kids ad fun k hk=>ih k hk (by have:=O6 hk;omega)
theorem L3(l:List Tm)(hl:l.length<=1000000)(h:∀t∈l,t.sz<=1000000):a8 Tryz.prog 53 [.sl (l.map Tm.d)] (.ret [.sl (l.map Tm.d)]):=
 C7 l hl fun t ht=>C8 t (h t ht)
def O7:Tm:= .mk 0 0 []
theorem Az:O7.d= .agg [.i 0, .i 0, .sl []]:=by unfold O7;rw[Tm.lz];rfl
theorem qS{c:Nat}{G:List Gr}{so:Nat->ab}{gone:Nat->Prop}{x x' y y':ab}(h:x=y)(h':x'=y')(hs:wR c G so gone y y'):wR c G so gone x x':=by rw[h,h'];exact hs
@[reducible] def L4 (B:Nat->ab) (r c:Nat) (ds:List D) (ty sz:Nat) (es:List D):Nat->ab:=aM (aM B r (.row (ds.map .d++[.osl c 0]))) c (.arr 0 ty sz es)
theorem AA{c:Nat}{G:List Gr}{so:Nat->ab}{gone:Nat->Prop}{l l':List V}:∀ds:List D,vh c G so gone l l'->vh c G so gone (ds.map .d++l) (ds.map .d++l')
 |[],h=>h
 |d::ds,h=>V7 (AA ds h)
theorem L5(B:Nat->ab)(r c:Nat)(ds:List D)(ty sz:Nat)(es:List D):L4 B r c ds ty sz es c= .arr 0 ty sz es:=ae _ _ _
theorem L6(B:Nat->ab){r c:Nat}(h:r<c)(ds:List D)(ty sz:Nat)(es:List D):L4 B r c ds ty sz es r= .row (ds.map .d++[.osl c 0]):=(ah _ _ _ _ ad).trans (ae _ _ _)
theorem uc(B:Nat->ab){r c j:Nat}(h:j≠r)(h2:j≠c)(ds:List D)(ty sz:Nat)(es:List D):L4 B r c ds ty sz es j=B j:=(ah _ _ _ _ h2).trans (ah _ _ _ _ h)
theorem yL{B:Nat->ab}{r c:Nat}{ds:List D}{ty sz:Nat}{e:Nat->V}{so:Nat->ab}{m:Nat}(l:List V)(hg:Good B c)(Bb:∀j,c<=j->B j= .no)(hr:r<c)(ho:∀j,j<c->j≠r->so j=B j)(bZ:so r= .row (ds.map .d++[.bO]))(eh:0<sz)
 (he:mO c [⟨.bO,ty,sz,[]⟩] so (fun _=>False) e l 0):bM 0 ⟨e,so,m⟩ ⟨bB l,L4 B r c ds ty sz [],c+1⟩:=by
 refine bM.vi (fun _=>False) .bO c _ ad (fun j hj=> ?_) (L5 _ _ _ _ _ _ _) (.inl ⟨rfl,rfl,eh⟩) (fun j hj=> ?_) (fun _ h=>h.elim) he
 ·by_cases e1:j=r
  ·subst e1
   exact qS (y:= .row (ds.map .d++[.bO])) bZ (L6 B hr ds ty sz _) (Cq rfl (AA ds (K1 (g:=⟨.bO,ty,sz,[]⟩) 0 rfl rfl rfl Cp)))
  ·exact qS (y:=B j) (ho j hj e1) (uc B e1 ad ds ty sz _) (b8 rfl (fun q hq=>hg.refs j q hq))
 ·exact(uc B ad ad ds ty sz _).trans (Bb j ad)
theorem C9{B:Nat->ab}{r c ep:Nat}{ds:List D}{ty sz:Nat}{es:List D}{e:Nat->V}{so:Nat->ab}{m:Nat}(l:List V)(hg:Good B c)(Bb:∀j,c<=j->B j= .no)(hr:r<c)(ho:∀j,j<c->j≠r->so j=B j)(bZ:so r= .row (ds.map .d++[.osl c ep]))(cP:so c= .arr ep ty sz es)
 (he:mO c [⟨.osl c ep,ty,sz,es⟩] so (fun j=>j=c) e l 0):bM 0 ⟨e,so,m⟩ ⟨bB l,L4 B r c ds ty sz es,c+1⟩:=by
 refine bM.vi (fun j=>j=c) (.osl c ep) c _ ad (fun j hj=> ?_) (L5 _ _ _ _ _ _ _) (.inr ⟨c,ep,rfl,rfl,cP⟩) (fun j hj=> ?_) (fun j h h2=>ad) he
 ·by_cases e1:j=r
  ·subst e1
   exact qS (y:= .row (ds.map .d++[.osl c ep])) bZ (L6 B hr ds ty sz _) (Cq rfl (AA ds (K1 (g:=⟨.osl c ep,ty,sz,es⟩) 0 rfl rfl rfl Cp)))
  ·exact qS (y:=B j) (ho j hj e1) (uc B e1 ad ds ty sz _) (b8 rfl (fun q hq=>hg.refs j q hq))
 ·exact(uc B ad ad ds ty sz _).trans (Bb j ad)
end Go.Proofs.YtonbelhklnmjnaaGreat
