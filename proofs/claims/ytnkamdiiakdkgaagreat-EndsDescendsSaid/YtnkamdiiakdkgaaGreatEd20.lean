/-
  A PART OF THE PROOF. Conditions: none.
-/
import Derived.OpenShut
import Derived.Carry
import Derived.Handed
import Derived.JoinedOf
import Derived.ProofKit
import Derived.Test.YtnkamdiiakdkgaaGreatEd19
set_option linter.unusedSimpArgs false
set_option linter.unusedVariables false
section
namespace Go.Proofs.YtnkamdiiakdkgaaGreat
open Go.ChangeShapes Go.WideShapes Go.RowKit
def vn(P:Program)(rec:TypeId->Option (List TypeId)):Nat->List Field->Option (List TypeId)
 |_,[]=>some []
 |off,f::fs=>if f.offset=off then match rec f.type with
  |some l=>if P.cellsOf f.type=l.length then(vn P rec (off+l.length) fs).map (l++·)else none
  |none=>none else none
def l9(P:Program):Nat->TypeId->Option (List TypeId)
 |0,_=>none
 |n+1,t=>match P.underlying t with
  |some .bool|some (.int _)|some .string|some (.slice _)=>some [t]
  |some (.struct fs)=>vn P (l9 P n) 0 fs.toList
  |some (.array k e)=>match l9 P n e with
   |some l=>if P.cellsOf e=l.length then some (List.replicate k l).flatten else none
   |none=>none
  |_=>none
def isAgg(P:Program)(t:TypeId):Bool:=match P.underlying t with
 |some (.struct _)|some (.array _ _)=>true
 |_=>false
mutual
def D.jf (P:Program):D->TypeId->Prop
 | .int k n,t=>P.underlying t=some (.int k)/\(Lit.int k n).wf=true
 | .bool _,t=>P.underlying t=some .bool
 | .str l,t=>P.underlying t=some .string/\l.length<=maxLen
 | .sl es,t=>∃e,P.underlying t=some (.slice e)/\es.length<=maxLen/\D.HQ P es e
 | .agg cs,t=>isAgg P t=true/\∃ls,l9 P 20 t=some ls/\D.iE P cs ls
 |_,_=>False
def D.HQ (P:Program):List D->TypeId->Prop
 |[],_=>True
 |x::l,e=>D.jf P x e/\D.HQ P l e
def D.iE (P:Program):List D->List TypeId->Prop
 |[],ts=>ts=[]
 |x::l,ts=>∃t r,ts=t::r/\D.jf P x t/\D.iE P l r
end
def tt(P:Program)(T:List TypeId):Bool:=T.all fun t=>match l9 P 20 t with
 |some l=>decide (l.length=P.cellsOf t)&&decide (0<l.length)&&l.all fun u=>match P.underlying u with
  |some (.slice e)=>T.contains e
  |_=>true
 |none=>false
theorem qq{P:Program}:∀ {xs ys:List D} {l r:List TypeId},D.iE P xs l->D.iE P ys r->D.iE P (xs++ys) (l++r)
 |[],_,_,_,h,h'=>by simp only[D.iE]at h;subst h;exact h'
 |x::xs,_,_,_,h,h'=>by
  obtain⟨t,r,rfl,h1,h2⟩:=h
  exact⟨t,_,rfl,h1,qq h2 h'⟩
theorem bp{B:Nat->Prop}{w:World}:∀ {xs ys:List D} {l r:List Value},D.aD B w xs l->D.aD B w ys r->D.aD B w (xs++ys) (l++r)
 |[],_,_,_,h,h'=>by simp only[D.aD]at h;subst h;exact h'
 |x::xs,_,_,_,h,h'=>by
  obtain⟨t,r,rfl,h1,h2⟩:=h
  exact⟨t,_,rfl,h1,bp h2 h'⟩
theorem Flat.append {l r:List Value}(h:Flat l)(h':Flat r):Flat (l++r):=fun u hu=>(List.mem_append.1 hu).elim (h u) (h' u)
abbrev VL:Nat->Prop:=fun _=>False
section
variable {H:Type}{enc:TypeId×Value->H}{P:Program}{W:World}{T:List TypeId}{b0:Nat}
def da(P:Program)(W:World)(l:List TypeId)(cs:List Value):Prop:=∃xs,D.iE P xs l/\D.aD VL W xs cs/\Flat cs
theorem da.append {l r:List TypeId}{cs ds:List Value}(h:da P W l cs)(h':da P W r ds):da P W (l++r) (cs++ds):=by
 obtain⟨xs,a1,a2,a3⟩:=h
 obtain⟨ys,b1,b2,b3⟩:=h'
 exact⟨xs++ys,qq a1 b1,bp a2 b2,a3.append b3⟩
theorem da.length {l:List TypeId}{cs:List Value}(h:da P W l cs):cs.length=l.length:=by
 obtain⟨xs,a1,a2,_⟩:=h
 rw[D.aB _ _ a2]
 clear a2
 induction xs generalizing l with
 |nil=>simp only[D.iE]at a1;simp[a1]
 |cons x xs ih=>obtain⟨t,r,rfl,_,h⟩:=a1;simp[ih h]
theorem da.nil:da P W [] []:=⟨[],rfl,rfl,fun _ h=>by cases h⟩
theorem Cq{α:Type}(cs:List α)(o k:Nat):cs.drop o=(cs.drop o).take k++cs.drop (o+k):=by
 rw[<- List.drop_drop];exact(List.take_append_drop k _).symm
theorem qs{rec:TypeId->Option (List TypeId)}{cs:List Value}{rd:TypeId->List Value->Prop}
 (bz:∀t l vs,rec t=some l->(∀u∈l,∀e,P.underlying u=some (.slice e)->e∈T)->P.cellsOf t=l.length->rd t vs->da P W l vs):
 ∀ (fs:List Field) (off:Nat) (l:List TypeId),vn P rec off fs=some l->(∀u∈l,∀e,P.underlying u=some (.slice e)->e∈T)->(∀f∈fs,rd f.type ((cs.drop f.offset).take (P.cellsOf f.type)))->
   off+l.length=cs.length->da P W l (cs.drop off)
 |[],off,l,h,_,_,hl=>by
  simp only[vn,Option.some.injEq]at h
  subst h
  have:cs.drop off=[]:=List.drop_eq_nil_of_le (by simp at hl;omega)
  rw[this];exact da.nil
 |f::fs,off,l,h,hT,hr,hl=>by
  simp only[vn]at h
  split at h
  ·rename_i ho
   split at h
   ·rename_i l1 h1
    split at h
    ·rename_i hc
     simp only[Option.map_eq_some_iff]at h
     obtain⟨r,h2,rfl⟩:=h
     have hd:=hr f aL
     rw[ho,hc]at hd
     rw[Cq cs off l1.length]
     simp only[List.length_append]at hl
     exact(bz f.type l1 _ h1 (fun u hu=>hT u (by simp[hu])) hc hd).append (qs bz fs _ r h2 (fun u hu=>hT u (by simp[hu])) (fun f hf=>hr f (by simp[hf])) af)
    ·cases h
   ·cases h
  ·cases h
theorem sB{l:List TypeId}{cs:List Value}:∀ (k i:Nat),(∀j,j<k->da P W l ((cs.drop ((i+j)*l.length)).take l.length))->(i+k)*l.length=cs.length->da P W (List.replicate k l).flatten (cs.drop (i*l.length))
 |0,i,_,hl=>by
  have:cs.drop (i*l.length)=[]:=List.drop_eq_nil_of_le (by simp at hl;omega)
  rw[this];exact da.nil
 |k+1,i,h,hl=>by
  rw[List.replicate_succ,List.flatten_cons,Cq cs (i*l.length) l.length]
  refine(by simpa using h 0 af:da P W l _).append ?_
  rw[show i*l.length+l.length=(i+1)*l.length by rw[Nat.add_mul];omega]
  refine sB k (i+1) (fun j hj=> ?_) (by rw[<- hl];congr 1;omega)
  have:=h (j+1) af
  rwa [show i+(j+1)=i+1+j by omega]at this
theorem Cr{e:TypeId}{l:List TypeId}{cs:List Value}(hl:l9 P 20 e=some l)(h:da P W l cs):∃ (ev:Value) (x:D),ev.cells.toList=cs/\D.jf P x e/\D.den VL W x ev/\(isAgg P e=true->ev= .agg cs.toArray)/\(isAgg P e=false->cs=[ev]/\ev.oneCell'=true):=by
 obtain⟨xs,h1,h2,h3⟩:=h
 cases ha:isAgg P e with
 |true=>exact⟨.agg cs.toArray, .agg xs,by simp[Value.cells],⟨ha,l,hl,h1⟩,⟨_,rfl,by simpa using h2,by simpa using h3⟩,fun _=>rfl,(fun h=>by cases h)⟩
 |false=>
  have:l=[e]:=by
   unfold l9 at hl
   unfold isAgg at ha
   split at hl<;>simp_all
  subst this
  obtain⟨t,r,e1,h4,h5⟩:∃x r,xs=x::r/\D.jf P x e/\D.iE P r []:=by
   cases xs with
   |nil=>simp[D.iE]at h1
   |cons x r=>obtain⟨t,r',e1,h4,h5⟩:=h1;injection e1 with e1 e2;subst e1;subst e2;exact⟨x,r,rfl,h4,h5⟩
  subst e1
  have:r=[]:=by cases r with
   |nil=>rfl
   |cons y r=>obtain⟨_,_,e,_⟩:=h5;cases e
  subst this
  obtain⟨u,us,rfl,h6,h7⟩:=h2
  simp only[D.aD]at h7
  subst h7
  have ho:=h3 u aL
  refine⟨u,t, ?_,h4,h6,(fun h=>by cases h),fun _=>⟨rfl,ho⟩⟩
  cases u<;>simp_all[Value.oneCell',Value.cells]
theorem Cs(hp:tt P T=true){t:TypeId}(ht:t∈T):∃l,l9 P 20 t=some l/\l.length=P.cellsOf t/\0<l.length/\∀u∈l,∀e,P.underlying u=some (.slice e)->e∈T:=by
 have:=List.all_eq_true.1 hp t ht
 split at this
 ·rename_i l hl
  simp only[Bool.and_eq_true,decide_eq_true_eq,List.all_eq_true]at this
  refine⟨l,hl,this.1.1,this.1.2,fun u hu e he=> ?_⟩
  have:=this.2 u hu
  rw[he]at this
  simpa using this
 ·cases this
theorem D8(hp:tt P T=true):∀ (n m:Nat) (t:TypeId) (l:List TypeId) (cs:List Value) (x:DataW H×List MemPlace),l9 P m t=some l->(∀u∈l,∀e,P.underlying u=some (.slice e)->e∈T)->
 P.cellsOf t=l.length->DataW.trod enc P W 0 (fun _=>true) true n t cs=some x->da P W l cs:=by
 intro n
 induction n with
 |zero=>intro m t l cs x _ _ _ h;simp[DataW.trod]at h
 |succ n ih=>
  intro m t l cs x hl hT hc h
  cases m with
  |zero=>simp[l9]at hl
  |succ m=>
  unfold l9 at hl
  split at hl
  ·rename_i hu
   injection hl with hl;subst hl
   obtain⟨b,rfl,_⟩:=DataW.trod_bool hu h
   exact⟨[.bool b],⟨t,[],rfl,hu,rfl⟩,⟨_,_,rfl,rfl,rfl⟩,by simp[Flat,Value.oneCell']⟩
  ·rename_i k hu
   injection hl with hl;subst hl
   obtain⟨b,rfl,_,hw⟩:=DataW.trod_int hu h
   exact⟨[.int k b],⟨t,[],rfl,⟨hu,hw⟩,rfl⟩,⟨_,_,rfl,rfl,rfl⟩,by simp[Flat,Value.oneCell']⟩
  ·rename_i hu
   injection hl with hl;subst hl
   obtain⟨s,rfl,_,hw⟩:=DataW.trod_string hu h
   exact⟨[.str s.data.toList],⟨t,[],rfl,⟨hu,by simpa using hw⟩,rfl⟩,⟨_,_,rfl,⟨s,rfl,rfl⟩,rfl⟩,by simp[Flat,Value.oneCell']⟩
  ·rename_i e hu
   injection hl with hl;subst hl
   rcases DataW.trod_slice hu h with⟨rfl,_⟩|⟨a,len,cap,elems,rest,n',hn,rfl,_,_,h2,h3,h4,h5,h6,_⟩
   ·exact⟨[.sl []],⟨t,[],rfl,⟨e,hu,aL,trivial⟩,rfl⟩,⟨_,_,rfl,⟨none,0,0,rfl,rfl,aL,fun _=>rfl,0,(fun a ha=>by cases ha)⟩,rfl⟩,by simp[Flat,Value.oneCell']⟩
   ·injection hn with hn;subst hn
    obtain⟨l',g1,g2,g3,g4⟩:=Cs hp (hT t aL e hu)
    have at':∀i,i<len->∃ev:Value,∃y:D,ev.cells.size=P.cellsOf e/\fX VL W (a.add (i*P.cellsOf e)) ev.cells/\D.den VL W y ev/\D.jf P y e:=by
     intro i hi
     have:=h5 i hi
     rw[List.getElem?_eq_getElem (by omega)]at this
     obtain⟨ci,k1,k2⟩:=Option.bind_eq_some_iff.1 this
     obtain⟨_,k3,k4⟩:=World.cells?_some k1
     have k5:=ih 20 e l' ci _ g1 g4 g2.symm k2
     obtain⟨ev,y,q1,q2,q3,_,_⟩:=Cr g1 k5
     have q4:ev.cells=ci.toArray:=by rw[<- q1]
     refine⟨ev,y,by rw[q4];simp[k5.length,g2],fun j u hj=>⟨?_,fun h=>h⟩,q3,q2⟩
     rw[q4]at hj
     have H7:ci[j]? =some u:=by simpa using hj
     have ck:j<P.cellsOf e:=by rw[<- g2, <- k5.length];exact(List.getElem?_eq_some_iff.1 H7).1
     rw[k4 j ck];exact H7
    have list:∀k i,i+k=len->∃es,es.length=k/\D.HQ P es e/\D.elems VL W (P.cellsOf e) a i es:=by
     intro k
     induction k with
     |zero=>intro i _;exact⟨[],rfl,trivial,trivial⟩
     |succ k ihk=>
      intro i hi
      obtain⟨es,e1,e2,e3⟩:=ihk (i+1) af
      obtain⟨ev,y,y1,y2,y3,y4⟩:=at' i af
      exact⟨y::es,by simp[e1],⟨y4,e2⟩,⟨ev,y1,y2,y3⟩,e3⟩
    obtain⟨es,e1,e2,e3⟩:=list len 0 af
    have ab9:cap≠0->a.spot=none:=by
     intro iq
     have RI:∀z,(W.cells? 0 (a.add (0*P.cellsOf e)) (P.cellsOf e)).bind (DataW.trod enc P W 0 (fun _=>true) true n e)=some z->a.spot=none:=by
      intro z hz
      obtain⟨ci,k1,k2⟩:=Option.bind_eq_some_iff.1 hz
      obtain⟨_,k3,k4⟩:=World.cells?_some k1
      have k5:=k4 0 af
      rw[List.getElem?_eq_getElem (by omega)]at k5
      simpa[Addr.add]using World.cell?_spot k5
     by_cases hlen:0<len
     ·have:=h5 0 hlen
      rw[List.getElem?_eq_getElem (by omega)]at this
      exact RI _ this
     ·obtain⟨h7,h8⟩:=h6 rfl
      have:=h8 0 af
      rw[List.getElem?_eq_getElem (by omega),show(len+0)=0 by omega]at this
      exact RI _ this
    exact⟨[.sl es],⟨t,[],rfl,⟨e,hu,af,e2⟩,rfl⟩,⟨_,_,rfl,⟨some a,len,cap,rfl,e1.symm,h2,(fun h=>by cases h),P.cellsOf e,(fun a' Xk=>by injection Xk with Xk;subst Xk;exact⟨ab9,e3⟩)⟩,rfl⟩,by simp[Flat,Value.oneCell']⟩
  ·rename_i fs hu
   obtain⟨xs,n',hn,_,h2,h3,h4⟩:=DataW.trod_struct hu h
   injection hn with hn;subst hn
   have:=qs (P:=P) (W:=W) (T:=T) (cs:=cs) (rd:=fun t vs=>∃y,DataW.trod enc P W 0 (fun _=>true) true n t vs=some y) (rec:=l9 P m) (fun t l vs q1 q2 q3 ⟨y,q4⟩=>ih m t l vs y q1 q2 q3 q4) fs.toList 0 l hl hT ?_ af
   ·simpa using this
   ·intro f hf
    obtain⟨i,hi,hfi⟩:=List.getElem_of_mem hf
    have:=h4 i f (by simp at hi;simp[<- hfi,Array.getElem?_eq_getElem hi])
    rw[List.getElem?_eq_getElem (by simp at hi;omega)]at this
    exact⟨_,this⟩
  ·rename_i k e hu
   split at hl
   ·rename_i l' M3
    split at hl
    ·rename_i hce
     injection hl with hl;subst hl
     obtain⟨xs,n',hn,_,h2,h3,h4⟩:=DataW.trod_array hu h
     injection hn with hn;subst hn
     have hlen:cs.length=k*l'.length:=by rw[h2,hc];simp
     have hT':0<k->∀u∈l',∀e,P.underlying u=some (.slice e)->e∈T:=fun hk u hu=>hT u (List.mem_flatten.2 ⟨l',List.mem_replicate.2 ⟨af,rfl⟩,hu⟩)
     have:=sB (P:=P) (W:=W) (l:=l') (cs:=cs) k 0 (fun j hj=> ?_) (by rw[hlen];simp)
     ·simpa using this
     ·have:=h4 j hj
      rw[hce,List.getElem?_eq_getElem (by omega)]at this
      rw[Nat.zero_add]
      exact ih m e l' _ _ M3 (hT' af) hce this
    ·cases hl
   ·cases hl
  ·cases hl
theorem xH(hp:tt P T=true):∀ (ts:List TypeId) (vs:List Value) (ds:List (DataW H)) (p:List MemPlace),(∀t∈ts,t∈T)->DataW.TrodAll enc P W 0 (fun _=>true) true ts vs ds p->
 (∀ (j:Nat) t v,ts[j]? =some t->vs[j]? =some v->Value.okWide P W .any b0 t v)->∃xs,D.iE P xs ts/\D.aD VL W xs vs
 |[],vs,ds,p,_,h,_=>by
  obtain⟨rfl,rfl,rfl⟩:=trodAll_nil h
  exact⟨[],rfl,rfl⟩
 |t::ts,vs,ds,p,hT,h,hv=>by
  obtain⟨v,vs',d,Y3,p1,q1,rfl,rfl,rfl,⟨n,h1⟩,h2⟩:=trodAll_cons h
  obtain⟨xs,a1,a2⟩:=xH hp ts vs' Y3 q1 (fun t ht=>hT t (by simp[ht])) h2 (fun j t v h1 h2=>hv (j+1) t v (by simpa using h1) tA)
  obtain⟨l,g1,g2,g3,g4⟩:=Cs hp (hT t aL)
  obtain⟨ev,x,q1,q2,q3,q4,q5⟩:=Cr g1 (D8 hp n 20 t l _ _ g1 g4 g2.symm h1)
  have aW:=hv 0 t v rfl rfl
  have:ev=v:=by
   cases ha:isAgg P t with
   |true=>
    have:∃cs,v= .agg cs:=by
     unfold isAgg at ha
     unfold Value.okWide at aW
     split at ha
     ·rename_i hu;rw[hu]at aW;obtain⟨cs,rfl,_⟩:=aW;exact⟨cs,rfl⟩
     ·rename_i hu;rw[hu]at aW;obtain⟨cs,rfl,_⟩:=aW;exact⟨cs,rfl⟩
     ·cases ha
    obtain⟨cs,rfl⟩:=this
    rw[q4 ha]
    simp[Value.cells]
   |false=>
    obtain⟨q6,q7⟩:=q5 ha
    cases v with
    |agg cs=>
     exfalso
     unfold isAgg at ha
     unfold Value.okWide at aW
     split at aW
     ·rename_i hu;rw[hu]at ha;cases ha
     ·rename_i hu;rw[hu]at ha;cases ha
     ·unfold Cell.okWide at aW
      split at aW
      case h_8=>
       unfold Cell.ok at aW
       split at aW<;>first|exact aW|contradiction
      all_goals contradiction
    |_=>simp only[Value.cells,List.cons.injEq,and_true]at q6;exact q6.symm
  subst this
  exact⟨x::xs,⟨t,ts,rfl,q2,a1⟩,⟨_,_,rfl,q3,a2⟩⟩
theorem dB.below {w w':World}(h:dB (fun _=>False) w w'):Below w.heap.size w w':=⟨h.os,h.tape,h.output,h.size,fun k hk=>h.block k hk (fun h=>h)⟩
theorem xI(hl:laidOutB P=true){W':World}{sp:Nat->Bool}:∀ {ts:List TypeId} {vs:List Value} {ds:List (DataW H)} {p:List MemPlace},(∀t∈ts,P.readableRec t=true/\t<P.types.size)->DataW.TrodAll enc P W 0 (fun _=>true) true ts vs ds p->
 (∀x∈p,W.sameAt W' x/\sp x.block=true)->DataW.TrodAll enc P W' 0 sp true ts vs ds p
 |[],vs,ds,p,_,h,_=>by
  obtain⟨rfl,rfl,rfl⟩:=trodAll_nil h
  exact trodAll_mk0
 |t::ts,vs,ds,p,hr,h,hs=>by
  obtain⟨v,vs',d,Y3,p1,q1,rfl,rfl,rfl,h1,h2⟩:=trodAll_cons h
  exact⟨p1,q1,WideElems.Trod_stays hl (hr t aL).1 (hr t aL).2 h1 (fun x hx=>(hs x nQ).1) (fun x hx=>(hs x nQ).2),xI hl (fun t ht=>hr t (by simp[ht])) h2 (fun x hx=>hs x nQ),rfl⟩
theorem LM{sp:Nat->Bool}:∀ {ts:List TypeId} {vs:List Value} {ds:List (DataW H)} {ps:List MemPlace},DataW.TrodAll enc P W 0 sp true ts vs ds ps->ds.length=ts.length
 |[],_,_,_,h=>by obtain⟨_,rfl,_⟩:=trodAll_nil h;rfl
 |_::_,_,_,_,h=>by
  obtain⟨_,_,_,_,_,_,_,rfl,_,_,h2⟩:=trodAll_cons h
  simp[LM h2]
theorem zD{f:FuncId}{fn:Func}{s:ChangeSpec}{tb:TypeId}{fresh handsOn again:Bool}(yh:fn.resultTypes=#[tb])(CQ:P.underlying tb=some .bool)(RJ:s.vars=[])
 (LN:∀ds:List (DataW H),ds.length=fn.params.toList.length->s.fn H ds={results:=[.lit (.bool true)],args:=ds}) (hp:tt P T=true) (hT:∀t∈fn.params.toList,t∈T) (hl:laidOutB P=true)
 (hr:∀t∈fn.params.toList,P.readableRec t=true/\t<P.types.size) (law:∀xs,D.iE P xs fn.params.toList->aT P f xs (.ret [.bool true]))
 (base:Nat) (args:Array Value) (ds gs:List (DataW H)) (before:List MemPlace)
 (eJ:∀ (j:Nat) t v,fn.params[j]? =some t->args[j]? =some v->Value.okWide P W .any base t v) (hW:DataW.Whole enc P fn.params.toList s.vars false W args.toList ds gs before):
 Calls P f args W fun e W'=>∃v,e= .returned v/\s.post enc P fn false fresh handsOn again W args v W':=by
 have hW':=hW
 obtain⟨p,q,hA,hV,rfl,hfz,hnd⟩:=hW
 rw[RJ]at hV
 obtain⟨rfl,rfl⟩:=trodVars_none hV
 obtain⟨xs,a1,a2⟩:=xH (b0:=base) hp fn.params.toList args.toList ds p hT hA (fun j t v h1 h2=>eJ j t v (by simpa using h1) tA)
 refine((law xs a1).2 VL W args (fun _ h=>h.elim) a2).mono fun e W' ⟨hk,ho⟩=> ?_
 have hb:=hk.below
 cases e with
 |panicked ch=>exact ho.elim
 |outgrown=>exact ho.elim
 |returned v=>
  simp only[R.is,D.den]at ho
  subst ho
  refine⟨_,rfl, ?_⟩
  have hlen:ds.length=fn.params.toList.length:=(LM hA)
  have hold:∀x∈p,x.block<W.heap.size:=fun x hx=>by simpa using hW'.lt x wu
  have dD:∀sp:Nat->Bool,(∀x∈p,sp x.block=true)->DataW.TrodAll enc P W' 0 sp true fn.params.toList args.toList ds p:=fun sp vF=>xI hl hr hA fun x hx=>⟨hb.same (hold x hx),vF x hx⟩
  have RK:∀ (b:Nat) (sp:Nat->Bool) (hd:Bool),DataW.TrodAll enc P W' b sp hd fn.resultTypes.toList ((Value.bool true).resultList fn.resultTypes.size) [.lit (.bool true)] []:=fun b sp hd=>by
   rw[yh]
   exact trodAll_cons_mk (p:=[]) (p':=[]) ⟨1,by simp[DataW.trod,Value.cells,CQ]⟩ trodAll_mk0
  have LO:∀sp:Nat->Bool,DataW.TrodVars enc P W' sp s.vars [] []:=fun sp=>by rw[RJ];rfl
  refine⟨ds,[],p++[],[],p,[],hW', ?_, ?_, ?_,World.keptBut_mono (fun _ h=>h.elim) (hb.frame (fun _=>False)),fun _=>⟨?_,[.lit (.bool true)]++ds,[],([]++p)++[],⟨[]++p,[],trodAll_append (dD _ fun _ _=>rfl) (RK 0 (fun _=>true) true),LO _,rfl, ?_,(fun h=>by cases h)⟩,fun x hx _=>by simpa using hx⟩⟩
  ·rw[List.append_nil,LN ds hlen];exact RK _ _ _
  ·rw[List.append_nil,LN ds hlen];exact dD _ fun x hx=>by simpa using hold x hx
  ·rw[List.append_nil,LN ds hlen];exact LO _
  ·intro j t r h1 h2
   rw[yh]at h1 h2
   match j,h1,h2 with
   |0,h1,h2=>
    simp[Value.resultList]at h1 h2
    subst h1;subst h2
    simp[Value.okWide,CQ,Cell.okWide,Cell.ok]
  ·intro b off hx
   rw[hb.frozen (by simpa[MemPlace.block]using hold _ (by simpa using hx))]
   exact hfz b off wu
end
section
variable {P:Program}{t e:TypeId}{x:D}
theorem vo{k:IntKind}(ht:P.underlying t=some (.int k))(h:D.jf P x t):∃n,x= .int k n/\(Lit.int k n).wf=true:=by
 cases x<;>simp only[D.jf]at h
 case int k' n=>
  rw[ht]at h
  obtain⟨h1,h2⟩:=h
  injection h1 with h1;injection h1 with h1;subst h1
  exact⟨n,rfl,h2⟩
 case bool=>rw[ht]at h;cases h
 case str=>rw[ht]at h;cases h.1
 case sl=>obtain⟨e,h,_⟩:=h;rw[ht]at h;cases h
 case agg=>have:=h.1;unfold isAgg at this;rw[ht]at this;cases this
theorem LP(ht:P.underlying t=some .string)(h:D.jf P x t):∃l,x= .str l/\l.length<=maxLen:=by
 cases x<;>simp only[D.jf]at h
 case int k' n=>rw[ht]at h;cases h.1
 case bool b=>rw[ht]at h;cases h
 case str l=>exact⟨l,rfl,h.2⟩
 case sl=>obtain⟨e,h,_⟩:=h;rw[ht]at h;cases h
 case agg=>have:=h.1;unfold isAgg at this;rw[ht]at this;cases this
theorem nK(ht:P.underlying t=some (.slice e))(h:D.jf P x t):∃es,x= .sl es/\es.length<=maxLen/\D.HQ P es e:=by
 cases x<;>simp only[D.jf]at h
 case int k' n=>rw[ht]at h;cases h.1
 case bool b=>rw[ht]at h;cases h
 case str l=>rw[ht]at h;cases h.1
 case sl es=>
  obtain⟨e',h,h2,h3⟩:=h
  rw[ht]at h;injection h with h;injection h with h;subst h
  exact⟨es,rfl,h2,h3⟩
 case agg=>have:=h.1;unfold isAgg at this;rw[ht]at this;cases this
theorem qt{ls:List TypeId}(ha:isAgg P t=true)(hl:l9 P 20 t=some ls)(h:D.jf P x t):∃cs,x= .agg cs/\D.iE P cs ls:=by
 have no:∀u,P.underlying t=some u->(∀fs,u≠ .struct fs)->(∀k e,u≠ .array k e)->False:=by
  intro u hu h1 h2
  unfold isAgg at ha
  rw[hu]at ha
  split at ha
  ·rename_i e;injection e with e;exact h1 _ e
  ·rename_i e;injection e with e;exact h2 _ _ e
  ·cases ha
 cases x<;>simp only[D.jf]at h
 case int k' n=>exact(no _ h.1 (fun _ h=>by cases h) (fun _ _ h=>by cases h)).elim
 case bool b=>exact(no _ h (fun _ h=>by cases h) (fun _ _ h=>by cases h)).elim
 case str l=>exact(no _ h.1 (fun _ h=>by cases h) (fun _ _ h=>by cases h)).elim
 case sl es=>obtain⟨e',h,_⟩:=h;exact(no _ h (fun _ h=>by cases h) (fun _ _ h=>by cases h)).elim
 case agg cs=>
  obtain⟨_,ls',h1,h2⟩:=h
  rw[hl]at h1;injection h1 with h1;subst h1
  exact⟨cs,rfl,h2⟩
theorem bL{t:TypeId}{ts:List TypeId}{cs:List D}(h:D.iE P cs (t::ts)):∃x xs,cs=x::xs/\D.jf P x t/\D.iE P xs ts:=by
 cases cs with
 |nil=>simp[D.iE]at h
 |cons x xs=>obtain⟨_,_,e,h1,h2⟩:=h;injection e with e1 e2;subst e1;subst e2;exact⟨x,xs,rfl,h1,h2⟩
theorem lu{cs:List D}(h:D.iE P cs []):cs=[]:=by
 cases cs with
 |nil=>rfl
 |cons x xs=>obtain⟨_,_,e,_⟩:=h;cases e
theorem lx{α:Type}{f:α->D}{q:α->Prop}(hf:∀x,D.jf P x e->∃a,x=f a/\q a):∀ (es:List D),D.HQ P es e->∃l:List α,es=l.map f/\∀a∈l,q a
 |[],_=>⟨[],rfl,fun _ h=>by cases h⟩
 |x::es,h=>by
  obtain⟨a,rfl,h1⟩:=hf x h.1
  obtain⟨l,rfl,h2⟩:=lx hf es h.2
  exact⟨a::l,rfl,fun b hb=>(List.mem_cons.1 hb).elim (fun e=>e ▸ h1) (h2 b)⟩
end
end Go.Proofs.YtnkamdiiakdkgaaGreat
end
section
namespace Go.Proofs.YtnkamdiiakdkgaaGreat
open Go.ChangeShapes Go.WideShapes Go.RowKit
theorem nL:maxLen<=9223372036854775807:=bF
theorem Ct{x:D}(h:D.jf Tryz.prog x 3):∃n:Int,x= .i n:=by
 obtain⟨n,h,_⟩:=vo undT_3 h
 exact⟨n,h⟩
theorem aca{x:D}(h:D.jf Tryz.prog x 53):∃n:Int,x= .i n:=by
 obtain⟨n,h,_⟩:=vo undT_53 h
 exact⟨n,h⟩
theorem acb{x:D}(h:D.jf Tryz.prog x 102):∃r:iV,x=r.d/\r.name.length<=9223372036854775807:=by
 obtain⟨cs,rfl,hh⟩:=qt ah (ls:=[9,3]) ah h
 clear h;have h:=hh;clear hh
 obtain⟨a,cs,rfl,ha,h⟩:=bL h
 obtain⟨b,cs,rfl,hb,h⟩:=bL h
 have:=lu h;subst this
 obtain⟨l,rfl,hl⟩:=LP ah ha
 obtain⟨n,rfl⟩:=Ct hb
 exact⟨⟨l,n⟩,rfl,by have:=nL;simp only;omega⟩
theorem LQ:∀ (n:Nat) (x:D),SizeOf.sizeOf x<=n->D.jf Tryz.prog x 55->∃t:Tm,x=t.d/\t.fits:=by
 intro n
 induction n with
 |zero=>intro x hx _;cases x<;>simp at hx
 |succ n ih=>
  intro x hx h
  obtain⟨cs,rfl,hh⟩:=qt ah (ls:=[53,3,49]) ah h
  clear h;have h:=hh;clear hh
  obtain⟨a,cs,rfl,ha,h⟩:=bL h
  obtain⟨b,cs,rfl,hb,h⟩:=bL h
  obtain⟨c,cs,rfl,hc,h⟩:=bL h
  have:=lu h;subst this
  obtain⟨o,rfl⟩:=aca ha
  obtain⟨m,rfl⟩:=Ct hb
  obtain⟨es,rfl,h1,h2⟩:=nK undT_49 hc
  have EJ:SizeOf.sizeOf es<=n:=by simp at hx;omega
  have:∀es:List D,SizeOf.sizeOf es<=n->D.HQ Tryz.prog es 55->∃l:List Tm,es=l.map Tm.d/\∀k∈l,k.fits:=by
   intro es
   induction es with
   |nil=>intro _ _;exact⟨[],rfl,fun _ h=>by cases h⟩
   |cons y es ihe=>
    intro hs h
    simp at hs
    obtain⟨t,rfl,ht⟩:=ih y af h.1
    obtain⟨l,rfl,hl⟩:=ihe af h.2
    exact⟨t::l,rfl,fun b hb=>(List.mem_cons.1 hb).elim (fun e=>e ▸ ht) (hl b)⟩
  obtain⟨l,rfl,hl⟩:=this es EJ h2
  refine⟨.mk o m l,by rw[Tm.Bp], ?_⟩
  rw[Tm.bu]
  exact⟨by have:=nL;simp at h1;simp only[Tm.kids];omega,hl⟩
theorem aen{x:D}(h:D.jf Tryz.prog x 55):∃t:Tm,x=t.d/\t.fits:=LQ _ x (Nat.le_refl _) h
end Go.Proofs.YtnkamdiiakdkgaaGreat
end
section
namespace Go.Proofs.YtnkamdiiakdkgaaGreat
open Go.ChangeShapes Go.WideShapes Go.RowKit
theorem RL{x:D}(h:D.jf Tryz.prog x 49):∃l:List Tm,x= .sl (l.map Tm.d)/\l.length<=9223372036854775807/\∀t∈l,t.fits:=by
 obtain⟨es,rfl,h1,h2⟩:=nK undT_49 h
 obtain⟨l,rfl,hl⟩:=lx (fun x h=>aen h) es h2
 have:=nL
 exact⟨l,rfl,by simp at h1;omega,hl⟩
structure Rl.Fits (r:Rl):Prop where
 ay:r.ay.length<=9223372036854775807
 all:∀t∈r.ay,t.fits
 rhs:r.rhs.fits
theorem aeo{x:D}(h:D.jf Tryz.prog x 57):∃r:Rl,x=r.d/\r.Fits:=by
 obtain⟨cs,rfl,hh⟩:=qt ah (ls:=[3,49,53,3,49,3]) ah h
 clear h;have h:=hh;clear hh
 obtain⟨a,cs,rfl,ha,h⟩:=bL h
 obtain⟨b,cs,rfl,hb,h⟩:=bL h
 obtain⟨c,cs,rfl,hc,h⟩:=bL h
 obtain⟨d,cs,rfl,hd,h⟩:=bL h
 obtain⟨e,cs,rfl,he,h⟩:=bL h
 obtain⟨f,cs,rfl,hf,h⟩:=bL h
 have:=lu h;subst this
 obtain⟨m,rfl⟩:=Ct ha
 obtain⟨l,rfl,l1,l2⟩:=RL hb
 obtain⟨o,rfl⟩:=aca hc
 obtain⟨n,rfl⟩:=Ct hd
 obtain⟨k,rfl,k1,k2⟩:=RL he
 obtain⟨v,rfl⟩:=Ct hf
 exact⟨⟨m,l, .mk o n k,v⟩,rfl,⟨l1,l2,(Tm.bu _).2 ⟨k1,k2⟩⟩⟩
structure Pg.Fits (p:Pg):Prop where
 sig:p.sig.Fits
 len:p.rules.length<=9223372036854775807
 all:∀r∈p.rules,r.Fits
theorem aep{x:D}(h:D.jf Tryz.prog x 27):∃p:Pg,x=p.d/\p.Fits:=by
 obtain⟨cs,rfl,hh⟩:=qt ah (ls:=[22,22,25]) ah h
 clear h;have h:=hh;clear hh
 obtain⟨a,cs,rfl,ha,h⟩:=bL h
 obtain⟨b,cs,rfl,hb,h⟩:=bL h
 obtain⟨c,cs,rfl,hc,h⟩:=bL h
 have:=lu h;subst this
 obtain⟨es,rfl,h1,h2⟩:=nK undT_22 ha
 obtain⟨l,rfl,hl⟩:=lx (fun x h=>acb h) es h2
 obtain⟨es',rfl,h3,h4⟩:=nK undT_22 hb
 obtain⟨l',rfl,M3⟩:=lx (fun x h=>acb h) es' h4
 obtain⟨es2,rfl,h5,h6⟩:=nK (e:=57) ah hc
 obtain⟨q,rfl,hq⟩:=lx (fun x h=>aeo h) es2 h6
 have:=nL
 exact⟨⟨⟨l,l'⟩,q⟩,rfl,⟨⟨by simp at h1;simp only;omega,by simp at h3;simp only;omega,hl,M3⟩,by simp at h5;simp only;omega,hq⟩⟩
end Go.Proofs.YtnkamdiiakdkgaaGreat
end
namespace Go.Proofs.YtnkamdiiakdkgaaGreat
def dV(l:List Tm):Bool:=decide (l.length<=6)&&l.all kJ
def iF(p:Pg):Bool:=(gR p.sig&&decide (p.rules.length<=20))&&p.rules.all fun r=>dV r.ay&&kJ r.rhs
theorem HS{p:Pg}(hf:p.Fits)(h:iF p=true):p.Fin/\FR p:=by
 simp only[iF,dV,Bool.and_eq_true,decide_eq_true_eq,List.all_eq_true,uZ]at h
 obtain⟨_,h⟩:=h
 refine⟨⟨hf.sig,hf.len,fun r hr=> ?_⟩,fun r hr=> ?_⟩
 ·obtain⟨⟨a,b⟩,c⟩:=h r hr
  have x9:=hf.all r hr
  exact⟨af,fun t ht=>⟨x9.all t ht,by have:=(b t ht).2;omega⟩,⟨x9.rhs,by have:=c.2;omega⟩⟩
 ·obtain⟨⟨a,b⟩,c⟩:=h r hr
  exact⟨a,fun t ht=>(b t ht).1,c.1⟩
end Go.Proofs.YtnkamdiiakdkgaaGreat
namespace Go.Proofs.YtnkamdiiakdkgaaGreat
def xJ(s:bE)(n:Int)(p:Tm):Bool:=(fg s p&&((fR p []).2&&gy p))&&ei n p
theorem xK(s:bE)(r:Rl):fH s r=((jN s r&&fg s r.rhs)&&r.ay.all (xJ s r.vars)&&(D2 r.ay&&ei r.vars r.rhs&&rD r.rhs (bM (.mk 0 0 r.ay)))):=rfl
set_option maxHeartbeats 1000000 in
theorem VM(s:bE)(hs:s.Fits)(r:Rl)(hp:LJ r.ay)(hf:r.rhs.fits)(hz:r.rhs.sz<=500):aT Tryz.prog 78 [s.d,r.d] (.ret [.bool (fH s r)]):=by
 have vE:=hp.len
 have hlf:=hs.lf
 have hrc:r.rhs.DT:=Tm.DT.D6 hf af
 refine aT.aF mix ad2 aL ?_
 rw[c78]
 have fin:(jN s r&&fg s r.rhs)=false->fH s r=false:=fun h=>by rw[xK,h];rfl
 refine RU ?_
 refine aV (Ab _ _ _) rfl ?_
 cases f1:dG r.fn 0 ((s.bB.length:Int) - 1)with
 |false=>
  have e:fH s r=false:=fin (by
   have:jN s r=false:=by
    simp only[dG,Bool.and_eq_false_iff,decide_eq_false_iff_not]at f1
    unfold jN
    by_cases h:0<=r.fn
    ·rw[List.getElem?_eq_none (by omega:s.bB.length<=r.fn.toNat)];simp
    ·rw[decide_eq_false h];rfl
   rw[this];rfl)
  refine RU ?_
  exact Pc
 |true=>
 obtain⟨h0,x,hx⟩:=xP f1
 have B8:jN s r=((r.ay.length:Int)==x.args&&decide (0<=r.vars)&&decide (r.vars<=20)):=by
  unfold jN;rw[hx];simp[h0]
 cases f2:((r.ay.length:Int)!=x.args)with
 |true=>
  have e:fH s r=false:=fin (by
   have:((r.ay.length:Int)==x.args)=false:=by simpa using f2
   rw[B8,this];rfl)
  exact SI
 |false=>
 have Lk:((r.ay.length:Int)==x.args)=true:=by simpa using f2
 refine Xm hx f2 ?_
 refine aV (Ab _ _ _) rfl ?_
 cases f3:dG r.vars 0 20 with
 |false=>
  have e:fH s r=false:=fin (by
   have:(decide (0<=r.vars)&&decide (r.vars<=20))=false:=f3
   rw[B8,Bool.and_assoc ((r.ay.length:Int)==x.args),this];simp)
  exact SI
 |true=>
 have Vx:(decide (0<=r.vars)&&decide (r.vars<=20))=true:=f3
 refine Xm hx f2 ?_
 refine aV (KY s hs r.rhs hf) rfl ?_
 cases f4:fg s r.rhs with
 |false=>
  have e:fH s r=false:=fin (by rw[f4];simp)
  exact SI
 |true=>
 have hh:jN s r=true:=by rw[B8,Lk,Bool.true_and,Vx]
 refine Xm hx f2 ?_
 refine aI (aO rfl) ?_
 refine aU ?_
 rw[xK,hh,f4,Bool.true_and,Bool.true_and]
 refine aw (fun k:Nat=>⟨aS [.aa, .aa, .ptr 0 0, .ptr 1 0, .aa, .d (.i k)],zb s.row r.row,2⟩)
  (fun k=>k<=r.ay.length/\(r.ay.take k).all (xJ s r.vars)=true) (fun k=>r.ay.length - k) 0 ⟨Nat.zero_le _,aL⟩ (aZ.d2 _ (fQ rfl rfl) af rfl rfl ?_) (fun k hk=> ?_)
 ·exact bO
 refine mi ?_
 refine ai (fun h2=> ?_) (fun h2=> ?_)
 ·simp at h2
  obtain⟨y,hy⟩:=az h2
  have hym:=List.mem_of_getElem? hy
  have Ig:=hp.all y hym
  refine mj hy ?_
  refine aV (KY s hs y Ig.1) rfl ?_
  cases g1:fg s y with
  |false=>
   refine mj hy ?_
   refine aI (aO rfl) ?_
   refine aU ?_
   rw[cw hy (by rw[xJ,g1];rfl)];rfl
  |true=>
  refine mj hy ?_
  refine aV (HL y (hp.cnt hym)) rfl ?_
  cases g2:((fR y []).2&&gy y)with
  |false=>
   refine mj hy ?_
   refine aI (aO rfl) ?_
   refine aU ?_
   rw[cw hy (by rw[xJ,g1,g2];rfl)];rfl
  |true=>
  refine mj hy ?_
  refine aV (Cf r.vars y Ig.1) rfl ?_
  cases g3:ei r.vars y with
  |false=>
   refine mj hy ?_
   refine aI (aO rfl) ?_
   refine aU ?_
   rw[cw hy (by rw[xJ,g1,g2,g3];rfl)];rfl
  |true=>
  refine mj hy ?_
  refine aI (aO rfl) ?_
  refine aU ?_
  refine aj (k+1) ⟨h2,fb hy hk.2 (by rw[xJ,g1,g2,g3];rfl)⟩ af (aZ.d2 _ (fQ rfl rfl) af rfl rfl ?_)
  exact bO
 ·simp at h2
  rw[eE hk.2 h2,Bool.true_and]
  refine mi ?_
  refine aV (LK r.ay hp) rfl ?_
  cases g1:D2 r.ay with
  |false=>
   exact SO
  |true=>
  refine mi ?_
  refine aV (Cf r.vars r.rhs hf) rfl ?_
  cases g2:ei r.vars r.rhs with
  |false=>
   exact SO
  |true=>
  refine mi ?_
  refine dc (Cg r.ay) ?_
  refine mi ?_
  refine dc (tq _ hp.whole) ?_
  refine mi ?_
  refine aV (Ou r.rhs hrc _ ?_) rfl ?_
  ·have:=lp (.mk 0 0 r.ay);have:=hp.gA;rw[Tm.RE]at*;omega
  exact SO
structure Pg.Fw (p:Pg):Prop where
 sig:p.sig.Fits
 len:p.rules.length<=1000
 all:∀r∈p.rules,LJ r.ay/\r.rhs.fits/\r.rhs.sz<=500
theorem Ov(p:Pg)(hp:p.Fw):aT Tryz.prog 43 [p.d] (.ret [.bool (dZ p)]):=by
 have hl:=hp.len
 refine aT.aF mix adK aL ?_
 rw[c43,dZ]
 refine mi ?_
 refine aC (abT p.sig hp.sig) rfl ?_
 cases h1:jc p.sig with
 |false=>
  exact Xv
 |true=>
 cases h2:decide (16<(p.rules.length:Int))with
 |true=>
  have pA:decide (p.rules.length<=16)=false:=by simp at h2|-;omega
  refine mj h2 ?_
  rw[pA];rfl
 |false=>
 have pA:decide (p.rules.length<=16)=true:=by simp at h2|-;omega
 refine mj h2 ?_
 rw[pA,Bool.true_and,Bool.true_and]
 refine aw (fun k:Nat=>⟨aS [.aa, .ptr 0 0, .aa, .d (.i k)],iP p.row,1⟩)
  (fun k=>k<=p.rules.length/\(p.rules.take k).all (fH p.sig)=true) (fun k=>p.rules.length - k) 0 ⟨Nat.zero_le _,aL⟩ (aZ.d1 _ (aX rfl) af rfl ?_) (fun k hk=> ?_)
 ·exact bO
 refine mi ?_
 refine ai (fun h2=> ?_) (fun h2=> ?_)
 ·simp at h2
  obtain⟨y,hy⟩:=az h2
  have Ig:=hp.all y (List.mem_of_getElem? hy)
  refine mj hy ?_
  refine aV (VM p.sig hp.sig y Ig.1 Ig.2.1 Ig.2.2) rfl ?_
  cases g1:fH p.sig y with
  |false=>
   refine mj hy ?_
   refine aI (aO rfl) ?_
   refine aU ?_
   rw[cw hy g1]
  |true=>
  refine mj hy ?_
  refine aI (aO rfl) ?_
  refine aU ?_
  refine aj (k+1) ⟨h2,fb hy hk.2 g1⟩ af (aZ.d1 _ (aX rfl) af rfl ?_)
  exact bO
 ·simp at h2
  rw[eE hk.2 h2]
  exact vJ
theorem D9(l:List Tm)(hl:l.length<=9223372036854775807)(hf:∀t∈l,t.fits):aT Tryz.prog 60 [.sl (l.map Tm.d)] (.ret [.bool (dV l)]):=by
 refine aT.aF mix adU aL ?_
 rw[c60]
 refine aU ?_
 refine aw (fun k:Nat=>⟨aS [.d (.sl (l.map Tm.d)), .aa, .aa, .d (.i k)],fun _=> .no,0⟩)
  (fun k=>k<=l.length/\(l.take k).all kJ=true) (fun k=>l.length - k) 0 ⟨Nat.zero_le _,aL⟩ (aZ.d0 _ ?_) (fun k hk=> ?_)
 ·exact bO
 refine mi ?_
 refine ai (fun h2=> ?_) (fun h2=> ?_)
 ·simp at h2
  obtain⟨y,hy⟩:=az (l:=l) (k:=k) af
  have Ig:=hf y (List.mem_of_getElem? hy)
  refine mj hy ?_
  refine aC (FA y Ig) rfl ?_
  cases g1:kJ y with
  |false=>
   refine mj hy ?_
   rw[dV,cw hy g1,Bool.and_false]
  |true=>
  refine mj hy ?_
  refine aj (k+1) ⟨af,fb hy hk.2 g1⟩ af (aZ.d0 _ ?_)
  exact bO
 ·refine mi ?_
  congr 3
  by_cases h3:l.length<=6
  ·have h4:l.length<=k:=by simp at h2;omega
   rw[dV,eE hk.2 h4]
   simp;omega
  ·rw[dV,decide_eq_false h3]
   simp;omega
theorem HT(p:Pg)(hp:p.Fits):aT Tryz.prog 34 [p.d] (.ret [.bool (iF p)]):=by
 have hl:=hp.len
 let q:Rl->Bool:=fun r=>dV r.ay&&kJ r.rhs
 have hq:iF p=((gR p.sig&&decide (p.rules.length<=20))&&p.rules.all q):=rfl
 refine aT.aF mix adE aL ?_
 rw[c34,hq]
 refine aU ?_
 refine aw (fun k:Nat=>⟨aS [.aa, .ptr 0 0, .aa, .d (.i k)],iP p.row,1⟩)
  (fun k=>k<=p.rules.length/\(p.rules.take k).all q=true) (fun k=>p.rules.length - k) 0 ⟨Nat.zero_le _,aL⟩ (aZ.d1 _ (aX rfl) af rfl ?_) (fun k hk=> ?_)
 ·exact bO
 refine mi ?_
 refine ai (fun h2=> ?_) (fun h2=> ?_)
 ·simp at h2
  obtain⟨y,hy⟩:=az (l:=p.rules) (k:=k) af
  have Ig:=hp.all y (List.mem_of_getElem? hy)
  have hqy:q y=(dV y.ay&&kJ y.rhs):=rfl
  refine mj hy ?_
  refine aC (D9 y.ay Ig.ay Ig.all) rfl ?_
  cases g1:dV y.ay with
  |false=>
   refine mj hy ?_
   rw[cw hy (by rw[hqy,g1];rfl),Bool.and_false]
  |true=>
  refine mj hy ?_
  refine aC (FA y.rhs Ig.rhs) rfl ?_
  cases g2:kJ y.rhs with
  |false=>
   refine mj hy ?_
   rw[cw hy (by rw[hqy,g1,g2];rfl),Bool.and_false]
  |true=>
  refine mj hy ?_
  refine aj (k+1) ⟨af,fb hy hk.2 (by rw[hqy,g1,g2];rfl)⟩ af (aZ.d1 _ (aX rfl) af rfl ?_)
  exact bO
 ·refine mi ?_
  refine aC (DM p.sig hp.sig) rfl ?_
  cases g1:gR p.sig with
  |false=>exact Xv
  |true=>
  refine mi ?_
  congr 3
  by_cases h3:p.rules.length<=20
  ·have h4:p.rules.length<=k:=by simp at h2;omega
   rw[eE hk.2 h4]
   simp;omega
  ·rw[decide_eq_false h3]
   simp;omega
theorem HU{p:Pg}(hf:p.Fits)(h:iF p=true):p.Fw:=by
 simp only[iF,dV,Bool.and_eq_true,decide_eq_true_eq,List.all_eq_true,uZ]at h
 obtain⟨⟨_,hl⟩,h⟩:=h
 refine⟨hf.sig,af,fun r hr=> ?_⟩
 obtain⟨⟨a,b⟩,c⟩:=h r hr
 have x9:=hf.all r hr
 exact⟨⟨af,fun t ht=>⟨x9.all t ht,by have:=(b t ht).1;omega⟩⟩,x9.rhs,af⟩
theorem zE:∀ (t:Tm) (q:List Int) (b:Bool),(j5 t q b).map Sp.t=fu t:=by
 refine Tm.dN fun t ih q b=> ?_
 have key:∀l:List Tm,(∀k∈l,k∈t.kids)->∀ (i:Int) (b':Bool),(gZ l i q b').map Sp.t=l.flatMap fu:=by
  intro l
  induction l with
  |nil=>intro _ _ _;rfl
  |cons k l uS=>
   intro hk i b'
   rw[gZ,List.map_append,ih k (hk k (by simp)),uS (fun x hx=>hk x (by simp[hx])),List.flatMap_cons]
 rw[D4,iJ,List.map_cons,key t.kids (fun _ h=>h)]
def mo(s:List Int)(x:Sp):List Int:=s++(if x.t.op=5 then [x.t.n]else [])
theorem F1:∀ (l:List Sp) (s:List Int),(aq (wc (fun _=>none) mo) s l).1=s++((l.map Sp.t).filter (fun x=>x.op==5)).map Tm.n
 |[],s=>by simp[aq]
 |x::l,s=>by
  simp only[aq,wc,Option.isNone_none,if_true]
  rw[F1 l,List.map_cons,List.filter_cons,mo,List.append_assoc]
  by_cases h:x.t.op=5
  ·simp[h]
  ·have h':(x.t.op==5)=false:=by simpa using h
   simp[h,h']
theorem VN(t:Tm):(aq (wc (fun _=>none) mo) [] (j5 t [] true)).1=je t:=by
 rw[F1,zE];rfl
theorem F2(t:Tm):(je t).length<=t.sz:=by
 unfold je
 rw[List.length_map, <- tp]
 exact List.length_filter_le _ _
def tu(p:Pg)(k:Nat):List Int:=(p.rules.take k).flatMap fun r=>je r.rhs
theorem vq(p:Pg){k:Nat}{r:Rl}(h:p.rules[k]? =some r):tu p (k+1)=tu p k++je r.rhs:=by
 unfold tu
 rw[List.take_add_one,h,List.flatMap_append];simp
theorem zF{p:Pg}(hp:p.Fw):∀k,k<=p.rules.length->(tu p k).length<=k*500
 |0,_=>by simp[tu]
 |k+1,hk=>by
  have hx:p.rules[k]? =some p.rules[k]:=List.getElem?_eq_getElem af
  rw[vq p hx,List.length_append]
  have h1:=zF hp k af
  have h2:=F2 p.rules[k].rhs
  have h3:=(hp.all _ (List.getElem_mem (by omega:k<p.rules.length))).2.2
  omega
@[reducible] def crD (p:Pg) (ps:List Int):D:= .agg [.sl (p.sig.cons.map iV.d), .sl (p.sig.bB.map iV.d), .sl (p.rules.map Rl.d), .sl (ps.map .i)]
def F3(p:Pg):Nat->ab:=aA (aA (fun _=> .no) 0 (.row p.row)) 1 (.row [.bd, .bd, .bd, .bd])
def LR(p:Pg)(k:Nat)(r:Rl)(s:List Int):Nat->ab:=aA (aA (aA (aA (jY (F3 p) 2 7 [] 3 1 ((tu p k).map .i)) 11 (.row r.row)) 15 (.row r.rhs.row)) 2 (.row [.osl 7 s.length])) 7 (.arr s.length 3 1 ((tu p k++s).map .i))
theorem Ow(p:Pg)(hp:p.Fw):aT Tryz.prog 41 [p.d] (.ret [crD p (Lib.compact (dR (tu p p.rules.length)))]):=by
 have vE:=hp.len
 refine aT.aF mix aae aL ?_
 rw[c41]
 refine mi ?_
 have hB:Good (F3 p) 7:=by unfold F3;exact eH
 have kb1:F3 p 1= .row [.bd, .bd, .bd, .bd]:=by unfold F3;(repeat(first|rfl|rw[ad]|rw[ag _ _ _ _ (by omega)]))
 have iX:∀j,7<=j->F3 p j= .no:=fun j hj=>by unfold F3;(repeat(first|rfl|rw[ad]|rw[ag _ _ _ _ (by omega)]))
 refine aw (fun k:Nat=>⟨aS [.aa, .ptr 0 0, .ptr 1 0, .ptr 2 0, .aa, .aa, .aa, .aa, .d (.sl (p.rules.map Rl.d)), .d (.i p.rules.length), .d (.i k)],jY (F3 p) 2 7 [] 3 1 ((tu p k).map .i),8⟩)
  (fun k=>k<=p.rules.length) (fun k=>p.rules.length - k) 0 (Nat.zero_le _) (xG (ds:=[]) _ hB iX af (fun j hj j9=>by unfold F3;exact V6) fi af ?_) (fun k hk=> ?_)
 ·exact qz
 replace hk:k<=p.rules.length:=hk
 have Gg:=zF hp k hk
 have k0:jY (F3 p) 2 7 [] 3 1 ((tu p k).map .i) 0= .row p.row:=by unfold jY F3;(repeat(first|rfl|rw[ad]|rw[ag _ _ _ _ (by omega)]))
 have k2:jY (F3 p) 2 7 [] 3 1 ((tu p k).map .i) 2= .row [.osl 7 0]:=zA _ af [] _ _ _
 have k7:jY (F3 p) 2 7 [] 3 1 ((tu p k).map .i) 7= .arr 0 3 1 ((tu p k).map .i):=zy _ _ _ _ _ _ _
 refine aU ?_
 refine ai (fun h1=> ?_) (fun h1=> ?_)
 ·simp at h1
  obtain⟨r,hr⟩:=az h1
  have RM:=List.mem_of_getElem? hr
  obtain⟨f1,f2,f3⟩:=hp.all r RM
  refine Xt hr k7 ?_
  refine fP (Ck r.rhs _ _ _ _ ?_)
  refine RY k7 ?_
  refine sA (σ:=List Int) r.rhs f2 (by have:=vj r.rhs;omega) [.aa, .ptr 0 0, .ptr 1 0, .ptr 2 0, .aa, .aa, .aa, .aa, .d (.sl (p.rules.map Rl.d)), .d (.i p.rules.length), .d (.i k)] ?_ bF rfl (by unfold jY F3;exact eH) nO fi (LR p k r) (fun _=>none) mo (fun l s=>s.length+l.length<=1000) [] ?_ rfl (fun id au=> ?_) (fun x l s hs _ h2=> ?_) ?_ ?_
  ·exact F9
  ·rw[List.length_nil, <- List.length_map (f:=Sp.t),zE,tp];omega
  ·unfold LR
   by_cases e2:id=2
   ·exact Sa
   by_cases e7:id=7
   ·subst e7;(repeat(first|rfl|rw[ad]|rw[ag _ _ _ _ (by omega)]));rw[k7,List.append_nil];rfl
   rw[ag _ 7 _ _ e7,ag _ 2 _ _ e2,dm]
  ·simp only[mo,List.length_append,List.length_cons]at hs|-
   split<;>simp<;>omega
  ·intro L hL wg x hx l s' h1 h2 o3 n3 hI hn ho K X cz
   simp only[mW]
   have hg:=hI.bA
   have q2:o3 2= .row [.osl 7 s'.length]:=by rw[hI.eq 2 (by omega)];unfold LR;(repeat(first|rfl|rw[ad]|rw[ag _ _ _ _ (by omega)]))
   have q7:o3 7= .arr s'.length 3 1 ((tu p k++s').map .i):=by rw[hI.eq 7 (by omega)];unfold LR;(repeat(first|rfl|rw[ad]|rw[ag _ _ _ _ (by omega)]))
   simp only[List.length_cons]at h1
   refine aU ?_
   refine lg hL (pd:=none) ?_ ?_
   ·(repeat(first|rfl|rw[ad]|rw[ag _ _ _ _ (by omega)]))
    exact ho
   have fin:∀ (o':Nat->ab) (n':Nat) (s2:List Int),Good o' n'->n3<=n'->o' 2= .row [.osl 7 s2.length]->o' 7= .arr s2.length 3 1 ((tu p k++s2).map .i)->(∀j,j<19->j≠2->j≠7->o' j=o3 j)->cH 19 (LR p k r s2) o' n':=fun o' n' s2 k1 k2 k3 k4 k6=>⟨k1,af,fun j hj=>by
    by_cases e:j=2
    ·subst e;rw[k3];unfold LR;(repeat(first|rfl|rw[ad]|rw[ag _ _ _ _ (by omega)]))
    by_cases e2:j=7
    ·subst e2;rw[k4];unfold LR;(repeat(first|rfl|rw[ad]|rw[ag _ _ _ _ (by omega)]))
    rw[k6 j hj e e2,hI.eq j hj];unfold LR
    rw[ag _ _ _ _ e2,ag _ _ _ _ e,ag _ _ _ _ e2,ag _ _ _ _ e]⟩
   by_cases h5:x.t.op=5
   ·have vC:(x.t.op==5)=true:=by simpa using h5
    have hlen:(tu p k++s').length<=600000:=by rw[List.length_append];omega
    refine CJ q2 q7 vC ?_
    refine cz _ _ _ .busy none af (fin _ _ _ eH af ?_ ?_ fun j hj j1 j2=> ?_) fi (fun id h3 h4=>by(repeat(first|rfl|rw[ad]|rw[ag _ _ _ _ (by omega)])))
    ·exact XR
    ·exact XR
    ·exact fi
   ·have vC:(x.t.op==5)=false:=by simpa using h5
    refine sC q2 q7 vC ?_
    refine cz _ _ _ .busy none af (fin _ _ _ eH af ?_ ?_ fun j hj j1 j2=> ?_) fi (fun id h3 h4=>by(repeat(first|rfl|rw[ad]|rw[ag _ _ _ _ (by omega)])))
    ·unfold mo;rw[if_neg h5];(repeat(first|rfl|rw[ad]|rw[ag _ _ _ _ (by omega)]));simp[q2]
    ·unfold mo;rw[if_neg h5];(repeat(first|rfl|rw[ad]|rw[ag _ _ _ _ (by omega)]));simp[q7]
    ·exact fi
  ·intro o' n' hI
   rw[VN]at hI
   simp only[oL]
   refine aU ?_
   have hg:=hI.bA
   refine aj (k+1) h1 af (Cm (r:=2) (c:=7) (ep:=(je r.rhs).length) (ds:=[]) _ hB iX af (fun j hj j9=> ?_) ?_ ?_ ?_)
   ·rw[hI.eq j (by omega)];unfold LR jY;(repeat(first|rfl|rw[ad]|rw[ag _ _ _ _ (by omega)]))
   ·rw[hI.eq 2 (by omega)];unfold LR;(repeat(first|rfl|rw[ad]|rw[ag _ _ _ _ (by omega)]))
   ·rw[hI.eq 7 (by omega),vq p hr];unfold LR;(repeat(first|rfl|rw[ad]|rw[ag _ _ _ _ (by omega)]))
   ·exact qz
 ·simp at h1
  have Jx:k=p.rules.length:=af
  subst Jx
  simp+contextual (disch:=first|omega|simp only[go_sem,false_implies]) only[go_sem,wrap64,if_pos,k2,k7]
  refine fP (Lv Co HO (zs:=tu p p.rules.length) fi HP af ?_)
  refine RY k7 ?_
  refine rn bF (HI vm zB fi zC (by unfold dR;rw[List.length_mergeSort];omega)) ?_
  simp+contextual (disch:=first|omega|simp only[go_sem,false_implies]) only[go_sem,wrap64,if_pos,k0,k2,k7,kb1]
  exact Ev
theorem LS(ay kids:List Tm){i j:Nat}(hi:i<4)(hj:j<4):(vg ay kids)[i*4+j]? =some (nX ay kids i j):=by
 unfold vg
 rw[List.getElem?_map,List.getElem?_range (by omega)]
 simp only[Option.map_some]
 exact XQ
def qu(ay kids:List Tm)(i j:Nat):List Int:=(List.range 16).map fun p=>if p/4<i\/p/4=i/\p%4<j then nX ay kids (p/4) (p%4)else 0
theorem iG(ay kids:List Tm)(i j:Nat):(qu ay kids i j).length=16:=by simp[qu]
theorem ly(ay kids:List Tm)(i j p:Nat)(hp:p<16):(qu ay kids i j)[p]? =some (if p/4<i\/p/4=i/\p%4<j then nX ay kids (p/4) (p%4)else 0):=by
 unfold qu;rw[List.getElem?_map,List.getElem?_range hp];rfl
theorem arcP_0(ay kids:List Tm):qu ay kids 0 0=xd:=by
 refine iz (iG ..) rfl fun p hp=> ?_
 rw[ly _ _ _ _ _ hp,if_neg (by omega)]
 have:∀p,p<16->xd[p]? =some 0:=bF
 exact(this p hp).symm
theorem HV(ay kids:List Tm){i j:Nat}(hi:i<4)(hj:j<4):qu ay kids i (j+1)=(qu ay kids i j).set (i*4+j) (nX ay kids i j):=by
 refine iz (iG ..) (by rw[List.length_set];exact iG ..) fun p hp=> ?_
 rw[ly _ _ _ _ _ hp,List.getElem?_set,ly _ _ _ _ _ hp]
 by_cases e:i*4+j=p
 ·rw[if_pos e,if_pos (show i*4+j<(qu ay kids i j).length by rw[iG];omega),if_pos (show p/4<i\/p/4=i/\p%4<j+1 by omega)]
  rw[show p/4=i by omega,show p%4=j by omega]
 ·rw[if_neg e]
  congr 1
  by_cases h:p/4<i\/p/4=i/\p%4<j
  ·rw[if_pos h,if_pos (show p/4<i\/p/4=i/\p%4<j+1 by omega)]
  ·rw[if_neg h,if_neg (show ¬ (p/4<i\/p/4=i/\p%4<j+1) by omega)]
theorem LU(ay kids:List Tm){i:Nat}(hk:kids.length<=4):qu ay kids i kids.length=qu ay kids (i+1) 0:=by
 refine iz (iG ..) (iG ..) fun p hp=> ?_
 rw[ly _ _ _ _ _ hp,ly _ _ _ _ _ hp]
 by_cases h:p/4<i\/p/4=i/\p%4<kids.length
 ·rw[if_pos h,if_pos (show p/4<i+1\/p/4=i+1/\p%4<0 by omega)]
 ·rw[if_neg h]
  by_cases h2:p/4<i+1\/p/4=i+1/\p%4<0
  ·rw[if_pos h2]
   have e:kids[p%4]? =none:=List.getElem?_eq_none af
   unfold nX
   rw[e]
   cases ay[p/4]? <;>rfl
  ·rw[if_neg h2]
theorem LV(ay kids:List Tm)(hp:ay.length<=4):qu ay kids ay.length 0=vg ay kids:=by
 refine iz (iG ..) (by simp[vg]) fun p EL=> ?_
 rw[ly _ _ _ _ _ EL]
 have:=LS ay kids (i:=p/4) (j:=p%4) af af
 rw[show p/4*4+p%4=p by omega]at this
 rw[this]
 congr 1
 split
 ·rfl
 ·rename_i h
  unfold nX
  rw[List.getElem?_eq_none (by omega)]
theorem LW(l:List Int)(hl:l.length<=1000000):aT Tryz.prog 76 [.sl (l.map .i)] (.ret [.sl (l.map .i)]):=by
 refine aT.aF mix Uo aL ?_
 rw[c76]
 have hu:Tryz.prog.underlying 37=some (.slice 3):=ah
 cases l with
 |nil=>
  have heq:∀O,wv Tryz.prog O 37 true (.d (.sl [])) .bd=some .eV:=by
   intro O
   unfold wv
   rw[hu]
   rfl
  simp only[List.map_cons,List.map_nil]
  refine gB heq ?_
  simp only[List.isEmpty_nil,if_true]
  exact zM heq
 |cons a l=>
  have heq:∀O,wv Tryz.prog O 37 true (.d (.sl (D.i a::l.map D.i))) .bd=some (.d (.bool false)):=by
   intro O
   unfold wv
   rw[hu]
   rfl
  simp only[List.map_cons,List.map_nil]
  refine gB heq ?_
  simp only[List.isEmpty_nil,if_true]
  refine gB heq ?_
  rw[List.length_cons]at hl
  rw[if_pos (by omega)]
  exact vJ
def rI(p:Pg)(ps:List Int):Nat->ab:=aA (fun _=> .no) 0 (.row [.d (.sl (p.sig.cons.map iV.d)), .d (.sl (p.sig.bB.map iV.d)), .d (.sl (p.rules.map Rl.d)), .d (.sl (ps.map .i))])
def o6(ps:List Int)(n:Int)(r:Rl)(s:List Cl)(x:Sp):List Cl:=s++tw ps n r x
theorem Cu(ps:List Int)(n:Int)(r:Rl):∀ (l:List Sp) (s:List Cl),(aq (wc (fun _=>none) (o6 ps n r)) s l).1=s++l.flatMap (tw ps n r)
 |[],s=>by simp[aq]
 |x::l,s=>by
  simp only[aq,wc,Option.isNone_none,if_true]
  rw[Cu ps n r l,o6,List.flatMap_cons,List.append_assoc]
theorem zG(ps:List Int)(n:Int)(r:Rl)(x:Sp)(nD:ps.length<=100):(tw ps n r x).length<=100:=by
 unfold tw
 split
 ·simp
 ·split
  ·simpa using nD
  ·simp
theorem zH(t:Tm)(q:List Int)(b:Bool):(j5 t q b).length=t.sz:=by rw[<- List.length_map (f:=Sp.t),zE,tp]
theorem nn{p:Pg}(hp:p.Fw){ps:List Int}(nD:ps.length<=100):∀k,k<=p.rules.length->(jX p ps k).length<=k*50500
 |0,_=>by simp[jX]
 |k+1,hk=>by
  have hx:p.rules[k]? =some p.rules[k]:=List.getElem?_eq_getElem af
  rw[rF p ps hx,List.length_append]
  have h1:=nn hp nD k af
  have h3:=(hp.all _ (List.getElem_mem (by omega:k<p.rules.length))).2.2
  have key:∀l:List Sp,(l.flatMap (tw ps k p.rules[k])).length<=l.length*100:=by
   intro l
   induction l with
   |nil=>simp
   |cons x l ih=>
    rw[List.flatMap_cons,List.length_append,List.length_cons,Nat.add_mul]
    have:=zG ps k p.rules[k] x nD
    omega
  have h2:=key (j5 p.rules[k].rhs [] true)
  rw[zH]at h2
  unfold Xj
  omega
def qv(p:Pg)(ps:List Int)(k:Nat)(r:Rl)(s:List Cl):Nat->ab:=aA (aA (aA (aA (aA (jY (rI p ps) 2 8 [] 40 6 ((jX p ps k).map Cl.d)) 13 (.row [.d (.i k)])) 14 (.row r.row)) 19 (.row r.rhs.row)) 2 (.row [.osl 8 s.length])) 8 (.arr s.length 40 6 ((jX p ps k++s).map Cl.d))
set_option maxHeartbeats 4000000 in
theorem Ox(p:Pg)(hp:p.Fw)(hr4:∀r∈p.rules,r.ay.length<=4)(hk4:∀r∈p.rules,∀x∈j5 r.rhs [] true,x.t.op=4->x.t.kids.length<=4)(ps:List Int)(nD:ps.length<=100):aT Tryz.prog 42 [crD p ps] (.ret [.sl ((jX p ps p.rules.length).map Cl.d)]):=by
 have vE:=hp.len
 refine aT.aF mix aaf aL ?_
 rw[c42]
 refine mi ?_
 have hB:Good (rI p ps) 8:=by unfold rI;exact eH
 have iX:∀j,8<=j->rI p ps j= .no:=fun j hj=>by unfold rI;(repeat(first|rfl|rw[ad]|rw[ag _ _ _ _ (by omega)]))
 refine aw (fun k:Nat=>⟨aS [.aa, .ptr 0 0, .aa, .ptr 2 0, .aa, .aa, .aa, .aa, .aa, .aa, .aa, .aa, .aa, .aa, .aa, .aa, .aa, .d (.sl (p.rules.map Rl.d)), .d (.i p.rules.length), .d (.i k)],jY (rI p ps) 2 8 [] 40 6 ((jX p ps k).map Cl.d),9⟩)
  (fun k=>k<=p.rules.length) (fun k=>p.rules.length - k) 0 (Nat.zero_le _) (xG (ds:=[]) _ hB iX af (fun j hj j9=>by unfold rI;exact V6) fi af ?_) (fun k hk=> ?_)
 ·exact qz
 replace hk:k<=p.rules.length:=hk
 have Gg:(jX p ps k).length<=k*50500:=nn hp nD k hk
 have k0:jY (rI p ps) 2 8 [] 40 6 ((jX p ps k).map Cl.d) 0= .row [.d (.sl (p.sig.cons.map iV.d)), .d (.sl (p.sig.bB.map iV.d)), .d (.sl (p.rules.map Rl.d)), .d (.sl (ps.map .i))]:=by unfold jY rI;(repeat(first|rfl|rw[ad]|rw[ag _ _ _ _ (by omega)]))
 have k2:jY (rI p ps) 2 8 [] 40 6 ((jX p ps k).map Cl.d) 2= .row [.osl 8 0]:=zA _ af [] _ _ _
 have k8:jY (rI p ps) 2 8 [] 40 6 ((jX p ps k).map Cl.d) 8= .arr 0 40 6 ((jX p ps k).map Cl.d):=zy _ _ _ _ _ _ _
 refine aU ?_
 refine ai (fun h1=> ?_) (fun h1=> ?_)
 ·simp at h1
  obtain⟨r,hr⟩:=az h1
  have RM:=List.mem_of_getElem? hr
  obtain⟨f1,f2,f3⟩:=hp.all r RM
  refine Xt hr k8 ?_
  refine fP (Ck r.rhs _ _ _ _ ?_)
  refine RY k8 ?_
  refine sA (σ:=List Cl) r.rhs f2 (by have:=vj r.rhs;omega) [.aa, .ptr 0 0, .aa, .ptr 2 0, .ptr 13 0, .ptr 14 0, .aa, .aa, .aa, .aa, .aa, .aa, .aa, .aa, .aa, .aa, .aa, .d (.sl (p.rules.map Rl.d)), .d (.i p.rules.length), .d (.i k)] ?_ bF rfl (by unfold jY rI;exact eH) nO fi (qv p ps k r) (fun _=>none) (o6 ps k r) (fun l s=>s.length+l.length*101<=60000) [] ?_ rfl (fun id au=> ?_) (fun x l s hs _ h2=> ?_) ?_ ?_
  ·exact F9
  ·rw[List.length_nil,zH];omega
  ·unfold qv
   by_cases e2:id=2
   ·exact Sa
   by_cases e8:id=8
   ·subst e8;(repeat(first|rfl|rw[ad]|rw[ag _ _ _ _ (by omega)]));rw[k8,List.append_nil];rfl
   rw[ag _ 8 _ _ e8,ag _ 2 _ _ e2]
   exact Mv
  ·have:=zG ps k r x nD
   simp only[o6,List.length_append,List.length_cons]at hs|-
   omega
  ·intro L hL wg x hx l s' h1 h2 o3 n3 hI hn ho K X cz
   simp only[mW]
   have hg:=hI.bA
   have q2:o3 2= .row [.osl 8 s'.length]:=by rw[hI.eq 2 (by omega)];unfold qv;(repeat(first|rfl|rw[ad]|rw[ag _ _ _ _ (by omega)]))
   have q8:o3 8= .arr s'.length 40 6 ((jX p ps k++s').map Cl.d):=by rw[hI.eq 8 (by omega)];unfold qv;(repeat(first|rfl|rw[ad]|rw[ag _ _ _ _ (by omega)]))
   have q0:o3 0= .row [.d (.sl (p.sig.cons.map iV.d)), .d (.sl (p.sig.bB.map iV.d)), .d (.sl (p.rules.map Rl.d)), .d (.sl (ps.map .i))]:=by rw[hI.eq 0 (by omega)];unfold qv jY rI;(repeat(first|rfl|rw[ad]|rw[ag _ _ _ _ (by omega)]))
   have q13:o3 13= .row [.d (.i k)]:=by rw[hI.eq 13 (by omega)];unfold qv;(repeat(first|rfl|rw[ad]|rw[ag _ _ _ _ (by omega)]))
   have q14:o3 14= .row r.row:=by rw[hI.eq 14 (by omega)];unfold qv;(repeat(first|rfl|rw[ad]|rw[ag _ _ _ _ (by omega)]))
   simp only[List.length_cons]at h1
   have hxp:x.path.length<=500:=by
    have t1:=(zr _ _ _ x hx).2
    have t2:=vj r.rhs
    rw[List.length_nil]at t1;omega
   refine aU ?_
   refine lg hL (pd:=none) ?_ ?_
   ·(repeat(first|rfl|rw[ad]|rw[ag _ _ _ _ (by omega)]))
    exact ho
   have fin:∀ (o':Nat->ab) (n':Nat) (s2:List Cl),Good o' n'->n3<=n'->o' 2= .row [.osl 8 s2.length]->o' 8= .arr s2.length 40 6 ((jX p ps k++s2).map Cl.d)->(∀j,j<23->j≠2->j≠8->o' j=o3 j)->cH 23 (qv p ps k r s2) o' n':=fun o' n' s2 k1 k2 k3 k4 k6=>⟨k1,af,fun j hj=>by
    by_cases e:j=2
    ·subst e;rw[k3];unfold qv;(repeat(first|rfl|rw[ad]|rw[ag _ _ _ _ (by omega)]))
    by_cases e2:j=8
    ·subst e2;rw[k4];unfold qv;(repeat(first|rfl|rw[ad]|rw[ag _ _ _ _ (by omega)]))
    rw[k6 j hj e e2,hI.eq j hj];unfold qv
    rw[ag _ _ _ _ e2,ag _ _ _ _ e,ag _ _ _ _ e2,ag _ _ _ _ e]⟩
   have hlen:(jX p ps k++s').length<=100000000:=by rw[List.length_append];omega
   by_cases h4:x.t.op=4
   ·have GF:(x.t.op==4)=true:=by simpa using h4
    have GA:=hk4 r RM x hx h4
    have hpp:=hr4 r RM
    have hxk:∀y∈x.t.kids,y.fits:=fun y hy=>((Tm.bu _).1 (VH _ f2 _ (zr _ _ _ x hx).1)).2 y hy
    have hpf:∀y∈r.ay,y.fits:=fun y hy=>(f1.all y hy).1
    simp+contextual (disch:=first|omega|simp only[go_sem,false_implies]) only[go_sem,wrap64,if_pos,q0,q2,q8,q13,q14,GF,List.length_map]
    refine aw (fun i:Nat=>⟨aS [.aa, .ptr 0 0, .aa, .ptr 2 0, .ptr 13 0, .ptr 14 0, .ptr n3 0, .ptr (n3+1+1+1+1+1+1+1+1) 0, .ptr (n3+1+1+1+1+1+1+1+1+1+1+1+1+1+1+1) 0, .aa, .aa, .aa, .aa, .aa, .aa, .aa, .aa, .aa, .aa, .aa, .aa, .aa, .aa, .aa, .aa, .aa, .aa, .aa, .aa, .aa, .aa, .aa, .aa, .aa, .aa, .aa, .aa, .aa, .aa, .aa, .d (.sl (r.ay.map Tm.d)), .d (.i r.ay.length), .d (.i i)],
     aA (aA (aA (aA o3 n3 (.row x.row)) 23 (L .busy none)) (n3+1+1+1+1+1+1+1+1) (.row [.d (.i k), .d (.i r.fn), .d (.i 0), .bd, .d (.bool x.bare), .bd])) (n3+1+1+1+1+1+1+1+1+1+1+1+1+1+1+1) (mR (qu r.ay x.t.kids i 0)),(n3+1+1+1+1+1+1+1+1+1+1+1+1+1+1+1+1)⟩)
     (fun i=>i<=r.ay.length) (fun i=>r.ay.length - i) 0 (Nat.zero_le _) (aZ.aR _ (show n3<=(n3+1+1+1+1+1+1+1+1+1+1+1+1+1+1+1+1)from af) af ?_ (fun j hj=> ?_) ?_) (fun i hi=> ?_)
    ·exact eH
    ·rw[arcP_0]
     by_cases ea:j=(n3+1+1+1+1+1+1+1+1+1+1+1+1+1+1+1)
     ·exact OS
     by_cases ec:j=(n3+1+1+1+1+1+1+1+1)
     ·exact Sb
     by_cases e23:j=23
     ·exact OR
     by_cases en:j=n3
     ·exact OT
     exact fi
    ·exact bO
    replace hi:i<=r.ay.length:=hi
    refine aU ?_
    refine ai (fun h7=> ?_) (fun h7=> ?_)
    ·simp at h7
     obtain⟨pa,Mf⟩:=az h7
     have Oy:=List.mem_of_getElem? Mf
     refine mj Mf ?_
     refine aw (fun j:Nat=>⟨aS [.aa, .ptr 0 0, .aa, .ptr 2 0, .ptr 13 0, .ptr 14 0, .ptr n3 0, .ptr (n3+1+1+1+1+1+1+1+1) 0, .ptr (n3+1+1+1+1+1+1+1+1+1+1+1+1+1+1+1) 0, .d (.i i), .ptr (n3+1+1+1+1+1+1+1+1+1+1+1+1+1+1+1+1+1+1+1+1) 0, .aa, .aa, .aa, .aa, .aa, .aa, .aa, .aa, .aa, .aa, .aa, .aa, .aa, .aa, .aa, .aa, .aa, .aa, .aa, .aa, .aa, .aa, .aa, .aa, .aa, .aa, .aa, .aa, .aa, .d (.sl (r.ay.map Tm.d)), .d (.i r.ay.length), .d (.i i), .aa, .aa, .aa, .aa, .aa, .aa, .d (.sl (x.t.kids.map Tm.d)), .d (.i x.t.kids.length), .d (.i j)],
      aA (aA (aA (aA (aA o3 n3 (.row x.row)) 23 (L .busy none)) (n3+1+1+1+1+1+1+1+1) (.row [.d (.i k), .d (.i r.fn), .d (.i 0), .bd, .d (.bool x.bare), .bd])) (n3+1+1+1+1+1+1+1+1+1+1+1+1+1+1+1) (mR (qu r.ay x.t.kids i j))) (n3+1+1+1+1+1+1+1+1+1+1+1+1+1+1+1+1+1+1+1+1) (.row pa.row),(n3+1+1+1+1+1+1+1+1+1+1+1+1+1+1+1+1+1+1+1+1+1)⟩)
      (fun j=>j<=x.t.kids.length) (fun j=>x.t.kids.length - j) 0 (Nat.zero_le _) (aZ.aR _ (show n3<=(n3+1+1+1+1+1+1+1+1+1+1+1+1+1+1+1+1+1+1+1+1+1)from af) af ?_ (fun j hj=> ?_) ?_) (fun j hj=> ?_)
     ·exact eH
     ·by_cases eo:j=(n3+1+1+1+1+1+1+1+1+1+1+1+1+1+1+1+1+1+1+1+1)
      ·exact OU
      repeat rw[ag _ (n3+1+1+1+1+1+1+1+1+1+1+1+1+1+1+1+1+1+1+1+1) _ _ eo]
     ·exact bO
     replace hj:j<=x.t.kids.length:=hj
     refine aU ?_
     refine ai (fun h8=> ?_) (fun h8=> ?_)
     ·simp at h8
      obtain⟨ka,Mp⟩:=az h8
      have Oz:=List.mem_of_getElem? Mp
      have hi4:i<4:=af
      have hj4:j<4:=af
      refine mj Mp ?_
      refine aV (D5 ka (hxk ka Oz) pa (hpf pa Oy)) rfl ?_
      have zR:=iG r.ay x.t.kids i j
      have KU:=rq (qu r.ay x.t.kids i j) (i*4+j) (sW ka pa) (by rw[zR];omega)
      have hav:nX r.ay x.t.kids i j=sW ka pa:=by unfold nX;rw[Mf,Mp]
      rw[<- hav, <- HV r.ay x.t.kids hi4 hj4]at KU
      simp+contextual (disch:=first|omega|simp only[go_sem,false_implies]) only[go_sem,wrap64,if_pos,Int.toNat_natCast,Nat.mul_one,KU, <- hav]
      refine aI (iB (ids:=[]) (nx:=n3) aL aL [([],[]),([],[]),([25],[]),([20],[]),([],[]),([15],[]),([15],[]),([15],[15])] bF) ?_
      refine aU ?_
      refine aj (j+1) h8 af (aZ.aR _ (show n3<=(n3+1+1+1+1+1+1+1+1+1+1+1+1+1+1+1+1+1+1+1+1+1)from af) af ?_ (fun q hq=> ?_) ?_)
      ·exact eH
      ·by_cases ea:q=(n3+1+1+1+1+1+1+1+1+1+1+1+1+1+1+1)
       ·exact OS
       by_cases eo:q=(n3+1+1+1+1+1+1+1+1+1+1+1+1+1+1+1+1+1+1+1+1)
       ·exact OU
       (repeat(first|rfl|rw[ad]|rw[ag _ _ _ _ (by omega)]))
       rw[ag _ (n3+1+1+1+1+1+1+1+1+1+1+1+1+1+1+1+1+1+1+1+1) _ _ eo,ag _ (n3+1+1+1+1+1+1+1+1+1+1+1+1+1+1+1) _ _ ea]
      ·exact bO
     ·simp at h8
      have PQ:j=x.t.kids.length:=af
      subst PQ
      refine aU ?_
      refine aj (i+1) h7 af (aZ.aR _ (show n3<=(n3+1+1+1+1+1+1+1+1+1+1+1+1+1+1+1+1)from af) af ?_ (fun q hq=> ?_) ?_)
      ·exact eH
      ·rw[<- LU _ _ GA,ag _ (n3+1+1+1+1+1+1+1+1+1+1+1+1+1+1+1+1+1+1+1+1) _ _ (by omega)]
      ·exact bO
    ·simp at h7
     have Js:i=r.ay.length:=af
     subst Js
     rw[LV _ _ hpp]
     have EI:=(B9 r.ay x.t.kids).1
     simp+contextual (disch:=first|omega|simp only[go_sem,false_implies]) only[go_sem,wrap64,if_pos,jJ _ EI,eD,gW,dn _ EI]
     refine dc (Vf _ EI) ?_
     refine aU ?_
     refine aI (iB (ids:=[]) (nx:=n3) aL aL [([0],[]),([0],[]),([0],[]),([0],[]),([0],[]),([15],[]),([],[]),([8],[]),([8],[8]),([8],[]),([8],[8]),([8],[]),([8],[8])] bF) ?_
     refine H4 q2 q8 ?_
     refine cz _ _ _ .busy none af (fin _ _ _ eH af ?_ ?_ fun j hj j1 j2=> ?_) fi (fun id h3 h4=>by(repeat(first|rfl|rw[ad]|rw[ag _ _ _ _ (by omega)])))
     ·unfold o6 tw;rw[if_pos h4];(repeat(first|rfl|rw[ad]|rw[ag _ _ _ _ (by omega)]));simp
     ·unfold o6 tw;rw[if_pos h4, <- Cb _ _ hpp GA];(repeat(first|rfl|rw[ad]|rw[ag _ _ _ _ (by omega)]));simp
     ·exact fi
   have GF:(x.t.op==4)=false:=by simpa using h4
   by_cases h6:x.t.op=6
   ·have LX:(x.t.op==6)=true:=by simpa using h6
    simp+contextual (disch:=first|omega|simp only[go_sem,false_implies]) only[go_sem,wrap64,if_pos,q0,q2,q8,q13,q14,GF,LX,List.length_map]
    have hpn:V.refs (.d (.bool x.bare))=[]:=rfl
    refine aw (fun i:Nat×V×V=>⟨aS [.aa, .ptr 0 0, .aa, .ptr 2 0, .ptr 13 0, .ptr 14 0, .ptr n3 0, .ptr (n3+1+1+1+1+1+1+1+1) 0, .aa, .aa, .aa, .aa, .aa, .aa, .aa, .aa, .aa, .aa, .aa, .aa, .aa, .aa, .aa, .aa, .aa, .aa, .aa, .aa, .aa, .aa, .aa, .aa, .aa, .aa, .aa, .aa, .aa, .aa, .aa, .aa, .aa, .aa, .aa, .aa, .aa, .aa, .aa, .aa, .aa, .aa, .aa, .aa, .aa, .aa, .aa, .aa, .aa, .aa, .aa, .aa, .aa, .aa, .aa, .aa, .aa, .aa, .aa, .aa, .aa, .aa, .aa, .aa, .aa, .aa, .aa, .aa, .aa, .aa, .aa, .aa, .aa, .aa, .d (.sl (ps.map .i)), .d (.i ps.length), .d (.i i.1)],
     aA (aA (aA (aA (aA o3 n3 (.row x.row)) 23 (L .busy none)) (n3+1+1+1+1+1+1+1+1) (.row [.d (.i k), .d (.i r.fn),i.2.1,i.2.2, .d (.bool x.bare), .bd])) 2 (.row [.osl 8 (s'.length+i.1)])) 8 (.arr (s'.length+i.1) 40 6 ((jX p ps k++s'++(ps.take i.1).map fun to=>Cl.mk k r.fn to x.path x.bare []).map Cl.d)),n3+1+1+1+1+1+1+1+1+1⟩)
     (fun i=>i.1<=ps.length/\i.2.1.refs=[]/\i.2.2.refs=[]) (fun i=>ps.length - i.1) (0, .d (.i 0), .bd) ⟨Nat.zero_le _,rfl,rfl⟩ (aZ.aR _ (show n3<=n3+1+1+1+1+1+1+1+1+1 from af) af ?_ (fun j hj=> ?_) ?_) ?_
    ·exact eH
    ·by_cases e8:j=8
     ·subst e8;(repeat(first|rfl|rw[ad]|rw[ag _ _ _ _ (by omega)]));rw[q8];simp
     by_cases e2:j=2
     ·subst e2;(repeat(first|rfl|rw[ad]|rw[ag _ _ _ _ (by omega)]));rw[q2];simp
     by_cases ec:j=(n3+1+1+1+1+1+1+1+1)
     ·exact Sb
     by_cases e23:j=23
     ·exact OR
     by_cases en:j=n3
     ·exact OT
     exact fi
    ·exact bO
    rintro⟨m,v2,v3⟩ ⟨g1,g2,g3⟩
    simp only at g1 g2 g3
    have Hb:(ab.row [.d (.i k), .d (.i r.fn),v2,v3, .d (.bool x.bare), .bd]).refs=[]:=by simp[ab.refs,V.aG,V.refs,g2,g3]
    have aeI:(jX p ps k++s'++(ps.take m).map fun to=>Cl.mk k r.fn to x.path x.bare []).length<=100000100:=by
     rw[List.length_append,List.length_map,List.length_take];omega
    refine aU ?_
    refine ai (fun h7=> ?_) (fun h7=> ?_)
    ·simp at h7
     obtain⟨to,Te⟩:=az h7
     have CG:ps.take (m+1)=ps.take m++[to]:=by rw[List.take_add_one,Te];rfl
     refine gB Te ?_
     refine a8 (LW x.path af) ?_
     refine mi ?_
     refine aj (m+1, .d (.i to), .d (.sl (x.path.map .i))) ⟨h7,rfl,rfl⟩ jS (aZ.aR _ (show n3<=n3+1+1+1+1+1+1+1+1+1 from af) af ?_ (fun j hj=> ?_) ?_)
     ·exact eH
     ·by_cases e8:j=8
      ·subst e8;(repeat(first|rfl|rw[ad]|rw[ag _ _ _ _ (by omega)]));rw[CG];simp[Nat.add_assoc]
      by_cases e2:j=2
      ·exact Sa
      by_cases ec:j=(n3+1+1+1+1+1+1+1+1)
      ·exact Sb
      (repeat(first|rfl|rw[ad]|rw[ag _ _ _ _ (by omega)]))
      rw[ag _ 8 _ _ e8,ag _ 2 _ _ e2,ag _ (n3+1+1+1+1+1+1+1+1) _ _ ec]
     ·exact bO
    ·simp at h7
     have hm:m=ps.length:=af
     subst hm
     refine aU ?_
     refine cz _ _ _ .busy none af (fin _ _ _ ?_ af ?_ ?_ fun j hj j1 j2=> ?_) fi (fun id h3 h4=>by(repeat(first|rfl|rw[ad]|rw[ag _ _ _ _ (by omega)])))
     ·exact(((((hg.mono af).aA af rfl).aA af (wg _ _ _ af)).aA af (by rw[Hb];rfl)).aA af mm).aA af rfl
     ·exact XM
     ·exact XM
     ·exact fi
   ·have LX:(x.t.op==6)=false:=by simpa using h6
    simp+contextual (disch:=first|omega|simp only[go_sem,false_implies]) only[go_sem,wrap64,if_pos,q0,q2,q8,q13,q14,GF,LX,List.length_map]
    refine cz _ _ _ .busy none af (fin _ _ _ eH af ?_ ?_ fun j hj j1 j2=> ?_) fi (fun id h3 h4=>by(repeat(first|rfl|rw[ad]|rw[ag _ _ _ _ (by omega)])))
    ·unfold o6 tw;rw[if_neg h4,if_neg h6];(repeat(first|rfl|rw[ad]|rw[ag _ _ _ _ (by omega)]));simp[q2]
    ·unfold o6 tw;rw[if_neg h4,if_neg h6];(repeat(first|rfl|rw[ad]|rw[ag _ _ _ _ (by omega)]));simp[q8]
    ·exact fi
  ·intro o' n' hI
   rw[Cu,List.nil_append]at hI
   simp only[oL]
   refine aU ?_
   have hg:=hI.bA
   refine aj (k+1) h1 af (Cm (r:=2) (c:=8) (ep:=(Xj ps k r).length) (ds:=[]) _ hB iX af (fun j hj j9=> ?_) ?_ ?_ ?_)
   ·rw[hI.eq j (by omega)];unfold qv jY;(repeat(first|rfl|rw[ad]|rw[ag _ _ _ _ (by omega)]))
   ·rw[hI.eq 2 (by omega)];unfold qv;(repeat(first|rfl|rw[ad]|rw[ag _ _ _ _ (by omega)]))
   ·rw[hI.eq 8 (by omega),rF p ps hr];unfold qv;(repeat(first|rfl|rw[ad]|rw[ag _ _ _ _ (by omega)]))
   ·exact qz
 ·simp at h1
  have Jx:k=p.rules.length:=af
  subst Jx
  simp+contextual (disch:=first|omega|simp only[go_sem,false_implies]) only[go_sem,wrap64,if_pos,k2,k8]
theorem Cv{s:bE}(h:jc s=true):s.bB.length<=8:=by
 unfold jc at h
 split at h
 ·cases h
 ·rename_i h2
  simp at h2;omega
theorem HW(p:Pg)(hp:p.Fw)(h:dZ p=true):aT Tryz.prog 41 [p.d] (.ret [crD p (c8 p)]):=by
 have:=Ow p hp
 rwa [show tu p p.rules.length=p.rules.flatMap fun r=>je r.rhs by unfold tu;rw[List.take_length],VI (fun r hr=>qo h hr)]at this
theorem qw{p:Pg}(h:dZ p=true):(c8 p).length<=100:=by
 unfold c8
 have h1:=List.length_filter_le (fun n=>(p.rules.flatMap fun r=>je r.rhs).contains n) ((List.range p.sig.bB.length).map fun n:Nat=>(n:Int))
 rw[List.length_map,List.length_range]at h1
 have h2:=Cv (vh h)
 omega
theorem VO(p:Pg)(hp:p.Fw)(h:dZ p=true):aT Tryz.prog 42 [crD p (c8 p)] (.ret [.sl ((kL p).map Cl.d)]):=
 Ox p hp (fun r hr=>(qo h hr).len) (fun r hr x hx h4=>(qo h hr).kids (vh h) hx h4) (c8 p) (qw h)
def qx(ay kids:List Tm)(i j:Nat):List cp:=((List.range i).flatMap fun i=>oW ay kids i kids.length)++oW ay kids i j
theorem xL(ay kids:List Tm)(i j:Nat):oW ay kids i (j+1)=oW ay kids i j++(rE ay kids i j).toList:=by
 unfold oW
 rw[List.range_succ,List.filterMap_append]
 cases h:rE ay kids i j<;>simp[h]
theorem np(ay kids:List Tm)(i:Nat):∀j,(oW ay kids i j).length<=j
 |0=>by simp[oW]
 |j+1=>by
  have:=np ay kids i j
  rw[xL,List.length_append]
  cases rE ay kids i j<;>simp<;>omega
theorem Cw(ay kids:List Tm)(j:Nat):∀i,(qx ay kids i j).length<=i*kids.length+j
 |0=>by have:=np ay kids 0 j;simpa[qx]using this
 |i+1=>by
  have h1:=Cw ay kids kids.length i
  have h2:=np ay kids (i+1) j
  have h3:=np ay kids i kids.length
  unfold qx at h1|-
  rw[List.range_succ,List.flatMap_append,List.append_assoc,List.length_append,List.length_append]
  rw[List.length_append]at h1
  simp only[List.flatMap_cons,List.flatMap_nil,List.append_nil]at h1|-
  have key:∀n,((List.range n).flatMap fun i=>oW ay kids i kids.length).length<=n*kids.length:=by
   intro n
   induction n with
   |zero=>simp
   |succ n ih=>
    rw[List.range_succ,List.flatMap_append,List.length_append,Nat.add_mul]
    have:=np ay kids n kids.length
    simp only[List.flatMap_cons,List.flatMap_nil,List.append_nil];omega
  have:=key i
  rw[Nat.add_mul];omega
theorem LY(ay kids:List Tm)(i:Nat):qx ay kids i kids.length=qx ay kids (i+1) 0:=by
 unfold qx
 rw[List.range_succ,List.flatMap_append]
 simp[oW]
theorem LZ(ay kids:List Tm):qx ay kids ay.length 0=sw ay kids:=by unfold qx sw;simp[oW]
def ON(r:Rl)(l:List cp):Nat->ab:=aA (aA (fun _=> .no) 0 (.row r.row)) 1 (.arr 0 64 3 (l.map cp.d))
theorem vr(r:Rl)(l:List cp):Good (ON r l) 2:=(Good.nil.aA af rfl).aA af rfl
theorem raH_0(r:Rl)(l:List cp):ON r l 0= .row r.row:=R5
theorem raH_1(r:Rl)(l:List cp):ON r l 1= .arr 0 64 3 (l.map cp.d):=R5
theorem OA(r:Rl)(kids:List Tm)(hp:r.ay.length<=1000)(hk:kids.length<=1000)(fp:∀t∈r.ay,t.fits)(fk:∀t∈kids,t.fits):aT Tryz.prog 79 [r.d, .sl (kids.map Tm.d)] (.ret [.sl ((sw r.ay kids).map cp.d)]):=by
 refine aT.aF mix ad3 aL ?_
 rw[c79]
 refine aU ?_
 refine aw (fun i:Nat=>⟨aS [.aa, .d (.sl (kids.map Tm.d)), .ptr 0 0, .aa, .aa, .osl 1 0, .d (.i i)],ON r (qx r.ay kids i 0),2⟩)
  (fun i=>i<=r.ay.length) (fun i=>r.ay.length - i) 0 (Nat.zero_le _) (aZ.iK (fun _=>False) .bd 1 _ af (H6 (cD (y:= .row r.row) fi (raH_0 _ _) (br rfl mm))) (raH_1 _ _) (.inl ⟨rfl,rfl,bF⟩) (fun j hj=>by unfold ON;(repeat(first|rfl|rw[ad]|rw[ag _ _ _ _ (by omega)]))) (fun _ h=>h.elim) ?_) (fun i hi=> ?_)
 ·exact qz
 replace hi:i<=r.ay.length:=hi
 refine RW ?_
 refine ai (fun h1=> ?_) (fun h1=> ?_)
 ·simp at h1
  obtain⟨pa,Mf⟩:=az h1
  have Oy:=List.mem_of_getElem? Mf
  refine RW ?_
  refine aw (fun j:Nat=>⟨aS [.aa, .d (.sl (kids.map Tm.d)), .ptr 0 0, .aa, .aa, .osl 1 0, .d (.i i), .d (.i j)],ON r (qx r.ay kids i j),2⟩)
   (fun j=>j<=kids.length) (fun j=>kids.length - j) 0 (Nat.zero_le _) (aZ.aR _ (show 0<=2 from af) af (vr _ _) (fun j hj=>rfl) ?_) (fun j hj=> ?_)
  ·exact bO
  replace hj:j<=kids.length:=hj
  have hql:=Cw r.ay kids j i
  have hqm:i*kids.length<=1000*1000:=Nat.mul_le_mul af hk
  refine RW ?_
  refine ai (fun h2=> ?_) (fun h2=> ?_)
  ·simp at h2
   obtain⟨ka,Mp⟩:=az h2
   have Oz:=List.mem_of_getElem? Mp
   have iW:qx r.ay kids i (j+1)=qx r.ay kids i j++(rE r.ay kids i j).toList:=by unfold qx;rw[xL,List.append_assoc]
   have hO:rE r.ay kids i j=if gr ka pa=true then some ⟨i,j,false⟩else if pa.kids.any (jO ka)=true then some ⟨i,j,true⟩else none:=by unfold rE;rw[Mf,Mp]
   have aeP:(qx r.ay kids i j).length<=1002000:=af
   simp+contextual (disch:=first|omega|simp only[go_sem,false_implies]) only[go_sem,wrap64,if_pos,raH_0,raH_1,List.length_map,Mf,Mp]
   refine aV (KZ ka (fk ka Oz) pa (fp pa Oy)) rfl ?_
   refine aU ?_
   refine aI (aO rfl) ?_
   cases hs:gr ka pa with
   |true=>
    rw[hs,if_pos rfl]at hO
    rw[hO]at iW
    refine Xs hs ?_
    exact zw8
   |false=>
    rw[hs,if_neg Bool.false_ne_true]at hO
    simp+contextual (disch:=first|omega|simp only[go_sem,false_implies]) only[go_sem,wrap64,if_pos,hs,raH_0,raH_1,List.length_map,Mf,Mp]
    refine aV (HM ka (fk ka Oz) pa (fp pa Oy)) rfl ?_
    refine aU ?_
    refine aI (aO rfl) ?_
    cases hw:pa.kids.any (jO ka)with
    |true=>
     rw[hw,if_pos rfl]at hO
     rw[hO]at iW
     refine Xs hw ?_
     exact zw8
    |false=>
     rw[hw,if_neg Bool.false_ne_true]at hO
     rw[hO,Option.toList_none,List.append_nil]at iW
     refine gB hw ?_
     refine aj (j+1) h2 af (aZ.aR _ (show 0<=2 from af) af (vr _ _) (fun q hq=>by rw[iW]) ?_)
     exact bO
  ·simp at h2
   have PQ:j=kids.length:=af
   subst PQ
   refine aU ?_
   refine aj (i+1) h1 af (aZ.aR _ (show 0<=2 from af) af (vr _ _) (fun q hq=>by rw[LY]) ?_)
   exact bO
 ·simp at h1
  have Js:i=r.ay.length:=af
  subst Js
  rw[LZ]
  simp+contextual (disch:=first|omega|simp only[go_sem,false_implies]) only[go_sem,wrap64,if_pos,raH_0,raH_1]
def Gc(p:Pg)(l:List Int):Nat->ab:=aA (aA (fun _=> .no) 0 (.row p.row)) 1 (.arr 0 3 1 (l.map .i))
theorem vu(p:Pg)(l:List Int):Good (Gc p l) 2:=(Good.nil.aA af rfl).aA af rfl
theorem apH_0(p:Pg)(l:List Int):Gc p l 0= .row p.row:=R8
theorem apH_1(p:Pg)(l:List Int):Gc p l 1= .arr 0 3 1 (l.map .i):=R8
def Ma(p:Pg)(l m:List Int):Nat->ab:=aA (Gc p l) 2 (.arr 0 3 1 (m.map .i))
theorem tF(p:Pg)(l m:List Int):Good (Ma p l m) 3:=((vu p l).mono af).aA af rfl
theorem apI_0(p:Pg)(l m:List Int):Ma p l m 0= .row p.row:=X5
theorem apI_1(p:Pg)(l m:List Int):Ma p l m 1= .arr 0 3 1 (l.map .i):=X5
theorem apI_2(p:Pg)(l m:List Int):Ma p l m 2= .arr 0 3 1 (m.map .i):=My
def Cy(l:List Int)(q:Nat):List Int:=((List.range q).map fun n:Nat=>(n:Int)).filter fun n=>l.contains n
theorem HX(l:List Int)(q:Nat):Cy l (q+1)=Cy l q++if l.contains (q:Int)=true then [(q:Int)]else []:=by
 unfold Cy
 rw[List.range_succ,List.map_append,List.filter_append]
 simp only[List.map_cons,List.map_nil]
 by_cases h:l.contains (q:Int)=true
 ·rw[if_pos h,List.filter_cons,if_pos h];rfl
 ·rw[if_neg h,List.filter_cons,if_neg h];rfl
theorem L0(l:List Int)(q:Nat):(Cy l q).length<=q:=by
 unfold Cy
 have:=List.length_filter_le (fun n=>l.contains n) ((List.range q).map fun n:Nat=>(n:Int))
 simpa using this
theorem Ea(p:Pg)(hp:p.Fw)(hs:p.sig.bB.length<=1000):aT Tryz.prog 80 [p.d] (.ret [.sl ((c8 p).map .i)]):=by
 have vE:=hp.len
 refine aT.aF mix ad4 aL ?_
 rw[c80]
 refine aU ?_
 refine aw (fun k:Nat=>⟨aS [.aa, .ptr 0 0, .aa, .osl 1 0, .bd, .d (.i k)],Gc p (tu p k),2⟩)
  (fun k=>k<=p.rules.length) (fun k=>p.rules.length - k) 0 (Nat.zero_le _) (aZ.iK (fun _=>False) .bd 1 _ af (H6 (cD (y:= .row p.row) fi (apH_0 _ _) (br rfl mm))) (apH_1 _ _) (.inl ⟨rfl,rfl,bF⟩) (fun j hj=>by unfold Gc;(repeat(first|rfl|rw[ad]|rw[ag _ _ _ _ (by omega)]))) (fun _ h=>h.elim) ?_) (fun k hk=> ?_)
 ·exact qz
 replace hk:k<=p.rules.length:=hk
 have Gg:=zF hp k hk
 refine RX ?_
 refine ai (fun h1=> ?_) (fun h1=> ?_)
 ·simp at h1
  obtain⟨r,hr⟩:=az h1
  obtain⟨f1,f2,f3⟩:=hp.all r (List.mem_of_getElem? hr)
  have Ss:=F2 r.rhs
  have nD:=vq p hr
  simp+contextual (disch:=first|omega|simp only[go_sem,false_implies]) only[go_sem,wrap64,if_pos,apH_0,apH_1,List.length_map,hr]
  refine a8 (ab8 r.rhs f2 af) ?_
  refine RX ?_
  refine aj (k+1) h1 af (aZ.iK (fun j=>j=1) (.osl 1 1) 1 _ af (H6 (cD (y:= .row p.row) R8 (apH_0 _ _) (br rfl mm))) (apH_1 _ _) (.inr ⟨1,1,rfl,rfl,by(repeat(first|rfl|rw[ad]|rw[ag _ _ _ _ (by omega)]));rw[nD];simp⟩) (fun j hj=>by unfold Gc;(repeat(first|rfl|rw[ad]|rw[ag _ _ _ _ (by omega)]))) (fun j h h2=>af) ?_)
  exact qz
 ·simp at h1
  have Jx:k=p.rules.length:=af
  subst Jx
  have a7:tu p p.rules.length=p.rules.flatMap fun r=>je r.rhs:=by unfold tu;rw[List.take_length]
  have acd:Cy (tu p p.rules.length) p.sig.bB.length=c8 p:=by rw[a7];rfl
  generalize tu p p.rules.length=all at Gg acd|-
  refine RX ?_
  refine aw (fun q:Nat=>⟨aS [.aa, .ptr 0 0, .aa, .osl 1 0, .osl 2 0, .aa, .d (.i q)],Ma p all (Cy all q),3⟩)
   (fun q=>q<=p.sig.bB.length) (fun q=>p.sig.bB.length - q) 0 (Nat.zero_le _) (aZ.iK (fun _=>False) .bd 2 _ af (fun j hj=> ?_) (apI_2 _ _ _) (.inl ⟨rfl,rfl,bF⟩) (fun j hj=>by unfold Ma Gc;(repeat(first|rfl|rw[ad]|rw[ag _ _ _ _ (by omega)]))) (fun _ h=>h.elim) ?_) (fun q hq=> ?_)
  ·exact cD (y:=Gc p all j) rfl My (br rfl (fun r hr=>(vu p all).refs j r hr))
  ·exact qz
  replace hq:q<=p.sig.bB.length:=hq
  have hql:=L0 all q
  refine Mt ?_
  refine ai (fun h2=> ?_) (fun h2=> ?_)
  ·simp at h2
   refine Mt ?_
   refine aw (fun m:Nat=>⟨aS [.aa, .ptr 0 0, .aa, .osl 1 0, .osl 2 0, .aa, .d (.i q), .d (.bool ((all.take m).contains (q:Int))), .d (.i m)],Ma p all (Cy all q),3⟩)
    (fun m=>m<=all.length) (fun m=>all.length - m) 0 (Nat.zero_le _) (aZ.aR _ (show 0<=3 from af) af (tF _ _ _) (fun j hj=>rfl) ?_) (fun m hm=> ?_)
   ·exact bO
   replace hm:m<=all.length:=hm
   refine Mt ?_
   refine ai (fun h3=> ?_) (fun h3=> ?_)
   ·simp at h3
    obtain⟨y,hy⟩:=az h3
    have CG:(all.take (m+1)).contains (q:Int)=((all.take m).contains (q:Int)||y==(q:Int)):=by
     rw[List.take_add_one,hy]
     simp[List.contains_eq_mem,Bool.decide_or,eq_comm,Bool.beq_eq_decide_eq]
     try rw[Bool.eq_iff_iff];simp
    cases hc:(all.take m).contains (q:Int)with
    |true=>
     rw[hc,Bool.true_or]at CG
     exact Ym
    |false=>
     rw[hc,Bool.false_or]at CG
     exact Ym
   ·simp at h3
    rw[List.take_of_length_le h3]
    have Xl:=HX all q
    refine aU ?_
    refine ai (fun h4=> ?_) (fun h4=> ?_)
    ·rw[if_pos h4]at Xl
     refine Mt ?_
     refine aj (q+1) h2 af (aZ.iK (fun j=>j=2) (.osl 2 1) 2 _ af (fun j hj=> ?_) (apI_2 _ _ _) (.inr ⟨2,1,rfl,rfl,by(repeat(first|rfl|rw[ad]|rw[ag _ _ _ _ (by omega)]));rw[Xl];simp⟩) (fun j hj=>by unfold Ma Gc;(repeat(first|rfl|rw[ad]|rw[ag _ _ _ _ (by omega)]))) (fun j h h2=>af) ?_)
     ·exact cD (y:=Gc p all j) My My (br rfl (fun r hr=>(vu p all).refs j r hr))
     ·exact qz
    ·rw[if_neg (by rw[h4];exact Bool.false_ne_true),List.append_nil]at Xl
     refine aU ?_
     refine aj (q+1) h2 af (aZ.aR _ (show 0<=3 from af) af (tF _ _ _) (fun j hj=>by rw[Xl]) ?_)
     exact bO
  ·simp at h2
   have hqe:q=p.sig.bB.length:=af
   subst hqe
   rw[acd]
   simp+contextual (disch:=first|omega|simp only[go_sem,false_implies]) only[go_sem,wrap64,if_pos,apI_0,apI_1,apI_2]
end Go.Proofs.YtnkamdiiakdkgaaGreat
