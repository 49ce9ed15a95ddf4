/-
  TermCapture: at every call the law answers true, and leaves all memory as it was. Conditions: none.
-/
import Derived.OpenShut
import Derived.Carry
import Derived.Handed
import Derived.JoinedOf
import Derived.ProofKit
import Derived.Test.YtealblliddhgiaaGreatRows
import Derived.Test.YtealblliddhgiaaGreatCp19
set_option linter.unusedSimpArgs false
set_option linter.unusedVariables false
namespace Go.Proofs.YtealblliddhgiaaGreat
theorem mP(s:bP):∀t:Tm,eT s t=true->t.wf:=by
 refine Tm.jC fun t ih h=> ?_
 rw[kJ,Bool.and_eq_true,List.all_eq_true]at h
 rw[Tm.gC]
 refine⟨fun h1=>Gy h.1 h1,fun h8=> ?_,fun k hk=>ih k hk (h.2 k hk)⟩
 have:=h.1
 simp[bC,h8]at this
 omega
theorem pw{s:bP}{t:Tm}(h:dP s t=true):t.wf/\t.sz<=40/\t.b7<=12:=by
 simp only[dP,Bool.and_eq_true,decide_eq_true_eq,mM]at h
 exact⟨mP s t h.2,by omega,by omega⟩
def ei(l:List TB):List (Int×Tm):=l.map fun x=>(x.var,x.term)
theorem n7{s:bP}:∀ (l:List TB) (a:Int),(aO (gH s) a l).2=true->(∀x∈l,a<x.var/\x.var<20/\dP s x.term=true)/\(l.map (·.var)).Nodup
 |[],_,_=>by simp
 |x::l,a,h=>by
  simp only[aO]at h
  split at h
  ·rename_i h1
   simp only[gH,Bool.and_eq_true,decide_eq_true_eq,fN]at h1
   obtain⟨i1,i2⟩:=n7 l x.var h
   refine⟨fun y hy=> ?_, ?_⟩
   ·rcases List.mem_cons.1 hy with rfl|hy
    ·exact⟨h1.1.1,h1.1.2,h1.2⟩
    ·have:=i1 y hy
     exact⟨by omega,this.2⟩
   ·rw[List.map_cons,List.nodup_cons]
    refine⟨fun hm=> ?_,i2⟩
    obtain⟨y,hy,e⟩:=List.mem_map.1 hm
    have:=(i1 y hy).1
    omega
  ·rename_i h1
   cases h
def px(s:bP)(t:Tm)(l:List TB):Tm×Int:=if(eH s [t]&&dJ s l)=true then(if fG s (bA t.b7 (ei l) t)=true then(bA t.b7 (ei l) t,0)else(.mk 0 0 [],3))else(.mk 0 0 [],2)
theorem Cv(s:bP)(hs:s.Fits)(t:Tm)(ht:t.Fin)(l:List TB)(hl:l.length<=9223372036854775807)(hx:∀x∈l,x.term.Fin):cq Tryz.prog 14 [s.d,t.d, .sl (l.map TB.d)] (.ret [(px s t l).1.d, .i (px s t l).2]):=by
 refine cq.bt mix PI (by simp) ?_
 rw[Uf]
 simp+contextual (disch:=first|omega|simp only[go_sem,false_implies]) only[go_sem,wrap64,if_pos,and_self]
 refine aM (wL s hs [t] (by simp) (fun x hx=>by simp at hx;subst hx;exact ht)) rfl ?_
 cases h1:eH s [t]with
 |false=>
  have e:px s t l=(.mk 0 0 [],2):=by simp[px,h1]
  rw[e]
  simp+contextual (disch:=first|omega|simp only[go_sem,false_implies]) only[go_sem,wrap64,if_pos,and_self]
  rw[Tm.sB]
  rfl
 |true=>
  simp+contextual (disch:=first|omega|simp only[go_sem,false_implies]) only[go_sem,wrap64,if_pos,and_self]
  refine aM (GR s hs l hl hx) rfl ?_
  cases h2:dJ s l with
  |false=>
   have e:px s t l=(.mk 0 0 [],2):=by simp[px,h2]
   rw[e]
   simp+contextual (disch:=first|omega|simp only[go_sem,false_implies]) only[go_sem,wrap64,if_pos,and_self]
   rw[Tm.sB]
   rfl
  |true=>
   simp+contextual (disch:=first|omega|simp only[go_sem,false_implies]) only[go_sem,wrap64,if_pos,and_self]
   unfold dJ at h2
   rw[Bool.and_eq_true,decide_eq_true_eq]at h2
   obtain⟨h3,h4⟩:=n7 l (-1) h2.2
   have MI:((ei l).map (·.1)).Nodup:=by simpa[ei,Function.comp_def]using h4
   have NP:dP s t=true:=by
    rw[eH,Bool.and_eq_true,List.all_eq_true]at h1
    have:=h1.2 t (by simp)
    rwa [fN]at this
   obtain⟨w1,w2,w3⟩:=pw NP
   have V4:∀p∈ei l,p.2.wf/\p.2.sz<=40:=fun p hp=>by
    obtain⟨x,V5,rfl⟩:=List.mem_map.1 hp
    have:=pw (h3 x V5).2.2
    exact⟨this.1,this.2.1⟩
   have qi:(ei l).length<=20:=by rw[ei,List.length_map];omega
   refine aX (fun i:Nat=>⟨bB [.ab, .ab, .ab, .ptr 0 0, .ptr 1 0, .ab, .ptr 2 0, .d (.i 0), .mp 15, .ab, .ab, .ab, .ab, .ab, .ab, .ab, .ab, .ab, .ab, .ab, .ab, .ab, .ab, .ab, .ab, .d (.sl (l.map TB.d)), .d (.i l.length), .d (.i i)],aq (aq (aq (aq (aq (fun _=> .no) 0 (.row s.row)) 1 (.row t.row)) 2 (.row [.d (.i 0), .d (.i 0), .aW])) 6 (.arr 0 28 3 [t.d])) 15 (pt (ei (l.take i))),20⟩)
    (fun i=>i<=l.length) (fun i=>l.length - i) 0 (Nat.zero_le _) ?_ ?_
   ·refine bY.cT _ (by decide) (Nat.le_refl _) (by repeat(first|exact hg.mono (by omega)|exact Good.nil|refine Good.aq ?_ (by omega) rfl|refine Good.aq ?_ (by omega) (dR _ _ _ (by omega))|refine Good.aq ?_ (by omega) (by simp[ae.refs,V.ag,V.refs]<;>omega))) (fun j hj=>rfl) ?_
    (repeat(first|exact aw|refine ao ?_|refine ah rfl ?_|refine ah (aT (aS (by omega))) ?_|refine aF rfl (by simp[V.refs,V.ag]<;>first|omega|assumption) ?_))
   rintro i hi
   replace hi:i<=l.length:=hi
   simp+contextual (disch:=first|omega|simp only[go_sem,false_implies]) only[go_sem,wrap64,if_pos,List.length_map]
   refine ay (fun h5=> ?_) (fun h5=> ?_)
   ·simp at h5
    obtain⟨x,XW⟩:=a7 h5
    have Kh:l.take (i+1)=l.take i++[x]:=by rw[List.take_add_one,XW];rfl
    have vf:jE (ei (l.take i)) x.var=none:=by
     rw[pq]
     intro hm
     have h6:x.var∈(l.take i).map (·.var):=by simpa[ei,Function.comp_def]using hm
     have h7:((l.take (i+1)).map (·.var)).Nodup:=h4.sublist ((List.take_sublist _ _).map _)
     rw[Kh,List.map_append,List.nodup_append]at h7
     exact h7.2.2 _ h6 x.var (by simp) rfl
    have qI:ei (l.take (i+1))=ei (l.take i)++[(x.var,x.term)]:=by rw[Kh];simp[ei]
    simp+contextual (disch:=first|omega|simp only[go_sem,false_implies]) only[go_sem,wrap64,if_pos,List.length_map,XW,pv vf]
    refine az (i+1) h5 (by omega) (bY.cT _ (by decide) (by omega) (by repeat(first|exact hg.mono (by omega)|exact Good.nil|refine Good.aq ?_ (by omega) rfl|refine Good.aq ?_ (by omega) (dR _ _ _ (by omega))|refine Good.aq ?_ (by omega) (by simp[ae.refs,V.ag,V.refs]<;>omega))) (fun j hj=> ?_) ?_)
    ·rw[qI]
     by_cases e:j=15
     ·subst e;(repeat(first|rfl|rw[aa]|rw[ad _ _ _ _ (by omega)]))
     ·(repeat(first|rfl|rw[aa]|rw[ad _ _ _ _ (by omega)]))
      rw[ad _ _ _ _ e]
    ·(repeat(first|exact aw|refine ao ?_|refine ah rfl ?_|refine ah (aT (aS (by omega))) ?_|refine aF rfl (by simp[V.refs,V.ag]<;>first|omega|assumption) ?_))
   ·simp at h5
    have R1:i=l.length:=by omega
    subst R1
    rw[List.take_length]
    simp+contextual (disch:=first|omega|simp only[go_sem,false_implies]) only[go_sem,wrap64,if_pos,and_self]
    refine bN (Mz (b:=ei l) w1 (by omega) MI (by omega) fun p hp=>⟨(V4 p hp).1,by have:=(V4 p hp).2;omega⟩) ?_
    simp+contextual (disch:=first|omega|simp only[go_sem,false_implies]) only[go_sem,wrap64,if_pos,and_self]
    have hz:=tq (M:=40) (by omega) t.b7 t (ei l) w1 (Nat.le_refl _) (fun p hp=>(V4 p hp).2)
    have hz2:(bA t.b7 (ei l) t).sz<=1600:=Nat.le_trans hz (Nat.le_trans (Nat.mul_le_mul_right 40 w2) (by decide))
    have hh2:=Tm.qe (bA t.b7 (ei l) t)
    refine aM (sV s hs (bA t.b7 (ei l) t) (Tm.lM _ (by omega)) (by omega)) rfl ?_
    cases h6:fG s (bA t.b7 (ei l) t)with
    |false=>
     have e:px s t l=(.mk 0 0 [],3):=by simp[px,h1,dJ,h2,h6]
     rw[e]
     simp+contextual (disch:=first|omega|simp only[go_sem,false_implies]) only[go_sem,wrap64,if_pos,and_self]
     rw[Tm.sB]
     rfl
    |true=>
     have e:px s t l=(bA t.b7 (ei l) t,0):=by simp[px,h1,dJ,h2,h6]
     rw[e]
     simp+contextual (disch:=first|omega|simp only[go_sem,false_implies]) only[go_sem,wrap64,if_pos,and_self]
end Go.Proofs.YtealblliddhgiaaGreat
namespace Go.Proofs.YtealblliddhgiaaGreat
theorem Ek{s:bP}{k:Int}(h:0<=k/\k<20):bC s (.mk 1 k [])=true:=by
 have:fg k 0 19=true:=by simp[fg];omega
 simp[bC,Tm.op,Tm.n,Tm.kids,this]
theorem mQ{s:bP}:∀t:Tm,eT s t=true->∀v,hO v t=true->0<=v/\v<20:=by
 refine Tm.jC fun t ih h v hv=> ?_
 have hw:=(Tm.gC t).1 (mP s t h)
 rw[kJ,Bool.and_eq_true,List.all_eq_true]at h
 by_cases h1:t.op=1
 ·rw[lG,if_pos h1]at hv
  have hv:t.n=v:=by simpa using hv
  have:=h.1
  simp[bC,h1,fg]at this
  omega
 ·by_cases h8:t.op=8
  ·obtain⟨a,body,hk⟩:=lI (hw.2.1 h8)
   rw[wT h8 hk,Bool.or_eq_true,Bool.and_eq_true]at hv
   rcases hv with hv|hv
   ·exact ih a (by rw[hk];simp) (h.2 a (by rw[hk];simp)) v hv
   ·exact ih body (by rw[hk];simp) (h.2 body (by rw[hk];simp)) v hv.1
  ·rw[wU h1 h8,List.any_eq_true]at hv
   obtain⟨k,hk,hv⟩:=hv
   exact ih k hk (h.2 k hk) v hv
theorem vj{s:bP}:∀ (l:List TB) (a:Int),(∀x∈l,a<x.var/\x.var<20/\dP s x.term=true)->l.Pairwise (fun x y=>x.var<y.var)->(aO (gH s) a l).2=true
 |[],_,_,_=>rfl
 |x::l,a,h,hp=>by
  rw[List.pairwise_cons]at hp
  obtain⟨h1,h2,h3⟩:=h x (by simp)
  simp only[aO,gH,fN,h3,decide_eq_true h1,decide_eq_true h2,Bool.and_self,if_true]
  exact vj l x.var (fun y hy=>⟨hp.1 y hy,(h y (by simp[hy])).2⟩) hp.2
end Go.Proofs.YtealblliddhgiaaGreat
namespace Go.Proofs.YtealblliddhgiaaGreat
end Go.Proofs.YtealblliddhgiaaGreat
section
namespace Go.Proofs.YtealblliddhgiaaGreat
open Go
def V6:Nat->Bool:=fun g=> !([81,63,92,98,101,107,117,100,61,72,108,131,132,133,134,135,136,138,139,143,146,147,148,110,64,127,114,113,99]:List Nat).contains g
def V7:qY Tryz.prog:=qY.of V6 [] (fun _ h=>by cases h)
theorem El:LW Tryz.prog b9 V7 5000 13 []=some (.ret [.bool true]):=by kernel_rfl
theorem known:cq Tryz.prog 13 [] (.ret [.bool true]):=cq.LX mix Md El
end Go.Proofs.YtealblliddhgiaaGreat
end
namespace Go.Proofs.YtealblliddhgiaaGreat
end Go.Proofs.YtealblliddhgiaaGreat
namespace Go.Proofs.YtealblliddhgiaaGreat
end Go.Proofs.YtealblliddhgiaaGreat
section
namespace Go.Proofs.YtealblliddhgiaaGreat
open Go.ChangeShapes Go.WideShapes Go.RowKit
def tt(P:Program)(rec:TypeId->Option (List TypeId)):Nat->List Field->Option (List TypeId)
 |_,[]=>some []
 |off,f::fs=>if f.offset=off then match rec f.type with
  |some l=>if P.cellsOf f.type=l.length then(tt P rec (off+l.length) fs).map (l++·)else none
  |none=>none else none
def lR(P:Program):Nat->TypeId->Option (List TypeId)
 |0,_=>none
 |n+1,t=>match P.underlying t with
  |some .bool|some (.int _)|some .string|some (.slice _)=>some [t]
  |some (.struct fs)=>tt P (lR P n) 0 fs.toList
  |some (.array k e)=>match lR P n e with
   |some l=>if P.cellsOf e=l.length then some (List.replicate k l).flatten else none
   |none=>none
  |_=>none
def isAgg(P:Program)(t:TypeId):Bool:=match P.underlying t with
 |some (.struct _)|some (.array _ _)=>true
 |_=>false
mutual
def D.jy (P:Program):D->TypeId->Prop
 | .int k n,t=>P.underlying t=some (.int k)/\(Lit.int k n).wf=true
 | .bool _,t=>P.underlying t=some .bool
 | .str l,t=>P.underlying t=some .string/\l.length<=maxLen
 | .sl es,t=>∃e,P.underlying t=some (.slice e)/\es.length<=maxLen/\D.Em P es e
 | .agg cs,t=>isAgg P t=true/\∃ls,lR P 20 t=some ls/\D.iw P cs ls
 |_,_=>False
def D.Em (P:Program):List D->TypeId->Prop
 |[],_=>True
 |x::l,e=>D.jy P x e/\D.Em P l e
def D.iw (P:Program):List D->List TypeId->Prop
 |[],ts=>ts=[]
 |x::l,ts=>∃t r,ts=t::r/\D.jy P x t/\D.iw P l r
end
def ru(P:Program)(T:List TypeId):Bool:=T.all fun t=>match lR P 20 t with
 |some l=>decide (l.length=P.cellsOf t)&&decide (0<l.length)&&l.all fun u=>match P.underlying u with
  |some (.slice e)=>T.contains e
  |_=>true
 |none=>false
theorem py{P:Program}:∀ {xs ys:List D} {l r:List TypeId},D.iw P xs l->D.iw P ys r->D.iw P (xs++ys) (l++r)
 |[],_,_,_,h,h'=>by simp only[D.iw]at h;subst h;exact h'
 |x::xs,_,_,_,h,h'=>by
  obtain⟨t,r,rfl,h1,h2⟩:=h
  exact⟨t,_,rfl,h1,py h2 h'⟩
theorem bp{B:Nat->Prop}{w:World}:∀ {xs ys:List D} {l r:List Value},D.aB B w xs l->D.aB B w ys r->D.aB B w (xs++ys) (l++r)
 |[],_,_,_,h,h'=>by simp only[D.aB]at h;subst h;exact h'
 |x::xs,_,_,_,h,h'=>by
  obtain⟨t,r,rfl,h1,h2⟩:=h
  exact⟨t,_,rfl,h1,bp h2 h'⟩
theorem Flat.append {l r:List Value}(h:Flat l)(h':Flat r):Flat (l++r):=fun u hu=>(List.mem_append.1 hu).elim (h u) (h' u)
abbrev MB:Nat->Prop:=fun _=>False
section
variable {H:Type}{enc:TypeId×Value->H}{P:Program}{W:World}{T:List TypeId}{b0:Nat}
def dz(P:Program)(W:World)(l:List TypeId)(cs:List Value):Prop:=∃xs,D.iw P xs l/\D.aB MB W xs cs/\Flat cs
theorem dz.append {l r:List TypeId}{cs ds:List Value}(h:dz P W l cs)(h':dz P W r ds):dz P W (l++r) (cs++ds):=by
 obtain⟨xs,a1,a2,a3⟩:=h
 obtain⟨ys,b1,b2,b3⟩:=h'
 exact⟨xs++ys,py a1 b1,bp a2 b2,a3.append b3⟩
theorem dz.length {l:List TypeId}{cs:List Value}(h:dz P W l cs):cs.length=l.length:=by
 obtain⟨xs,a1,a2,_⟩:=h
 rw[D.aD _ _ a2]
 clear a2
 induction xs generalizing l with
 |nil=>simp only[D.iw]at a1;simp[a1]
 |cons x xs ih=>obtain⟨t,r,rfl,_,h⟩:=a1;simp[ih h]
theorem dz.nil:dz P W [] []:=⟨[],rfl,rfl,fun _ h=>by cases h⟩
theorem zq{α:Type}(cs:List α)(o k:Nat):cs.drop o=(cs.drop o).take k++cs.drop (o+k):=by
 rw[<- List.drop_drop];exact(List.take_append_drop k _).symm
theorem pz{rec:TypeId->Option (List TypeId)}{cs:List Value}{rd:TypeId->List Value->Prop}
 (bG:∀t l vs,rec t=some l->(∀u∈l,∀e,P.underlying u=some (.slice e)->e∈T)->P.cellsOf t=l.length->rd t vs->dz P W l vs):
 ∀ (fs:List Field) (off:Nat) (l:List TypeId),tt P rec off fs=some l->(∀u∈l,∀e,P.underlying u=some (.slice e)->e∈T)->(∀f∈fs,rd f.type ((cs.drop f.offset).take (P.cellsOf f.type)))->
   off+l.length=cs.length->dz P W l (cs.drop off)
 |[],off,l,h,_,_,hl=>by
  simp only[tt,Option.some.injEq]at h
  subst h
  have:cs.drop off=[]:=List.drop_eq_nil_of_le (by simp at hl;omega)
  rw[this];exact dz.nil
 |f::fs,off,l,h,hT,hr,hl=>by
  simp only[tt]at h
  split at h
  ·rename_i ho
   split at h
   ·rename_i l1 h1
    split at h
    ·rename_i hc
     simp only[Option.map_eq_some_iff]at h
     obtain⟨r,h2,rfl⟩:=h
     have hd:=hr f (by simp)
     rw[ho,hc]at hd
     rw[zq cs off l1.length]
     simp only[List.length_append]at hl
     exact(bG f.type l1 _ h1 (fun u hu=>hT u (by simp[hu])) hc hd).append (pz bG fs _ r h2 (fun u hu=>hT u (by simp[hu])) (fun f hf=>hr f (by simp[hf])) (by omega))
    ·cases h
   ·cases h
  ·cases h
theorem qK{l:List TypeId}{cs:List Value}:∀ (k i:Nat),(∀j,j<k->dz P W l ((cs.drop ((i+j)*l.length)).take l.length))->(i+k)*l.length=cs.length->dz P W (List.replicate k l).flatten (cs.drop (i*l.length))
 |0,i,_,hl=>by
  have:cs.drop (i*l.length)=[]:=List.drop_eq_nil_of_le (by simp at hl;omega)
  rw[this];exact dz.nil
 |k+1,i,h,hl=>by
  rw[List.replicate_succ,List.flatten_cons,zq cs (i*l.length) l.length]
  refine(by simpa using h 0 (by omega):dz P W l _).append ?_
  rw[show i*l.length+l.length=(i+1)*l.length by rw[Nat.add_mul];omega]
  refine qK k (i+1) (fun j hj=> ?_) (by rw[<- hl];congr 1;omega)
  have:=h (j+1) (by omega)
  rwa [show i+(j+1)=i+1+j by omega]at this
theorem zr{e:TypeId}{l:List TypeId}{cs:List Value}(hl:lR P 20 e=some l)(h:dz P W l cs):∃ (ev:Value) (x:D),ev.cells.toList=cs/\D.jy P x e/\D.den MB W x ev/\(isAgg P e=true->ev= .agg cs.toArray)/\(isAgg P e=false->cs=[ev]/\ev.oneCell'=true):=by
 obtain⟨xs,h1,h2,h3⟩:=h
 cases ha:isAgg P e with
 |true=>exact⟨.agg cs.toArray, .agg xs,by simp[Value.cells],⟨ha,l,hl,h1⟩,⟨_,rfl,by simpa using h2,by simpa using h3⟩,fun _=>rfl,(fun h=>by cases h)⟩
 |false=>
  have:l=[e]:=by
   unfold lR at hl
   unfold isAgg at ha
   split at hl<;>simp_all
  subst this
  obtain⟨t,r,e1,h4,h5⟩:∃x r,xs=x::r/\D.jy P x e/\D.iw P r []:=by
   cases xs with
   |nil=>simp[D.iw]at h1
   |cons x r=>obtain⟨t,r',e1,h4,h5⟩:=h1;injection e1 with e1 e2;subst e1;subst e2;exact⟨x,r,rfl,h4,h5⟩
  subst e1
  have:r=[]:=by cases r with
   |nil=>rfl
   |cons y r=>obtain⟨_,_,e,_⟩:=h5;cases e
  subst this
  obtain⟨u,us,rfl,h6,h7⟩:=h2
  simp only[D.aB]at h7
  subst h7
  have ho:=h3 u (by simp)
  refine⟨u,t, ?_,h4,h6,(fun h=>by cases h),fun _=>⟨rfl,ho⟩⟩
  cases u<;>simp_all[Value.oneCell',Value.cells]
theorem zu(hp:ru P T=true){t:TypeId}(ht:t∈T):∃l,lR P 20 t=some l/\l.length=P.cellsOf t/\0<l.length/\∀u∈l,∀e,P.underlying u=some (.slice e)->e∈T:=by
 have:=List.all_eq_true.1 hp t ht
 split at this
 ·rename_i l hl
  simp only[Bool.and_eq_true,decide_eq_true_eq,List.all_eq_true]at this
  refine⟨l,hl,this.1.1,this.1.2,fun u hu e he=> ?_⟩
  have:=this.2 u hu
  rw[he]at this
  simpa using this
 ·cases this
theorem Bi(hp:ru P T=true):∀ (n m:Nat) (t:TypeId) (l:List TypeId) (cs:List Value) (x:DataW H×List MemPlace),lR P m t=some l->(∀u∈l,∀e,P.underlying u=some (.slice e)->e∈T)->
 P.cellsOf t=l.length->DataW.trod enc P W 0 (fun _=>true) true n t cs=some x->dz P W l cs:=by
 intro n
 induction n with
 |zero=>intro m t l cs x _ _ _ h;simp[DataW.trod]at h
 |succ n ih=>
  intro m t l cs x hl hT hc h
  cases m with
  |zero=>simp[lR]at hl
  |succ m=>
  unfold lR at hl
  split at hl
  ·rename_i hu
   injection hl with hl;subst hl
   obtain⟨b,rfl,_⟩:=DataW.trod_bool hu h
   exact⟨[.bool b],⟨t,[],rfl,hu,rfl⟩,⟨_,_,rfl,rfl,rfl⟩,by simp[Flat,Value.oneCell']⟩
  ·rename_i k hu
   injection hl with hl;subst hl
   obtain⟨b,rfl,_,hw⟩:=DataW.trod_int hu h
   exact⟨[.int k b],⟨t,[],rfl,⟨hu,hw⟩,rfl⟩,⟨_,_,rfl,rfl,rfl⟩,by simp[Flat,Value.oneCell']⟩
  ·rename_i hu
   injection hl with hl;subst hl
   obtain⟨s,rfl,_,hw⟩:=DataW.trod_string hu h
   exact⟨[.str s.data.toList],⟨t,[],rfl,⟨hu,by simpa using hw⟩,rfl⟩,⟨_,_,rfl,⟨s,rfl,rfl⟩,rfl⟩,by simp[Flat,Value.oneCell']⟩
  ·rename_i e hu
   injection hl with hl;subst hl
   rcases DataW.trod_slice hu h with⟨rfl,_⟩|⟨a,len,cap,elems,rest,n',hn,rfl,_,_,h2,h3,h4,h5,h6,_⟩
   ·exact⟨[.sl []],⟨t,[],rfl,⟨e,hu,by simp,trivial⟩,rfl⟩,⟨_,_,rfl,⟨none,0,0,rfl,rfl,by simp,fun _=>rfl,0,(fun a ha=>by cases ha)⟩,rfl⟩,by simp[Flat,Value.oneCell']⟩
   ·injection hn with hn;subst hn
    obtain⟨l',g1,g2,g3,g4⟩:=zu hp (hT t (by simp) e hu)
    have ZF:∀i,i<len->∃ev:Value,∃y:D,ev.cells.size=P.cellsOf e/\gk MB W (a.add (i*P.cellsOf e)) ev.cells/\D.den MB W y ev/\D.jy P y e:=by
     intro i hi
     have:=h5 i hi
     rw[List.getElem?_eq_getElem (by omega)]at this
     obtain⟨ci,k1,k2⟩:=Option.bind_eq_some_iff.1 this
     obtain⟨_,k3,k4⟩:=World.cells?_some k1
     have k5:=ih 20 e l' ci _ g1 g4 g2.symm k2
     obtain⟨ev,y,q1,q2,q3,_,_⟩:=zr g1 k5
     have q4:ev.cells=ci.toArray:=by rw[<- q1]
     refine⟨ev,y,by rw[q4];simp[k5.length,g2],fun j u hj=>⟨?_,fun h=>h⟩,q3,q2⟩
     rw[q4]at hj
     have Ep:ci[j]? =some u:=by simpa using hj
     have bM:j<P.cellsOf e:=by rw[<- g2, <- k5.length];exact(List.getElem?_eq_some_iff.1 Ep).1
     rw[k4 j bM];exact Ep
    have list:∀k i,i+k=len->∃es,es.length=k/\D.Em P es e/\D.elems MB W (P.cellsOf e) a i es:=by
     intro k
     induction k with
     |zero=>intro i _;exact⟨[],rfl,trivial,trivial⟩
     |succ k ZG=>
      intro i hi
      obtain⟨es,e1,e2,e3⟩:=ZG (i+1) (by omega)
      obtain⟨ev,y,y1,y2,y3,y4⟩:=ZF i (by omega)
      exact⟨y::es,by simp[e1],⟨y4,e2⟩,⟨ev,y1,y2,y3⟩,e3⟩
    obtain⟨es,e1,e2,e3⟩:=list len 0 (by omega)
    have R2:cap≠0->a.spot=none:=by
     intro vA
     have Km:∀z,(W.cells? 0 (a.add (0*P.cellsOf e)) (P.cellsOf e)).bind (DataW.trod enc P W 0 (fun _=>true) true n e)=some z->a.spot=none:=by
      intro z hz
      obtain⟨ci,k1,k2⟩:=Option.bind_eq_some_iff.1 hz
      obtain⟨_,k3,k4⟩:=World.cells?_some k1
      have k5:=k4 0 (by omega)
      rw[List.getElem?_eq_getElem (by omega)]at k5
      simpa[Addr.add]using World.cell?_spot k5
     by_cases hlen:0<len
     ·have:=h5 0 hlen
      rw[List.getElem?_eq_getElem (by omega)]at this
      exact Km _ this
     ·obtain⟨h7,h8⟩:=h6 rfl
      have:=h8 0 (by omega)
      rw[List.getElem?_eq_getElem (by omega),show(len+0)=0 by omega]at this
      exact Km _ this
    exact⟨[.sl es],⟨t,[],rfl,⟨e,hu,by omega,e2⟩,rfl⟩,⟨_,_,rfl,⟨some a,len,cap,rfl,e1.symm,h2,(fun h=>by cases h),P.cellsOf e,(fun a' NO=>by injection NO with NO;subst NO;exact⟨R2,e3⟩)⟩,rfl⟩,by simp[Flat,Value.oneCell']⟩
  ·rename_i fs hu
   obtain⟨xs,n',hn,_,h2,h3,h4⟩:=DataW.trod_struct hu h
   injection hn with hn;subst hn
   have:=pz (P:=P) (W:=W) (T:=T) (cs:=cs) (rd:=fun t vs=>∃y,DataW.trod enc P W 0 (fun _=>true) true n t vs=some y) (rec:=lR P m) (fun t l vs q1 q2 q3 ⟨y,q4⟩=>ih m t l vs y q1 q2 q3 q4) fs.toList 0 l hl hT ?_ (by omega)
   ·simpa using this
   ·intro f hf
    obtain⟨i,hi,ZH⟩:=List.getElem_of_mem hf
    have:=h4 i f (by simp at hi;simp[<- ZH,Array.getElem?_eq_getElem hi])
    rw[List.getElem?_eq_getElem (by simp at hi;omega)]at this
    exact⟨_,this⟩
  ·rename_i k e hu
   split at hl
   ·rename_i l' Ht
    split at hl
    ·rename_i XX
     injection hl with hl;subst hl
     obtain⟨xs,n',hn,_,h2,h3,h4⟩:=DataW.trod_array hu h
     injection hn with hn;subst hn
     have hlen:cs.length=k*l'.length:=by rw[h2,hc];simp
     have ZI:0<k->∀u∈l',∀e,P.underlying u=some (.slice e)->e∈T:=fun hk u hu=>hT u (List.mem_flatten.2 ⟨l',List.mem_replicate.2 ⟨by omega,rfl⟩,hu⟩)
     have:=qK (P:=P) (W:=W) (l:=l') (cs:=cs) k 0 (fun j hj=> ?_) (by rw[hlen];simp)
     ·simpa using this
     ·have:=h4 j hj
      rw[XX,List.getElem?_eq_getElem (by omega)]at this
      rw[Nat.zero_add]
      exact ih m e l' _ _ Ht (ZI (by omega)) XX this
    ·cases hl
   ·cases hl
  ·cases hl
theorem vk(hp:ru P T=true):∀ (ts:List TypeId) (vs:List Value) (ds:List (DataW H)) (p:List MemPlace),(∀t∈ts,t∈T)->DataW.TrodAll enc P W 0 (fun _=>true) true ts vs ds p->
 (∀ (j:Nat) t v,ts[j]? =some t->vs[j]? =some v->Value.okWide P W .any b0 t v)->∃xs,D.iw P xs ts/\D.aB MB W xs vs
 |[],vs,ds,p,_,h,_=>by
  obtain⟨rfl,rfl,rfl⟩:=trodAll_nil h
  exact⟨[],rfl,rfl⟩
 |t::ts,vs,ds,p,hT,h,hv=>by
  obtain⟨v,Sd,d,Oo,p1,q1,rfl,rfl,rfl,⟨n,h1⟩,h2⟩:=trodAll_cons h
  obtain⟨xs,a1,a2⟩:=vk hp ts Sd Oo q1 (fun t ht=>hT t (by simp[ht])) h2 (fun j t v h1 h2=>hv (j+1) t v (by simpa using h1) (by simpa using h2))
  obtain⟨l,g1,g2,g3,g4⟩:=zu hp (hT t (by simp))
  obtain⟨ev,x,q1,q2,q3,q4,q5⟩:=zr g1 (Bi hp n 20 t l _ _ g1 g4 g2.symm h1)
  have bz:=hv 0 t v rfl rfl
  have:ev=v:=by
   cases ha:isAgg P t with
   |true=>
    have:∃cs,v= .agg cs:=by
     unfold isAgg at ha
     unfold Value.okWide at bz
     split at ha
     ·rename_i hu;rw[hu]at bz;obtain⟨cs,rfl,_⟩:=bz;exact⟨cs,rfl⟩
     ·rename_i hu;rw[hu]at bz;obtain⟨cs,rfl,_⟩:=bz;exact⟨cs,rfl⟩
     ·cases ha
    obtain⟨cs,rfl⟩:=this
    rw[q4 ha]
    simp[Value.cells]
   |false=>
    obtain⟨q6,q7⟩:=q5 ha
    cases v with
    |agg cs=>
     exfalso
     unfold isAgg at ha
     unfold Value.okWide at bz
     split at bz
     ·rename_i hu;rw[hu]at ha;cases ha
     ·rename_i hu;rw[hu]at ha;cases ha
     ·unfold Cell.okWide at bz
      split at bz
      case h_8=>
       unfold Cell.ok at bz
       split at bz<;>first|exact bz|contradiction
      all_goals contradiction
    |_=>simp only[Value.cells,List.cons.injEq,and_true]at q6;exact q6.symm
  subst this
  exact⟨x::xs,⟨t,ts,rfl,q2,a1⟩,⟨_,_,rfl,q3,a2⟩⟩
theorem eM.below {w w':World}(h:eM (fun _=>False) w w'):Below w.heap.size w w':=⟨h.os,h.tape,h.output,h.size,fun k hk=>h.block k hk (fun h=>h)⟩
theorem vl(hl:laidOutB P=true){W':World}{sp:Nat->Bool}:∀ {ts:List TypeId} {vs:List Value} {ds:List (DataW H)} {p:List MemPlace},(∀t∈ts,P.readableRec t=true/\t<P.types.size)->DataW.TrodAll enc P W 0 (fun _=>true) true ts vs ds p->
 (∀x∈p,W.sameAt W' x/\sp x.block=true)->DataW.TrodAll enc P W' 0 sp true ts vs ds p
 |[],vs,ds,p,_,h,_=>by
  obtain⟨rfl,rfl,rfl⟩:=trodAll_nil h
  exact trodAll_mk0
 |t::ts,vs,ds,p,hr,h,hs=>by
  obtain⟨v,Sd,d,Oo,p1,q1,rfl,rfl,rfl,h1,h2⟩:=trodAll_cons h
  exact⟨p1,q1,WideElems.Trod_stays hl (hr t (by simp)).1 (hr t (by simp)).2 h1 (fun x hx=>(hs x (by simp[hx])).1) (fun x hx=>(hs x (by simp[hx])).2),vl hl (fun t ht=>hr t (by simp[ht])) h2 (fun x hx=>hs x (by simp[hx])),rfl⟩
theorem GV{sp:Nat->Bool}:∀ {ts:List TypeId} {vs:List Value} {ds:List (DataW H)} {ps:List MemPlace},DataW.TrodAll enc P W 0 sp true ts vs ds ps->ds.length=ts.length
 |[],_,_,_,h=>by obtain⟨_,rfl,_⟩:=trodAll_nil h;rfl
 |_::_,_,_,_,h=>by
  obtain⟨_,_,_,_,_,_,_,rfl,_,_,h2⟩:=trodAll_cons h
  simp[GV h2]
theorem wY{f:FuncId}{fn:Func}{s:ChangeSpec}{tb:TypeId}{fresh handsOn again:Bool}(qQ:fn.resultTypes=#[tb])(Mm:P.underlying tb=some .bool)(Kn:s.vars=[])
 (GW:∀ds:List (DataW H),ds.length=fn.params.toList.length->s.fn H ds={results:=[.lit (.bool true)],args:=ds}) (hp:ru P T=true) (hT:∀t∈fn.params.toList,t∈T) (hl:laidOutB P=true)
 (hr:∀t∈fn.params.toList,P.readableRec t=true/\t<P.types.size) (law:∀xs,D.iw P xs fn.params.toList->cq P f xs (.ret [.bool true]))
 (base:Nat) (args:Array Value) (ds gs:List (DataW H)) (before:List MemPlace)
 (ec:∀ (j:Nat) t v,fn.params[j]? =some t->args[j]? =some v->Value.okWide P W .any base t v) (hW:DataW.Whole enc P fn.params.toList s.vars false W args.toList ds gs before):
 Calls P f args W fun e W'=>∃v,e= .returned v/\s.post enc P fn false fresh handsOn again W args v W':=by
 have XY:=hW
 obtain⟨p,q,hA,hV,rfl,ZJ,MI⟩:=hW
 rw[Kn]at hV
 obtain⟨rfl,rfl⟩:=trodVars_none hV
 obtain⟨xs,a1,a2⟩:=vk (b0:=base) hp fn.params.toList args.toList ds p hT hA (fun j t v h1 h2=>ec j t v (by simpa using h1) (by simpa using h2))
 refine((law xs a1).2 MB W args (fun _ h=>h.elim) a2).mono fun e W' ⟨hk,ho⟩=> ?_
 have hb:=hk.below
 cases e with
 |panicked ch=>exact ho.elim
 |outgrown=>exact ho.elim
 |returned v=>
  simp only[R.is,D.den]at ho
  subst ho
  refine⟨_,rfl, ?_⟩
  have hlen:ds.length=fn.params.toList.length:=(GV hA)
  have hold:∀x∈p,x.block<W.heap.size:=fun x hx=>by simpa using XY.lt x (by simpa using hx)
  have ey:∀sp:Nat->Bool,(∀x∈p,sp x.block=true)->DataW.TrodAll enc P W' 0 sp true fn.params.toList args.toList ds p:=fun sp xu=>vl hl hr hA fun x hx=>⟨hb.same (hold x hx),xu x hx⟩
  have Ko:∀ (b:Nat) (sp:Nat->Bool) (hd:Bool),DataW.TrodAll enc P W' b sp hd fn.resultTypes.toList ((Value.bool true).resultList fn.resultTypes.size) [.lit (.bool true)] []:=fun b sp hd=>by
   rw[qQ]
   exact trodAll_cons_mk (p:=[]) (p':=[]) ⟨1,by simp[DataW.trod,Value.cells,Mm]⟩ trodAll_mk0
  have GX:∀sp:Nat->Bool,DataW.TrodVars enc P W' sp s.vars [] []:=fun sp=>by rw[Kn];rfl
  refine⟨ds,[],p++[],[],p,[],XY, ?_, ?_, ?_,World.keptBut_mono (fun _ h=>h.elim) (hb.frame (fun _=>False)),fun _=>⟨?_,[.lit (.bool true)]++ds,[],([]++p)++[],⟨[]++p,[],trodAll_append (ey _ fun _ _=>rfl) (Ko 0 (fun _=>true) true),GX _,rfl, ?_,(fun h=>by cases h)⟩,fun x hx _=>by simpa using hx⟩⟩
  ·rw[List.append_nil,GW ds hlen];exact Ko _ _ _
  ·rw[List.append_nil,GW ds hlen];exact ey _ fun x hx=>by simpa using hold x hx
  ·rw[List.append_nil,GW ds hlen];exact GX _
  ·intro j t r h1 h2
   rw[qQ]at h1 h2
   match j,h1,h2 with
   |0,h1,h2=>
    simp[Value.resultList]at h1 h2
    subst h1;subst h2
    simp[Value.okWide,Mm,Cell.okWide,Cell.ok]
  ·intro b off hx
   rw[hb.frozen (by simpa[MemPlace.block]using hold _ (by simpa using hx))]
   exact ZJ b off (by simpa using hx)
end
section
variable {P:Program}{t e:TypeId}{x:D}
theorem zw{k:IntKind}(ht:P.underlying t=some (.int k))(h:D.jy P x t):∃n,x= .int k n/\(Lit.int k n).wf=true:=by
 cases x<;>simp only[D.jy]at h
 case int k' n=>
  rw[ht]at h
  obtain⟨h1,h2⟩:=h
  injection h1 with h1;injection h1 with h1;subst h1
  exact⟨n,rfl,h2⟩
 case bool=>rw[ht]at h;cases h
 case str=>rw[ht]at h;cases h.1
 case sl=>obtain⟨e,h,_⟩:=h;rw[ht]at h;cases h
 case agg=>have:=h.1;unfold isAgg at this;rw[ht]at this;cases this
theorem GY(ht:P.underlying t=some .string)(h:D.jy P x t):∃l,x= .str l/\l.length<=maxLen:=by
 cases x<;>simp only[D.jy]at h
 case int k' n=>rw[ht]at h;cases h.1
 case bool b=>rw[ht]at h;cases h
 case str l=>exact⟨l,rfl,h.2⟩
 case sl=>obtain⟨e,h,_⟩:=h;rw[ht]at h;cases h
 case agg=>have:=h.1;unfold isAgg at this;rw[ht]at this;cases this
theorem pA(ht:P.underlying t=some (.slice e))(h:D.jy P x t):∃es,x= .sl es/\es.length<=maxLen/\D.Em P es e:=by
 cases x<;>simp only[D.jy]at h
 case int k' n=>rw[ht]at h;cases h.1
 case bool b=>rw[ht]at h;cases h
 case str l=>rw[ht]at h;cases h.1
 case sl es=>
  obtain⟨e',h,h2,h3⟩:=h
  rw[ht]at h;injection h with h;injection h with h;subst h
  exact⟨es,rfl,h2,h3⟩
 case agg=>have:=h.1;unfold isAgg at this;rw[ht]at this;cases this
theorem pB{ls:List TypeId}(ha:isAgg P t=true)(hl:lR P 20 t=some ls)(h:D.jy P x t):∃cs,x= .agg cs/\D.iw P cs ls:=by
 have no:∀u,P.underlying t=some u->(∀fs,u≠ .struct fs)->(∀k e,u≠ .array k e)->False:=by
  intro u hu h1 h2
  unfold isAgg at ha
  rw[hu]at ha
  split at ha
  ·rename_i e;injection e with e;exact h1 _ e
  ·rename_i e;injection e with e;exact h2 _ _ e
  ·cases ha
 cases x<;>simp only[D.jy]at h
 case int k' n=>exact(no _ h.1 (fun _ h=>by cases h) (fun _ _ h=>by cases h)).elim
 case bool b=>exact(no _ h (fun _ h=>by cases h) (fun _ _ h=>by cases h)).elim
 case str l=>exact(no _ h.1 (fun _ h=>by cases h) (fun _ _ h=>by cases h)).elim
 case sl es=>obtain⟨e',h,_⟩:=h;exact(no _ h (fun _ h=>by cases h) (fun _ _ h=>by cases h)).elim
 case agg cs=>
  obtain⟨_,ls',h1,h2⟩:=h
  rw[hl]at h1;injection h1 with h1;subst h1
  exact⟨cs,rfl,h2⟩
theorem cn{t:TypeId}{ts:List TypeId}{cs:List D}(h:D.iw P cs (t::ts)):∃x xs,cs=x::xs/\D.jy P x t/\D.iw P xs ts:=by
 cases cs with
 |nil=>simp[D.iw]at h
 |cons x xs=>obtain⟨_,_,e,h1,h2⟩:=h;injection e with e1 e2;subst e1;subst e2;exact⟨x,xs,rfl,h1,h2⟩
theorem kR{cs:List D}(h:D.iw P cs []):cs=[]:=by
 cases cs with
 |nil=>rfl
 |cons x xs=>obtain⟨_,_,e,_⟩:=h;cases e
theorem mR{α:Type}{f:α->D}{q:α->Prop}(hf:∀x,D.jy P x e->∃a,x=f a/\q a):∀ (es:List D),D.Em P es e->∃l:List α,es=l.map f/\∀a∈l,q a
 |[],_=>⟨[],rfl,fun _ h=>by cases h⟩
 |x::es,h=>by
  obtain⟨a,rfl,h1⟩:=hf x h.1
  obtain⟨l,rfl,h2⟩:=mR hf es h.2
  exact⟨a::l,rfl,fun b hb=>(List.mem_cons.1 hb).elim (fun e=>e ▸ h1) (h2 b)⟩
end
end Go.Proofs.YtealblliddhgiaaGreat
end
section
namespace Go.Proofs.YtealblliddhgiaaGreat
open Go.ChangeShapes Go.WideShapes Go.RowKit
theorem kS:maxLen<=9223372036854775807:=by decide
theorem Cw{x:D}(h:D.jy Tryz.prog x 3):∃n:Int,x= .i n:=by
 obtain⟨n,h,_⟩:=zw undT_3 h
 exact⟨n,h⟩
theorem R3{x:D}(h:D.jy Tryz.prog x 25):∃n:Int,x= .i n:=by
 obtain⟨n,h,_⟩:=zw undT_25 h
 exact⟨n,h⟩
theorem R4{x:D}(h:D.jy Tryz.prog x 103):∃r:od,x=r.d/\r.name.length<=9223372036854775807:=by
 obtain⟨cs,rfl,hh⟩:=pB (by kernel_rfl) (ls:=[9,3]) (by kernel_rfl) h
 clear h;have h:=hh;clear hh
 obtain⟨a,cs,rfl,ha,h⟩:=cn h
 obtain⟨b,cs,rfl,hb,h⟩:=cn h
 have:=kR h;subst this
 obtain⟨l,rfl,hl⟩:=GY (by kernel_rfl) ha
 obtain⟨n,rfl⟩:=Cw hb
 exact⟨⟨l,n⟩,rfl,by have:=kS;simp only;omega⟩
theorem R5{x:D}(h:D.jy Tryz.prog x 24):∃s:bP,x=s.d/\s.Fits:=by
 obtain⟨cs,rfl,hh⟩:=pB (by kernel_rfl) (ls:=[22,22]) (by kernel_rfl) h
 clear h;have h:=hh;clear hh
 obtain⟨a,cs,rfl,ha,h⟩:=cn h
 obtain⟨b,cs,rfl,hb,h⟩:=cn h
 have:=kR h;subst this
 obtain⟨es,rfl,h1,h2⟩:=pA undT_22 ha
 obtain⟨l,rfl,hl⟩:=mR (fun x h=>R4 h) es h2
 obtain⟨es',rfl,h3,h4⟩:=pA undT_22 hb
 obtain⟨l',rfl,Ht⟩:=mR (fun x h=>R4 h) es' h4
 have:=kS
 exact⟨⟨l,l'⟩,rfl,⟨by simp at h1;simp only;omega,by simp at h3;simp only;omega,hl,Ht⟩⟩
theorem GZ:∀ (n:Nat) (x:D),SizeOf.sizeOf x<=n->D.jy Tryz.prog x 28->∃t:Tm,x=t.d/\t.fits:=by
 intro n
 induction n with
 |zero=>intro x hx _;cases x<;>simp at hx
 |succ n ih=>
  intro x hx h
  obtain⟨cs,rfl,hh⟩:=pB (by kernel_rfl) (ls:=[25,3,26]) (by kernel_rfl) h
  clear h;have h:=hh;clear hh
  obtain⟨a,cs,rfl,ha,h⟩:=cn h
  obtain⟨b,cs,rfl,hb,h⟩:=cn h
  obtain⟨c,cs,rfl,hc,h⟩:=cn h
  have:=kR h;subst this
  obtain⟨o,rfl⟩:=R3 ha
  obtain⟨m,rfl⟩:=Cw hb
  obtain⟨es,rfl,h1,h2⟩:=pA undT_26 hc
  have Bq:SizeOf.sizeOf es<=n:=by simp at hx;omega
  have:∀es:List D,SizeOf.sizeOf es<=n->D.Em Tryz.prog es 28->∃l:List Tm,es=l.map Tm.d/\∀k∈l,k.fits:=by
   intro es
   induction es with
   |nil=>intro _ _;exact⟨[],rfl,fun _ h=>by cases h⟩
   |cons y es ZK=>
    intro hs h
    simp at hs
    obtain⟨t,rfl,ht⟩:=ih y (by omega) h.1
    obtain⟨l,rfl,hl⟩:=ZK (by omega) h.2
    exact⟨t::l,rfl,fun b hb=>(List.mem_cons.1 hb).elim (fun e=>e ▸ ht) (hl b)⟩
  obtain⟨l,rfl,hl⟩:=this es Bq h2
  refine⟨.mk o m l,by rw[Tm.sB], ?_⟩
  rw[Tm.dy]
  exact⟨by have:=kS;simp at h1;simp only[Tm.kids];omega,hl⟩
theorem R6{x:D}(h:D.jy Tryz.prog x 28):∃t:Tm,x=t.d/\t.fits:=GZ _ x (Nat.le_refl _) h
end Go.Proofs.YtealblliddhgiaaGreat
end
namespace Go.Proofs.YtealblliddhgiaaGreat
theorem V8(n:Int):cq Tryz.prog 33 [.i n] (.ret [(Tm.mk 1 n []).d]):=by
 refine cq.bt mix PO (by simp) ?_
 rw[Uy]
 simp+contextual (disch:=first|omega|simp only[go_sem,false_implies]) only[go_sem,wrap64,if_pos,and_self]
 refine bN (Mw n) ?_
 simp+contextual (disch:=first|omega|simp only[go_sem,false_implies]) only[go_sem,wrap64,if_pos,and_self]
end Go.Proofs.YtealblliddhgiaaGreat
namespace Go.Proofs.YtealblliddhgiaaGreat
end Go.Proofs.YtealblliddhgiaaGreat
namespace Go.Proofs.YtealblliddhgiaaGreat
def jz(w:List Bool)(v:Int):List Bool:=w.set v.toNat true
def nB(l:List TB)(w:List Bool)(n:Int):List Bool:=match l.find? (·.var==n)with
 |none=>jz w n
 |some x=>(aQ x.term).foldl jz w
def eV(l:List TB)(ns:List Int):List Bool:=ns.foldl (nB l) (List.replicate 20 false)
def Ex(w:List Bool)(v:Int):Prop:=w[v.toNat]? =some true
theorem tu(w:List Bool)(v:Int):(jz w v).length=w.length:=by simp[jz]
theorem qf:∀ (vs:List Int) (w:List Bool),(vs.foldl jz w).length=w.length
 |[],_=>rfl
 |v::vs,w=>by rw[List.foldl_cons,qf vs,tu]
theorem vm(l:List TB)(w:List Bool)(n:Int):(nB l w n).length=w.length:=by
 unfold nB
 split
 ·exact tu _ _
 ·exact qf _ _
theorem vn(l:List TB)(ns:List Int):(eV l ns).length=20:=by
 have:∀ (ns:List Int) (w:List Bool),(ns.foldl (nB l) w).length=w.length:=by
  intro ns
  induction ns with
  |nil=>intro w;rfl
  |cons n ns ih=>intro w;rw[List.foldl_cons,ih,vm]
 rw[eV,this];rfl
theorem zy{w:List Bool}{v u:Int}(hw:w.length=20)(hv:0<=v/\v<20)(hu:0<=u/\u<20):Ex (jz w v) u↔Ex w u\/u=v:=by
 unfold Ex jz
 rw[List.getElem?_set]
 by_cases e:u=v
 ·subst e;simp;omega
 ·rw[if_neg (by omega)];simp[e]
theorem vo{u:Int}(hu:0<=u/\u<20):∀ (vs:List Int) {w:List Bool},w.length=20->(∀v∈vs,0<=v/\v<20)->(Ex (vs.foldl jz w) u↔Ex w u\/u∈vs)
 |[],w,_,_=>by simp
 |v::vs,w,hw,hv=>by
  rw[List.foldl_cons,vo hu vs (by rw[tu,hw]) (fun x hx=>hv x (by simp[hx])),zy hw (hv v (by simp)) hu,List.mem_cons,or_assoc]
theorem G0(l:List TB)(n:Int):jE (ei l) n=(l.find? (·.var==n)).map (·.term):=by
 induction l with
 |nil=>rfl
 |cons x l ih=>
  simp only[ei,List.map_cons,jE,List.find?_cons]
  by_cases h:x.var=n
  ·simp[h]
  ·have h':(x.var==n)=false:=by simpa using h
   rw[if_neg h,h']
   exact ih
theorem G1{s:bP}{l:List TB}(hl:∀x∈l,eT s x.term=true){w:List Bool}{n u:Int}(hw:w.length=20)(hn:0<=n/\n<20)(hu:0<=u/\u<20):
 Ex (nB l w n) u↔Ex w u\/((jE (ei l) n=none/\u=n)\/∃x,jE (ei l) n=some x/\hO u x=true):=by
 unfold nB
 rw[G0]
 cases h:l.find? (·.var==n)with
 |none=>simp only[Option.map_none,zy hw hn hu];simp
 |some x=>
  have hx:=hl x (List.mem_of_find?_eq_some h)
  simp only[Option.map_some]
  rw[vo hu _ hw (fun v hv=>mQ x.term hx v (((bQ x.term).2 v).1 hv)),(bQ x.term).2]
  simp
theorem G2{s:bP}{l:List TB}(hl:∀x∈l,eT s x.term=true){u:Int}(hu:0<=u/\u<20){ns:List Int}(hn:∀n∈ns,0<=n/\n<20):
 Ex (eV l ns) u↔∃n∈ns,(jE (ei l) n=none/\u=n)\/∃x,jE (ei l) n=some x/\hO u x=true:=by
 have:∀ (ns:List Int) (w:List Bool),w.length=20->(∀n∈ns,0<=n/\n<20)->(Ex (ns.foldl (nB l) w) u↔Ex w u\/∃n∈ns,(jE (ei l) n=none/\u=n)\/∃x,jE (ei l) n=some x/\hO u x=true):=by
  intro ns
  induction ns with
  |nil=>intro w _ _;simp
  |cons n ns ih=>
   intro w hw hn
   rw[List.foldl_cons,ih _ (by rw[vm,hw]) (fun x hx=>hn x (by simp[hx])),G1 hl hw (hn n (by simp)) hu,or_assoc]
   refine or_congr Iff.rfl ⟨?_, ?_⟩
   ·rintro(h|⟨m,hm,h⟩)
    ·exact⟨n,by simp,h⟩
    ·exact⟨m,by simp[hm],h⟩
   ·rintro⟨m,hm,h⟩
    rcases List.mem_cons.1 hm with rfl|hm
    ·exact Or.inl h
    ·exact Or.inr ⟨m,hm,h⟩
 rw[eV,this ns _ (by simp) hn]
 constructor
 ·rintro(h|h)
  ·unfold Ex at h;rw[List.getElem?_replicate]at h;split at h<;>simp at h
  ·exact h
 ·exact Or.inr
theorem En{s:bP}{t:Tm}(ht:dP s t=true){l:List TB}(hl:∀x∈l,dP s x.term=true){u:Int}(hu:0<=u/\u<20):
 Ex (eV l (aQ t)) u↔u∈aQ (bA t.b7 (ei l) t):=by
 obtain⟨w1,_,_⟩:=pw ht
 have nt:eT s t=true:=by simp only[dP,Bool.and_eq_true]at ht;exact ht.2
 have nl:∀x∈l,eT s x.term=true:=fun x hx=>by have:=hl x hx;simp only[dP,Bool.and_eq_true]at this;exact this.2
 rw[(bQ _).2,qd t.b7 t (ei l) w1 (Nat.le_refl _) (fun p hp=>by obtain⟨x,hx,rfl⟩:=List.mem_map.1 hp;exact mP s _ (nl x hx)),
  G2 nl hu (fun n hn=>mQ t nt n (((bQ t).2 n).1 hn))]
 constructor
 ·rintro⟨n,hn,⟨h,rfl⟩|⟨x,h,h2⟩⟩
  ·exact Or.inl ⟨((bQ t).2 _).1 hn,h⟩
  ·exact Or.inr ⟨n,x,((bQ t).2 _).1 hn,h,h2⟩
 ·rintro(⟨h,h2⟩|⟨n,x,h,h2,h3⟩)
  ·exact⟨u,((bQ t).2 _).2 h,Or.inl ⟨h2,rfl⟩⟩
  ·exact⟨n,((bQ t).2 _).2 h,Or.inr ⟨x,h2,h3⟩⟩
def gD(g:List Int)(i:Int):Nat:=(g.filter fun x=>decide (x<i)).length
theorem kT{g:List Int}{i:Int}(h:∀x∈g,i<=x):gD g i=0:=by
 unfold gD
 rw[List.filter_eq_nil_iff.2 (fun x hx=>by have:=h x hx;simp;omega)];rfl
theorem Cy{g:List Int}{i:Int}(h:∀x∈g,x<i):gD g i=g.length:=by
 unfold gD
 rw[List.filter_eq_self.2 (fun x hx=>by simpa using h x hx)]
theorem tv:∀ {g:List Int},Ew g->∀i:Int,if i∈g then g[gD g i]? =some i/\gD g (i+1)=gD g i+1 else gD g (i+1)=gD g i
 |[],_,i=>by simp[gD]
 |x::g,hg,i=>by
  have Gq:=List.pairwise_cons.1 hg
  have ih:=tv Gq.2 i
  have hc:∀j,gD (x::g) j=(if x<j then 1 else 0)+gD g j:=fun j=>by
   unfold gD
   rw[List.filter_cons]
   by_cases e:x<j
   ·simp[e];omega
   ·simp[e]
  rcases Int.lt_trichotomy x i with h|h|h
  ·have hm:(i∈x::g)↔i∈g:=by simp;omega
   simp only[hm,hc,if_pos h,if_pos (show x<i+1 by omega)]
   split
   ·rename_i e
    rw[if_pos e]at ih
    refine⟨?_,by omega⟩
    rw[show 1+gD g i=gD g i+1 by omega,List.getElem?_cons_succ]
    exact ih.1
   ·rename_i e
    rw[if_neg e]at ih
    omega
  ·subst h
   have z1:gD g x=0:=kT fun y hy=>by have:=Gq.1 y hy;omega
   have z2:gD g (x+1)=0:=kT fun y hy=>by have:=Gq.1 y hy;omega
   rw[if_pos (by simp),hc,hc,z1,z2,if_neg (by omega),if_pos (by omega)]
   exact⟨rfl,rfl⟩
  ·have hm: ¬i∈x::g:=by
    intro hm
    rcases List.mem_cons.1 hm with rfl|hm
    ·omega
    ·have:=Gq.1 i hm;omega
   have z1:gD g i=0:=kT fun y hy=>by have:=Gq.1 y hy;omega
   have z2:gD g (i+1)=0:=kT fun y hy=>by have:=Gq.1 y hy;omega
   rw[if_neg hm,hc,hc,z1,z2,if_neg (by omega),if_neg (by omega)]
theorem MC(g:List Int)(i:Int):gD g i<=g.length:=List.length_filter_le _ _
def lV(ns:List Int):List TB:=ns.map fun n=>⟨n, .mk 1 n []⟩
theorem rv{ns:List Int}(h:∀n∈ns,0<=n/\n<20)(hi:Ew ns):ns.length<=20:=by
 have hc:∀k:Nat,gD ns (k:Int)<=k:=by
  intro k
  induction k with
  |zero=>show gD ns (0:Int)<=0;rw[kT (fun x hx=>(h x hx).1)];exact Nat.le_refl _
  |succ k ih=>
   have:=tv hi (k:Int)
   rw[Int.natCast_succ]
   split at this<;>omega
 have:gD ns (20:Int)<=20:=hc 20
 rwa [Cy (fun x hx=>(h x hx).2)]at this
theorem Bj{s:bP}{ns:List Int}(h:∀n∈ns,0<=n/\n<20)(hi:Ew ns):dJ s (lV ns)=true:=by
 have hlen:=rv h hi
 unfold dJ
 rw[vj]
 ·simp[lV];omega
 ·intro x hx
  obtain⟨n,hn,rfl⟩:=List.mem_map.1 hx
  have:=h n hn
  refine⟨by simp only;omega,by simp only;omega, ?_⟩
  simp only[dP,Bool.and_eq_true,decide_eq_true_eq,mM]
  refine⟨by rw[Tm.Cd,Tm.dq];simp[jD,Tm.kids,Tm.dO], ?_⟩
  rw[kJ,Ek (by omega)];rfl
 ·simp only[lV,List.pairwise_map]
  exact hi
theorem IG{t:Tm}(hw:t.wf)(ns:List Int):bA t.b7 (ei (lV ns)) t=t:=by
 refine rq _ t _ hw fun p hp=> ?_
 simp only[ei,lV,List.map_map,List.mem_map]at hp
 obtain⟨n,_,rfl⟩:=hp
 rfl
theorem Eo(ns:List Int)(n:Int):lV (ns++[n])=lV ns++[⟨n, .mk 1 n []⟩]:=by simp[lV]
theorem zA(ns:List Int):(lV ns).length=ns.length:=by simp[lV]
theorem tw(l:List TB)(ns:List Int)(n:Int):eV l (ns++[n])=nB l (eV l ns) n:=by simp[eV,List.foldl_append]
@[reducible] def zB (s:bP) (t:Tm) (w:List Bool) (own:List TB):Nat->ae:=
  aq (aq (aq (aq (fun _=> .no) 0 (.row s.row)) 1 (.row t.row)) 74 (.arr 0 4 1 (w.map D.bool))) 78 (.arr 0 52 4 (own.map TB.d))
theorem tT{so:Nat->ae}{G:List Gr}{gone:Nat->Prop}{s:bP}{t:Tm}{w:List Bool}{own:List TB}(h0:so 0= .row s.row)(h1:so 1= .row t.row)(h2:so 74= .arr 0 4 1 (w.map D.bool))(j:Nat)(hj:j<78):wF 78 G so gone (so j) (zB s t w own j):=by
 by_cases j0:j=0
 ·subst j0;exact aG (y:= .row s.row) h0 rfl (cV rfl (bU (bU cU)))
 by_cases j1:j=1
 ·subst j1;exact aG (y:= .row t.row) h1 rfl (cV rfl (bU (bU (bU cU))))
 by_cases j2:j=74
 ·subst j2;exact aG h2 (y':= .arr 0 4 1 (w.map D.bool)) rfl (aE rfl (by simp[ae.refs]))
 exact aG rfl (by unfold zB;(repeat(first|rfl|rw[aa]|rw[ad _ _ _ _ (by omega)]))) wG
theorem hU{s:bP}{t:Tm}{w:List Bool}{own:List TB}(j:Nat)(hj:79<=j):zB s t w own j= .no:=by unfold zB;(repeat(first|rfl|rw[aa]|rw[ad _ _ _ _ (by omega)]))
end Go.Proofs.YtealblliddhgiaaGreat
namespace Go.Proofs.YtealblliddhgiaaGreat
end Go.Proofs.YtealblliddhgiaaGreat
namespace Go.Proofs.YtealblliddhgiaaGreat
structure BL (l:List TB):Prop where
 len:l.length<=100
 sz:∀x∈l,x.term.sz<=1000
end Go.Proofs.YtealblliddhgiaaGreat
namespace Go.Proofs.YtealblliddhgiaaGreat
end Go.Proofs.YtealblliddhgiaaGreat
namespace Go.Proofs.YtealblliddhgiaaGreat
def lN(l:List TB):Bool:=decide ((l.length:Int)<=25)&&l.all fun x=>iE x.term
theorem wZ(l:List TB)(hl:l.length<=9223372036854775807)(hx:∀x∈l,x.term.fits):cq Tryz.prog 12 [.sl (l.map TB.d)] (.ret [.bool (lN l)]):=by
 refine cq.bt mix PH (by simp) ?_
 rw[Ud]
 simp+contextual (disch:=first|omega|simp only[go_sem,false_implies]) only[go_sem,wrap64,if_pos,and_self]
 refine aX (fun k:Nat=>⟨bB [.d (.sl (l.map TB.d)), .ab, .ab, .d (.i k)],fun _=> .no,0⟩)
  (fun k=>k<=l.length/\k<=26/\∀j x,j<k->l[j]? =some x->iE x.term=true) (fun k=>l.length - k) 0 ⟨Nat.zero_le _,by omega,fun _ _ h=>absurd h (by omega)⟩ (bY.d0 _ ?_) (fun k hk=> ?_)
 ·(repeat(first|exact aw|refine ao ?_|refine ah rfl ?_|refine ah (aT (aS (by omega))) ?_|refine aF rfl (by simp[V.refs,V.ag]<;>first|omega|assumption) ?_))
 obtain⟨k1,k2,k3⟩:=hk
 have fin: ¬ (k<l.length/\k<=25)->lN l=decide ((l.length:Int)<=25):=by
  intro h
  unfold lN
  by_cases h5:(l.length:Int)<=25
  ·have:(l.all fun x=>iE x.term)=true:=by
    rw[List.all_eq_true]
    intro x hx
    obtain⟨j,hj,e⟩:=List.getElem_of_mem hx
    exact k3 j x (by omega) (by rw[List.getElem?_eq_getElem hj,e])
   rw[this,Bool.and_true]
  ·rw[decide_eq_false h5];rfl
 by_cases h2:k<l.length
 ·have w9:decide ((k:Int)<(l.length:Int))=true:=by simpa using h2
  by_cases h3:k<=25
  ·have Ol:decide ((k:Int)<=25)=true:=by simp;omega
   obtain⟨x,w7⟩:=a7 h2
   have kU:=List.mem_of_getElem? w7
   simp+contextual (disch:=first|omega|simp only[go_sem,false_implies]) only[go_sem,wrap64,if_pos,List.length_map,w9,Ol,w7]
   refine aM (wI x.term (hx x kU)) rfl ?_
   cases h4:iE x.term with
   |false=>
    have:lN l=false:=by
     unfold lN
     have:(l.all fun x=>iE x.term)=false:=by
      rw[Bool.eq_false_iff];intro h;rw[List.all_eq_true]at h;have:=h x kU;rw[h4]at this;cases this
     rw[this,Bool.and_false]
    rw[this]
    simp+contextual (disch:=first|omega|simp only[go_sem,false_implies]) only[go_sem,wrap64,if_pos,and_self]
   |true=>
    simp+contextual (disch:=first|omega|simp only[go_sem,false_implies]) only[go_sem,wrap64,if_pos,and_self]
    refine az (k+1) ⟨h2,by omega,fun j y hj hy=> ?_⟩ (by omega) (bY.d0 _ ?_)
    ·by_cases e:j=k
     ·subst e;rw[w7]at hy;injection hy with hy;rw[<- hy];exact h4
     ·exact k3 j y (by omega) hy
    ·(repeat(first|exact aw|refine ao ?_|refine ah rfl ?_|refine ah (aT (aS (by omega))) ?_|refine aF rfl (by simp[V.refs,V.ag]<;>first|omega|assumption) ?_))
  ·have Ol:decide ((k:Int)<=25)=false:=by simp;omega
   rw[fin (by omega)]
   simp+contextual (disch:=first|omega|simp only[go_sem,false_implies]) only[go_sem,wrap64,if_pos,List.length_map,w9,Ol]
 ·have w9:decide ((k:Int)<(l.length:Int))=false:=by simp;omega
  rw[fin (by omega)]
  simp+contextual (disch:=first|omega|simp only[go_sem,false_implies]) only[go_sem,wrap64,if_pos,List.length_map,w9]
def iL(l:List TB):Nat->Int
 |0=> -1
 |k+1=>match l[k]? with|some y=>y.var|none=> -1
theorem II(s:bP)(hs:s.Fits)(l:List TB)(hl:l.length<=9223372036854775807)(hx:∀x∈l,x.term.fits):cq Tryz.prog 16 [s.d, .sl (l.map TB.d)] (.ret [.bool (dJ s l)]):=by
 refine cq.bt mix PK (by simp) ?_
 rw[Uh]
 by_cases h0:(20:Int)<l.length
 ·have KC:decide ((20:Int)<l.length)=true:=by simpa using h0
  have:dJ s l=false:=by unfold dJ;rw[decide_eq_false (by omega)];rfl
  rw[this]
  simp+contextual (disch:=first|omega|simp only[go_sem,false_implies]) only[go_sem,wrap64,if_pos,List.length_map,KC]
 ·have KC:decide ((20:Int)<l.length)=false:=by simpa using h0
  have hL:dJ s l=(aO (gH s) (-1) l).2:=by unfold dJ;rw[decide_eq_true (by omega)];rfl
  rw[hL]
  simp+contextual (disch:=first|omega|simp only[go_sem,false_implies]) only[go_sem,wrap64,if_pos,List.length_map,KC]
  refine aX (fun k:Nat=>⟨bB [.ab, .d (.sl (l.map TB.d)), .ptr 0 0, .ab, .ab, .d (.i k)],nW s.row,1⟩)
   (fun k=>k<=l.length/\(aO (gH s) (-1) l).2=(aO (gH s) (iL l k) (l.drop k)).2/\ -1<=iL l k/\(0<k->0<=iL l k)) (fun k=>l.length - k) 0 ⟨Nat.zero_le _,rfl,by simp[iL],fun h=>absurd h (by omega)⟩ (bY.d1 _ (b8 rfl) (by omega) rfl ?_) (fun k hk=> ?_)
  ·(repeat(first|exact aw|refine ao ?_|refine ah rfl ?_|refine ah (aT (aS (by omega))) ?_|refine aF rfl (by simp[V.refs,V.ag]<;>first|omega|assumption) ?_))
  obtain⟨k1,k2,k3,k4⟩:=hk
  simp+contextual (disch:=first|omega|simp only[go_sem,false_implies]) only[go_sem,wrap64,if_pos,List.length_map]
  refine ay (fun h2=> ?_) (fun h2=> ?_)
  ·simp at h2
   obtain⟨x,w7⟩:=a7 h2
   have kU:=List.mem_of_getElem? w7
   have wN:l.drop k=x::l.drop (k+1):=by
    obtain⟨h5,h6⟩:=List.getElem?_eq_some_iff.1 w7
    rw[List.drop_eq_getElem_cons h5,h6]
   have ml:iL l (k+1)=x.var:=by simp only[iL,w7]
   have vq:(aO (gH s) (-1) l).2=if(decide (iL l k<x.var)&&decide (x.var<20)&&dP s x.term)=true then(aO (gH s) (iL l (k+1)) (l.drop (k+1))).2 else false:=by
    rw[k2,wN,ml]
    simp only[aO,gH,fN]
    split<;>rfl
   have Kp:=AV s hs x.term (hx x kU)
   have bad:(decide (iL l k<x.var)&&decide (x.var<20)&&dP s x.term)=false->(aO (gH s) (-1) l).2=false:=fun h=>by rw[vq,h];rfl
   have next:(decide (iL l k<x.var)&&decide (x.var<20)&&dP s x.term)=true->k+1<=l.length/\(aO (gH s) (-1) l).2=(aO (gH s) (iL l (k+1)) (l.drop (k+1))).2/\ -1<=iL l (k+1)/\(0<k+1->0<=iL l (k+1)):=fun h=>by
    refine⟨h2,by rw[vq,if_pos h], ?_⟩
    rw[ml]
    simp only[Bool.and_eq_true,decide_eq_true_eq]at h
    omega
   cases hi:fg x.var 0 19 with
   |false=>
    have KA: ¬ (0<=x.var/\x.var<=19):=by simpa[fg]using hi
    rw[bad (by rw[Bool.and_eq_false_iff,Bool.and_eq_false_iff,decide_eq_false_iff_not,decide_eq_false_iff_not];left;omega)]
    simp+contextual (disch:=first|omega|simp only[go_sem,false_implies]) only[go_sem,wrap64,if_pos,List.length_map,w7]
    refine cm (p4 x.var 0 19) rfl ?_
    rw[hi]
    simp+contextual (disch:=first|omega|simp only[go_sem,false_implies]) only[go_sem,wrap64,if_pos,List.length_map,w7]
    refine aK (by decide) ?_
    simp+contextual (disch:=first|omega|simp only[go_sem,false_implies]) only[go_sem,wrap64,if_pos,and_self]
   |true=>
    have KA:0<=x.var/\x.var<=19:=by simpa[fg]using hi
    rcases Nat.eq_zero_or_pos k with h5|h5
    ·subst h5
     have N0:iL l 0= -1:=rfl
     simp+contextual (disch:=first|omega|simp only[go_sem,false_implies]) only[go_sem,wrap64,if_pos,List.length_map,w7]
     refine cm (p4 x.var 0 19) rfl ?_
     rw[hi]
     simp+contextual (disch:=first|omega|simp only[go_sem,false_implies]) only[go_sem,wrap64,if_pos,List.length_map,w7]
     refine cm Kp rfl ?_
     cases ht:dP s x.term with
     |false=>
      rw[bad (by rw[ht,Bool.and_false])]
      simp+contextual (disch:=first|omega|simp only[go_sem,false_implies]) only[go_sem,wrap64,if_pos,List.length_map,w7]
      refine aK (by decide) ?_
      simp+contextual (disch:=first|omega|simp only[go_sem,false_implies]) only[go_sem,wrap64,if_pos,and_self]
     |true=>
      simp+contextual (disch:=first|omega|simp only[go_sem,false_implies]) only[go_sem,wrap64,if_pos,List.length_map,w7]
      refine aK (by decide) ?_
      simp+contextual (disch:=first|omega|simp only[go_sem,false_implies]) only[go_sem,wrap64,if_pos,and_self]
      refine az (0+1) (next (by rw[ht,Bool.and_true,Bool.and_eq_true,decide_eq_true_eq,decide_eq_true_eq];omega)) (by omega) (bY.d1 _ (b8 rfl) (by omega) rfl ?_)
      (repeat(first|exact aw|refine ao ?_|refine ah rfl ?_|refine ah (aT (aS (by omega))) ?_|refine aF rfl (by simp[V.refs,V.ag]<;>first|omega|assumption) ?_))
    ·obtain⟨j,rfl⟩:∃j,k=j+1:=⟨k - 1,by omega⟩
     obtain⟨y,hy⟩:=a7 (show j<l.length by omega)
     have hpy:iL l (j+1)=y.var:=by simp only[iL,hy]
     have Kq:((j+1:Nat):Int) - 1=(j:Int):=by omega
     have fj:decide (((j+1:Nat):Int)>0)=true:=by rw[decide_eq_true_eq];omega
     have Kr:decide ((0:Int)<((j+1:Nat):Int))=true:=by rw[decide_eq_true_eq];omega
     cases Jk:decide (x.var<=y.var)with
     |true=>
      have V9:x.var<=y.var:=by simpa using Jk
      rw[bad (by rw[Bool.and_eq_false_iff,Bool.and_eq_false_iff,decide_eq_false_iff_not,decide_eq_false_iff_not];left;omega)]
      simp+contextual (disch:=first|omega|simp only[go_sem,false_implies]) only[go_sem,wrap64,if_pos,List.length_map,w7]
      refine cm (p4 x.var 0 19) rfl ?_
      rw[hi]
      simp+contextual (disch:=first|omega|simp only[go_sem,false_implies]) only[go_sem,wrap64,if_pos,List.length_map,w7,fj,Kr,Kq,hy,Jk]
      refine aK (by decide) ?_
      simp+contextual (disch:=first|omega|simp only[go_sem,false_implies]) only[go_sem,wrap64,if_pos,and_self]
     |false=>
      have V9: ¬x.var<=y.var:=by simpa using Jk
      simp+contextual (disch:=first|omega|simp only[go_sem,false_implies]) only[go_sem,wrap64,if_pos,List.length_map,w7]
      refine cm (p4 x.var 0 19) rfl ?_
      rw[hi]
      simp+contextual (disch:=first|omega|simp only[go_sem,false_implies]) only[go_sem,wrap64,if_pos,List.length_map,w7,fj,Kr,Kq,hy,Jk]
      refine cm Kp rfl ?_
      cases ht:dP s x.term with
      |false=>
       rw[bad (by rw[ht,Bool.and_false])]
       simp+contextual (disch:=first|omega|simp only[go_sem,false_implies]) only[go_sem,wrap64,if_pos,List.length_map,w7]
       refine aK (by decide) ?_
       simp+contextual (disch:=first|omega|simp only[go_sem,false_implies]) only[go_sem,wrap64,if_pos,and_self]
      |true=>
       simp+contextual (disch:=first|omega|simp only[go_sem,false_implies]) only[go_sem,wrap64,if_pos,List.length_map,w7]
       refine aK (by decide) ?_
       simp+contextual (disch:=first|omega|simp only[go_sem,false_implies]) only[go_sem,wrap64,if_pos,and_self]
       refine az (j+1+1) (next (by rw[ht,Bool.and_true,Bool.and_eq_true,decide_eq_true_eq,decide_eq_true_eq];omega)) (by omega) (bY.d1 _ (b8 rfl) (by omega) rfl ?_)
       (repeat(first|exact aw|refine ao ?_|refine ah rfl ?_|refine ah (aT (aS (by omega))) ?_|refine aF rfl (by simp[V.refs,V.ag]<;>first|omega|assumption) ?_))
  ·simp at h2
   rw[k2,List.drop_eq_nil_of_le h2]
   simp+contextual (disch:=first|omega|simp only[go_sem,false_implies]) only[go_sem,wrap64,if_pos,List.length_map]
   rfl
end Go.Proofs.YtealblliddhgiaaGreat
namespace Go.Proofs.YtealblliddhgiaaGreat
set_option maxHeartbeats 2000000 in
theorem tU(s:bP)(hs:s.Fits)(t:Tm)(l:List TB)(ht:t.fits)(hl:l.length<=9223372036854775807/\∀b∈l,b.term.fits):cq Tryz.prog 8 [s.d,t.d, .sl (l.map TB.d)] (.ret [.bool true]):=by
 obtain⟨hl,hx⟩:=hl
 refine cq.bt mix WK (by simp) ?_
 rw[c8]
 simp+contextual (disch:=first|omega|simp only[go_sem,false_implies]) only[go_sem,wrap64,if_pos,and_self]
 refine aM (Gk s hs [t] (by simp) (by simp[ht])) rfl ?_
 cases h1:ph s [t]with
 |false=>
  simp+contextual (disch:=first|omega|simp only[go_sem,false_implies]) only[go_sem,wrap64,if_pos,and_self]
  refine aM known rfl ?_
  simp+contextual (disch:=first|omega|simp only[go_sem,false_implies]) only[go_sem,wrap64,if_pos,and_self]
 |true=>
 simp+contextual (disch:=first|omega|simp only[go_sem,false_implies]) only[go_sem,wrap64,if_pos,and_self]
 refine aM (wZ l hl hx) rfl ?_
 cases h2:lN l with
 |false=>
  simp+contextual (disch:=first|omega|simp only[go_sem,false_implies]) only[go_sem,wrap64,if_pos,and_self]
  refine aM known rfl ?_
  simp+contextual (disch:=first|omega|simp only[go_sem,false_implies]) only[go_sem,wrap64,if_pos,and_self]
 |true=>
 simp+contextual (disch:=first|omega|simp only[go_sem,false_implies]) only[go_sem,wrap64,if_pos,and_self]
 refine aM (Iu s hs [t] (by simp) (by simp[ht])) rfl ?_
 cases g1:iH s [t]with
 |false=>
  simp+contextual (disch:=first|omega|simp only[go_sem,false_implies]) only[go_sem,wrap64,if_pos,and_self]
  refine aM known rfl ?_
  simp+contextual (disch:=first|omega|simp only[go_sem,false_implies]) only[go_sem,wrap64,if_pos,and_self]
 |true=>
 simp+contextual (disch:=first|omega|simp only[go_sem,false_implies]) only[go_sem,wrap64,if_pos,and_self]
 refine aM (II s hs l hl hx) rfl ?_
 cases g2:dJ s l with
 |false=>
  simp+contextual (disch:=first|omega|simp only[go_sem,false_implies]) only[go_sem,wrap64,if_pos,and_self]
  refine aM known rfl ?_
  simp+contextual (disch:=first|omega|simp only[go_sem,false_implies]) only[go_sem,wrap64,if_pos,and_self]
 |true=>
 simp only[ph,Bool.and_eq_true,List.all_cons,List.all_nil,Bool.and_true]at h1
 have ct:=Tm.NF.Gl ht h1.1
 have zt:=(lE t).1 h1.1
 unfold lN at h2
 rw[Bool.and_eq_true,decide_eq_true_eq,List.all_eq_true]at h2
 have zx:∀x∈l,x.term.sz<=50/\x.term.b7<=14:=fun x h=>(lE _).1 (h2.2 x h)
 have hr:=m9 s [t]
 rw[g1]at hr
 have ef:=Cv s hs t ct.toFin l hl (fun x h=>⟨hx x h,by have:=(zx x h).2;omega⟩)
 have NT:dP s t=true:=by
  simp only[iH,Bool.and_eq_true,List.all_cons,List.all_nil,Bool.and_true]at g1
  exact g1.2
 have XZ:nT s=true:=by
  simp only[iH,Bool.and_eq_true]at g1
  exact g1.1
 have SU:=g2
 unfold dJ at SU
 rw[Bool.and_eq_true,decide_eq_true_eq]at SU
 have ZL:=SU.1
 have X0:∀x∈l,dP s x.term=true:=fun x h=>((n7 l (-1) SU.2).1 x h).2.2
 have e0:px s t l=if fG s (bA t.b7 (ei l) t)=true then(bA t.b7 (ei l) t,0)else(.mk 0 0 [],3):=by simp[px,hr,g2]
 rw[e0]at ef
 simp+contextual (disch:=first|omega|simp only[go_sem,false_implies]) only[go_sem,wrap64,if_pos,and_self]
 refine bN ef ?_
 cases g3:fG s (bA t.b7 (ei l) t)with
 |false=>
  simp+contextual (disch:=first|omega|simp only[go_sem,false_implies]) only[go_sem,wrap64,if_pos,and_self]
  refine aM known rfl ?_
  simp+contextual (disch:=first|omega|simp only[go_sem,false_implies]) only[go_sem,wrap64,if_pos,and_self]
 |true=>
 rw[fN]at g3
 obtain⟨v1,v2,v3⟩:=pw g3
 obtain⟨w1,w2,w3⟩:=pw NT
 have N1:iE (bA t.b7 (ei l) t)=true:=(lE _).2 ⟨by omega,by omega⟩
 have Wa:=Tm.lM (bA t.b7 (ei l) t) (by omega)
 have X1:=wI _ Wa
 rw[N1]at X1
 have X2:=AV s hs _ Wa
 rw[g3]at X2
 have X4:eH s [t]=true:=hr
 have X5:∀x:Tm,dP s x=true->eH s [x]=true:=fun x hx=>by rw[m9];simp[iH,XZ,hx]
 have X6:=A7 s hs t ct.toFin
 rw[X4]at X6
 have X7:=A7 s hs _ (⟨Wa,by omega⟩:(bA t.b7 (ei l) t).Fin)
 rw[X5 _ g3]at X7
 generalize Wb:bA t.b7 (ei l) t=x at*
 have MD:∀n∈aQ t,0<=n/\n<20:=fun n hn=>by
  simp only[dP,Bool.and_eq_true]at NT
  exact mQ t NT.2 n (((bQ t).2 n).1 hn)
 have R7:=(bQ t).1
 have ZM:=rv MD R7
 simp+contextual (disch:=first|omega|simp only[go_sem,false_implies]) only[go_sem,wrap64,if_pos,and_self]
 refine aM X1 rfl ?_
 simp+contextual (disch:=first|omega|simp only[go_sem,false_implies]) only[go_sem,wrap64,if_pos,and_self]
 refine aM X2 rfl ?_
 simp+contextual (disch:=first|omega|simp only[go_sem,false_implies]) only[go_sem,wrap64,if_pos,and_self]
 refine bN X6 ?_
 simp+contextual (disch:=first|omega|simp only[go_sem,false_implies]) only[go_sem,wrap64,if_pos,and_self]
 refine bN X7 ?_
 have R8: ¬ ((20:Int)<((aQ t).length:Int)):=by omega
 simp+contextual (disch:=first|omega|simp only[go_sem,false_implies]) only[go_sem,wrap64,if_pos,List.length_map,kM,R8]
 refine aX (fun i:Nat=>⟨bB [.ab, .ab, .d (.sl (l.map TB.d)), .ptr 0 0, .ptr 1 0, .ab, .ab, .ab, .ab, .d (.sl ((aQ t).map .i)), .ab, .d (.sl ((aQ x).map .i)), .ab, .osl 74 0, .osl 78 0, .d (.i i)],zB s t (eV l ((aQ t).take i)) (lV ((aQ t).take i)),79⟩)
  (fun i=>i<=(aQ t).length) (fun i=>(aQ t).length - i) 0 (Nat.zero_le _) (bY.iq (ty:=52) (sz:=4) (es:=[]) (fun _=>False) .aW 78 _ (by decide) (fun j hj=>tT rfl rfl ?_ j hj) (aa _ _ _) (.inl ⟨rfl,rfl,by decide⟩) hU (fun _ h=>h.elim) ?_) ?_
 ·(repeat(first|rfl|rw[aa]|rw[ad _ _ _ _ (by omega)]))
 ·(repeat(first|exact bT|refine bF ?_|refine bq rfl ?_|refine bq (aT (aS (by omega))) ?_|refine dn 0 rfl rfl rfl ?_|refine dm rfl (by simp[V.refs,V.ag]<;>first|omega|assumption) ?_|refine dp rfl (by simp[V.ids]<;>omega) ?_))
 rintro i hi
 replace hi:i<=(aQ t).length:=hi
 simp+contextual (disch:=first|omega|simp only[go_sem,false_implies]) only[go_sem,wrap64,if_pos,List.length_map]
 refine ay (fun h5=> ?_) (fun h5=> ?_)
 ·simp at h5
  obtain⟨n,hn⟩:=a7 h5
  have MJ:=List.mem_of_getElem? hn
  obtain⟨n0,n1⟩:=MD n MJ
  have Kh:(aQ t).take (i+1)=(aQ t).take i++[n]:=by rw[List.take_add_one,hn];rfl
  have X8: ¬n<0:=by omega
  have X9: ¬20<=n:=by omega
  simp+contextual (disch:=first|omega|simp only[go_sem,false_implies]) only[go_sem,wrap64,if_pos,List.length_map,hn,X8,X9]
  refine bN (V8 n) ?_
  have MH:(lV ((aQ t).take i)).length<=20:=by rw[zA,List.length_take];omega
  simp+contextual (disch:=first|omega|simp only[go_sem,false_implies]) only[go_sem,wrap64,if_pos,List.length_map,hn,X8,X9,MH]
  refine aX (fun k:Nat=>⟨bB [.ab, .ab, .d (.sl (l.map TB.d)), .ptr 0 0, .ptr 1 0, .ab, .ab, .ab, .ab, .d (.sl ((aQ t).map .i)), .ab, .d (.sl ((aQ x).map .i)), .ab, .osl 74 0, .osl 78 0, .d (.i i), .d (.i n), .d (.i k)],zB s t (eV l ((aQ t).take i)) (lV ((aQ t).take (i+1))),79⟩)
   (fun k=>k<=l.length/\∀j x,j<k->l[j]? =some x->x.var≠n) (fun k=>l.length - k) 0 ⟨Nat.zero_le _,fun _ _ h=>absurd h (by omega)⟩ (bY.iq (fun j=>j=78) (.osl 78 1) 78 _ (by decide) (fun j hj=>tT rfl rfl (by(repeat(first|rfl|rw[aa]|rw[ad _ _ _ _ (by omega)]))) j hj) (aa _ _ _) (.inr ⟨78,1,rfl,rfl,by(repeat(first|rfl|rw[aa]|rw[ad _ _ _ _ (by omega)]));rw[Kh,Eo,List.map_append];rfl⟩) hU (fun j h h2=>by omega) ?_) ?_
  ·(repeat(first|exact bT|refine bF ?_|refine bq rfl ?_|refine bq (aT (aS (by omega))) ?_|refine dn 0 rfl rfl rfl ?_|refine dm rfl (by simp[V.refs,V.ag]<;>first|omega|assumption) ?_|refine dp rfl (by simp[V.ids]<;>omega) ?_))
  have MM:(eV l ((aQ t).take i)).length=20:=vn _ _
  rintro k ⟨hk,Wc⟩
  by_cases h6:k<l.length
  ·obtain⟨y,hy⟩:=a7 h6
   have Wd:=List.mem_of_getElem? hy
   have R9:decide ((k:Int)<(l.length:Int))=true:=by simpa using h6
   by_cases h7:y.var=n
   ·have G3:l.find? (·.var==n)=some y:=by
     rw[List.find?_eq_some_iff_getElem]
     obtain⟨We,e⟩:=List.getElem?_eq_some_iff.1 hy
     refine⟨by simpa using h7,k,We,e,fun j hj=> ?_⟩
     have:=Wc j _ hj (List.getElem?_eq_getElem (by omega))
     simpa using this
    have Wf:=X0 y Wd
    have Ya:∀u∈aQ y.term,0<=u/\u<20:=fun u hu=>by
     simp only[dP,Bool.and_eq_true]at Wf
     exact mQ y.term Wf.2 u (((bQ y.term).2 u).1 hu)
    have Yb:=A7 s hs y.term ⟨hx y Wd,by have:=(zx y Wd).2;omega⟩
    rw[X5 _ Wf]at Yb
    have Ym:=rv Ya (bQ y.term).1
    have SV:(y.var !=n)=false:=by simp[h7]
    have IJ:((k:Int)==(l.length:Int))=false:=by simp;omega
    simp+contextual (disch:=first|omega|simp only[go_sem,false_implies]) only[go_sem,wrap64,if_pos,List.length_map,R9,hy,SV,IJ]
    refine eS Yb ?_
    simp+contextual (disch:=first|omega|simp only[go_sem,false_implies]) only[go_sem,wrap64,if_pos,List.length_map,R9,hy,SV,IJ]
    refine aK (bw rfl) ?_
    simp+contextual (disch:=first|omega|simp only[go_sem,false_implies]) only[go_sem,wrap64,if_pos,kM]
    refine aX (fun j:Nat=>⟨bB [.ab, .ab, .d (.sl (l.map TB.d)), .ptr 0 0, .ptr 1 0, .ab, .ab, .ab, .ab, .d (.sl ((aQ t).map .i)), .ab, .d (.sl ((aQ x).map .i)), .ab, .osl 74 0, .osl 78 0, .d (.i i), .ab, .ab, .d (.sl ((aQ y.term).map .i)), .ab, .d (.i j)],zB s t (((aQ y.term).take j).foldl jz (eV l ((aQ t).take i))) (lV ((aQ t).take (i+1))),79⟩)
     (fun j=>j<=(aQ y.term).length) (fun j=>(aQ y.term).length - j) 0 (Nat.zero_le _) (bY.iq (fun j=>j=78) (.osl 78 0) 78 _ (by decide) (fun j hj=>tT rfl rfl (by(repeat(first|rfl|rw[aa]|rw[ad _ _ _ _ (by omega)]))) j hj) (aa _ _ _) (.inr ⟨78,0,rfl,rfl,by(repeat(first|rfl|rw[aa]|rw[ad _ _ _ _ (by omega)]))⟩) hU (fun j h h2=>by omega) ?_) ?_
    ·(repeat(first|exact bT|refine bF ?_|refine bq rfl ?_|refine bq (aT (aS (by omega))) ?_|refine dn 0 rfl rfl rfl ?_|refine dm rfl (by simp[V.refs,V.ag]<;>first|omega|assumption) ?_|refine dp rfl (by simp[V.ids]<;>omega) ?_))
    rintro j hj
    replace hj:j<=(aQ y.term).length:=hj
    simp+contextual (disch:=first|omega|simp only[go_sem,false_implies]) only[go_sem,wrap64,if_pos,List.length_map]
    refine ay (fun h8=> ?_) (fun h8=> ?_)
    ·simp at h8
     obtain⟨u,hu⟩:=a7 h8
     obtain⟨u0,u1⟩:=Ya u (List.mem_of_getElem? hu)
     have VU: ¬u<0:=by omega
     have VV: ¬20<=u:=by omega
     have G6:(((aQ y.term).take j).foldl jz (eV l ((aQ t).take i))).length=20:=by rw[qf,MM]
     obtain⟨b0,Ah⟩:=a7 (l:=((aQ y.term).take j).foldl jz (eV l ((aQ t).take i))) (k:=u.toNat) (by omega)
     have ZN:(aQ y.term).take (j+1)=(aQ y.term).take j++[u]:=by rw[List.take_add_one,hu];rfl
     simp+contextual (disch:=first|omega|simp only[go_sem,false_implies]) only[go_sem,wrap64,if_pos,List.length_map,hu,VU,VV,Ah]
     refine az (j+1) h8 (by omega) (bY.iq (fun j=>j=78) (.osl 78 0) 78 _ (by decide) (fun j hj=>tT rfl rfl ?_ j hj) (aa _ _ _) (.inr ⟨78,0,rfl,rfl,by(repeat(first|rfl|rw[aa]|rw[ad _ _ _ _ (by omega)]))⟩) hU (fun j h h2=>by omega) ?_)
     ·rw[aa,ZN,List.foldl_append,List.foldl_cons,List.foldl_nil,jz,List.map_set]
     ·(repeat(first|exact bT|refine bF ?_|refine bq rfl ?_|refine bq (aT (aS (by omega))) ?_|refine dn 0 rfl rfl rfl ?_|refine dm rfl (by simp[V.refs,V.ag]<;>first|omega|assumption) ?_|refine dp rfl (by simp[V.ids]<;>omega) ?_))
    ·simp at h8
     have ZO:j=(aQ y.term).length:=by omega
     subst ZO
     have vq:eV l ((aQ t).take (i+1))=((aQ y.term).take (aQ y.term).length).foldl jz (eV l ((aQ t).take i)):=by
      rw[Kh,tw,nB,G3,List.take_length]
     rw[<- vq]
     simp+contextual (disch:=first|omega|simp only[go_sem,false_implies]) only[go_sem,wrap64,if_pos,and_self]
     refine az (i+1) h5 (by omega) (bY.iq (fun j=>j=78) (.osl 78 0) 78 _ (by decide) (fun j hj=>tT rfl rfl (by(repeat(first|rfl|rw[aa]|rw[ad _ _ _ _ (by omega)]))) j hj) (aa _ _ _) (.inr ⟨78,0,rfl,rfl,by(repeat(first|rfl|rw[aa]|rw[ad _ _ _ _ (by omega)]))⟩) hU (fun j h h2=>by omega) ?_)
     (repeat(first|exact bT|refine bF ?_|refine bq rfl ?_|refine bq (aT (aS (by omega))) ?_|refine dn 0 rfl rfl rfl ?_|refine dm rfl (by simp[V.refs,V.ag]<;>first|omega|assumption) ?_|refine dp rfl (by simp[V.ids]<;>omega) ?_))
   ·have SV:(y.var !=n)=true:=by simpa using h7
    simp+contextual (disch:=first|omega|simp only[go_sem,false_implies]) only[go_sem,wrap64,if_pos,List.length_map,R9,hy,SV]
    refine az (k+1) ⟨h6,fun j z hj hz=> ?_⟩ (by omega) (bY.iq (fun j=>j=78) (.osl 78 0) 78 _ (by decide) (fun j hj=>tT rfl rfl (by(repeat(first|rfl|rw[aa]|rw[ad _ _ _ _ (by omega)]))) j hj) (aa _ _ _) (.inr ⟨78,0,rfl,rfl,by(repeat(first|rfl|rw[aa]|rw[ad _ _ _ _ (by omega)]))⟩) hU (fun j h h2=>by omega) ?_)
    ·by_cases e:j=k
     ·subst e;rw[hy]at hz;injection hz with hz;rw[<- hz];exact h7
     ·exact Wc j z (by omega) hz
    ·(repeat(first|exact bT|refine bF ?_|refine bq rfl ?_|refine bq (aT (aS (by omega))) ?_|refine dn 0 rfl rfl rfl ?_|refine dm rfl (by simp[V.refs,V.ag]<;>first|omega|assumption) ?_|refine dp rfl (by simp[V.ids]<;>omega) ?_))
  ·have We:k=l.length:=by omega
   subst We
   have R9:decide ((l.length:Int)<(l.length:Int))=false:=by simp
   have IJ:((l.length:Int)==(l.length:Int))=true:=by simp
   have G3:l.find? (·.var==n)=none:=by
    rw[List.find?_eq_none]
    intro z hz
    obtain⟨j,hj,e⟩:=List.getElem_of_mem hz
    have:=Wc j z hj (by rw[List.getElem?_eq_getElem hj,e])
    simpa using this
   have vq:eV l ((aQ t).take (i+1))=jz (eV l ((aQ t).take i)) n:=by
    rw[Kh,tw,nB,G3]
   obtain⟨b0,Ah⟩:=a7 (l:=eV l ((aQ t).take i)) (k:=n.toNat) (by omega)
   simp+contextual (disch:=first|omega|simp only[go_sem,false_implies]) only[go_sem,wrap64,if_pos,List.length_map,R9,IJ,Ah]
   refine az (i+1) h5 (by omega) (bY.iq (fun j=>j=78) (.osl 78 0) 78 _ (by decide) (fun j hj=>tT rfl rfl (by(repeat(first|rfl|rw[aa]|rw[ad _ _ _ _ (by omega)]));rw[vq,jz,List.map_set]) j hj) (aa _ _ _) (.inr ⟨78,0,rfl,rfl,by(repeat(first|rfl|rw[aa]|rw[ad _ _ _ _ (by omega)]))⟩) hU (fun j h h2=>by omega) ?_)
   (repeat(first|exact bT|refine bF ?_|refine bq rfl ?_|refine bq (aT (aS (by omega))) ?_|refine dn 0 rfl rfl rfl ?_|refine dm rfl (by simp[V.refs,V.ag]<;>first|omega|assumption) ?_|refine dp rfl (by simp[V.ids]<;>omega) ?_))
 ·simp at h5
  have R1:i=(aQ t).length:=by omega
  subst R1
  rw[List.take_length]
  have ZP:eT s x=true:=by simp only[dP,Bool.and_eq_true]at g3;exact g3.2
  have ME:∀n∈aQ x,0<=n/\n<20:=fun n hn=>mQ x ZP n (((bQ x).2 n).1 hn)
  have Yc:=(bQ x).1
  have Sa:∀u:Int,0<=u/\u<20->((eV l (aQ t))[u.toNat]? =some true↔u∈aQ x):=fun u hu=>by rw[<- Wb];exact En NT X0 hu
  have MM:(eV l (aQ t)).length=20:=vn _ _
  have c0:gD (aQ x) 0=0:=kT fun y hy=>(ME y hy).1
  simp+contextual (disch:=first|omega|simp only[go_sem,false_implies]) only[go_sem,wrap64,if_pos,and_self]
  refine aX (fun i:Nat=>⟨bB [.ab, .ab, .ab, .ptr 0 0, .ptr 1 0, .ab, .ab, .ab, .ab, .ab, .ab, .d (.sl ((aQ x).map .i)), .ab, .osl 74 0, .osl 78 0, .ab, .ab, .ab, .ab, .ab, .ab, .d (.i (gD (aQ x) i)), .d (.i i)],zB s t (eV l (aQ t)) (lV (aQ t)),79⟩)
   (fun i=>i<=20) (fun i=>20 - i) 0 (Nat.zero_le _) (bY.iq (fun j=>j=78) (.osl 78 0) 78 _ (by decide) (fun j hj=>tT rfl rfl (by(repeat(first|rfl|rw[aa]|rw[ad _ _ _ _ (by omega)]))) j hj) (aa _ _ _) (.inr ⟨78,0,rfl,rfl,by(repeat(first|rfl|rw[aa]|rw[ad _ _ _ _ (by omega)]))⟩) hU (fun j h h2=>by omega) ?_) ?_
  ·rw[show((0:Nat):Int)=0 from rfl,c0]
   (repeat(first|exact bT|refine bF ?_|refine bq rfl ?_|refine bq (aT (aS (by omega))) ?_|refine dn 0 rfl rfl rfl ?_|refine dm rfl (by simp[V.refs,V.ag]<;>first|omega|assumption) ?_|refine dp rfl (by simp[V.ids]<;>omega) ?_))
  rintro i hi
  replace hi:i<=20:=hi
  simp+contextual (disch:=first|omega|simp only[go_sem,false_implies]) only[go_sem,wrap64,if_pos,and_self]
  refine ay (fun h6=> ?_) (fun h6=> ?_)
  ·simp at h6
   obtain⟨b0,Ah⟩:=a7 (l:=eV l (aQ t)) (k:=i) (by omega)
   have NL:=tv Yc (i:Int)
   have jA:=MC (aQ x) (i:Int)
   have ZQ:=rv ME Yc
   have hw:=Sa i ⟨by omega,by omega⟩
   rw[Int.toNat_natCast,Ah]at hw
   cases hb:b0 with
   |false=>
    subst hb
    have hm: ¬ (i:Int)∈aQ x:=fun h=>by have:=hw.2 h;cases this
    rw[if_neg hm]at NL
    simp+contextual (disch:=first|omega|simp only[go_sem,false_implies]) only[go_sem,wrap64,if_pos,List.length_map,Ah]
    refine az (i+1) (by omega) (by omega) (bY.iq (fun j=>j=78) (.osl 78 0) 78 _ (by decide) (fun j hj=>tT rfl rfl (by(repeat(first|rfl|rw[aa]|rw[ad _ _ _ _ (by omega)]))) j hj) (aa _ _ _) (.inr ⟨78,0,rfl,rfl,by(repeat(first|rfl|rw[aa]|rw[ad _ _ _ _ (by omega)]))⟩) hU (fun j h h2=>by omega) ?_)
    rw[Int.natCast_succ,NL]
    (repeat(first|exact bT|refine bF ?_|refine bq rfl ?_|refine bq (aT (aS (by omega))) ?_|refine dn 0 rfl rfl rfl ?_|refine dm rfl (by simp[V.refs,V.ag]<;>first|omega|assumption) ?_|refine dp rfl (by simp[V.ids]<;>omega) ?_))
   |true=>
    subst hb
    have hm:(i:Int)∈aQ x:=hw.1 rfl
    rw[if_pos hm]at NL
    obtain⟨Sb,Wg⟩:=NL
    have ZR:gD (aQ x) i<(aQ x).length:=(List.getElem?_eq_some_iff.1 Sb).1
    have Fj:decide (((aQ x).length:Int)<=(gD (aQ x) i:Int))=false:=by simp;omega
    simp+contextual (disch:=first|omega|simp only[go_sem,false_implies]) only[go_sem,wrap64,if_pos,List.length_map,Ah,Fj,Sb,bne_self_eq_false]
    refine az (i+1) (by omega) (by omega) (bY.iq (fun j=>j=78) (.osl 78 0) 78 _ (by decide) (fun j hj=>tT rfl rfl (by(repeat(first|rfl|rw[aa]|rw[ad _ _ _ _ (by omega)]))) j hj) (aa _ _ _) (.inr ⟨78,0,rfl,rfl,by(repeat(first|rfl|rw[aa]|rw[ad _ _ _ _ (by omega)]))⟩) hU (fun j h h2=>by omega) ?_)
    rw[Int.natCast_succ,Wg]
    (repeat(first|exact bT|refine bF ?_|refine bq rfl ?_|refine bq (aT (aS (by omega))) ?_|refine dn 0 rfl rfl rfl ?_|refine dm rfl (by simp[V.refs,V.ag]<;>first|omega|assumption) ?_|refine dp rfl (by simp[V.ids]<;>omega) ?_))
  ·simp at h6
   have R1:i=20:=by omega
   subst R1
   have Wh:gD (aQ x) (20:Int)=(aQ x).length:=Cy fun y hy=>(ME y hy).2
   have Sc:gD (aQ x) ((20:Nat):Int)=(aQ x).length:=Wh
   rw[Sc]
   have B1:(lV (aQ t)).length<=9223372036854775807:=by rw[zA];omega
   have jB:=Cv s hs t ct.toFin (lV (aQ t)) B1 (fun y hy=>by
    obtain⟨n,_,rfl⟩:=List.mem_map.1 hy
    exact⟨Tm.lM _ (by rw[Tm.Cd];simp[jD]),by rw[Tm.dq];simp[Tm.kids,Tm.dO]⟩)
   have ZS:px s t (lV (aQ t))=(t,0):=by
    simp[px,X4,Bj MD R7,IG w1,fN,NT]
   rw[ZS]at jB
   have Yd:=Ej s hs t t ct.toFin ct.toFin (by omega) (by omega)
   have ZT:eH s [t,t]=true:=by rw[m9];simp[iH,XZ,NT]
   rw[ZT,A4]at Yd
   simp+contextual (disch:=first|omega|simp only[go_sem,false_implies]) only[go_sem,wrap64,if_pos,and_self]
   refine bN jB ?_
   simp+contextual (disch:=first|omega|simp only[go_sem,false_implies]) only[go_sem,wrap64,if_pos,List.length_map,bne_self_eq_false]
   refine aM Yd rfl ?_
   simp+contextual (disch:=first|omega|simp only[go_sem,false_implies]) only[go_sem,wrap64,if_pos,kM]
   refine aM known rfl ?_
   simp+contextual (disch:=first|omega|simp only[go_sem,false_implies]) only[go_sem,wrap64,if_pos,and_self]
end Go.Proofs.YtealblliddhgiaaGreat
section
namespace Go.Proofs.YtealblliddhgiaaGreat
open Go.ChangeShapes Go.WideShapes Go.RowKit
theorem Wi{x:D}(h:D.jy Tryz.prog x 52):∃b:TB,x=b.d/\b.term.fits:=by
 obtain⟨cs,rfl,hh⟩:=pB (by kernel_rfl) (ls:=[3,25,3,26]) (by kernel_rfl) h
 clear h;have h:=hh;clear hh
 obtain⟨v,cs,rfl,hv,h⟩:=cn h
 obtain⟨a,cs,rfl,ha,h⟩:=cn h
 obtain⟨b,cs,rfl,hb,h⟩:=cn h
 obtain⟨c,cs,rfl,hc,h⟩:=cn h
 have:=kR h;subst this
 obtain⟨k,rfl⟩:=Cw hv
 obtain⟨o,rfl⟩:=R3 ha
 obtain⟨m,rfl⟩:=Cw hb
 obtain⟨es,rfl,h1,h2⟩:=pA undT_26 hc
 obtain⟨l,rfl,hl⟩:=mR (fun x h=>R6 h) es h2
 refine⟨⟨k, .mk o m l⟩,rfl, ?_⟩
 rw[Tm.dy]
 exact⟨by have:=kS;simp at h1;simp only[Tm.kids];omega,hl⟩
theorem IK{x:D}(h:D.jy Tryz.prog x 29):∃l:List TB,x= .sl (l.map TB.d)/\(l.length<=9223372036854775807/\∀b∈l,b.term.fits):=by
 obtain⟨es,rfl,h1,h2⟩:=pA undT_29 h
 obtain⟨l,rfl,hl⟩:=mR (fun x h=>Wi h) es h2
 exact⟨l,rfl,by have:=kS;simp at h1;omega,hl⟩
end Go.Proofs.YtealblliddhgiaaGreat
end
section
namespace Go.Proofs.YtealblliddhgiaaGreat
open Go.ChangeShapes Go.WideShapes Go.RowKit
set_option maxRecDepth 100000 in
theorem n8(os:Os)(started:os.Started)(H:Type)(enc:TypeId×Value->H):
 ReturnsInHanded {} Tryz.checked os 8 .any (Rows.termCaptureSpec.pre6 enc Tryz.prog Tryz.f8 Rows.termCaptureRow.domain false) (Rows.termCaptureSpec.post enc Tryz.prog Tryz.f8 Rows.termCaptureRow.apart Rows.termCaptureRow.fresh Rows.termCaptureRow.handsOn Rows.termCaptureRow.again):=by
 refine returnsInHanded_of_change (C:=Tryz.checked) (by kernel_rfl) started (by kernel_rfl) Tryz.func8
  (ChangeSpec.witness6 (enc:=enc) (C:=Tryz.checked) false ⟨#[],#[.agg #[.slice none 0 0, .slice none 0 0], .agg #[.int .i64 0, .int .i64 0, .slice none 0 0], .slice none 0 0],[]⟩ 8 (by kernel_rfl) (by kernel_rfl) (by kernel_rfl) (by kernel_rfl)) ?_
 intro W base args ds gs before ec hW _ _
 refine wY (T:=[24,22,103,9,3,28,26,25,29,52]) (tb:=4) (by kernel_rfl) (by kernel_rfl) rfl (fun ds h=>by match ds,h with|[_,_,_],_=>rfl) (by kernel_rfl) (by intro t ht;rw[Tryz.params8]at ht;simp at ht;rcases ht with rfl|rfl|rfl<;>simp) (by kernel_rfl) (by intro t ht;rw[Tryz.params8]at ht;simp at ht;rcases ht with rfl|rfl|rfl<;>exact⟨by kernel_rfl,of_decide_eq_true (by kernel_rfl)⟩)
  (fun xs hx=> ?_) base args ds gs before ec hW
 rw[Tryz.params8]at hx
 obtain⟨x0,xs,rfl,Wb,hx⟩:=cn hx
 obtain⟨x1,xs,rfl,V5,hx⟩:=cn hx
 obtain⟨x2,xs,rfl,Tg,hx⟩:=cn hx
 have:=kR hx;subst this
 obtain⟨s0,rfl,qq⟩:=R5 Wb
 obtain⟨t1,rfl,w8⟩:=R6 V5
 obtain⟨l2,rfl,Bz⟩:=IK Tg
 exact tU s0 qq t1 l2 w8 Bz
theorem termCapture_holds:Rows.TermCaptureSaid:=
 OpenClaim.holds_of_wide 8 Tryz.f8 rfl rfl rfl rfl rfl rfl rfl ⟨rfl,rfl,rfl,rfl,rfl⟩ rfl rfl rfl rfl rfl (by kernel_rfl) Tryz.func8 (by kernel_rfl)
  (of_decide_eq_true (by kernel_rfl)) (by unfold Func.isWrapper;first|(rw[if_pos (by decide+kernel)];kernel_rfl)|(rw[if_neg (by decide+kernel)];exact⟨rfl,rfl⟩))
  (fun os started H enc _=>n8 os started H enc)
end Go.Proofs.YtealblliddhgiaaGreat
end
