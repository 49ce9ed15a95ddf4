/-
  TermVariants: at every call the law answers true, and leaves all memory as it was. Conditions: none.
-/
import Derived.OpenShut
import Derived.Carry
import Derived.Handed
import Derived.JoinedOf
import Derived.ProofKit
import Derived.Test.YtealblliddhgiaaGreatRows
import Derived.Test.YtealblliddhgiaaGreatVr19
set_option linter.unusedSimpArgs false
set_option linter.unusedVariables false
namespace Go.Proofs.YtealblliddhgiaaGreat
theorem qz(s:bP):∀t:Tm,eY s t=true->t.wf:=by
 refine Tm.gN fun t ih h=> ?_
 rw[dG,Bool.and_eq_true,List.all_eq_true]at h
 rw[Tm.gw]
 refine⟨fun h1=>FV h.1 h1,fun h8=> ?_,fun k hk=>ih k hk (h.2 k hk)⟩
 have:=h.1
 simp[bp,h8]at this
 omega
theorem ph{s:bP}{t:Tm}(h:gm s t=true):t.wf/\t.sz<=40/\t.cc<=12:=by
 simp only[gm,Bool.and_eq_true,decide_eq_true_eq,mD]at h
 exact⟨qz s t h.2,by omega,by omega⟩
def gx(l:List TB):List (Int×Tm):=l.map fun x=>(x.var,x.term)
theorem te{s:bP}:∀ (l:List TB) (a:Int),(aS (pg s) a l).2=true->(∀x∈l,a<x.var/\x.var<20/\gm s x.term=true)/\(l.map (·.var)).Nodup
 |[],_,_=>by simp
 |x::l,a,h=>by
  simp only[aS]at h
  split at h
  ·rename_i h1
   simp only[pg,Bool.and_eq_true,decide_eq_true_eq,jt]at h1
   obtain⟨i1,i2⟩:=te l x.var h
   refine⟨fun y hy=> ?_, ?_⟩
   ·rcases List.mem_cons.1 hy with rfl|hy
    ·exact⟨h1.1.1,h1.1.2,h1.2⟩
    ·have:=i1 y hy
     exact⟨by omega,this.2⟩
   ·rw[List.map_cons,List.nodup_cons]
    refine⟨fun hm=> ?_,i2⟩
    obtain⟨y,hy,e⟩:=List.mem_map.1 hm
    have:=(i1 y hy).1
    omega
  ·rename_i h1
   cases h
def qP(s:bP)(t:Tm)(l:List TB):Tm×Int:=if(fD s [t]&&iL s l)=true then(if fq s (bA t.cc (gx l) t)=true then(bA t.cc (gx l) t,0)else(.mk 0 0 [],3))else(.mk 0 0 [],2)
theorem H6(s:bP)(hs:s.Fits)(t:Tm)(ht:t.Fin)(l:List TB)(hl:l.length<=9223372036854775807)(hx:∀x∈l,x.term.Fin):cj Tryz.prog 14 [s.d,t.d, .sl (l.map TB.d)] (.ret [(qP s t l).1.d, .i (qP s t l).2]):=by
 refine cj.bt mix OT (by simp) ?_
 rw[Ty]
 simp+contextual (disch:=first|omega|simp only[go_sem,false_implies]) only[go_sem,wrap64,if_pos,and_self]
 refine aJ (wy s hs [t] (by simp) (fun x hx=>by simp at hx;subst hx;exact ht)) rfl ?_
 cases h1:fD s [t]with
 |false=>
  have e:qP s t l=(.mk 0 0 [],2):=by simp[qP,h1]
  rw[e]
  simp+contextual (disch:=first|omega|simp only[go_sem,false_implies]) only[go_sem,wrap64,if_pos,and_self]
  rw[Tm.pO]
  rfl
 |true=>
  simp+contextual (disch:=first|omega|simp only[go_sem,false_implies]) only[go_sem,wrap64,if_pos,and_self]
  refine aJ (Ge s hs l hl hx) rfl ?_
  cases h2:iL s l with
  |false=>
   have e:qP s t l=(.mk 0 0 [],2):=by simp[qP,h2]
   rw[e]
   simp+contextual (disch:=first|omega|simp only[go_sem,false_implies]) only[go_sem,wrap64,if_pos,and_self]
   rw[Tm.pO]
   rfl
  |true=>
   simp+contextual (disch:=first|omega|simp only[go_sem,false_implies]) only[go_sem,wrap64,if_pos,and_self]
   unfold iL at h2
   rw[Bool.and_eq_true,decide_eq_true_eq]at h2
   obtain⟨h3,h4⟩:=te l (-1) h2.2
   have L4:((gx l).map (·.1)).Nodup:=by simpa[gx,Function.comp_def]using h4
   have Q2:gm s t=true:=by
    rw[fD,Bool.and_eq_true,List.all_eq_true]at h1
    have:=h1.2 t (by simp)
    rwa [jt]at this
   obtain⟨w1,w2,w3⟩:=ph Q2
   have Vi:∀p∈gx l,p.2.wf/\p.2.sz<=40:=fun p hp=>by
    obtain⟨x,Vj,rfl⟩:=List.mem_map.1 hp
    have:=ph (h3 x Vj).2.2
    exact⟨this.1,this.2.1⟩
   have p9:(gx l).length<=20:=by rw[gx,List.length_map];omega
   refine bn (fun i:Nat=>⟨bF [.aa, .aa, .aa, .ptr 0 0, .ptr 1 0, .aa, .ptr 2 0, .d (.i 0), .mp 15, .aa, .aa, .aa, .aa, .aa, .aa, .aa, .aa, .aa, .aa, .aa, .aa, .aa, .aa, .aa, .aa, .d (.sl (l.map TB.d)), .d (.i l.length), .d (.i i)],ao (ao (ao (ao (ao (fun _=> .no) 0 (.row s.row)) 1 (.row t.row)) 2 (.row [.d (.i 0), .d (.i 0), .aX])) 6 (.arr 0 28 3 [t.d])) 15 (pc (gx (l.take i))),20⟩)
    (fun i=>i<=l.length) (fun i=>l.length - i) 0 (Nat.zero_le _) ?_ ?_
   ·refine cq.cN _ (by decide) (Nat.le_refl _) (by repeat(first|exact hg.mono (by omega)|exact Good.nil|refine Good.ao ?_ (by omega) rfl|refine Good.ao ?_ (by omega) (dK _ _ _ (by omega))|refine Good.ao ?_ (by omega) (by simp[ae.refs,V.ag,V.refs]<;>omega))) (fun j hj=>rfl) ?_
    (repeat(first|exact aw|refine aq ?_|refine ah rfl ?_|refine ah (aV (aU (by omega))) ?_|refine aF rfl (by simp[V.refs,V.ag]<;>first|omega|assumption) ?_))
   rintro i hi
   replace hi:i<=l.length:=hi
   simp+contextual (disch:=first|omega|simp only[go_sem,false_implies]) only[go_sem,wrap64,if_pos,List.length_map]
   refine ax (fun h5=> ?_) (fun h5=> ?_)
   ·simp at h5
    obtain⟨x,W7⟩:=bH h5
    have R4:l.take (i+1)=l.take i++[x]:=by rw[List.take_add_one,W7];rfl
    have u6:kM (gx (l.take i)) x.var=none:=by
     rw[mE]
     intro hm
     have h6:x.var∈(l.take i).map (·.var):=by simpa[gx,Function.comp_def]using hm
     have h7:((l.take (i+1)).map (·.var)).Nodup:=h4.sublist ((List.take_sublist _ _).map _)
     rw[R4,List.map_append,List.nodup_append]at h7
     exact h7.2.2 _ h6 x.var (by simp) rfl
    have j6:gx (l.take (i+1))=gx (l.take i)++[(x.var,x.term)]:=by rw[R4];simp[gx]
    simp+contextual (disch:=first|omega|simp only[go_sem,false_implies]) only[go_sem,wrap64,if_pos,List.length_map,W7,pf u6]
    refine aE (i+1) h5 (by omega) (cq.cN _ (by decide) (by omega) (by repeat(first|exact hg.mono (by omega)|exact Good.nil|refine Good.ao ?_ (by omega) rfl|refine Good.ao ?_ (by omega) (dK _ _ _ (by omega))|refine Good.ao ?_ (by omega) (by simp[ae.refs,V.ag,V.refs]<;>omega))) (fun j hj=> ?_) ?_)
    ·rw[j6]
     by_cases e:j=15
     ·subst e;(repeat(first|rfl|rw[ab]|rw[ad _ _ _ _ (by omega)]))
     ·(repeat(first|rfl|rw[ab]|rw[ad _ _ _ _ (by omega)]))
      rw[ad _ _ _ _ e]
    ·(repeat(first|exact aw|refine aq ?_|refine ah rfl ?_|refine ah (aV (aU (by omega))) ?_|refine aF rfl (by simp[V.refs,V.ag]<;>first|omega|assumption) ?_))
   ·simp at h5
    have Vk:i=l.length:=by omega
    subst Vk
    rw[List.take_length]
    simp+contextual (disch:=first|omega|simp only[go_sem,false_implies]) only[go_sem,wrap64,if_pos,and_self]
    refine bM (LZ (b:=gx l) w1 (by omega) L4 (by omega) fun p hp=>⟨(Vi p hp).1,by have:=(Vi p hp).2;omega⟩) ?_
    simp+contextual (disch:=first|omega|simp only[go_sem,false_implies]) only[go_sem,wrap64,if_pos,and_self]
    have hz:=tc (M:=40) (by omega) t.cc t (gx l) w1 (Nat.le_refl _) (fun p hp=>(Vi p hp).2)
    have Zk:(bA t.cc (gx l) t).sz<=1600:=Nat.le_trans hz (Nat.le_trans (Nat.mul_le_mul_right 40 w2) (by decide))
    have Zl:=Tm.pZ (bA t.cc (gx l) t)
    refine aJ (sM s hs (bA t.cc (gx l) t) (Tm.lG _ (by omega)) (by omega)) rfl ?_
    cases h6:fq s (bA t.cc (gx l) t)with
    |false=>
     have e:qP s t l=(.mk 0 0 [],3):=by simp[qP,h1,iL,h2,h6]
     rw[e]
     simp+contextual (disch:=first|omega|simp only[go_sem,false_implies]) only[go_sem,wrap64,if_pos,and_self]
     rw[Tm.pO]
     rfl
    |true=>
     have e:qP s t l=(bA t.cc (gx l) t,0):=by simp[qP,h1,iL,h2,h6]
     rw[e]
     simp+contextual (disch:=first|omega|simp only[go_sem,false_implies]) only[go_sem,wrap64,if_pos,and_self]
end Go.Proofs.YtealblliddhgiaaGreat
namespace Go.Proofs.YtealblliddhgiaaGreat
theorem AV{s:bP}{op n:Int}{l l':List Tm}(h:l'.length=l.length):bp s (.mk op n l')=bp s (.mk op n l):=by
 unfold bp
 dsimp only[Tm.op,Tm.n,Tm.kids]
 rw[h]
 rfl
theorem mT{s:bP}{k:Int}(h:0<=k/\k<20):bp s (.mk 1 k [])=true:=by
 have:eX k 0 19=true:=by simp[eX];omega
 simp[bp,Tm.op,Tm.n,Tm.kids,this]
theorem tf(bd inn:List (Int×Int)):∀ (l:List Tm) (i:Nat) (fr:List (Int×Int)) (nx:Int),(aM l bd inn i fr nx).1.length=l.length
 |[],_,_,_=>rfl
 |k::l,i,fr,nx=>by simp only[aM,List.length_cons,tf bd inn l]
theorem DK(s:bP):∀t:Tm,eY s t=true->∀ (bd fr:List (Int×Int)) (nx:Int),0<=nx->(∀v k,lk bd v=some k->0<=k/\k<nx)->(∀v k,lk fr v=some k->0<=k/\k<nx)->
 (aQ t bd fr nx).2.2<=20->eY s (aQ t bd fr nx).1=true:=by
 refine Tm.gN fun t ih h bd fr nx h0 j6 cU hn=> ?_
 rw[dG,Bool.and_eq_true,List.all_eq_true]at h
 have hs:∀ (l:List Tm) (inn fr:List (Int×Int)) (i:Nat) (nx:Int),(∀x∈l,x∈t.kids)->0<=nx->(∀v k,lk bd v=some k->0<=k/\k<nx)->(∀v k,lk inn v=some k->0<=k/\k<nx)->(∀v k,lk fr v=some k->0<=k/\k<nx)->
  (aM l bd inn i fr nx).2.2<=20->(aM l bd inn i fr nx).1.all (eY s)=true:=by
  intro l
  induction l with
  |nil=>intro inn fr i nx _ _ _ _ _ _;rfl
  |cons x l oY=>
   intro inn fr i nx hk h0 j6 lH cU hn
   simp only[aM]at hn|-
   have n1:=(cZ x (if i=1 then inn else bd) fr nx).1
   have n2:=(pb l bd inn (aQ x (if i=1 then inn else bd) fr nx).2.1 (i+1) (aQ x (if i=1 then inn else bd) fr nx).2.2 0 0).2.2
   have hx:=hk x (by simp)
   rw[List.all_cons,Bool.and_eq_true]
   refine⟨ih x hx (h.2 x hx) _ fr nx h0 (fun v k h=> ?_) cU (by omega),oY inn _ (i+1) _ (fun y hy=>hk y (by simp[hy])) (by omega) (fun v k h=> ?_) (fun v k h=> ?_) (fun v k h=> ?_) hn⟩
   ·split at h
    ·exact lH v k h
    ·exact j6 v k h
   ·have:=j6 v k h;omega
   ·have:=lH v k h;omega
   ·rcases(mR x (if i=1 then inn else bd) fr nx v k).2 h with h|h
    ·have:=cU v k h;omega
    ·omega
 rw[eB]at hn|-
 by_cases h1:t.op=1
 ·simp only[if_pos h1]at hn|-
  cases hb:lk bd t.n with
  |some k=>have:=j6 _ _ hb;rw[hb]at hn;rw[dG,mT (by simp only at hn;omega)];rfl
  |none=>
   rw[hb]at hn
   simp only at hn|-
   cases hf:lk fr t.n with
   |some k=>have:=cU _ _ hf;rw[hf]at hn;rw[dG,mT (by simp only at hn;omega)];rfl
   |none=>rw[hf]at hn;rw[dG,mT (by simp only at hn;omega)];rfl
 ·simp only[if_neg h1]at hn|-
  by_cases h8:t.op=8
  ·simp only[if_pos h8]at hn|-
   have n2:=(pb t.kids bd ((t.n,nx)::bd) fr 0 (nx+1) 0 0).2.2
   rw[dG,Bool.and_eq_true]
   refine⟨?_,hs t.kids _ fr 0 (nx+1) (fun _ h=>h) (by omega) (fun v k h=>by have:=j6 v k h;omega) (fun v k h=> ?_) (fun v k h=>by have:=cU v k h;omega) hn⟩
   ·have:=h.1
    simp only[bp,h8]at this
    simp[bp,Tm.op,Tm.n,Tm.kids,tf]
    simp at this
    refine⟨this.1, ?_⟩
    simp[eX];omega
   ·simp only[lk]at h
    split at h
    ·injection h with h;omega
    ·have:=j6 v k h;omega
  ·simp only[if_neg h8]at hn|-
   rw[dG,Bool.and_eq_true]
   refine⟨?_,hs t.kids _ fr 0 nx (fun _ h=>h) h0 j6 j6 cU hn⟩
   rw[AV (tf _ _ _ _ _ _),Tm.eta]
   exact h.1
theorem DL{s:bP}{t:Tm}(hf:t.fits)(h:gm s t=true)(hn:DJ t<=20):gm s (eE t)=true:=by
 simp only[gm,Bool.and_eq_true,decide_eq_true_eq,mD]at h|-
 have:=iX hf
 exact⟨by omega,DK s t h.2 [] [] 0 (by omega) (fun v k h=>by cases h) (fun v k h=>by cases h) hn⟩
theorem yY{s:bP}:∀t:Tm,eY s t=true->∀v,jL v t=true->0<=v/\v<20:=by
 refine Tm.gN fun t ih h v hv=> ?_
 have hw:=(Tm.gw t).1 (qz s t h)
 rw[dG,Bool.and_eq_true,List.all_eq_true]at h
 by_cases h1:t.op=1
 ·rw[lz,if_pos h1]at hv
  have hv:t.n=v:=by simpa using hv
  have:=h.1
  simp[bp,h1,eX]at this
  omega
 ·by_cases h8:t.op=8
  ·obtain⟨a,body,hk⟩:=lC (hw.2.1 h8)
   rw[AO h8 hk,Bool.or_eq_true,Bool.and_eq_true]at hv
   rcases hv with hv|hv
   ·exact ih a (by rw[hk];simp) (h.2 a (by rw[hk];simp)) v hv
   ·exact ih body (by rw[hk];simp) (h.2 body (by rw[hk];simp)) v hv.1
  ·rw[AP h1 h8,List.any_eq_true]at hv
   obtain⟨k,hk,hv⟩:=hv
   exact ih k hk (h.2 k hk) v hv
theorem va{s:bP}:∀ (l:List TB) (a:Int),(∀x∈l,a<x.var/\x.var<20/\gm s x.term=true)->l.Pairwise (fun x y=>x.var<y.var)->(aS (pg s) a l).2=true
 |[],_,_,_=>rfl
 |x::l,a,h,hp=>by
  rw[List.pairwise_cons]at hp
  obtain⟨h1,h2,h3⟩:=h x (by simp)
  simp only[aS,pg,jt,h3,decide_eq_true h1,decide_eq_true h2,Bool.and_self,if_true]
  exact va l x.var (fun y hy=>⟨hp.1 y hy,(h y (by simp[hy])).2⟩) hp.2
def eL(YI:Int)(n:Nat):List TB:=(List.range n).map fun i:Nat=>⟨(i:Int), .mk 1 (((i:Int)+YI)%20) []⟩
theorem tg(d:Int)(n:Nat):eL d (n+1)=eL d n++[⟨(n:Int), .mk 1 (((n:Int)+d)%20) []⟩]:=by simp[eL,List.range_succ]
theorem p5(d:Int)(n:Nat):(eL d n).length=n:=by simp[eL]
theorem th(d:Int)(v:Int):∀n:Nat,0<=v->v<n->kM (gx (eL d n)) v=some (.mk 1 ((v+d)%20) [])
 |0,h1,h2=>by omega
 |n+1,h1,h2=>by
  have app:∀ (l:List (Int×Tm)) (p:Int×Tm),kM (l++[p]) v=match kM l v with|some x=>some x|none=>if p.1=v then some p.2 else none:=by
   intro l p
   induction l with
   |nil=>simp[kM]
   |cons q l ih=>
    simp only[List.cons_append,kM]
    split
    ·rfl
    ·exact ih
  rw[tg,gx,List.map_append,List.map_cons,List.map_nil,app]
  by_cases h:v<n
  ·have:=th d v n h1 h
   rw[gx]at this
   rw[this]
  ·have hn:kM (List.map (fun x:TB=>(x.var,x.term)) (eL d n)) v=none:=by
    rw[mE]
    intro hm
    simp[eL]at hm
    omega
   have:(n:Int)=v:=by omega
   rw[hn]
   simp[this]
theorem wI(s:bP)(d:Int):iL s (eL d 20)=true:=by
 unfold iL
 rw[p5,va]
 ·rfl
 ·intro x hx
  simp only[eL,List.mem_map,List.mem_range]at hx
  obtain⟨i,hi,rfl⟩:=hx
  refine⟨by simp only;omega,by simp only;omega, ?_⟩
  simp only[gm,Bool.and_eq_true,decide_eq_true_eq,mD]
  refine⟨by rw[Tm.BO,Tm.dg];simp[jK,Tm.kids,Tm.dF], ?_⟩
  rw[dG,mT (by omega)];rfl
 ·simp only[eL,List.pairwise_map]
  refine List.pairwise_lt_range.imp fun h=>Int.ofNat_lt.2 h
theorem Gh{s:bP}{t:Tm}(h:gm s t=true)(d:Int):eE (bA t.cc (gx (eL d 20)) t)=eE t:=by
 obtain⟨w1,_,_⟩:=ph h
 have hn:eY s t=true:=by simp only[gm,Bool.and_eq_true]at h;exact h.2
 refine HV t w1 _ (fun p hp=> ?_) fun v w hv hw e=> ?_
 ·simp only[gx,eL,List.map_map,List.mem_map]at hp
  obtain⟨i,_,rfl⟩:=hp
  exact⟨rfl,rfl⟩
 ·have r1:=yY t hn v hv
  have r2:=yY t hn w hw
  unfold j7 at e
  rw[th d v 20 r1.1 r1.2,th d w 20 r2.1 r2.2]at e
  simp only[Tm.n]at e
  omega
end Go.Proofs.YtealblliddhgiaaGreat
namespace Go.Proofs.YtealblliddhgiaaGreat
end Go.Proofs.YtealblliddhgiaaGreat
section
namespace Go.Proofs.YtealblliddhgiaaGreat
open Go
def Vl:Nat->Bool:=fun g=> !([81,63,92,98,101,107,117,100,61,72,108,131,132,133,134,135,136,138,139,143,146,147,148,110,64,127,114,113,99]:List Nat).contains g
def Vm:qO Tryz.prog:=qO.of Vl [] (fun _ h=>by cases h)
theorem DM:Lf Tryz.prog bX Vm 5000 13 []=some (.ret [.bool true]):=by kernel_rfl
theorem known:cj Tryz.prog 13 [] (.ret [.bool true]):=cj.Lg mix Lw DM
end Go.Proofs.YtealblliddhgiaaGreat
end
namespace Go.Proofs.YtealblliddhgiaaGreat
end Go.Proofs.YtealblliddhgiaaGreat
namespace Go.Proofs.YtealblliddhgiaaGreat
theorem tj{t:Tm}(hf:t.fits)(h:mq t=true):mq (eE t)=true:=by
 rw[lx]at h|-
 have:=iX hf
 omega
end Go.Proofs.YtealblliddhgiaaGreat
section
namespace Go.Proofs.YtealblliddhgiaaGreat
open Go.ChangeShapes Go.WideShapes Go.RowKit
def tk(P:Program)(rec:TypeId->Option (List TypeId)):Nat->List Field->Option (List TypeId)
 |_,[]=>some []
 |off,f::fs=>if f.offset=off then match rec f.type with
  |some l=>if P.cellsOf f.type=l.length then(tk P rec (off+l.length) fs).map (l++·)else none
  |none=>none else none
def lN(P:Program):Nat->TypeId->Option (List TypeId)
 |0,_=>none
 |n+1,t=>match P.underlying t with
  |some .bool|some (.int _)|some .string|some (.slice _)=>some [t]
  |some (.struct fs)=>tk P (lN P n) 0 fs.toList
  |some (.array k e)=>match lN P n e with
   |some l=>if P.cellsOf e=l.length then some (List.replicate k l).flatten else none
   |none=>none
  |_=>none
def isAgg(P:Program)(t:TypeId):Bool:=match P.underlying t with
 |some (.struct _)|some (.array _ _)=>true
 |_=>false
mutual
def D.jw (P:Program):D->TypeId->Prop
 | .int k n,t=>P.underlying t=some (.int k)/\(Lit.int k n).wf=true
 | .bool _,t=>P.underlying t=some .bool
 | .str l,t=>P.underlying t=some .string/\l.length<=maxLen
 | .sl es,t=>∃e,P.underlying t=some (.slice e)/\es.length<=maxLen/\D.DN P es e
 | .agg cs,t=>isAgg P t=true/\∃ls,lN P 20 t=some ls/\D.hY P cs ls
 |_,_=>False
def D.DN (P:Program):List D->TypeId->Prop
 |[],_=>True
 |x::l,e=>D.jw P x e/\D.DN P l e
def D.hY (P:Program):List D->List TypeId->Prop
 |[],ts=>ts=[]
 |x::l,ts=>∃t r,ts=t::r/\D.jw P x t/\D.hY P l r
end
def ri(P:Program)(T:List TypeId):Bool:=T.all fun t=>match lN P 20 t with
 |some l=>decide (l.length=P.cellsOf t)&&decide (0<l.length)&&l.all fun u=>match P.underlying u with
  |some (.slice e)=>T.contains e
  |_=>true
 |none=>false
theorem pj{P:Program}:∀ {xs ys:List D} {l r:List TypeId},D.hY P xs l->D.hY P ys r->D.hY P (xs++ys) (l++r)
 |[],_,_,_,h,h'=>by simp only[D.hY]at h;subst h;exact h'
 |x::xs,_,_,_,h,h'=>by
  obtain⟨t,r,rfl,h1,h2⟩:=h
  exact⟨t,_,rfl,h1,pj h2 h'⟩
theorem bg{B:Nat->Prop}{w:World}:∀ {xs ys:List D} {l r:List Value},D.aC B w xs l->D.aC B w ys r->D.aC B w (xs++ys) (l++r)
 |[],_,_,_,h,h'=>by simp only[D.aC]at h;subst h;exact h'
 |x::xs,_,_,_,h,h'=>by
  obtain⟨t,r,rfl,h1,h2⟩:=h
  exact⟨t,_,rfl,h1,bg h2 h'⟩
theorem Flat.append {l r:List Value}(h:Flat l)(h':Flat r):Flat (l++r):=fun u hu=>(List.mem_append.1 hu).elim (h u) (h' u)
abbrev L1:Nat->Prop:=fun _=>False
section
variable {H:Type}{enc:TypeId×Value->H}{P:Program}{W:World}{T:List TypeId}{b0:Nat}
def dr(P:Program)(W:World)(l:List TypeId)(cs:List Value):Prop:=∃xs,D.hY P xs l/\D.aC L1 W xs cs/\Flat cs
theorem dr.append {l r:List TypeId}{cs ds:List Value}(h:dr P W l cs)(h':dr P W r ds):dr P W (l++r) (cs++ds):=by
 obtain⟨xs,a1,a2,a3⟩:=h
 obtain⟨ys,b1,b2,b3⟩:=h'
 exact⟨xs++ys,pj a1 b1,bg a2 b2,a3.append b3⟩
theorem dr.length {l:List TypeId}{cs:List Value}(h:dr P W l cs):cs.length=l.length:=by
 obtain⟨xs,a1,a2,_⟩:=h
 rw[D.aB _ _ a2]
 clear a2
 induction xs generalizing l with
 |nil=>simp only[D.hY]at a1;simp[a1]
 |cons x xs ih=>obtain⟨t,r,rfl,_,h⟩:=a1;simp[ih h]
theorem dr.nil:dr P W [] []:=⟨[],rfl,rfl,fun _ h=>by cases h⟩
theorem yZ{α:Type}(cs:List α)(o k:Nat):cs.drop o=(cs.drop o).take k++cs.drop (o+k):=by
 rw[<- List.drop_drop];exact(List.take_append_drop k _).symm
theorem pk{rec:TypeId->Option (List TypeId)}{cs:List Value}{rd:TypeId->List Value->Prop}
 (bD:∀t l vs,rec t=some l->(∀u∈l,∀e,P.underlying u=some (.slice e)->e∈T)->P.cellsOf t=l.length->rd t vs->dr P W l vs):
 ∀ (fs:List Field) (off:Nat) (l:List TypeId),tk P rec off fs=some l->(∀u∈l,∀e,P.underlying u=some (.slice e)->e∈T)->(∀f∈fs,rd f.type ((cs.drop f.offset).take (P.cellsOf f.type)))->
   off+l.length=cs.length->dr P W l (cs.drop off)
 |[],off,l,h,_,_,hl=>by
  simp only[tk,Option.some.injEq]at h
  subst h
  have:cs.drop off=[]:=List.drop_eq_nil_of_le (by simp at hl;omega)
  rw[this];exact dr.nil
 |f::fs,off,l,h,hT,hr,hl=>by
  simp only[tk]at h
  split at h
  ·rename_i ho
   split at h
   ·rename_i l1 h1
    split at h
    ·rename_i hc
     simp only[Option.map_eq_some_iff]at h
     obtain⟨r,h2,rfl⟩:=h
     have hd:=hr f (by simp)
     rw[ho,hc]at hd
     rw[yZ cs off l1.length]
     simp only[List.length_append]at hl
     exact(bD f.type l1 _ h1 (fun u hu=>hT u (by simp[hu])) hc hd).append (pk bD fs _ r h2 (fun u hu=>hT u (by simp[hu])) (fun f hf=>hr f (by simp[hf])) (by omega))
    ·cases h
   ·cases h
  ·cases h
theorem qA{l:List TypeId}{cs:List Value}:∀ (k i:Nat),(∀j,j<k->dr P W l ((cs.drop ((i+j)*l.length)).take l.length))->(i+k)*l.length=cs.length->dr P W (List.replicate k l).flatten (cs.drop (i*l.length))
 |0,i,_,hl=>by
  have:cs.drop (i*l.length)=[]:=List.drop_eq_nil_of_le (by simp at hl;omega)
  rw[this];exact dr.nil
 |k+1,i,h,hl=>by
  rw[List.replicate_succ,List.flatten_cons,yZ cs (i*l.length) l.length]
  refine(by simpa using h 0 (by omega):dr P W l _).append ?_
  rw[show i*l.length+l.length=(i+1)*l.length by rw[Nat.add_mul];omega]
  refine qA k (i+1) (fun j hj=> ?_) (by rw[<- hl];congr 1;omega)
  have:=h (j+1) (by omega)
  rwa [show i+(j+1)=i+1+j by omega]at this
theorem y0{e:TypeId}{l:List TypeId}{cs:List Value}(hl:lN P 20 e=some l)(h:dr P W l cs):∃ (ev:Value) (x:D),ev.cells.toList=cs/\D.jw P x e/\D.den L1 W x ev/\(isAgg P e=true->ev= .agg cs.toArray)/\(isAgg P e=false->cs=[ev]/\ev.oneCell'=true):=by
 obtain⟨xs,h1,h2,h3⟩:=h
 cases ha:isAgg P e with
 |true=>exact⟨.agg cs.toArray, .agg xs,by simp[Value.cells],⟨ha,l,hl,h1⟩,⟨_,rfl,by simpa using h2,by simpa using h3⟩,fun _=>rfl,(fun h=>by cases h)⟩
 |false=>
  have:l=[e]:=by
   unfold lN at hl
   unfold isAgg at ha
   split at hl<;>simp_all
  subst this
  obtain⟨t,r,e1,h4,h5⟩:∃x r,xs=x::r/\D.jw P x e/\D.hY P r []:=by
   cases xs with
   |nil=>simp[D.hY]at h1
   |cons x r=>obtain⟨t,r',e1,h4,h5⟩:=h1;injection e1 with e1 e2;subst e1;subst e2;exact⟨x,r,rfl,h4,h5⟩
  subst e1
  have:r=[]:=by cases r with
   |nil=>rfl
   |cons y r=>obtain⟨_,_,e,_⟩:=h5;cases e
  subst this
  obtain⟨u,us,rfl,h6,h7⟩:=h2
  simp only[D.aC]at h7
  subst h7
  have ho:=h3 u (by simp)
  refine⟨u,t, ?_,h4,h6,(fun h=>by cases h),fun _=>⟨rfl,ho⟩⟩
  cases u<;>simp_all[Value.oneCell',Value.cells]
theorem zc(hp:ri P T=true){t:TypeId}(ht:t∈T):∃l,lN P 20 t=some l/\l.length=P.cellsOf t/\0<l.length/\∀u∈l,∀e,P.underlying u=some (.slice e)->e∈T:=by
 have:=List.all_eq_true.1 hp t ht
 split at this
 ·rename_i l hl
  simp only[Bool.and_eq_true,decide_eq_true_eq,List.all_eq_true]at this
  refine⟨l,hl,this.1.1,this.1.2,fun u hu e he=> ?_⟩
  have:=this.2 u hu
  rw[he]at this
  simpa using this
 ·cases this
theorem AW(hp:ri P T=true):∀ (n m:Nat) (t:TypeId) (l:List TypeId) (cs:List Value) (x:DataW H×List MemPlace),lN P m t=some l->(∀u∈l,∀e,P.underlying u=some (.slice e)->e∈T)->
 P.cellsOf t=l.length->DataW.trod enc P W 0 (fun _=>true) true n t cs=some x->dr P W l cs:=by
 intro n
 induction n with
 |zero=>intro m t l cs x _ _ _ h;simp[DataW.trod]at h
 |succ n ih=>
  intro m t l cs x hl hT hc h
  cases m with
  |zero=>simp[lN]at hl
  |succ m=>
  unfold lN at hl
  split at hl
  ·rename_i hu
   injection hl with hl;subst hl
   obtain⟨b,rfl,_⟩:=DataW.trod_bool hu h
   exact⟨[.bool b],⟨t,[],rfl,hu,rfl⟩,⟨_,_,rfl,rfl,rfl⟩,by simp[Flat,Value.oneCell']⟩
  ·rename_i k hu
   injection hl with hl;subst hl
   obtain⟨b,rfl,_,hw⟩:=DataW.trod_int hu h
   exact⟨[.int k b],⟨t,[],rfl,⟨hu,hw⟩,rfl⟩,⟨_,_,rfl,rfl,rfl⟩,by simp[Flat,Value.oneCell']⟩
  ·rename_i hu
   injection hl with hl;subst hl
   obtain⟨s,rfl,_,hw⟩:=DataW.trod_string hu h
   exact⟨[.str s.data.toList],⟨t,[],rfl,⟨hu,by simpa using hw⟩,rfl⟩,⟨_,_,rfl,⟨s,rfl,rfl⟩,rfl⟩,by simp[Flat,Value.oneCell']⟩
  ·rename_i e hu
   injection hl with hl;subst hl
   rcases DataW.trod_slice hu h with⟨rfl,_⟩|⟨a,len,cap,elems,rest,n',hn,rfl,_,_,h2,h3,h4,h5,h6,_⟩
   ·exact⟨[.sl []],⟨t,[],rfl,⟨e,hu,by simp,trivial⟩,rfl⟩,⟨_,_,rfl,⟨none,0,0,rfl,rfl,by simp,fun _=>rfl,0,(fun a ha=>by cases ha)⟩,rfl⟩,by simp[Flat,Value.oneCell']⟩
   ·injection hn with hn;subst hn
    obtain⟨l',g1,g2,g3,g4⟩:=zc hp (hT t (by simp) e hu)
    have YJ:∀i,i<len->∃ev:Value,∃y:D,ev.cells.size=P.cellsOf e/\fV L1 W (a.add (i*P.cellsOf e)) ev.cells/\D.den L1 W y ev/\D.jw P y e:=by
     intro i hi
     have:=h5 i hi
     rw[List.getElem?_eq_getElem (by omega)]at this
     obtain⟨ci,k1,k2⟩:=Option.bind_eq_some_iff.1 this
     obtain⟨_,k3,k4⟩:=World.cells?_some k1
     have k5:=ih 20 e l' ci _ g1 g4 g2.symm k2
     obtain⟨ev,y,q1,q2,q3,_,_⟩:=y0 g1 k5
     have q4:ev.cells=ci.toArray:=by rw[<- q1]
     refine⟨ev,y,by rw[q4];simp[k5.length,g2],fun j u hj=>⟨?_,fun h=>h⟩,q3,q2⟩
     rw[q4]at hj
     have DO:ci[j]? =some u:=by simpa using hj
     have bL:j<P.cellsOf e:=by rw[<- g2, <- k5.length];exact(List.getElem?_eq_some_iff.1 DO).1
     rw[k4 j bL];exact DO
    have list:∀k i,i+k=len->∃es,es.length=k/\D.DN P es e/\D.elems L1 W (P.cellsOf e) a i es:=by
     intro k
     induction k with
     |zero=>intro i _;exact⟨[],rfl,trivial,trivial⟩
     |succ k YK=>
      intro i hi
      obtain⟨es,e1,e2,e3⟩:=YK (i+1) (by omega)
      obtain⟨ev,y,y1,y2,y3,y4⟩:=YJ i (by omega)
      exact⟨y::es,by simp[e1],⟨y4,e2⟩,⟨ev,y1,y2,y3⟩,e3⟩
    obtain⟨es,e1,e2,e3⟩:=list len 0 (by omega)
    have Ri:cap≠0->a.spot=none:=by
     intro zw
     have JH:∀z,(W.cells? 0 (a.add (0*P.cellsOf e)) (P.cellsOf e)).bind (DataW.trod enc P W 0 (fun _=>true) true n e)=some z->a.spot=none:=by
      intro z hz
      obtain⟨ci,k1,k2⟩:=Option.bind_eq_some_iff.1 hz
      obtain⟨_,k3,k4⟩:=World.cells?_some k1
      have k5:=k4 0 (by omega)
      rw[List.getElem?_eq_getElem (by omega)]at k5
      simpa[Addr.add]using World.cell?_spot k5
     by_cases hlen:0<len
     ·have:=h5 0 hlen
      rw[List.getElem?_eq_getElem (by omega)]at this
      exact JH _ this
     ·obtain⟨h7,h8⟩:=h6 rfl
      have:=h8 0 (by omega)
      rw[List.getElem?_eq_getElem (by omega),show(len+0)=0 by omega]at this
      exact JH _ this
    exact⟨[.sl es],⟨t,[],rfl,⟨e,hu,by omega,e2⟩,rfl⟩,⟨_,_,rfl,⟨some a,len,cap,rfl,e1.symm,h2,(fun h=>by cases h),P.cellsOf e,(fun a' M0=>by injection M0 with M0;subst M0;exact⟨Ri,e3⟩)⟩,rfl⟩,by simp[Flat,Value.oneCell']⟩
  ·rename_i fs hu
   obtain⟨xs,n',hn,_,h2,h3,h4⟩:=DataW.trod_struct hu h
   injection hn with hn;subst hn
   have:=pk (P:=P) (W:=W) (T:=T) (cs:=cs) (rd:=fun t vs=>∃y,DataW.trod enc P W 0 (fun _=>true) true n t vs=some y) (rec:=lN P m) (fun t l vs q1 q2 q3 ⟨y,q4⟩=>ih m t l vs y q1 q2 q3 q4) fs.toList 0 l hl hT ?_ (by omega)
   ·simpa using this
   ·intro f hf
    obtain⟨i,hi,YL⟩:=List.getElem_of_mem hf
    have:=h4 i f (by simp at hi;simp[<- YL,Array.getElem?_eq_getElem hi])
    rw[List.getElem?_eq_getElem (by simp at hi;omega)]at this
    exact⟨_,this⟩
  ·rename_i k e hu
   split at hl
   ·rename_i l' GO
    split at hl
    ·rename_i W8
     injection hl with hl;subst hl
     obtain⟨xs,n',hn,_,h2,h3,h4⟩:=DataW.trod_array hu h
     injection hn with hn;subst hn
     have hlen:cs.length=k*l'.length:=by rw[h2,hc];simp
     have YM:0<k->∀u∈l',∀e,P.underlying u=some (.slice e)->e∈T:=fun hk u hu=>hT u (List.mem_flatten.2 ⟨l',List.mem_replicate.2 ⟨by omega,rfl⟩,hu⟩)
     have:=qA (P:=P) (W:=W) (l:=l') (cs:=cs) k 0 (fun j hj=> ?_) (by rw[hlen];simp)
     ·simpa using this
     ·have:=h4 j hj
      rw[W8,List.getElem?_eq_getElem (by omega)]at this
      rw[Nat.zero_add]
      exact ih m e l' _ _ GO (YM (by omega)) W8 this
    ·cases hl
   ·cases hl
  ·cases hl
theorem vc(hp:ri P T=true):∀ (ts:List TypeId) (vs:List Value) (ds:List (DataW H)) (p:List MemPlace),(∀t∈ts,t∈T)->DataW.TrodAll enc P W 0 (fun _=>true) true ts vs ds p->
 (∀ (j:Nat) t v,ts[j]? =some t->vs[j]? =some v->Value.okWide P W .any b0 t v)->∃xs,D.hY P xs ts/\D.aC L1 W xs vs
 |[],vs,ds,p,_,h,_=>by
  obtain⟨rfl,rfl,rfl⟩:=trodAll_nil h
  exact⟨[],rfl,rfl⟩
 |t::ts,vs,ds,p,hT,h,hv=>by
  obtain⟨v,Rm,d,NB,p1,q1,rfl,rfl,rfl,⟨n,h1⟩,h2⟩:=trodAll_cons h
  obtain⟨xs,a1,a2⟩:=vc hp ts Rm NB q1 (fun t ht=>hT t (by simp[ht])) h2 (fun j t v h1 h2=>hv (j+1) t v (by simpa using h1) (by simpa using h2))
  obtain⟨l,g1,g2,g3,g4⟩:=zc hp (hT t (by simp))
  obtain⟨ev,x,q1,q2,q3,q4,q5⟩:=y0 g1 (AW hp n 20 t l _ _ g1 g4 g2.symm h1)
  have bz:=hv 0 t v rfl rfl
  have:ev=v:=by
   cases ha:isAgg P t with
   |true=>
    have:∃cs,v= .agg cs:=by
     unfold isAgg at ha
     unfold Value.okWide at bz
     split at ha
     ·rename_i hu;rw[hu]at bz;obtain⟨cs,rfl,_⟩:=bz;exact⟨cs,rfl⟩
     ·rename_i hu;rw[hu]at bz;obtain⟨cs,rfl,_⟩:=bz;exact⟨cs,rfl⟩
     ·cases ha
    obtain⟨cs,rfl⟩:=this
    rw[q4 ha]
    simp[Value.cells]
   |false=>
    obtain⟨q6,q7⟩:=q5 ha
    cases v with
    |agg cs=>
     exfalso
     unfold isAgg at ha
     unfold Value.okWide at bz
     split at bz
     ·rename_i hu;rw[hu]at ha;cases ha
     ·rename_i hu;rw[hu]at ha;cases ha
     ·unfold Cell.okWide at bz
      split at bz
      case h_8=>
       unfold Cell.ok at bz
       split at bz<;>first|exact bz|contradiction
      all_goals contradiction
    |_=>simp only[Value.cells,List.cons.injEq,and_true]at q6;exact q6.symm
  subst this
  exact⟨x::xs,⟨t,ts,rfl,q2,a1⟩,⟨_,_,rfl,q3,a2⟩⟩
theorem eF.below {w w':World}(h:eF (fun _=>False) w w'):Below w.heap.size w w':=⟨h.os,h.tape,h.output,h.size,fun k hk=>h.block k hk (fun h=>h)⟩
theorem ve(hl:laidOutB P=true){W':World}{sp:Nat->Bool}:∀ {ts:List TypeId} {vs:List Value} {ds:List (DataW H)} {p:List MemPlace},(∀t∈ts,P.readableRec t=true/\t<P.types.size)->DataW.TrodAll enc P W 0 (fun _=>true) true ts vs ds p->
 (∀x∈p,W.sameAt W' x/\sp x.block=true)->DataW.TrodAll enc P W' 0 sp true ts vs ds p
 |[],vs,ds,p,_,h,_=>by
  obtain⟨rfl,rfl,rfl⟩:=trodAll_nil h
  exact trodAll_mk0
 |t::ts,vs,ds,p,hr,h,hs=>by
  obtain⟨v,Rm,d,NB,p1,q1,rfl,rfl,rfl,h1,h2⟩:=trodAll_cons h
  exact⟨p1,q1,WideElems.Trod_stays hl (hr t (by simp)).1 (hr t (by simp)).2 h1 (fun x hx=>(hs x (by simp[hx])).1) (fun x hx=>(hs x (by simp[hx])).2),ve hl (fun t ht=>hr t (by simp[ht])) h2 (fun x hx=>hs x (by simp[hx])),rfl⟩
theorem Gi{sp:Nat->Bool}:∀ {ts:List TypeId} {vs:List Value} {ds:List (DataW H)} {ps:List MemPlace},DataW.TrodAll enc P W 0 sp true ts vs ds ps->ds.length=ts.length
 |[],_,_,_,h=>by obtain⟨_,rfl,_⟩:=trodAll_nil h;rfl
 |_::_,_,_,_,h=>by
  obtain⟨_,_,_,_,_,_,_,rfl,_,_,h2⟩:=trodAll_cons h
  simp[Gi h2]
theorem wJ{f:FuncId}{fn:Func}{s:ChangeSpec}{tb:TypeId}{fresh handsOn again:Bool}(qH:fn.resultTypes=#[tb])(LI:P.underlying tb=some .bool)(JI:s.vars=[])
 (Gj:∀ds:List (DataW H),ds.length=fn.params.toList.length->s.fn H ds={results:=[.lit (.bool true)],args:=ds}) (hp:ri P T=true) (hT:∀t∈fn.params.toList,t∈T) (hl:laidOutB P=true)
 (hr:∀t∈fn.params.toList,P.readableRec t=true/\t<P.types.size) (law:∀xs,D.hY P xs fn.params.toList->cj P f xs (.ret [.bool true]))
 (base:Nat) (args:Array Value) (ds gs:List (DataW H)) (before:List MemPlace)
 (dP:∀ (j:Nat) t v,fn.params[j]? =some t->args[j]? =some v->Value.okWide P W .any base t v) (hW:DataW.Whole enc P fn.params.toList s.vars false W args.toList ds gs before):
 Calls P f args W fun e W'=>∃v,e= .returned v/\s.post enc P fn false fresh handsOn again W args v W':=by
 have W9:=hW
 obtain⟨p,q,hA,hV,rfl,YN,L4⟩:=hW
 rw[JI]at hV
 obtain⟨rfl,rfl⟩:=trodVars_none hV
 obtain⟨xs,a1,a2⟩:=vc (b0:=base) hp fn.params.toList args.toList ds p hT hA (fun j t v h1 h2=>dP j t v (by simpa using h1) (by simpa using h2))
 refine((law xs a1).2 L1 W args (fun _ h=>h.elim) a2).mono fun e W' ⟨hk,ho⟩=> ?_
 have hb:=hk.below
 cases e with
 |panicked ch=>exact ho.elim
 |outgrown=>exact ho.elim
 |returned v=>
  simp only[R.is,D.den]at ho
  subst ho
  refine⟨_,rfl, ?_⟩
  have hlen:ds.length=fn.params.toList.length:=(Gi hA)
  have hold:∀x∈p,x.block<W.heap.size:=fun x hx=>by simpa using W9.lt x (by simpa using hx)
  have ee:∀sp:Nat->Bool,(∀x∈p,sp x.block=true)->DataW.TrodAll enc P W' 0 sp true fn.params.toList args.toList ds p:=fun sp xb=>ve hl hr hA fun x hx=>⟨hb.same (hold x hx),xb x hx⟩
  have JJ:∀ (b:Nat) (sp:Nat->Bool) (hd:Bool),DataW.TrodAll enc P W' b sp hd fn.resultTypes.toList ((Value.bool true).resultList fn.resultTypes.size) [.lit (.bool true)] []:=fun b sp hd=>by
   rw[qH]
   exact trodAll_cons_mk (p:=[]) (p':=[]) ⟨1,by simp[DataW.trod,Value.cells,LI]⟩ trodAll_mk0
  have Gk:∀sp:Nat->Bool,DataW.TrodVars enc P W' sp s.vars [] []:=fun sp=>by rw[JI];rfl
  refine⟨ds,[],p++[],[],p,[],W9, ?_, ?_, ?_,World.keptBut_mono (fun _ h=>h.elim) (hb.frame (fun _=>False)),fun _=>⟨?_,[.lit (.bool true)]++ds,[],([]++p)++[],⟨[]++p,[],trodAll_append (ee _ fun _ _=>rfl) (JJ 0 (fun _=>true) true),Gk _,rfl, ?_,(fun h=>by cases h)⟩,fun x hx _=>by simpa using hx⟩⟩
  ·rw[List.append_nil,Gj ds hlen];exact JJ _ _ _
  ·rw[List.append_nil,Gj ds hlen];exact ee _ fun x hx=>by simpa using hold x hx
  ·rw[List.append_nil,Gj ds hlen];exact Gk _
  ·intro j t r h1 h2
   rw[qH]at h1 h2
   match j,h1,h2 with
   |0,h1,h2=>
    simp[Value.resultList]at h1 h2
    subst h1;subst h2
    simp[Value.okWide,LI,Cell.okWide,Cell.ok]
  ·intro b off hx
   rw[hb.frozen (by simpa[MemPlace.block]using hold _ (by simpa using hx))]
   exact YN b off (by simpa using hx)
end
section
variable {P:Program}{t e:TypeId}{x:D}
theorem tl{k:IntKind}(ht:P.underlying t=some (.int k))(h:D.jw P x t):∃n,x= .int k n/\(Lit.int k n).wf=true:=by
 cases x<;>simp only[D.jw]at h
 case int k' n=>
  rw[ht]at h
  obtain⟨h1,h2⟩:=h
  injection h1 with h1;injection h1 with h1;subst h1
  exact⟨n,rfl,h2⟩
 case bool=>rw[ht]at h;cases h
 case str=>rw[ht]at h;cases h.1
 case sl=>obtain⟨e,h,_⟩:=h;rw[ht]at h;cases h
 case agg=>have:=h.1;unfold isAgg at this;rw[ht]at this;cases this
theorem Gl(ht:P.underlying t=some .string)(h:D.jw P x t):∃l,x= .str l/\l.length<=maxLen:=by
 cases x<;>simp only[D.jw]at h
 case int k' n=>rw[ht]at h;cases h.1
 case bool b=>rw[ht]at h;cases h
 case str l=>exact⟨l,rfl,h.2⟩
 case sl=>obtain⟨e,h,_⟩:=h;rw[ht]at h;cases h
 case agg=>have:=h.1;unfold isAgg at this;rw[ht]at this;cases this
theorem wK(ht:P.underlying t=some (.slice e))(h:D.jw P x t):∃es,x= .sl es/\es.length<=maxLen/\D.DN P es e:=by
 cases x<;>simp only[D.jw]at h
 case int k' n=>rw[ht]at h;cases h.1
 case bool b=>rw[ht]at h;cases h
 case str l=>rw[ht]at h;cases h.1
 case sl es=>
  obtain⟨e',h,h2,h3⟩:=h
  rw[ht]at h;injection h with h;injection h with h;subst h
  exact⟨es,rfl,h2,h3⟩
 case agg=>have:=h.1;unfold isAgg at this;rw[ht]at this;cases this
theorem tn{ls:List TypeId}(ha:isAgg P t=true)(hl:lN P 20 t=some ls)(h:D.jw P x t):∃cs,x= .agg cs/\D.hY P cs ls:=by
 have no:∀u,P.underlying t=some u->(∀fs,u≠ .struct fs)->(∀k e,u≠ .array k e)->False:=by
  intro u hu h1 h2
  unfold isAgg at ha
  rw[hu]at ha
  split at ha
  ·rename_i e;injection e with e;exact h1 _ e
  ·rename_i e;injection e with e;exact h2 _ _ e
  ·cases ha
 cases x<;>simp only[D.jw]at h
 case int k' n=>exact(no _ h.1 (fun _ h=>by cases h) (fun _ _ h=>by cases h)).elim
 case bool b=>exact(no _ h (fun _ h=>by cases h) (fun _ _ h=>by cases h)).elim
 case str l=>exact(no _ h.1 (fun _ h=>by cases h) (fun _ _ h=>by cases h)).elim
 case sl es=>obtain⟨e',h,_⟩:=h;exact(no _ h (fun _ h=>by cases h) (fun _ _ h=>by cases h)).elim
 case agg cs=>
  obtain⟨_,Zm,h1,h2⟩:=h
  rw[hl]at h1;injection h1 with h1;subst h1
  exact⟨cs,rfl,h2⟩
theorem c0{t:TypeId}{ts:List TypeId}{cs:List D}(h:D.hY P cs (t::ts)):∃x xs,cs=x::xs/\D.jw P x t/\D.hY P xs ts:=by
 cases cs with
 |nil=>simp[D.hY]at h
 |cons x xs=>obtain⟨_,_,e,h1,h2⟩:=h;injection e with e1 e2;subst e1;subst e2;exact⟨x,xs,rfl,h1,h2⟩
theorem mU{cs:List D}(h:D.hY P cs []):cs=[]:=by
 cases cs with
 |nil=>rfl
 |cons x xs=>obtain⟨_,_,e,_⟩:=h;cases e
theorem tp{α:Type}{f:α->D}{q:α->Prop}(hf:∀x,D.jw P x e->∃a,x=f a/\q a):∀ (es:List D),D.DN P es e->∃l:List α,es=l.map f/\∀a∈l,q a
 |[],_=>⟨[],rfl,fun _ h=>by cases h⟩
 |x::es,h=>by
  obtain⟨a,rfl,h1⟩:=hf x h.1
  obtain⟨l,rfl,h2⟩:=tp hf es h.2
  exact⟨a::l,rfl,fun b hb=>(List.mem_cons.1 hb).elim (fun e=>e ▸ h1) (h2 b)⟩
end
end Go.Proofs.YtealblliddhgiaaGreat
end
section
namespace Go.Proofs.YtealblliddhgiaaGreat
open Go.ChangeShapes Go.WideShapes Go.RowKit
theorem p6:maxLen<=9223372036854775807:=by decide
theorem JK{x:D}(h:D.jw Tryz.prog x 3):∃n:Int,x= .i n:=by
 obtain⟨n,h,_⟩:=tl undT_3 h
 exact⟨n,h⟩
theorem Vn{x:D}(h:D.jw Tryz.prog x 25):∃n:Int,x= .i n:=by
 obtain⟨n,h,_⟩:=tl undT_25 h
 exact⟨n,h⟩
theorem Rj{x:D}(h:D.jw Tryz.prog x 103):∃r:nT,x=r.d/\r.name.length<=9223372036854775807:=by
 obtain⟨cs,rfl,hh⟩:=tn (by kernel_rfl) (ls:=[9,3]) (by kernel_rfl) h
 clear h;have h:=hh;clear hh
 obtain⟨a,cs,rfl,ha,h⟩:=c0 h
 obtain⟨b,cs,rfl,hb,h⟩:=c0 h
 have:=mU h;subst this
 obtain⟨l,rfl,hl⟩:=Gl (by kernel_rfl) ha
 obtain⟨n,rfl⟩:=JK hb
 exact⟨⟨l,n⟩,rfl,by have:=p6;simp only;omega⟩
theorem Rk{x:D}(h:D.jw Tryz.prog x 24):∃s:bP,x=s.d/\s.Fits:=by
 obtain⟨cs,rfl,hh⟩:=tn (by kernel_rfl) (ls:=[22,22]) (by kernel_rfl) h
 clear h;have h:=hh;clear hh
 obtain⟨a,cs,rfl,ha,h⟩:=c0 h
 obtain⟨b,cs,rfl,hb,h⟩:=c0 h
 have:=mU h;subst this
 obtain⟨es,rfl,h1,h2⟩:=wK undT_22 ha
 obtain⟨l,rfl,hl⟩:=tp (fun x h=>Rj h) es h2
 obtain⟨es',rfl,h3,h4⟩:=wK undT_22 hb
 obtain⟨l',rfl,GO⟩:=tp (fun x h=>Rj h) es' h4
 have:=p6
 exact⟨⟨l,l'⟩,rfl,⟨by simp at h1;simp only;omega,by simp at h3;simp only;omega,hl,GO⟩⟩
theorem Gm:∀ (n:Nat) (x:D),SizeOf.sizeOf x<=n->D.jw Tryz.prog x 28->∃t:Tm,x=t.d/\t.fits:=by
 intro n
 induction n with
 |zero=>intro x hx _;cases x<;>simp at hx
 |succ n ih=>
  intro x hx h
  obtain⟨cs,rfl,hh⟩:=tn (by kernel_rfl) (ls:=[25,3,26]) (by kernel_rfl) h
  clear h;have h:=hh;clear hh
  obtain⟨a,cs,rfl,ha,h⟩:=c0 h
  obtain⟨b,cs,rfl,hb,h⟩:=c0 h
  obtain⟨c,cs,rfl,hc,h⟩:=c0 h
  have:=mU h;subst this
  obtain⟨o,rfl⟩:=Vn ha
  obtain⟨m,rfl⟩:=JK hb
  obtain⟨es,rfl,h1,h2⟩:=wK undT_26 hc
  have zg:SizeOf.sizeOf es<=n:=by simp at hx;omega
  have:∀es:List D,SizeOf.sizeOf es<=n->D.DN Tryz.prog es 28->∃l:List Tm,es=l.map Tm.d/\∀k∈l,k.fits:=by
   intro es
   induction es with
   |nil=>intro _ _;exact⟨[],rfl,fun _ h=>by cases h⟩
   |cons y es YO=>
    intro hs h
    simp at hs
    obtain⟨t,rfl,ht⟩:=ih y (by omega) h.1
    obtain⟨l,rfl,hl⟩:=YO (by omega) h.2
    exact⟨t::l,rfl,fun b hb=>(List.mem_cons.1 hb).elim (fun e=>e ▸ ht) (hl b)⟩
  obtain⟨l,rfl,hl⟩:=this es zg h2
  refine⟨.mk o m l,by rw[Tm.pO], ?_⟩
  rw[Tm.cY]
  exact⟨by have:=p6;simp at h1;simp only[Tm.kids];omega,hl⟩
theorem Rl{x:D}(h:D.jw Tryz.prog x 28):∃t:Tm,x=t.d/\t.fits:=Gm _ x (Nat.le_refl _) h
end Go.Proofs.YtealblliddhgiaaGreat
end
namespace Go.Proofs.YtealblliddhgiaaGreat
theorem Vo(n:Int):cj Tryz.prog 33 [.i n] (.ret [(Tm.mk 1 n []).d]):=by
 refine cj.bt mix OY (by simp) ?_
 rw[TS]
 simp+contextual (disch:=first|omega|simp only[go_sem,false_implies]) only[go_sem,wrap64,if_pos,and_self]
 refine bM (LU n) ?_
 simp+contextual (disch:=first|omega|simp only[go_sem,false_implies]) only[go_sem,wrap64,if_pos,and_self]
theorem AX(a b:Tm):gq a b=gq b a:=by
 rw[Bool.eq_iff_iff,uX,uX];exact eq_comm
theorem tq(s:bP)(hs:s.Fits)(a b:Tm)(d:Int)(ha:a.fits)(hb:b.fits)(hd:0<=d/\d<=255):cj Tryz.prog 9 [s.d,a.d,b.d, .int .u8 d] (.ret [.bool true]):=by
 refine cj.bt mix VT (by simp) ?_
 rw[c9]
 simp+contextual (disch:=first|omega|simp only[go_sem,false_implies]) only[go_sem,wrap64,if_pos,and_self]
 refine aJ (FJ s hs [a,b] (by simp) (by simp[ha,hb])) rfl ?_
 cases h1:o8 s [a,b]with
 |false=>
  simp+contextual (disch:=first|omega|simp only[go_sem,false_implies]) only[go_sem,wrap64,if_pos,and_self]
  refine aJ known rfl ?_
  simp+contextual (disch:=first|omega|simp only[go_sem,false_implies]) only[go_sem,wrap64,if_pos,and_self]
 |true=>
  simp+contextual (disch:=first|omega|simp only[go_sem,false_implies]) only[go_sem,wrap64,if_pos,and_self]
  refine aJ (HL s hs [a,b] (by simp) (by simp[ha,hb])) rfl ?_
  cases g1:j5 s [a,b]with
  |false=>
   simp+contextual (disch:=first|omega|simp only[go_sem,false_implies]) only[go_sem,wrap64,if_pos,and_self]
   refine aJ known rfl ?_
   simp+contextual (disch:=first|omega|simp only[go_sem,false_implies]) only[go_sem,wrap64,if_pos,and_self]
  |true=>
   simp only[o8,Bool.and_eq_true,List.all_cons,List.all_nil,Bool.and_true]at h1
   have ca:=Tm.LO.yG ha h1.1.1
   have cb:=Tm.LO.yG hb h1.1.2
   have za:=(lx a).1 h1.1.1
   have zb:=(lx b).1 h1.1.2
   have g2:=g1
   simp only[j5,Bool.and_eq_true,List.all_cons,List.all_nil,Bool.and_true]at g2
   obtain⟨gs,ta,tb⟩:=g2
   have rr:∀x y:Tm,gm s x=true->gm s y=true->fD s [x,y]=true:=fun x y hx hy=>by
    rw[uW];simp[j5,gs,hx,hy]
   have r1:∀x:Tm,gm s x=true->fD s [x]=true:=fun x hx=>by rw[uW];simp[j5,gs,hx]
   have Xa:=mS s hs a b ca.toFin cb.toFin (by omega) (by omega)
   have Xb:=mS s hs b a cb.toFin ca.toFin (by omega) (by omega)
   rw[rr a b ta tb]at Xa
   rw[rr b a tb ta]at Xb
   have oa:=yX s hs a ca.toFin (by omega)
   have ob:=yX s hs b cb.toFin (by omega)
   have Vp:=iX ha
   have Xc:=iX hb
   simp+contextual (disch:=first|omega|simp only[go_sem,false_implies]) only[go_sem,wrap64,if_pos,and_self]
   refine aJ Xa rfl ?_
   simp+contextual (disch:=first|omega|simp only[go_sem,false_implies]) only[go_sem,wrap64,if_pos,and_self]
   refine aJ Xb rfl ?_
   simp+contextual (disch:=first|omega|simp only[go_sem,false_implies]) only[go_sem,wrap64,if_pos,and_self]
   refine bM oa ?_
   simp+contextual (disch:=first|omega|simp only[go_sem,false_implies]) only[go_sem,wrap64,if_pos,and_self]
   refine bM ob ?_
   simp+contextual (disch:=first|omega|simp only[go_sem,false_implies]) only[go_sem,wrap64,if_pos,o7]
   have YP:(gq (eE a) (eE b)!=gq (eE b) (eE a))=false:=by
    rw[AX];cases gq (eE b) (eE a)<;>rfl
   simp+contextual (disch:=first|omega|simp only[go_sem,false_implies]) only[go_sem,wrap64,if_pos,YP]
   by_cases n1:20<DJ a
   ·have e1:kL s a=(.mk 0 0 [],3):=by simp[kL,r1 a ta,n1]
    by_cases n2:20<DJ b
    ·have e2:kL s b=(.mk 0 0 [],3):=by simp[kL,r1 b tb,n2]
     simp+contextual (disch:=first|omega|simp only[go_sem,false_implies]) only[go_sem,wrap64,if_pos,e1,e2]
     refine aJ known rfl ?_
     simp+contextual (disch:=first|omega|simp only[go_sem,false_implies]) only[go_sem,wrap64,if_pos,and_self]
    ·have e2:kL s b=(eE b,0):=by simp[kL,r1 b tb,n2]
     simp+contextual (disch:=first|omega|simp only[go_sem,false_implies]) only[go_sem,wrap64,if_pos,e1,e2]
     refine aJ known rfl ?_
     simp+contextual (disch:=first|omega|simp only[go_sem,false_implies]) only[go_sem,wrap64,if_pos,and_self]
   ·have e1:kL s a=(eE a,0):=by simp[kL,r1 a ta,n1]
    by_cases n2:20<DJ b
    ·have e2:kL s b=(.mk 0 0 [],3):=by simp[kL,r1 b tb,n2]
     simp+contextual (disch:=first|omega|simp only[go_sem,false_implies]) only[go_sem,wrap64,if_pos,e1,e2]
     refine aJ known rfl ?_
     simp+contextual (disch:=first|omega|simp only[go_sem,false_implies]) only[go_sem,wrap64,if_pos,and_self]
    ·have e2:kL s b=(eE b,0):=by simp[kL,r1 b tb,n2]
     have sa:=wu (eE a) Vp.1
     have sb:=wu (eE b) Xc.1
     have YQ:=LG (eE a) Vp.1 (eE b) Xc.1
     rw[tj ha h1.1.1]at sa
     rw[tj hb h1.1.2]at sb
     simp+contextual (disch:=first|omega|simp only[go_sem,false_implies]) only[go_sem,wrap64,if_pos,e1,e2]
     refine aJ sa rfl ?_
     simp+contextual (disch:=first|omega|simp only[go_sem,false_implies]) only[go_sem,wrap64,if_pos,e1,e2]
     refine aJ sb rfl ?_
     simp+contextual (disch:=first|omega|simp only[go_sem,false_implies]) only[go_sem,wrap64,if_pos,e1,e2]
     refine aJ YQ rfl ?_
     simp+contextual (disch:=first|omega|simp only[go_sem,false_implies]) only[go_sem,wrap64,if_pos,e1,e2]
     have Vq:(gq (eE a) (eE b)!=gq (eE a) (eE b))=false:=by simp
     simp+contextual (disch:=first|omega|simp only[go_sem,false_implies]) only[go_sem,wrap64,if_pos,Vq]
     refine bn (fun i:Nat=>⟨bF [.aa, .aa, .aa, .d (.int .u8 d), .ptr 0 0, .ptr 1 0, .aa, .aa, .aa, .aa, .aa, .aa, .aa, .ptr 42 0, .aa, .aa, .aa, .osl 86 0, .d (.i i)],
      ao (ao (ao (ao (fun _=> .no) 0 (.row s.row)) 1 (.row a.row)) 42 (.row (eE a).row)) 86 (.arr 0 52 4 ((eL d i).map TB.d)),87⟩)
      (fun i=>i<=20) (fun i=>20 - i) 0 (Nat.zero_le _) (cq.mY (ty:=52) (sz:=4) (es:=[]) (fun _=>False) .aX 86 _ (by decide) (fun j hj=> ?_) (ab _ _ _) (.inl ⟨rfl,rfl,by decide⟩) (fun j hj=>by(repeat(first|rfl|rw[ab]|rw[ad _ _ _ _ (by omega)]))) (fun _ h=>h.elim) ?_) ?_
     ·by_cases j0:j=0
      ·subst j0;exact aD (y:= .row s.row) rfl rfl (bW rfl (bq (bq bV)))
      by_cases j1:j=1
      ·subst j1;exact aD (y:= .row a.row) rfl rfl (bW rfl (bq (bq (bq bV))))
      by_cases j2:j=42
      ·subst j2;exact aD (y:= .row (eE a).row) rfl rfl (bW rfl (bq (bq (bq bV))))
      exact aD rfl (by(repeat(first|rfl|rw[ab]|rw[ad _ _ _ _ (by omega)]))) BG
     ·(repeat(first|exact ei|refine dk ?_|refine cR rfl ?_|refine cR (aV (aU (by omega))) ?_|refine ir 0 rfl rfl rfl ?_|refine iq rfl (by simp[V.refs,V.ag]<;>first|omega|assumption) ?_|refine iu rfl (by simp[V.ids]<;>omega) ?_))
     rintro i hi
     replace hi:i<=20:=hi
     simp+contextual (disch:=first|omega|simp only[go_sem,false_implies]) only[go_sem,wrap64,if_pos,and_self]
     refine ax (fun h5=> ?_) (fun h5=> ?_)
     ·simp at h5
      simp+contextual (disch:=first|omega|simp only[go_sem,false_implies]) only[go_sem,wrap64,if_pos,and_self]
      have Vr:((i:Int)+d).tmod 20=((i:Int)+d)%20:=Int.tmod_eq_emod_of_nonneg (by omega)
      rw[Vr]
      refine bM (Vo (((i:Int)+d)%20)) ?_
      have Gn:i<=20:=hi
      simp+contextual (disch:=first|omega|simp only[go_sem,false_implies]) only[go_sem,wrap64,if_pos,List.length_map,p5]
      refine aE (i+1) (by omega) (by omega) (cq.mY (fun j=>j=86) (.osl 86 1) 86 _ (by decide) (fun j hj=> ?_) (ab _ _ _) (.inr ⟨86,1,rfl,rfl,by(repeat(first|rfl|rw[ab]|rw[ad _ _ _ _ (by omega)]));rw[tg,List.map_append,List.map_cons,List.map_nil]⟩) (fun j hj=>by(repeat(first|rfl|rw[ab]|rw[ad _ _ _ _ (by omega)]))) (fun j h h2=>by omega) ?_)
      ·by_cases j0:j=0
       ·subst j0;exact aD (y:= .row s.row) rfl rfl (bW rfl (bq (bq bV)))
       by_cases j1:j=1
       ·subst j1;exact aD (y:= .row a.row) rfl rfl (bW rfl (bq (bq (bq bV))))
       by_cases j2:j=42
       ·subst j2;exact aD (y:= .row (eE a).row) rfl rfl (bW rfl (bq (bq (bq bV))))
       exact aD rfl (by(repeat(first|rfl|rw[ab]|rw[ad _ _ _ _ (by omega)]))) BG
      ·(repeat(first|exact ei|refine dk ?_|refine cR rfl ?_|refine cR (aV (aU (by omega))) ?_|refine ir 0 rfl rfl rfl ?_|refine iq rfl (by simp[V.refs,V.ag]<;>first|omega|assumption) ?_|refine iu rfl (by simp[V.ids]<;>omega) ?_))
     ·simp at h5
      have Vk:i=20:=by omega
      subst Vk
      simp+contextual (disch:=first|omega|simp only[go_sem,false_implies]) only[go_sem,wrap64,if_pos,and_self]
      have SW:(eL d 20).length<=9223372036854775807:=by rw[p5];omega
      have YR:∀x∈eL d 20,x.term.Fin:=fun x hx=>by
       simp only[eL,List.mem_map,List.mem_range]at hx
       obtain⟨j,_,rfl⟩:=hx
       exact⟨Tm.lG _ (by rw[Tm.BO];simp[jK]),by rw[Tm.dg];simp[Tm.kids,Tm.dF]⟩
      have dT:=H6 s hs a ca.toFin (eL d 20) SW YR
      have zg:qP s a (eL d 20)=if fq s (bA a.cc (gx (eL d 20)) a)=true then(bA a.cc (gx (eL d 20)) a,0)else(.mk 0 0 [],3):=by
       simp[qP,r1 a ta,wI]
      rw[zg]at dT
      refine bM dT ?_
      cases hz:fq s (bA a.cc (gx (eL d 20)) a)with
      |false=>
       simp+contextual (disch:=first|omega|simp only[go_sem,false_implies]) only[go_sem,wrap64,if_pos,and_self]
       refine aJ known rfl ?_
       simp+contextual (disch:=first|omega|simp only[go_sem,false_implies]) only[go_sem,wrap64,if_pos,and_self]
      |true=>
       rw[jt]at hz
       obtain⟨z1,z2,z3⟩:=ph hz
       have Xd:=mS s hs a (bA a.cc (gx (eL d 20)) a) ca.toFin ⟨Tm.lG _ (by omega),by omega⟩ (by omega) (by omega)
       have tx:=DL ha ta (by omega)
       have Xe:=mS s hs a (eE a) ca.toFin ⟨Vp.1,by omega⟩ (by omega) (by omega)
       have YS:eE (eE a)=eE a:=FZ a (ph ta).1
       rw[rr a _ ta hz,Gh ta d,nO]at Xd
       rw[rr a _ ta tx,YS,nO]at Xe
       simp+contextual (disch:=first|omega|simp only[go_sem,false_implies]) only[go_sem,wrap64,if_pos,and_self]
       refine aJ Xd rfl ?_
       simp+contextual (disch:=first|omega|simp only[go_sem,false_implies]) only[go_sem,wrap64,if_pos,and_self]
       refine aJ Xe rfl ?_
       simp+contextual (disch:=first|omega|simp only[go_sem,false_implies]) only[go_sem,wrap64,if_pos,o7]
       refine aJ known rfl ?_
       simp+contextual (disch:=first|omega|simp only[go_sem,false_implies]) only[go_sem,wrap64,if_pos,and_self]
end Go.Proofs.YtealblliddhgiaaGreat
section
namespace Go.Proofs.YtealblliddhgiaaGreat
open Go.ChangeShapes Go.WideShapes Go.RowKit
theorem Vs{x:D}(h:D.jw Tryz.prog x 5):∃n:Int,x= .int .u8 n/\(0<=n/\n<=255):=by
 obtain⟨n,h,hw⟩:=tl undT_5 h
 simp[Lit.wf]at hw
 exact⟨n,h,hw⟩
end Go.Proofs.YtealblliddhgiaaGreat
end
section
namespace Go.Proofs.YtealblliddhgiaaGreat
open Go.ChangeShapes Go.WideShapes Go.RowKit
set_option maxRecDepth 100000 in
theorem m7(os:Os)(started:os.Started)(H:Type)(enc:TypeId×Value->H):
 ReturnsInHanded {} Tryz.checked os 9 .any (Rows.termVariantsSpec.pre6 enc Tryz.prog Tryz.f9 Rows.termVariantsRow.domain false) (Rows.termVariantsSpec.post enc Tryz.prog Tryz.f9 Rows.termVariantsRow.apart Rows.termVariantsRow.fresh Rows.termVariantsRow.handsOn Rows.termVariantsRow.again):=by
 refine returnsInHanded_of_change (C:=Tryz.checked) (by kernel_rfl) started (by kernel_rfl) Tryz.func9
  (ChangeSpec.witness6 (enc:=enc) (C:=Tryz.checked) false ⟨#[],#[.agg #[.slice none 0 0, .slice none 0 0], .agg #[.int .i64 0, .int .i64 0, .slice none 0 0], .agg #[.int .i64 0, .int .i64 0, .slice none 0 0], .int .u8 0],[]⟩ 8 (by kernel_rfl) (by kernel_rfl) (by kernel_rfl) (by kernel_rfl)) ?_
 intro W base args ds gs before dP hW _ _
 refine wJ (T:=[24,22,103,9,3,28,26,25,5]) (tb:=4) (by kernel_rfl) (by kernel_rfl) rfl (fun ds h=>by match ds,h with|[_,_,_,_],_=>rfl) (by kernel_rfl) (by intro t ht;rw[Tryz.params9]at ht;simp at ht;rcases ht with rfl|rfl|rfl<;>simp) (by kernel_rfl) (by intro t ht;rw[Tryz.params9]at ht;simp at ht;rcases ht with rfl|rfl|rfl<;>exact⟨by kernel_rfl,of_decide_eq_true (by kernel_rfl)⟩)
  (fun xs hx=> ?_) base args ds gs before dP hW
 rw[Tryz.params9]at hx
 obtain⟨x0,xs,rfl,YT,hx⟩:=c0 hx
 obtain⟨x1,xs,rfl,Vj,hx⟩:=c0 hx
 obtain⟨x2,xs,rfl,Su,hx⟩:=c0 hx
 obtain⟨x3,xs,rfl,YU,hx⟩:=c0 hx
 have:=mU hx;subst this
 obtain⟨s0,rfl,qh⟩:=Rk YT
 obtain⟨t1,rfl,wL⟩:=Rl Vj
 obtain⟨t2,rfl,W2⟩:=Rl Su
 obtain⟨b3,rfl,YV⟩:=Vs YU
 exact tq s0 qh t1 t2 b3 wL W2 YV
theorem termVariants_holds:Rows.TermVariantsSaid:=
 OpenClaim.holds_of_wide 9 Tryz.f9 rfl rfl rfl rfl rfl rfl rfl ⟨rfl,rfl,rfl,rfl,rfl⟩ rfl rfl rfl rfl rfl (by kernel_rfl) Tryz.func9 (by kernel_rfl)
  (of_decide_eq_true (by kernel_rfl)) (by unfold Func.isWrapper;first|(rw[if_pos (by decide+kernel)];kernel_rfl)|(rw[if_neg (by decide+kernel)];exact⟨rfl,rfl⟩))
  (fun os started H enc _=>m7 os started H enc)
end Go.Proofs.YtealblliddhgiaaGreat
end
