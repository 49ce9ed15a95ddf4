/-
  A PART OF THE PROOF. Conditions: none.
-/
import Derived.Test.YtealblliddhgiaaGreatMt16
set_option linter.unusedSimpArgs false
set_option linter.unusedVariables false
namespace Go.Proofs.YtealblliddhgiaaGreat
theorem vA{t:Tm}{b:List (Int×Tm)}(hw:t.wf)(h8:t.op≠8)(h1:t.op=1->bL b t.n=none):Tm.mk t.op t.n (t.kids.map (GN b))=fi t.eB b t:=by
 have rv:=(Tm.j8 t).1 hw
 have hh:t.eB=Tm.eV t.kids+1:=by rw[Tm.j7];omega
 have hk:t.kids.map (GN b)=t.kids.map (fi (Tm.eV t.kids) b):=List.map_congr_left fun k hk=>iV _ _ k b (rv.2.2 k hk) (Nat.le_refl _) (Tm.sU hk)
 rw[hk,hh]
 simp only[fi]
 by_cases e:t.op=1
 ·rw[if_pos e,h1 e]
  have:=rv.1 e
  rw[this]
  have h2:=Tm.eta t
  rw[this]at h2
  exact h2
 ·rw[if_neg e,if_neg h8]
theorem GO{t x:Tm}{b:List (Int×Tm)}(h1:t.op=1)(hl:bL b t.n=some x):fi t.eB b t=x:=by
 have hh:t.eB=Tm.eV t.kids+1:=by rw[Tm.j7];omega
 rw[hh]
 simp only[fi]
 rw[if_pos h1,hl]
theorem GP{t:Tm}(hw:t.wf)(hz:t.sz<=1000)(ih:∀k∈t.kids,Jf k)(Sx:t.op=8->∀b,WM b->bC Tryz.prog 91 [Je b,t.d] (.ret [(fi t.eB b t).d])):Jf t:=by
 intro b hb
 refine bC.aV mix QM (by simp) ?_
 rw[QL]
 cases hl:bL b t.n with
 |some x=>
  simp+contextual (disch:=first|omega|simp only[go_sem,false_implies]) only[go_sem,wrap64,if_pos,CL,hl]
  refine ak (fun h1=> ?_) (fun h1=> ?_)
  ·have eI:t.op=1:=by simpa using h1
   rw[GO eI hl]
   simp+contextual (disch:=first|omega|simp only[go_sem,false_implies]) only[go_sem,wrap64,if_pos,and_self]
   refine aU (hb.cp _ (gU hl)) ?_
   simp+contextual (disch:=first|omega|simp only[go_sem,false_implies]) only[go_sem,wrap64,if_pos,and_self]
  ·have eI:t.op≠1:=by simpa using h1
   simp+contextual (disch:=first|omega|simp only[go_sem,false_implies]) only[go_sem,wrap64,if_pos,and_self]
   refine ak (fun h8=> ?_) (fun h8=> ?_)
   ·have Jg:t.op=8:=by simpa using h8
    simp+contextual (disch:=first|omega|simp only[go_sem,false_implies]) only[go_sem,wrap64,if_pos,and_self]
    refine aU (Sx Jg b hb) ?_
    simp+contextual (disch:=first|omega|simp only[go_sem,false_implies]) only[go_sem,wrap64,if_pos,and_self]
   ·have Jg:t.op≠8:=by simpa using h8
    simp+contextual (disch:=first|omega|simp only[go_sem,false_implies]) only[go_sem,wrap64,if_pos,and_self]
    rw[<- vA hw Jg (fun e=>absurd e eI)]
    refine CN (b:=b) (c:=32) (r:=26) (op':=t.op) (N:=t.n) hz ih hb (by repeat(first|exact hg.mono (by omega)|exact Good.nil|refine Good.ax ?_ (by omega) rfl|refine Good.ax ?_ (by omega) (cX _ _ _ (by omega))|refine Good.ax ?_ (by omega) (by simp[ab.refs,V.ah,V.refs]<;>omega))) (by decide) (by decide) (by(repeat(first|rfl|rw[aa]|rw[ae _ _ _ _ (by omega)]))) ?_ fun e' o' nx' e4 e7 g1 g2 g3 g4 g5=> ?_
    ·(repeat(first|exact ao|refine ai ?_|refine ag rfl ?_|refine ag (aR (aQ (by omega))) ?_|refine aD rfl (by simp[V.refs,V.ah]<;>first|omega|assumption) ?_))
    have q1:o' 1= .row [.d (.i 0), .d (.i 0), .br]:=by rw[g5 1 (by decide) (by decide)];(repeat(first|rfl|rw[aa]|rw[ae _ _ _ _ (by omega)]))
    simp+contextual (disch:=first|omega|simp only[go_sem,false_implies]) only[go_sem,wrap64,if_pos,e4,e7,g3,g4,q1]
    rw[Tm.DV]
 |none=>
  simp+contextual (disch:=first|omega|simp only[go_sem,false_implies]) only[go_sem,wrap64,if_pos,CL,hl]
  refine ak (fun h8=> ?_) (fun h8=> ?_)
  ·have Jg:t.op=8:=by simpa using h8
   simp+contextual (disch:=first|omega|simp only[go_sem,false_implies]) only[go_sem,wrap64,if_pos,and_self]
   refine aU (Sx Jg b hb) ?_
   simp+contextual (disch:=first|omega|simp only[go_sem,false_implies]) only[go_sem,wrap64,if_pos,and_self]
  ·have Jg:t.op≠8:=by simpa using h8
   simp+contextual (disch:=first|omega|simp only[go_sem,false_implies]) only[go_sem,wrap64,if_pos,and_self]
   rw[<- vA hw Jg (fun _=>hl)]
   refine CN (b:=b) (c:=32) (r:=26) (op':=t.op) (N:=t.n) hz ih hb (by repeat(first|exact hg.mono (by omega)|exact Good.nil|refine Good.ax ?_ (by omega) rfl|refine Good.ax ?_ (by omega) (cX _ _ _ (by omega))|refine Good.ax ?_ (by omega) (by simp[ab.refs,V.ah,V.refs]<;>omega))) (by decide) (by decide) (by(repeat(first|rfl|rw[aa]|rw[ae _ _ _ _ (by omega)]))) ?_ fun e' o' nx' e4 e7 g1 g2 g3 g4 g5=> ?_
   ·(repeat(first|exact ao|refine ai ?_|refine ag rfl ?_|refine ag (aR (aQ (by omega))) ?_|refine aD rfl (by simp[V.refs,V.ah]<;>first|omega|assumption) ?_))
   have q1:o' 1= .row [.d (.i 0), .d (.i 0), .br]:=by rw[g5 1 (by decide) (by decide)];(repeat(first|rfl|rw[aa]|rw[ae _ _ _ _ (by omega)]))
   simp+contextual (disch:=first|omega|simp only[go_sem,false_implies]) only[go_sem,wrap64,if_pos,e4,e7,g3,g4,q1]
   rw[Tm.DV]
end Go.Proofs.YtealblliddhgiaaGreat
namespace Go.Proofs.YtealblliddhgiaaGreat
theorem Em{K:V->List (Nat×ab)->Prop}{id:Nat}{m:List (Int×Tm)}(h0:m=[]->K (.bU [.d (.bool false)]) [])
 (h1:∀ (i:Nat) k x,m[i]? =some (k,x)->K (.bU [.d (.bool true), .d (.int .i64 k), .d x.d]) [(id, .nD (enc (D.int .i64) (xL (m.eraseIdx i))) (some (.int .i64 k,x.d)))]):Ca K id (enc (D.int .i64) (xL m)):=by
 refine D8 _ (fun h=>h0 ?_) fun i k x h=> ?_
 ·cases m with
  |nil=>rfl
  |cons x l=>simp[xL]at h
 ·unfold xL at h|-
  rw[List.getElem?_map]at h
  cases hm:m[i]? with
  |none=>rw[hm]at h;cases h
  |some p=>
   rw[hm]at h
   simp at h
   obtain⟨rfl,rfl⟩:=h
   have:=h1 i p.1 p.2 (by rw[hm])
   rw[lH]
   exact this
@[reducible] def dG (m:List (Int×Tm)):ab:= .map 3 28 (enc (D.int .i64) (xL m))
theorem pz{m:List (Int×Tm)}{v:Int}{x:Tm}(h:bL m v=none):D7 v x.d (xL m)=xL (m++[(v,x)]):=by
 unfold D7
 rw[dk h]
 simp[xL]
end Go.Proofs.YtealblliddhgiaaGreat
namespace Go.Proofs.YtealblliddhgiaaGreat
end Go.Proofs.YtealblliddhgiaaGreat
namespace Go.Proofs.YtealblliddhgiaaGreat
end Go.Proofs.YtealblliddhgiaaGreat
namespace Go.Proofs.YtealblliddhgiaaGreat
end Go.Proofs.YtealblliddhgiaaGreat
namespace Go.Proofs.YtealblliddhgiaaGreat
end Go.Proofs.YtealblliddhgiaaGreat
namespace Go.Proofs.YtealblliddhgiaaGreat
end Go.Proofs.YtealblliddhgiaaGreat
namespace Go.Proofs.YtealblliddhgiaaGreat
theorem im(s:aW):∀t:Tm,gI s t=true->t.wf:=by
 refine Tm.ej fun t ih h=> ?_
 rw[kI,Bool.and_eq_true,List.all_eq_true]at h
 rw[Tm.j8]
 refine⟨fun h1=>GL h.1 h1,fun h8=> ?_,fun k hk=>ih k hk (h.2 k hk)⟩
 have:=h.1
 simp[bA,h8]at this
 omega
theorem gV{s:aW}{t:Tm}(h:et s t=true):t.wf/\t.sz<=40/\t.eB<=12:=by
 simp only[et,Bool.and_eq_true,decide_eq_true_eq,pt]at h
 exact⟨im s t h.2,by omega,by omega⟩
def aq(l:List TB):List (Int×Tm):=l.map fun x=>(x.var,x.term)
end Go.Proofs.YtealblliddhgiaaGreat
namespace Go.Proofs.YtealblliddhgiaaGreat
theorem BA{s:aW}{op n:Int}{l l':List Tm}(h:l'.length=l.length):bA s (.mk op n l')=bA s (.mk op n l):=by
 unfold bA
 dsimp only[Tm.op,Tm.n,Tm.kids]
 rw[h]
 rfl
theorem En{s:aW}{k:Int}(h:0<=k/\k<20):bA s (.mk 1 k [])=true:=by
 have:e8 k 0 19=true:=by simp[e8];omega
 simp[bA,Tm.op,Tm.n,Tm.kids,this]
theorem GQ{s:aW}:∀t:Tm,gI s t=true->∀v,il v t=true->0<=v/\v<20:=by
 refine Tm.ej fun t ih h v hv=> ?_
 have hw:=(Tm.j8 t).1 (im s t h)
 rw[kI,Bool.and_eq_true,List.all_eq_true]at h
 by_cases h1:t.op=1
 ·rw[qi,if_pos h1]at hv
  have hv:t.n=v:=by simpa using hv
  have:=h.1
  simp[bA,h1,e8]at this
  omega
 ·by_cases h8:t.op=8
  ·obtain⟨a,body,hk⟩:=xg (hw.2.1 h8)
   rw[Nx h8 hk,Bool.or_eq_true,Bool.and_eq_true]at hv
   rcases hv with hv|hv
   ·exact ih a (by rw[hk];simp) (h.2 a (by rw[hk];simp)) v hv
   ·exact ih body (by rw[hk];simp) (h.2 body (by rw[hk];simp)) v hv.1
  ·rw[GM h1 h8,List.any_eq_true]at hv
   obtain⟨k,hk,hv⟩:=hv
   exact ih k hk (h.2 k hk) v hv
end Go.Proofs.YtealblliddhgiaaGreat
namespace Go.Proofs.YtealblliddhgiaaGreat
def findF(l:List TB)(n:Int):Int:=match l.findIdx? (·.var==n)with|some i=>i|none=> -1
theorem GR(l:List TB)(n:Int)(hl:l.length<=1000000):bC Tryz.prog 56 [.sl (l.map TB.d), .i n] (.ret [.i (findF l n)]):=by
 refine bC.aV mix QP (by simp) ?_
 rw[VK]
 simp+contextual (disch:=first|omega|simp only[go_sem,false_implies]) only[go_sem,wrap64,if_pos,and_self]
 refine aT (fun k:Nat=>⟨bq [.d (.sl (l.map TB.d)), .d (.i n), .af, .af, .af, .d (.i k)],fun _=> .no,0⟩)
  (fun k=>k<=l.length/\∀j x,j<k->l[j]? =some x->x.var≠n) (fun k=>l.length - k) 0 ⟨Nat.zero_le _,fun _ _ h=>absurd h (by omega)⟩ (bP.d0 _ ?_) (fun k hk=> ?_)
 ·(repeat(first|exact ao|refine ai ?_|refine ag rfl ?_|refine ag (aR (aQ (by omega))) ?_|refine aD rfl (by simp[V.refs,V.ah]<;>first|omega|assumption) ?_))
 simp+contextual (disch:=first|omega|simp only[go_sem,false_implies]) only[go_sem,wrap64,if_pos,List.length_map]
 refine ak (fun h2=> ?_) (fun h2=> ?_)
 ·simp at h2
  obtain⟨x,hx⟩:=aM h2
  simp+contextual (disch:=first|omega|simp only[go_sem,false_implies]) only[go_sem,wrap64,if_pos,List.length_map,hx]
  refine ak (fun h3=> ?_) (fun h3=> ?_)
  ·have re:x.var=n:=by simpa using h3
   have:findF l n=k:=by
    have:l.findIdx? (·.var==n)=some k:=by
     rw[List.findIdx?_eq_some_iff_getElem]
     obtain⟨TA,e⟩:=List.getElem?_eq_some_iff.1 hx
     refine⟨TA,by rw[e];simpa using re,fun j hj=> ?_⟩
     have:=hk.2 j _ hj (List.getElem?_eq_getElem (by omega))
     simpa using this
    rw[findF,this]
   rw[this]
   simp+contextual (disch:=first|omega|simp only[go_sem,false_implies]) only[go_sem,wrap64,if_pos,and_self]
  ·have re:x.var≠n:=by simpa using h3
   simp+contextual (disch:=first|omega|simp only[go_sem,false_implies]) only[go_sem,wrap64,if_pos,and_self]
   refine aA (k+1) ⟨h2,fun j y hj hy=> ?_⟩ (by omega) (bP.d0 _ ?_)
   ·by_cases e:j=k
    ·subst e;rw[hx]at hy;injection hy with hy;rw[<- hy];exact re
    ·exact hk.2 j y (by omega) hy
   ·(repeat(first|exact ao|refine ai ?_|refine ag rfl ?_|refine ag (aR (aQ (by omega))) ?_|refine aD rfl (by simp[V.refs,V.ah]<;>first|omega|assumption) ?_))
 ·simp at h2
  have:findF l n= -1:=by
   have:l.findIdx? (·.var==n)=none:=by
    rw[List.findIdx?_eq_none_iff]
    intro x hx
    obtain⟨j,hj,e⟩:=List.getElem_of_mem hx
    have:=hk.2 j x (by omega) (by rw[List.getElem?_eq_getElem hj,e])
    simpa using this
   rw[findF,this]
  rw[this]
  simp+contextual (disch:=first|omega|simp only[go_sem,false_implies]) only[go_sem,wrap64,if_pos,and_self]
theorem CO(l:List TB)(n:Int):(findF l n<0/\bL (aq l) n=none)\/∃ (k:Nat) (x:TB),findF l n=k/\l[k]? =some x/\bL (aq l) n=some x.term:=by
 induction l with
 |nil=>left;exact⟨by simp[findF],rfl⟩
 |cons y l ih=>
  by_cases h:y.var=n
  ·right
   refine⟨0,y, ?_,rfl, ?_⟩
   ·simp[findF,List.findIdx?_cons,h]
   ·simp[aq,bL,h]
  ·have hf:bL (aq (y::l)) n=bL (aq l) n:=by simp[aq,bL,h]
   have h':(y.var==n)=false:=by simpa using h
   rw[hf]
   unfold findF at ih|-
   rw[List.findIdx?_cons,h']
   simp only[Bool.false_eq_true,if_false]
   rcases ih with⟨h1,h2⟩|⟨k,x,h1,h2,h3⟩
   ·left
    refine⟨?_,h2⟩
    cases hi:l.findIdx? (·.var==n)with
    |none=>simp
    |some i=>rw[hi]at h1;simp at h1;omega
   ·right
    refine⟨k+1,x, ?_,h2,h3⟩
    cases hi:l.findIdx? (·.var==n)with
    |none=>rw[hi]at h1;simp at h1;try omega
    |some i=>rw[hi]at h1;simp at h1|-;try omega
end Go.Proofs.YtealblliddhgiaaGreat
namespace Go.Proofs.YtealblliddhgiaaGreat
def jB(g:List Int)(i:Int):Nat:=(g.filter fun x=>decide (x<i)).length
theorem mF{g:List Int}{i:Int}(h:∀x∈g,i<=x):jB g i=0:=by
 unfold jB
 rw[List.filter_eq_nil_iff.2 (fun x hx=>by have:=h x hx;simp;omega)];rfl
theorem Jh{g:List Int}{i:Int}(h:∀x∈g,x<i):jB g i=g.length:=by
 unfold jB
 rw[List.filter_eq_self.2 (fun x hx=>by simpa using h x hx)]
theorem zS:∀ {g:List Int},EK g->∀i:Int,if i∈g then g[jB g i]? =some i/\jB g (i+1)=jB g i+1 else jB g (i+1)=jB g i
 |[],_,i=>by simp[jB]
 |x::g,hg,i=>by
  have OI:=List.pairwise_cons.1 hg
  have ih:=zS OI.2 i
  have hc:∀j,jB (x::g) j=(if x<j then 1 else 0)+jB g j:=fun j=>by
   unfold jB
   rw[List.filter_cons]
   by_cases e:x<j
   ·simp[e];omega
   ·simp[e]
  rcases Int.lt_trichotomy x i with h|h|h
  ·have hm:(i∈x::g)↔i∈g:=by simp;omega
   simp only[hm,hc,if_pos h,if_pos (show x<i+1 by omega)]
   split
   ·rename_i e
    rw[if_pos e]at ih
    refine⟨?_,by omega⟩
    rw[show 1+jB g i=jB g i+1 by omega,List.getElem?_cons_succ]
    exact ih.1
   ·rename_i e
    rw[if_neg e]at ih
    omega
  ·subst h
   have z1:jB g x=0:=mF fun y hy=>by have:=OI.1 y hy;omega
   have z2:jB g (x+1)=0:=mF fun y hy=>by have:=OI.1 y hy;omega
   rw[if_pos (by simp),hc,hc,z1,z2,if_neg (by omega),if_pos (by omega)]
   exact⟨rfl,rfl⟩
  ·have hm: ¬i∈x::g:=by
    intro hm
    rcases List.mem_cons.1 hm with rfl|hm
    ·omega
    ·have:=OI.1 i hm;omega
   have z1:jB g i=0:=mF fun y hy=>by have:=OI.1 y hy;omega
   have z2:jB g (i+1)=0:=mF fun y hy=>by have:=OI.1 y hy;omega
   rw[if_neg hm,hc,hc,z1,z2,if_neg (by omega),if_neg (by omega)]
theorem rM{ns:List Int}(h:∀n∈ns,0<=n/\n<20)(hi:EK ns):ns.length<=20:=by
 have hc:∀k:Nat,jB ns (k:Int)<=k:=by
  intro k
  induction k with
  |zero=>show jB ns (0:Int)<=0;rw[mF (fun x hx=>(h x hx).1)];exact Nat.le_refl _
  |succ k ih=>
   have:=zS hi (k:Int)
   rw[Int.natCast_succ]
   split at this<;>omega
 have:jB ns (20:Int)<=20:=hc 20
 rwa [Jh (fun x hx=>(h x hx).2)]at this
end Go.Proofs.YtealblliddhgiaaGreat
namespace Go.Proofs.YtealblliddhgiaaGreat
mutual
def bf(b:List (Int×Tm)):Tm->Tm
 | .mk op n kids=>if op=1 then(match bL b n with|some x=>x|none=> .mk op n kids)else .mk op n (Ji b kids)
def Ji(b:List (Int×Tm)):List Tm->List Tm
 |[]=>[]
 |k::l=>bf b k::Ji b l
end
theorem zT(b:List (Int×Tm)):∀l:List Tm,Ji b l=l.map (bf b)
 |[]=>rfl
 |k::l=>by simp[Ji,zT b l]
theorem qj(b:List (Int×Tm))(t:Tm):bf b t=if t.op=1 then(match bL b t.n with|some x=>x|none=>t)else .mk t.op t.n (t.kids.map (bf b)):=by
 cases t;simp only[bf,zT,Tm.op,Tm.n,Tm.kids];rfl
def Lv(b:List (Int×Tm))(v:Int):Tm:=match bL b v with|some x=>x|none=> .mk 1 v []
def Yr(t:Tm):Prop:=(1<=t.op/\t.op<=3)\/t.op=5
def Vs(s:aW)(t:Tm):Prop:=gI s t=true/\gf t=true
theorem qk{s:aW}{t:Tm}:Vs s t↔bA s t=true/\Yr t/\∀k∈t.kids,Vs s k:=by
 unfold Vs Yr
 rw[kI,qd]
 simp only[Bool.and_eq_true,List.all_eq_true,Bool.or_eq_true,decide_eq_true_eq,beq_iff_eq]
 constructor
 ·rintro⟨⟨h1,h2⟩,h3,h4⟩;exact⟨h1,h4,fun k hk=>⟨h2 k hk,h3 k hk⟩⟩
 ·rintro⟨h1,h2,h3⟩;exact⟨⟨h1,fun k hk=>(h3 k hk).1⟩,fun k hk=>(h3 k hk).2,h2⟩
theorem Vs.lU {s:aW}{t k:Tm}(h:Vs s t)(hk:k∈t.kids):Vs s k:=(qk.1 h).2.2 k hk
theorem Vs.eta {s:aW}{t:Tm}(h:Vs s t)(h1:t.op=1):t= .mk 1 t.n []:=xh (im s t h.1) h1
theorem Vs.n8 {s:aW}{t:Tm}(h:Vs s t):t.op≠8:=by rcases(qk.1 h).2.1 with h|h<;>omega
theorem Vs.range {s:aW}{t:Tm}(h:Vs s t){v:Int}(hv:il v t=true):0<=v/\v<20:=GQ t h.1 v hv
theorem Vs.var {s:aW}{v:Int}(h:0<=v/\v<20):Vs s (.mk 1 v []):=qk.2 ⟨En h,Or.inl ⟨by show(1:Int)<=1;omega,by show(1:Int)<=3;omega⟩,fun k hk=>by cases hk⟩
theorem Vs.mk' {s:aW}{t:Tm}{l:List Tm}(h:Vs s t)(hl:l.length=t.kids.length)(hk:∀k∈l,Vs s k):Vs s (.mk t.op t.n l):=
 qk.2 ⟨by rw[BA hl,Tm.eta];exact(qk.1 h).1,(qk.1 h).2.1,hk⟩
theorem iI{t:Tm}(h1:t.op=1){v:Int}:il v t=true↔t.n=v:=by rw[qi,if_pos h1];simp
theorem qV{s:aW}{t:Tm}(h:Vs s t)(h1:t.op≠1){v:Int}:il v t=true↔∃k∈t.kids,il v k=true:=by rw[GM h1 h.n8,List.any_eq_true]
theorem kP{b:List (Int×Tm)}{s:aW}{t:Tm}(h:Vs s t)(h1:t.op=1):bf b t=Lv b t.n:=by
 rw[qj,if_pos h1,Lv]
 cases bL b t.n with
 |some x=>rfl
 |none=>exact h.eta h1
theorem mG{b:List (Int×Tm)}{v:Int}:bf b (.mk 1 v [])=Lv b v:=by rw[qj];rfl
theorem mH{b:List (Int×Tm)}{t:Tm}(h1:t.op≠1):bf b t= .mk t.op t.n (t.kids.map (bf b)):=by rw[qj,if_neg h1]
theorem GS{s:aW}{b c:List (Int×Tm)}:∀t:Tm,Vs s t->(∀v,il v t=true->Lv b v=Lv c v)->bf b t=bf c t:=by
 refine Tm.ej fun t ih hv h=> ?_
 by_cases h1:t.op=1
 ·rw[kP hv h1,kP hv h1,h _ ((iI h1).2 rfl)]
 ·rw[mH h1,mH h1,List.map_congr_left fun k hk=>ih k hk (hv.lU hk) fun v zU=>h v ((qV hv h1).2 ⟨k,hk,zU⟩)]
theorem CP{s:aW}{b c d:List (Int×Tm)}:∀t:Tm,Vs s t->(∀v,il v t=true->bf c (Lv b v)=Lv d v)->bf c (bf b t)=bf d t:=by
 refine Tm.ej fun t ih hv h=> ?_
 by_cases h1:t.op=1
 ·rw[kP hv h1,kP hv h1,h _ ((iI h1).2 rfl)]
 ·rw[mH h1,mH h1 (b:=d),mH (by exact h1)]
  show Tm.mk t.op t.n ((t.kids.map (bf b)).map (bf c))=_
  rw[List.map_map,List.map_congr_left (f:=bf c∘bf b) (g:=bf d) fun k hk=>ih k hk (hv.lU hk) fun v zU=>h v ((qV hv h1).2 ⟨k,hk,zU⟩)]
theorem GU{s:aW}{b:List (Int×Tm)}:∀t:Tm,Vs s t->(∀v,il v t=true->bL b v=none)->bf b t=t:=by
 refine Tm.ej fun t ih hv h=> ?_
 by_cases h1:t.op=1
 ·rw[kP hv h1,Lv,h _ ((iI h1).2 rfl)]
  exact(hv.eta h1).symm
 ·rw[mH h1,List.map_congr_left (g:=id) fun k hk=>ih k hk (hv.lU hk) fun v zU=>h v ((qV hv h1).2 ⟨k,hk,zU⟩),List.map_id]
  exact Tm.eta t
theorem Vs.Lv {s:aW}{b:List (Int×Tm)}(hb:∀p∈b,Vs s p.2){v:Int}(h:0<=v/\v<20):Vs s (Lv b v):=by
 unfold YtealblliddhgiaaGreat.Lv
 cases hl:bL b v with
 |some x=>exact hb _ (gU hl)
 |none=>exact Vs.var h
theorem Vs.sub {s:aW}{b:List (Int×Tm)}(hb:∀p∈b,Vs s p.2):∀t:Tm,Vs s t->Vs s (bf b t):=by
 refine Tm.ej fun t ih hv=> ?_
 by_cases h1:t.op=1
 ·rw[kP hv h1];exact Vs.Lv hb (hv.range ((iI h1).2 rfl))
 ·rw[mH h1]
  refine hv.mk' (by simp) fun k hk=> ?_
  obtain⟨x,hx,rfl⟩:=List.mem_map.1 hk
  exact ih x hx (hv.lU hx)
theorem CQ{s:aW}{b:List (Int×Tm)}(hb:∀p∈b,Vs s p.2):∀t:Tm,Vs s t->∀v,il v (bf b t)=true↔∃u,il u t=true/\il v (Lv b u)=true:=by
 refine Tm.ej fun t ih hv v=> ?_
 by_cases h1:t.op=1
 ·rw[kP hv h1]
  simp only[iI h1]
  exact⟨fun h=>⟨_,rfl,h⟩,fun⟨u,e,h⟩=>e ▸ h⟩
 ·have EG:=Vs.sub hb t hv
  rw[mH h1]at EG|-
  rw[qV EG (by exact h1)]
  simp only[qV hv h1,Tm.kids,List.mem_map]
  constructor
  ·rintro⟨_,⟨k,hk,rfl⟩,h⟩
   obtain⟨u,h2,h3⟩:=(ih k hk (hv.lU hk) v).1 h
   exact⟨u,⟨k,hk,h2⟩,h3⟩
  ·rintro⟨u,⟨k,hk,h2⟩,h3⟩
   exact⟨_,⟨k,hk,rfl⟩,(ih k hk (hv.lU hk) v).2 ⟨u,h2,h3⟩⟩
theorem Sy{b:List (Int×Tm)}{t:Tm}(h1:t.op≠1):(bf b t).op=t.op/\(bf b t).n=t.n/\(bf b t).kids=t.kids.map (bf b):=by rw[mH h1];exact⟨rfl,rfl,rfl⟩
end Go.Proofs.YtealblliddhgiaaGreat
namespace Go.Proofs.YtealblliddhgiaaGreat
def jC:List TB->Int->Tm->List TB
 |[],n,t=>[⟨n,t⟩]
 |x::l,n,t=>if x.var<n then x::jC l n t else⟨n,t⟩::x::l
abbrev ql(n:Int)(t:Tm):List (Int×Tm):=[(n,t)]
def iJ(l:List TB)(n:Int)(t:Tm):List TB:=jC (l.map fun x=>⟨x.var,bf (ql n t) x.term⟩) n t
def dg(F:Tm->Tm->List TB->Option (List TB×Bool)):List Tm->List Tm->List TB->Option (List TB×Bool)
 |k::ks,k'::cW,l=>match F k k' l with
  |some (l1,true)=>dg F ks cW l1
  |some (l1,false)=>some (l1,false)
  |none=>none
 |_,_,l=>some (l,true)
def gv:Nat->Tm->Tm->List TB->Option (List TB×Bool)
 |0,_,_,_=>none
 |f+1,a,c,l=>
  if hY (bf (aq l) a) (bf (aq l) c)=true then some (l,true)
  else if(bf (aq l) a).op=1/\(bf (aq l) c).op=1 then some (iJ l (max (bf (aq l) a).n (bf (aq l) c).n) (.mk 1 (min (bf (aq l) a).n (bf (aq l) c).n) []),true)
  else if(bf (aq l) a).op=1 then some (iJ l (bf (aq l) a).n (bf (aq l) c), !(dF (bf (aq l) c)).contains (bf (aq l) a).n)
  else if(bf (aq l) c).op=1 then some (iJ l (bf (aq l) c).n (bf (aq l) a), !(dF (bf (aq l) a)).contains (bf (aq l) c).n)
  else if(bf (aq l) a).op≠(bf (aq l) c).op\/(bf (aq l) a).n≠(bf (aq l) c).n\/(bf (aq l) a).kids.length≠(bf (aq l) c).kids.length then some ([],false)
  else dg (gv f) (bf (aq l) a).kids (bf (aq l) c).kids l
theorem GV{l:List TB}{n:Int}{t:Tm}(hn:bL (aq l) n=none)(v:Int):bL (aq (jC l n t)) v=if v=n then some t else bL (aq l) v:=by
 induction l with
 |nil=>
  simp only[jC,aq,List.map_cons,List.map_nil,bL]
  by_cases e:v=n
  ·simp[e]
  ·rw[if_neg e,if_neg fun h=>e h.symm]
 |cons x l ih=>
  simp only[aq,List.map_cons,bL]at hn
  by_cases e1:x.var=n
  ·rw[if_pos e1]at hn;cases hn
  ·rw[if_neg e1]at hn
   have ih:=ih hn
   simp only[jC]
   split
   ·simp only[aq,List.map_cons,bL]at ih|-
    by_cases e:x.var=v
    ·rw[if_pos e,if_pos e,if_neg fun h=>e1 (e.trans h)]
    ·rw[if_neg e,if_neg e];exact ih
   ·simp only[aq,List.map_cons,bL]
    by_cases e:v=n
    ·simp[e]
    ·rw[if_neg e,if_neg fun h=>e h.symm]
theorem GW(l:List TB)(g:Tm->Tm)(v:Int):bL (aq (l.map fun x=>⟨x.var,g x.term⟩)) v=(bL (aq l) v).map g:=by
 induction l with
 |nil=>rfl
 |cons x l ih=>
  simp only[aq,List.map_cons,bL]at ih|-
  split
  ·rfl
  ·exact ih
theorem xj{l:List TB}{n:Int}{t:Tm}(hn:bL (aq l) n=none)(v:Int):bL (aq (iJ l n t)) v=if v=n then some t else(bL (aq l) v).map (bf (ql n t)):=by
 unfold iJ
 rw[GV (by rw[GW,hn];rfl),GW]
theorem xk{n v:Int}{t:Tm}:Lv (ql n t) v=if v=n then t else .mk 1 v []:=by
 simp only[Lv,ql,bL]
 by_cases e:v=n
 ·simp[e]
 ·rw[if_neg e,if_neg fun h=>e h.symm]
theorem pA{l:List TB}{n:Int}{t:Tm}(hn:bL (aq l) n=none)(v:Int):Lv (aq (iJ l n t)) v=if v=n then t else bf (ql n t) (Lv (aq l) v):=by
 simp only[Lv,xj hn]
 by_cases e:v=n
 ·simp[e]
 ·simp only[if_neg e]
  cases h:bL (aq l) v with
  |some x=>rfl
  |none=>simp only[Option.map_none];rw[mG,xk,if_neg e]
structure kQ (s:aW) (l:List TB):Prop where
 Jj:l.Pairwise fun x y=>x.var<y.var
 ok:∀x∈l,(0<=x.var/\x.var<20)/\Vs s x.term
 idem:∀x∈l,∀u,il u x.term=true->bL (aq l) u=none
theorem kQ.nil {s:aW}:kQ s []:=⟨List.Pairwise.nil,fun _ h=>(by cases h),fun _ h=>(by cases h)⟩
theorem kQ.bd {s:aW}{l:List TB}(h:kQ s l):∀p∈aq l,Vs s p.2:=fun p hp=>by
 obtain⟨x,hx,rfl⟩:=List.mem_map.1 hp
 exact(h.ok x hx).2
theorem gP{l:List TB}{v:Int}{t:Tm}(h:bL (aq l) v=some t):∃x∈l,x.var=v/\x.term=t:=by
 obtain⟨x,hx,e⟩:=List.mem_map.1 (gU h)
 injection e with e1 e2
 exact⟨x,hx,e1,e2⟩
theorem kQ.Jk {s:aW}{l:List TB}(h:kQ s l){v u:Int}(hu:il u (Lv (aq l) v)=true):bL (aq l) u=none:=by
 unfold Lv at hu
 cases hl:bL (aq l) v with
 |some x=>
  rw[hl]at hu
  obtain⟨y,hy,e1,e2⟩:=gP hl
  exact h.idem y hy u (e2 ▸ hu)
 |none=>
  rw[hl]at hu
  have:v=u:=by rw[n9]at hu;simpa using hu
  exact this ▸ hl
theorem kQ.free {s:aW}{l:List TB}(h:kQ s l){t:Tm}(ht:Vs s t){u:Int}(hu:il u (bf (aq l) t)=true):bL (aq l) u=none:=by
 obtain⟨w,_,h2⟩:=(CQ h.bd t ht u).1 hu
 exact h.Jk h2
def ni(l l':List TB):Prop:=∀v,bf (aq l') (Lv (aq l) v)=Lv (aq l') v
theorem ni.sub {s:aW}{l l':List TB}(h:ni l l'){t:Tm}(ht:Vs s t):bf (aq l') (bf (aq l) t)=bf (aq l') t:=CP t ht fun v _=>h v
theorem ni.refl {s:aW}{l:List TB}(h:kQ s l):ni l l:=fun v=>by
 cases hl:bL (aq l) v with
 |none=>rw[show Lv (aq l) v= .mk 1 v [] by simp[Lv,hl],mG];simp[Lv,hl]
 |some x=>
  have hx:Lv (aq l) v=x:=by simp[Lv,hl]
  obtain⟨y,hy,e1,e2⟩:=gP hl
  rw[hx]
  exact GU (s:=s) x (e2 ▸ (h.ok y hy).2) fun u hu=>h.idem y hy u (e2 ▸ hu)
theorem ni.trans {s:aW}{l l' Ys:List TB}(hl:kQ s l)(h:ni l l')(h':ni l' Ys)(hr:∀v,bL (aq l) v≠none->0<=v/\v<20):ni l Ys:=fun v=>by
 cases hv:bL (aq l) v with
 |none=>rw[show Lv (aq l) v= .mk 1 v [] by simp[Lv,hv],mG]
 |some x=>
  have hx:Lv (aq l) v=x:=by simp[Lv,hv]
  obtain⟨y,hy,e1,e2⟩:=gP hv
  have EG:Vs s x:=e2 ▸ (hl.ok y hy).2
  rw[hx, <- h'.sub EG, <- hx,h v,h' v]
theorem kQ.CS {s:aW}{l:List TB}(h:kQ s l){v:Int}(hv:bL (aq l) v≠none):0<=v/\v<20:=by
 cases hl:bL (aq l) v with
 |none=>exact absurd hl hv
 |some x=>obtain⟨y,hy,e1,e2⟩:=gP hl;exact e1 ▸ (h.ok y hy).1
theorem m6{l:List TB}{n:Int}{t:Tm}{x:TB}:x∈jC l n t↔x=⟨n,t⟩\/x∈l:=by
 induction l with
 |nil=>simp[jC]
 |cons y l ih=>
  simp only[jC]
  split
  ·simp only[List.mem_cons,ih]
   constructor
   ·rintro(h|h|h)
    ·exact Or.inr (Or.inl h)
    ·exact Or.inl h
    ·exact Or.inr (Or.inr h)
   ·rintro(h|h|h)
    ·exact Or.inr (Or.inl h)
    ·exact Or.inl h
    ·exact Or.inr (Or.inr h)
  ·simp only[List.mem_cons]
theorem CT{l:List TB}{n:Int}{t:Tm}(h:l.Pairwise fun x y=>x.var<y.var)(hn:∀x∈l,x.var≠n):(jC l n t).Pairwise fun x y=>x.var<y.var:=by
 induction l with
 |nil=>simp[jC]
 |cons y l ih=>
  rw[List.pairwise_cons]at h
  simp only[jC]
  split
  ·rename_i hy
   rw[List.pairwise_cons]
   refine⟨fun z hz=> ?_,ih h.2 fun x hx=>hn x (by simp[hx])⟩
   rcases m6.1 hz with rfl|hz
   ·exact hy
   ·exact h.1 z hz
  ·rename_i hy
   have:=hn y (by simp)
   rw[List.pairwise_cons,List.pairwise_cons]
   refine⟨fun z hz=> ?_,h⟩
   rcases List.mem_cons.1 hz with rfl|hz
   ·show n<z.var;omega
   ·have:=h.1 z hz;show n<z.var;omega
theorem nB{l:List TB}{n:Int}(h:bL (aq l) n=none):∀x∈l,x.var≠n:=fun x hx e=>by
 rw[kN]at h
 exact h (List.mem_map.2 ⟨(x.var,x.term),List.mem_map.2 ⟨x,hx,rfl⟩,e⟩)
theorem tJ{s:aW}{l:List TB}(h:kQ s l){n:Int}{t:Tm}(hr:0<=n/\n<20)(hn:bL (aq l) n=none)(ht:Vs s t)(hf:∀u,il u t=true->bL (aq l) u=none)(Te: ¬il n t=true):kQ s (iJ l n t):=by
 have h1:∀p∈ql n t,Vs s p.2:=fun p hp=>by simp[ql]at hp;subst hp;exact ht
 have GX:∀u,u≠n->bL (aq l) u=none->bL (aq (iJ l n t)) u=none:=fun u e hu=>by rw[xj hn,if_neg e,hu];rfl
 refine⟨?_,fun x hx=> ?_,fun x hx u hu=> ?_⟩
 ·refine CT ?_ ?_
  ·rw[List.pairwise_map];exact h.Jj
  ·intro x hx
   obtain⟨y,hy,rfl⟩:=List.mem_map.1 hx
   exact nB hn y hy
 ·rcases m6.1 hx with rfl|hx
  ·exact⟨hr,ht⟩
  ·obtain⟨y,hy,rfl⟩:=List.mem_map.1 hx
   exact⟨(h.ok y hy).1,Vs.sub h1 _ (h.ok y hy).2⟩
 ·rcases m6.1 hx with rfl|hx
  ·exact GX u (fun e=>Te (e ▸ hu)) (hf u hu)
  ·obtain⟨y,hy,rfl⟩:=List.mem_map.1 hx
   obtain⟨w,hw,JA⟩:=(CQ h1 _ (h.ok y hy).2 u).1 hu
   rw[xk]at JA
   split at JA
   ·exact GX u (fun e=>Te (e ▸ JA)) (hf u JA)
   ·rename_i e
    have:w=u:=by rw[n9]at JA;simpa using JA
    subst this
    exact GX w e (h.idem y hy w hw)
theorem tK{s:aW}{l:List TB}(h:kQ s l){n:Int}{t:Tm}(hn:bL (aq l) n=none):ni l (iJ l n t):=fun v=>by
 cases hl:bL (aq l) v with
 |none=>rw[show Lv (aq l) v= .mk 1 v [] by simp[Lv,hl],mG]
 |some x=>
  have hx:Lv (aq l) v=x:=by simp[Lv,hl]
  obtain⟨y,hy,e1,e2⟩:=gP hl
  have WN:v≠n:=fun e=>by rw[e,hn]at hl;cases hl
  rw[pA hn,if_neg WN,hx]
  refine GS (s:=s) x (e2 ▸ (h.ok y hy).2) fun u hu=> ?_
  have ZU:bL (aq l) u=none:=h.idem y hy u (e2 ▸ hu)
  rw[pA hn,show Lv (aq l) u= .mk 1 u [] by simp[Lv,ZU],mG,xk]
  split<;>rfl
theorem kQ.Jl {s:aW}{l:List TB}(h:kQ s l){t:Tm}(ht:Vs s t)(h1:(bf (aq l) t).op=1):(0<=(bf (aq l) t).n/\(bf (aq l) t).n<20)/\bL (aq l) (bf (aq l) t).n=none/\bf (aq l) t= .mk 1 (bf (aq l) t).n []:=by
 have hv:=Vs.sub h.bd t ht
 have hf:il (bf (aq l) t).n (bf (aq l) t)=true:=(iI h1).2 rfl
 exact⟨hv.range hf,h.free ht hf,hv.eta h1⟩
theorem od{s:aW}:∀ (f:Nat) (a c:Tm) (l l':List TB),gv f a c l=some (l',true)->kQ s l->Vs s a->Vs s c->kQ s l'/\ni l l'
 |0,_,_,_,_,h,_,_,_=>by cases h
 |f+1,a,c,l,l',h,hl,ha,hc=>by
  have va:=Vs.sub hl.bd a ha
  have vc:=Vs.sub hl.bd c hc
  have fa:=fun u=>hl.free ha (u:=u)
  have fc:=fun u=>hl.free hc (u:=u)
  have na:=hl.Jl ha
  have nc:=hl.Jl hc
  simp only[gv]at h
  generalize bf (aq l) a=a0 at*
  generalize bf (aq l) c=c0 at*
  split at h
  ·injection h with h;injection h with h;subst h;exact⟨hl,ni.refl hl⟩
  ·rename_i hs
   split at h
   ·rename_i h1
    injection h with h;injection h with h;subst h
    obtain⟨r1,u1,e1⟩:=na h1.1
    obtain⟨r2,u2,e2⟩:=nc h1.2
    have gX:a0.n≠c0.n:=fun e=>hs (by rw[qg,e1,e2,e])
    have BQ:bL (aq l) (max a0.n c0.n)=none:=by rcases Int.le_total a0.n c0.n with h|h<;>simp[Int.max_def]<;>split<;>assumption
    have ZV:bL (aq l) (min a0.n c0.n)=none:=by rcases Int.le_total a0.n c0.n with h|h<;>simp[Int.min_def]<;>split<;>assumption
    refine⟨tJ hl (by omega) BQ (Vs.var (by omega)) (fun u hu=> ?_) (fun hu=> ?_),tK hl BQ⟩
    ·have:min a0.n c0.n=u:=by rw[n9]at hu;simpa using hu
     exact this ▸ ZV
    ·have:min a0.n c0.n=max a0.n c0.n:=by rw[n9]at hu;simpa using hu
     omega
   ·split at h
    ·rename_i h1 h2
     injection h with h;injection h with h h3;subst h
     obtain⟨r1,u1,e1⟩:=na h2
     have kT: ¬il a0.n c0=true:=fun hh=>by
      have:(dF c0).contains a0.n=true:=List.contains_iff_mem.2 (((gO c0).2 _).2 hh)
      rw[this]at h3;cases h3
     exact⟨tJ hl r1 u1 vc (fun u hu=>fc u hu) kT,tK hl u1⟩
    ·split at h
     ·rename_i h1 h2 re
      injection h with h;injection h with h h3;subst h
      obtain⟨r2,u2,e2⟩:=nc re
      have kT: ¬il c0.n a0=true:=fun hh=>by
       have:(dF a0).contains c0.n=true:=List.contains_iff_mem.2 (((gO a0).2 _).2 hh)
       rw[this]at h3;cases h3
      exact⟨tJ hl r2 u2 va (fun u hu=>fa u hu) kT,tK hl u2⟩
     ·split at h
      ·injection h with h;injection h with _ h;cases h
      ·have key:∀ (ks cW:List Tm) (l:List TB),(∀k∈ks,Vs s k)->(∀k∈cW,Vs s k)->kQ s l->dg (gv f) ks cW l=some (l',true)->kQ s l'/\ni l l':=by
        intro ks
        induction ks with
        |nil=>intro cW l _ _ hl h;simp only[dg]at h;injection h with h;injection h with h;subst h;exact⟨hl,ni.refl hl⟩
        |cons k ks qW=>
         intro cW l h1 h2 hl h
         cases cW with
         |nil=>simp only[dg]at h;injection h with h;injection h with h;subst h;exact⟨hl,ni.refl hl⟩
         |cons k' cW=>
          simp only[dg]at h
          split at h
          ·rename_i l1 e
           obtain⟨g1,g2⟩:=od f k k' l l1 e hl (h1 k (by simp)) (h2 k' (by simp))
           obtain⟨g3,g4⟩:=qW cW l1 (fun x hx=>h1 x (by simp[hx])) (fun x hx=>h2 x (by simp[hx])) g1 h
           exact⟨g3,g2.trans hl g4 (fun v=>hl.CS)⟩
          ·injection h with h;injection h with _ h;cases h
          ·cases h
       exact key _ _ _ (fun k hk=>va.lU hk) (fun k hk=>vc.lU hk) hl h
end Go.Proofs.YtealblliddhgiaaGreat
namespace Go.Proofs.YtealblliddhgiaaGreat
def ka:Nat->List (Int×Tm)->Tm->Option Tm
 |0,_,_=>none
 |f+1,b,t=>if t.op=1 then(match bL b t.n with|some x=>ka f b x|none=>some t)else some t
def Eo(F:Tm->List Int->Option (Bool×List Int)):List Tm->List Int->Option (Bool×List Int)
 |[],met=>some (false,met)
 |k::ks,met=>if k.op=1/\k.n∈met then Eo F ks met else
  match F k (if k.op=1 then zQ met k.n else met)with
  |some (true,m)=>some (true,m)
  |some (false,m)=>Eo F ks m
  |none=>none
def Ah:Nat->List (Int×Tm)->Int->Tm->List Int->Option (Bool×List Int)
 |0,_,_,_,_=>none
 |f+1,b,n,t,met=>match ka f b t with
  |some x=>if x.op=1 then some (x.n==n,met)else Eo (Ah f b n) x.kids met
  |none=>none
def xl(F:Tm->Tm->List (Int×Tm)->Option (List (Int×Tm)×Bool)):List Tm->List Tm->List (Int×Tm)->Option (List (Int×Tm)×Bool)
 |k::ks,k'::cW,b=>match F k k' b with
  |some (b1,true)=>xl F ks cW b1
  |some (b1,false)=>some (b1,false)
  |none=>none
 |_,_,b=>some (b,true)
def pB:Nat->Tm->Tm->List (Int×Tm)->Option (List (Int×Tm)×Bool)
 |0,_,_,_=>none
 |f+1,t,u,b=>match ka f b t,ka f b u with
  |some x,some y=>
   if x.op=1 then
    if y.op=1 then(if x.n=y.n then some (b,true)else some (b++[(max x.n y.n, .mk 1 (min x.n y.n) [])],true))
    else match Ah f b x.n y []with
     |some (true,_)=>some (b,false)
     |some (false,_)=>some (b++[(x.n,y)],true)
     |none=>none
   else if y.op=1 then pB f y x b
   else if x.op=y.op/\x.n=y.n/\x.kids.length=y.kids.length then xl (pB f) x.kids y.kids b
   else some (b,false)
  |_,_=>none
theorem cQ{b:List (Int×Tm)}:∀ {f g:Nat} {t x:Tm},ka f b t=some x->f<=g->ka g b t=some x
 |0,_,_,_,h,_=>by cases h
 |f+1,0,_,_,_,h=>by omega
 |f+1,g+1,t,x,h,hg=>by
  simp only[ka]at h|-
  split
  ·rename_i h1
   rw[if_pos h1]at h
   cases hl:bL b t.n with
   |none=>rw[hl]at h;exact h
   |some y=>rw[hl]at h;exact cQ (f:=f) h (by omega)
  ·rename_i h1
   rw[if_neg h1]at h
   exact h
theorem mI{F G:Tm->List Int->Option (Bool×List Int)}(zV:∀k m r,F k m=some r->G k m=some r):∀ {ks:List Tm} {met:List Int} {r:Bool×List Int},Eo F ks met=some r->Eo G ks met=some r
 |[],_,_,h=>h
 |k::ks,met,r,h=>by
  simp only[Eo]at h|-
  split
  ·rename_i h1;rw[if_pos h1]at h;exact mI zV h
  ·rename_i h1
   rw[if_neg h1]at h
   split at h
   ·rename_i m e;rw[zV _ _ _ e];exact h
   ·rename_i m e;rw[zV _ _ _ e];exact mI zV h
   ·cases h
theorem jw{b:List (Int×Tm)}{n:Int}:∀ {f g:Nat} {t:Tm} {met:List Int} {r:Bool×List Int},Ah f b n t met=some r->f<=g->Ah g b n t met=some r
 |0,_,_,_,_,h,_=>by cases h
 |f+1,0,_,_,_,_,h=>by omega
 |f+1,g+1,t,met,r,h,hg=>by
  simp only[Ah]at h|-
  split at h
  ·rename_i x e
   rw[cQ e (by omega:f<=g)]
   simp only
   split
   ·rename_i h1;rw[if_pos h1]at h;exact h
   ·rename_i h1;rw[if_neg h1]at h;exact mI (fun k m r hk=>jw hk (by omega)) h
  ·cases h
theorem kR{F G:Tm->Tm->List (Int×Tm)->Option (List (Int×Tm)×Bool)}(zV:∀k k' b r,F k k' b=some r->G k k' b=some r):∀ {ks cW:List Tm} {b:List (Int×Tm)} {r:List (Int×Tm)×Bool},xl F ks cW b=some r->xl G ks cW b=some r
 |[],_,_,_,h=>by simp only[xl]at h|-;exact h
 |_::_,[],_,_,h=>by simp only[xl]at h|-;exact h
 |k::ks,k'::cW,b,r,h=>by
  simp only[xl]at h|-
  split at h
  ·rename_i b1 e;rw[zV _ _ _ _ e];exact kR zV h
  ·rename_i b1 e;rw[zV _ _ _ _ e];exact h
  ·cases h
theorem gq:∀ {f g:Nat} {t u:Tm} {b:List (Int×Tm)} {r:List (Int×Tm)×Bool},pB f t u b=some r->f<=g->pB g t u b=some r
 |0,_,_,_,_,_,h,_=>by cases h
 |f+1,0,_,_,_,_,_,h=>by omega
 |f+1,g+1,t,u,b,r,h,hg=>by
  simp only[pB]at h|-
  split at h
  ·rename_i x y e1 e2
   rw[cQ e1 (by omega:f<=g),cQ e2 (by omega:f<=g)]
   simp only
   split
   ·rename_i h1
    rw[if_pos h1]at h
    split
    ·rename_i h2;rw[if_pos h2]at h;exact h
    ·rename_i h2
     rw[if_neg h2]at h
     split at h
     ·rename_i m e;rw[jw e (by omega:f<=g)];exact h
     ·rename_i m e;rw[jw e (by omega:f<=g)];exact h
     ·cases h
   ·rename_i h1
    rw[if_neg h1]at h
    split
    ·rename_i h2;rw[if_pos h2]at h;exact gq h (by omega)
    ·rename_i h2
     rw[if_neg h2]at h
     split
     ·rename_i h3;rw[if_pos h3]at h;exact kR (fun k k' b r hk=>gq hk (by omega)) h
     ·rename_i h3;rw[if_neg h3]at h;exact h
  ·cases h
structure ur (s:aW) (b:List (Int×Tm)) (l:List TB) (ρ:Int->Nat) (R:Nat):Prop where
 keys:(b.map (·.1)).Nodup
 CS:∀v,bL b v=none↔bL (aq l) v=none
 ok:∀v x,bL b v=some x->Vs s x/\Lv (aq l) v=bf (aq l) x/\∀u,il u x=true->ρ u<ρ v
 bd:∀v,ρ v<=R
theorem ur.nil {s:aW}:ur s [] [] (fun _=>0) 0:=⟨List.nodup_nil,fun _=>Iff.rfl,fun _ _ h=>(by cases h),fun _=>Nat.le_refl _⟩
theorem ur.at {s:aW}{b:List (Int×Tm)}{l:List TB}{ρ:Int->Nat}{R:Nat}(h:ur s b l ρ R):∀ (m:Nat) (t:Tm),Vs s t->(t.op=1->ρ t.n<=m)->∃x,ka (m+2) b t=some x/\Vs s x/\bf (aq l) x=bf (aq l) t/\(x.op=1->bL b x.n=none)/\(t.op≠1->x=t)/\(t.op=1->(∀u,il u x=true->ρ u<=ρ t.n)/\(x.op≠1->∀u,il u x=true->ρ u<ρ t.n)):=by
 intro m
 induction m with
 |zero=>
  intro t hv hm
  by_cases h1:t.op=1
  ·cases hl:bL b t.n with
   |none=>
    refine⟨t,by simp only[ka,if_pos h1,hl],hv,rfl,fun _=>hl,fun h=>absurd h1 h,fun _=>⟨fun u hu=> ?_,fun h=>absurd h1 h⟩⟩
    rw[(iI h1).1 hu];exact Nat.le_refl _
   |some x=>
    obtain⟨g1,g2,g3⟩:=h.ok _ _ hl
    by_cases hx:x.op=1
    ·have:=g3 x.n ((iI hx).2 rfl)
     have:=hm h1
     omega
    ·refine⟨x,by simp only[ka,if_pos h1,hl,if_neg hx],g1,by rw[<- g2,kP hv h1],fun h=>absurd h hx,fun h=>absurd h1 h,fun _=>⟨fun u hu=>Nat.le_of_lt (g3 u hu),fun _=>g3⟩⟩
  ·exact⟨t,by simp only[ka,if_neg h1],hv,rfl,fun h=>absurd h h1,fun _=>rfl,fun h=>absurd h h1⟩
 |succ m ih=>
  intro t hv hm
  by_cases h1:t.op=1
  ·cases hl:bL b t.n with
   |none=>
    refine⟨t,by simp only[ka,if_pos h1,hl],hv,rfl,fun _=>hl,fun h=>absurd h1 h,fun _=>⟨fun u hu=> ?_,fun h=>absurd h1 h⟩⟩
    rw[(iI h1).1 hu];exact Nat.le_refl _
   |some x=>
    obtain⟨g1,g2,g3⟩:=h.ok _ _ hl
    obtain⟨y,i1,i2,i3,i4,i5,i6⟩:=ih x g1 (fun hx=>by have:=g3 x.n ((iI hx).2 rfl);have:=hm h1;omega)
    refine⟨y,by rw[ka,if_pos h1,hl];exact i1,i2,by rw[i3, <- g2,kP hv h1],i4,fun h=>absurd h1 h,fun _=> ?_⟩
    by_cases hx:x.op=1
    ·have g4:=g3 x.n ((iI hx).2 rfl)
     exact⟨fun u hu=>by have:=(i6 hx).1 u hu;omega,fun h2 u hu=>by have:=(i6 hx).2 h2 u hu;omega⟩
    ·rw[i5 hx]
     exact⟨fun u hu=>Nat.le_of_lt (g3 u hu),fun _=>g3⟩
  ·exact⟨t,by simp only[ka,if_neg h1],hv,rfl,fun h=>absurd h h1,fun _=>rfl,fun h=>absurd h h1⟩
theorem ur.root {s:aW}{b:List (Int×Tm)}{l:List TB}{ρ:Int->Nat}{R:Nat}(h:ur s b l ρ R){t:Tm}(hv:Vs s t):∃x,ka (R+2) b t=some x/\Vs s x/\bf (aq l) x=bf (aq l) t/\(x.op=1->bL b x.n=none)/\(t.op≠1->x=t)/\(t.op=1->(∀u,il u x=true->ρ u<=ρ t.n)/\(x.op≠1->∀u,il u x=true->ρ u<ρ t.n)):=
 h.at R t hv fun _=>h.bd _
def zW(l:List TB)(ρ:Int->Nat)(n:Int)(r:Nat)(met:List Int):Prop:=∀v∈met,ρ v<r-> ¬il n (Lv (aq l) v)=true
theorem ur.ins {s:aW}{b:List (Int×Tm)}{l:List TB}{ρ:Int->Nat}{R:Nat}(h:ur s b l ρ R)(hl:kQ s l){n:Int}(hn:bL (aq l) n=none):∀ (z:Nat) (t:Tm) (r:Nat) (met:List Int),Vs s t->(bf (aq l) t).sz<=z->(t.op=1->ρ t.n<=r)->(t.op≠1->∀u,il u t=true->ρ u<r)->zW l ρ n r met->
 ∃f is fE,Ah f b n t met=some (is,fE)/\(is=true↔il n (bf (aq l) t)=true)/\(is=false->(∀v∈met,v∈fE)/\(∀v∈fE,v∈met\/ρ v<r)/\zW l ρ n r fE):=by
 intro z
 induction z with
 |zero=>intro t r met _ hz;have:=Tm.mD (bf (aq l) t);omega
 |succ z ih=>
  intro t r met hv hz WO su Sz
  obtain⟨x,a1,a2,a3,a4,a5,a6⟩:=h.root hv
  have ZW:x.op≠1->∀u,il u x=true->ρ u<r:=fun hx u hu=>by
   by_cases h1:t.op=1
   ·have:=(a6 h1).2 hx u hu;have:=WO h1;omega
   ·rw[a5 h1]at hu;exact su h1 u hu
  by_cases h1:x.op=1
  ·refine⟨R+3,x.n==n,met,by simp only[Ah,a1,if_pos h1], ?_,fun _=>⟨fun _ h=>h,fun _ h=>Or.inl h,Sz⟩⟩
   rw[<- a3,kP a2 h1,show Lv (aq l) x.n= .mk 1 x.n [] by simp[Lv,(h.CS _).1 (a4 h1)],n9]
  ·have WQ:=mH (b:=aq l) h1
   have key:∀ (ks:List Tm) (met:List Int),(∀k∈ks,k∈x.kids)->zW l ρ n r met->
    ∃f is fE,Eo (Ah f b n) ks met=some (is,fE)/\(is=true↔∃k∈ks,il n (bf (aq l) k)=true)/\(is=false->(∀v∈met,v∈fE)/\(∀v∈fE,v∈met\/ρ v<r)/\zW l ρ n r fE):=by
    intro ks
    induction ks with
    |nil=>intro met _ hm;exact⟨0,false,met,rfl,by simp,fun _=>⟨fun _ h=>h,fun _ h=>Or.inl h,hm⟩⟩
    |cons k ks qW=>
     intro met OJ hm
     have hk:=OJ k (by simp)
     have vk:=a2.lU hk
     have OK:∀u,il u k=true->ρ u<r:=fun u hu=>ZW h1 u ((qV a2 h1).2 ⟨k,hk,hu⟩)
     have OL:(bf (aq l) k).sz<=z:=by
      have h3:bf (aq l) k∈(bf (aq l) x).kids:=by rw[WQ];exact List.mem_map.2 ⟨k,hk,rfl⟩
      have h4:=Tm.iD h3
      rw[a3]at h4
      omega
     by_cases Ax:k.op=1/\k.n∈met
     ·have Am: ¬il n (bf (aq l) k)=true:=by
       rw[kP vk Ax.1]
       exact hm _ Ax.2 (OK _ ((iI Ax.1).2 rfl))
      obtain⟨f,is,fE,i1,i2,i3⟩:=qW met (fun y hy=>OJ y (by simp[hy])) hm
      refine⟨f,is,fE,by simp only[Eo,if_pos Ax];exact i1, ?_,i3⟩
      rw[i2]
      simp[Am]
     ·have T1:∃f is fE,Ah f b n k (if k.op=1 then zQ met k.n else met)=some (is,fE)/\(is=true↔il n (bf (aq l) k)=true)/\(is=false->(∀v∈met,v∈fE)/\(∀v∈fE,v∈met\/ρ v<r)/\zW l ρ n r fE):=by
       by_cases AK:k.op=1
       ·have TC:=OK _ ((iI AK).2 rfl)
        obtain⟨f,is,fE,i1,i2,i3⟩:=ih k (ρ k.n) (zQ met k.n) vk OL (fun _=>Nat.le_refl _) (fun h=>absurd AK h) (fun v hv bI=>by
         rcases pv.1 hv with hv|rfl
         ·exact hm v hv (by omega)
         ·omega)
        refine⟨f,is,fE,by rw[if_pos AK];exact i1,i2,fun hf=> ?_⟩
        obtain⟨j1,j2,j3⟩:=i3 hf
        refine⟨fun v hv=>j1 v (pv.2 (Or.inl hv)),fun v hv=> ?_,fun v hv bI=> ?_⟩
        ·rcases j2 v hv with hv|hv
         ·rcases pv.1 hv with hv|rfl
          ·exact Or.inl hv
          ·exact Or.inr TC
         ·exact Or.inr (by omega)
        ·rcases j2 v hv with zU|zU
         ·rcases pv.1 zU with zU|rfl
          ·exact hm v zU bI
          ·intro hh
           have:is=true:=i2.2 (by rw[kP vk AK];exact hh)
           rw[hf]at this;cases this
         ·exact j3 v hv zU
       ·rw[if_neg AK]
        exact ih k r met vk OL (fun h=>absurd h AK) (fun _=>OK) hm
      obtain⟨f,is,fE,i1,i2,i3⟩:=T1
      cases is with
      |true=>
       refine⟨f,true,fE,by simp only[Eo,if_neg Ax,i1], ?_,fun h=>by cases h⟩
       exact⟨fun _=>⟨k,by simp,i2.1 rfl⟩,fun _=>rfl⟩
      |false=>
       obtain⟨j1,j2,j3⟩:=i3 rfl
       have Am: ¬il n (bf (aq l) k)=true:=fun h=>by have:=i2.2 h;cases this
       obtain⟨f2,ZX,WR,k1,k2,k3⟩:=qW fE (fun y hy=>OJ y (by simp[hy])) j3
       refine⟨max f f2,ZX,WR, ?_, ?_,fun hf=> ?_⟩
       ·simp only[Eo,if_neg Ax]
        rw[jw i1 (Nat.le_max_left _ _)]
        exact mI (fun k m r hk=>jw hk (Nat.le_max_right _ _)) k1
       ·rw[k2];simp[Am]
       ·obtain⟨m1,m2,m3⟩:=k3 hf
        refine⟨fun v hv=>m1 v (j1 v hv),fun v hv=> ?_,m3⟩
        rcases m2 v hv with hv|hv
        ·exact j2 v hv
        ·exact Or.inr hv
   obtain⟨f,is,fE,i1,i2,i3⟩:=key x.kids met (fun _ h=>h) Sz
   refine⟨max f (R+2)+1,is,fE, ?_, ?_,i3⟩
   ·simp only[Ah]
    rw[cQ a1 (Nat.le_max_right _ _)]
    simp only[if_neg h1]
    exact mI (fun k m r hk=>jw hk (Nat.le_max_left _ _)) i1
   ·rw[i2, <- a3]
    have EG:=Vs.sub hl.bd x a2
    rw[qV EG (by rw[WQ];exact h1)]
    rw[WQ]
    simp only[Tm.kids,List.mem_map]
    exact⟨fun⟨k,hk,hh⟩=>⟨_,⟨k,hk,rfl⟩,hh⟩,fun⟨_,⟨k,hk,e⟩,hh⟩=>⟨k,hk,e ▸ hh⟩⟩
end Go.Proofs.YtealblliddhgiaaGreat
namespace Go.Proofs.YtealblliddhgiaaGreat
theorem tL(l:List (Int×Tm))(p:Int×Tm)(v:Int):bL (l++[p]) v=match bL l v with|some x=>some x|none=>if p.1=v then some p.2 else none:=by
 induction l with
 |nil=>simp[bL]
 |cons q l ih=>
  simp only[List.cons_append,bL]
  split
  ·rfl
  ·exact ih
theorem one_sub{s:aW}{l:List TB}{n:Int}{t:Tm}(hn:bL (aq l) n=none){x:Tm}(hx:Vs s x):bf (ql n t) (bf (aq l) x)=bf (aq (iJ l n t)) x:=by
 refine CP x hx fun u _=> ?_
 rw[pA hn]
 split
 ·rename_i e
  rw[e,show Lv (aq l) n= .mk 1 n [] by simp[Lv,hn],mG,xk,if_pos rfl]
 ·rfl
theorem ur.ext {s:aW}{b:List (Int×Tm)}{l:List TB}{ρ:Int->Nat}{R:Nat}(h:ur s b l ρ R)(hl:kQ s l){n:Int}(hn:bL b n=none){y:Tm}(hy:Vs s y)(Yt: ¬il n (bf (aq l) y)=true):
 ∃Ny R',ur s (b++[(n,y)]) (iJ l n (bf (aq l) y)) Ny R':=by
 have HV:=(h.CS n).1 hn
 refine⟨fun v=>if il n (Lv (aq l) v)=true then R+1+ρ v else ρ v,2*R+1, ?_,fun v=> ?_,fun v x hx=> ?_,fun v=> ?_⟩
 ·rw[List.map_append,List.map_cons,List.map_nil,List.nodup_append]
  refine⟨h.keys,by simp,fun a ha c hc=> ?_⟩
  simp at hc
  subst hc
  exact fun e=>(kN.1 hn) (e ▸ ha)
 ·rw[tL,xj HV]
  by_cases e:v=n
  ·subst e;simp[hn]
  ·rw[if_neg e]
   cases hv:bL b v with
   |some x=>
    simp only[reduceCtorEq,false_iff]
    intro h2
    cases h3:bL (aq l) v with
    |some y=>rw[h3]at h2;cases h2
    |none=>rw[(h.CS v).2 h3]at hv;cases hv
   |none=>
    simp[(h.CS v).1 hv]
    exact fun h=>e h.symm
 ·rw[tL]at hx
  cases hv:bL b v with
  |some z=>
   rw[hv]at hx
   injection hx with hx
   subst hx
   have WN:v≠n:=fun e=>by rw[e,hn]at hv;cases hv
   obtain⟨g1,g2,g3⟩:=h.ok v z hv
   refine⟨g1,by rw[pA HV,if_neg WN,g2,one_sub HV g1],fun u hu=> ?_⟩
   have h3:=g3 u hu
   have h4:il n (Lv (aq l) u)=true->il n (Lv (aq l) v)=true:=fun h5=>by rw[g2];exact(CQ hl.bd z g1 n).2 ⟨u,hu,h5⟩
   by_cases h5:il n (Lv (aq l) u)=true
   ·rw[if_pos h5,if_pos (h4 h5)];omega
   ·rw[if_neg h5];split<;>omega
  |none=>
   rw[hv]at hx
   simp only at hx
   split at hx
   ·rename_i e
    injection hx with hx
    subst hx;subst e
    refine⟨hy, ?_,fun u hu=> ?_⟩
    ·rw[pA HV,if_pos rfl, <- one_sub HV hy]
     exact(GU (s:=s) _ (Vs.sub hl.bd y hy) fun v hv=>by
      have: ¬n=v:=fun e=>by subst e;exact Yt hv
      simp[ql,bL,this]).symm
    ·have h5: ¬il n (Lv (aq l) u)=true:=fun h5=>Yt ((CQ hl.bd y hy n).2 ⟨u,hu,h5⟩)
     have h6:il n (Lv (aq l) n)=true:=by rw[show Lv (aq l) n= .mk 1 n [] by simp[Lv,HV],n9];simp
     have:=h.bd u
     simp only[if_neg h5,if_pos h6]
     omega
   ·cases hx
 ·have:=h.bd v
  split<;>omega
theorem pC{s:aW}{l:List TB}{b:List (Int×Tm)}{ρ:Int->Nat}{R:Nat}(h:ur s b l ρ R){x:Tm}(hx:Vs s x)(hr:x.op=1->bL b x.n=none):(bf (aq l) x).op=x.op/\(bf (aq l) x).n=x.n/\(bf (aq l) x).kids.length=x.kids.length/\(x.op=1->bf (aq l) x=x)/\(x.op≠1->(bf (aq l) x).kids=x.kids.map (bf (aq l))):=by
 by_cases h1:x.op=1
 ·have:bf (aq l) x=x:=by
   rw[kP hx h1,show Lv (aq l) x.n= .mk 1 x.n [] by simp[Lv,(h.CS _).1 (hr h1)]]
   exact(hx.eta h1).symm
  rw[this]
  exact⟨rfl,rfl,rfl,fun _=>rfl,fun h=>absurd h1 h⟩
 ·obtain⟨g1,g2,g3⟩:=Sy (b:=aq l) h1
  exact⟨g1,g2,by rw[g3];simp,fun h=>absurd h h1,fun _=>g3⟩
theorem Jm{s:aW}{b:List (Int×Tm)}{l:List TB}{ρ:Int->Nat}{R:Nat}(h:ur s b l ρ R):∀ (z:Nat) (t u:Tm),Vs s t->Vs s u->(bf (aq l) t).sz<=z->bf (aq l) t=bf (aq l) u->∃g,pB g t u b=some (b,true):=by
 intro z
 induction z with
 |zero=>intro t u _ _ hz;have:=Tm.mD (bf (aq l) t);omega
 |succ z ih=>
  intro t u ht hu hz he
  obtain⟨x,a1,a2,a3,a4,_,_⟩:=h.root ht
  obtain⟨y,b1,b2,b3,b4,_,_⟩:=h.root hu
  obtain⟨p1,p2,p3,p4,p5⟩:=pC h a2 a4
  obtain⟨q1,q2,q3,q4,q5⟩:=pC h b2 b4
  have OM:bf (aq l) x=bf (aq l) y:=by rw[a3,b3,he]
  have e1:x.op=y.op:=by rw[<- p1, <- q1,OM]
  have e2:x.n=y.n:=by rw[<- p2, <- q2,OM]
  have e3:x.kids.length=y.kids.length:=by rw[<- p3, <- q3,OM]
  by_cases h1:x.op=1
  ·refine⟨R+3, ?_⟩
   simp only[pB,a1,b1,if_pos h1,if_pos (e1 ▸ h1:y.op=1),if_pos e2]
  ·have h2: ¬y.op=1:=e1 ▸ h1
   have key:∀ (ks cW:List Tm),(∀k∈ks,k∈x.kids)->(∀k∈cW,k∈y.kids)->ks.map (bf (aq l))=cW.map (bf (aq l))->∃g,xl (pB g) ks cW b=some (b,true):=by
    intro ks
    induction ks with
    |nil=>intro cW _ _ _;exact⟨0,rfl⟩
    |cons k ks qW=>
     intro cW m1 m2 hm
     cases cW with
     |nil=>exact⟨0,rfl⟩
     |cons k' cW=>
      rw[List.map_cons,List.map_cons]at hm
      injection hm with Ax Ay
      have hk:=m1 k (by simp)
      have OL:(bf (aq l) k).sz<=z:=by
       have h3:bf (aq l) k∈(bf (aq l) x).kids:=by rw[p5 h1];exact List.mem_map.2 ⟨k,hk,rfl⟩
       have h4:=Tm.iD h3
       rw[a3]at h4
       omega
      obtain⟨g,hg⟩:=ih k k' (a2.lU hk) (b2.lU (m2 k' (by simp))) OL Ax
      obtain⟨g2,TD⟩:=qW cW (fun y hy=>m1 y (by simp[hy])) (fun y hy=>m2 y (by simp[hy])) Ay
      refine⟨max g g2, ?_⟩
      simp only[xl]
      rw[gq hg (Nat.le_max_left _ _)]
      exact kR (fun k k' b r hk=>gq hk (Nat.le_max_right _ _)) TD
   obtain⟨g,hg⟩:=key x.kids y.kids (fun _ h=>h) (fun _ h=>h) (by rw[<- p5 h1, <- q5 h2,OM])
   refine⟨max g (R+2)+1, ?_⟩
   simp only[pB]
   rw[cQ a1 (Nat.le_max_right _ _),cQ b1 (Nat.le_max_right _ _)]
   simp only[if_neg h1,if_neg h2,if_pos (⟨e1,e2,e3⟩:x.op=y.op/\x.n=y.n/\x.kids.length=y.kids.length)]
   exact kR (fun k k' b r hk=>gq hk (Nat.le_max_left _ _)) hg
theorem K6{s:aW}{b:List (Int×Tm)}{l:List TB}{ρ:Int->Nat}{R:Nat}(h:ur s b l ρ R)(hl:kQ s l){t u x y:Tm}(a1:ka (R+2) b t=some x)(b1:ka (R+2) b u=some y)(a2:Vs s x)(b2:Vs s y)(h1:x.op=1)(h2: ¬y.op=1)(a4:bL b x.n=none):
 ∃g b',pB g t u b=some (b', !(dF (bf (aq l) y)).contains x.n)/\((!(dF (bf (aq l) y)).contains x.n)=true->∃Ny R',ur s b' (iJ l x.n (bf (aq l) y)) Ny R'):=by
 have hc:(dF (bf (aq l) y)).contains x.n=true↔il x.n (bf (aq l) y)=true:=by rw[List.contains_iff_mem];exact(gO _).2 _
 obtain⟨f,is,fE,i1,i2,i3⟩:=h.ins hl ((h.CS _).1 a4) _ y (R+1) [] b2 (Nat.le_refl _) (fun h=>absurd h h2) (fun _ u _=>by have:=h.bd u;omega) (fun v hv=>by cases hv)
 have hi:is=(dF (bf (aq l) y)).contains x.n:=by rw[Bool.eq_iff_iff,hc];exact i2
 rw[<- hi]
 have LS:∀r,(match is,fE with|true,_=>some (b,false)|false,_=>some (b++[(x.n,y)],true))=some r->pB (max f (R+2)+1) t u b=some r:=by
  intro r hr
  simp only[pB]
  rw[cQ a1 (Nat.le_max_right _ _),cQ b1 (Nat.le_max_right _ _)]
  simp only[if_pos h1,if_neg h2]
  rw[jw i1 (Nat.le_max_left _ _)]
  cases is<;>exact hr
 cases is with
 |true=>exact⟨_,b,LS _ rfl,fun h=>by cases h⟩
 |false=>
  refine⟨_,b++[(x.n,y)],LS _ rfl,fun _=>h.ext hl a4 b2 fun hh=> ?_⟩
  have:=i2.2 hh
  cases this
theorem GY{s:aW}:∀ (f:Nat) (a c:Tm) (l:List TB) (r:List TB×Bool),gv f a c l=some r->kQ s l->Vs s a->Vs s c->∀ (t u:Tm) (b:List (Int×Tm)) (ρ:Int->Nat) (R:Nat),ur s b l ρ R->Vs s t->Vs s u->bf (aq l) t=bf (aq l) a->bf (aq l) u=bf (aq l) c->
 ∃g b',pB g t u b=some (b',r.2)/\(r.2=true->∃Ny R',ur s b' r.1 Ny R')
 |0,_,_,_,_,h,_,_,_,_,_,_,_,_,_,_,_,_,_=>by cases h
 |f+1,a,c,l,r,h,hl,ha,hc,t,u,b,ρ,R,hs,ht,hu,eta,ZY=>by
  obtain⟨x,a1,a2,a3,a4,_,_⟩:=hs.root ht
  obtain⟨y,b1,b2,b3,b4,_,_⟩:=hs.root hu
  obtain⟨p1,p2,p3,p4,p5⟩:=pC hs a2 a4
  obtain⟨q1,q2,q3,q4,q5⟩:=pC hs b2 b4
  have ex:bf (aq l) a=bf (aq l) x:=by rw[a3,eta]
  have ey:bf (aq l) c=bf (aq l) y:=by rw[b3,ZY]
  simp only[gv,ex,ey,p1,q1,p2,q2,p3,q3]at h
  split at h
  ·rename_i HI
   injection h with h
   subst h
   rw[qg]at HI
   obtain⟨g,hg⟩:=Jm hs _ t u ht hu (Nat.le_refl _) (by rw[<- a3, <- b3,HI])
   exact⟨g,b,hg,fun _=>⟨ρ,R,hs⟩⟩
  ·rename_i gX
   split at h
   ·rename_i WS
    injection h with h
    subst h
    obtain⟨h1,h2⟩:=WS
    have OM:x.n≠y.n:=fun e=>gX (by rw[qg,p4 h1,q4 h2,a2.eta h1,b2.eta h2];rw[e])
    have rx:=a2.range ((iI h1).2 rfl)
    have ry:=b2.range ((iI h2).2 rfl)
    refine⟨R+3,b++[(max x.n y.n, .mk 1 (min x.n y.n) [])],by simp only[pB,a1,b1,if_pos h1,if_pos h2,if_neg OM],fun _=> ?_⟩
    have ZZ:bL b (max x.n y.n)=none:=by
     rw[Int.max_def];split
     ·exact b4 h2
     ·exact a4 h1
    have Z0:bL b (min x.n y.n)=none:=by
     rw[Int.min_def];split
     ·exact a4 h1
     ·exact b4 h2
    have Yu:bf (aq l) (.mk 1 (min x.n y.n) [])= .mk 1 (min x.n y.n) []:=by
     rw[mG];simp[Lv,(hs.CS _).1 Z0]
    have:=hs.ext hl ZZ (Vs.var (s:=s) (v:=min x.n y.n) (by omega)) (by rw[Yu,n9];simp;omega)
    rw[Yu]at this
    exact this
   ·rename_i WS
    split at h
    ·rename_i h1
     injection h with h
     subst h
     have h2: ¬y.op=1:=fun h2=>WS ⟨h1,h2⟩
     exact K6 hs hl a1 b1 a2 b2 h1 h2 (a4 h1)
    ·rename_i h1
     split at h
     ·rename_i h2
      injection h with h
      subst h
      have Z1:ka (R+2) b y=some y:=by simp only[ka,if_pos h2,b4 h2]
      have Z2:ka (R+2) b x=some x:=by simp only[ka,if_neg h1]
      obtain⟨g,b',g1,g2⟩:=K6 hs hl Z1 Z2 b2 a2 h2 h1 (b4 h2)
      refine⟨max g (R+2)+1,b', ?_,g2⟩
      simp only[pB]
      rw[cQ a1 (Nat.le_max_right _ _),cQ b1 (Nat.le_max_right _ _)]
      simp only[if_neg h1,if_pos h2]
      exact gq g1 (Nat.le_max_left _ _)
     ·rename_i h2
      split at h
      ·rename_i h3
       injection h with h
       subst h
       refine⟨R+3,b, ?_,fun h=>by cases h⟩
       simp only[pB,a1,b1,if_neg h1,if_neg h2]
       rw[if_neg]
       rintro⟨g1,g2,g3⟩
       rcases h3 with h3|h3|h3
       ·exact h3 g1
       ·exact h3 g2
       ·exact h3 g3
      ·rename_i h3
       have re:x.op=y.op/\x.n=y.n/\x.kids.length=y.kids.length:=⟨Classical.byContradiction fun e=>h3 (Or.inl e),Classical.byContradiction fun e=>h3 (Or.inr (Or.inl e)),Classical.byContradiction fun e=>h3 (Or.inr (Or.inr e))⟩
       have key:∀ (xs ys:List Tm) (l1:List TB) (b:List (Int×Tm)) (ρ:Int->Nat) (R:Nat),(∀k∈xs,Vs s k)->(∀k∈ys,Vs s k)->kQ s l1->ni l l1->ur s b l1 ρ R->dg (gv f) (xs.map (bf (aq l))) (ys.map (bf (aq l))) l1=some r->
        ∃g b',xl (pB g) xs ys b=some (b',r.2)/\(r.2=true->∃Ny R',ur s b' r.1 Ny R'):=by
        intro xs
        induction xs with
        |nil=>intro ys l1 b ρ R _ _ pH _ pI h;simp only[List.map_nil,dg]at h;injection h with h;subst h;exact⟨0,b,rfl,fun _=>⟨ρ,R,pI⟩⟩
        |cons k xs qW=>
         intro ys l1 b ρ R m1 m2 pH he pI h
         cases ys with
         |nil=>simp only[List.map_nil,List.map_cons,dg]at h;injection h with h;subst h;exact⟨0,b,rfl,fun _=>⟨ρ,R,pI⟩⟩
         |cons k' ys=>
          have vk:=m1 k (by simp)
          have WT:=m2 k' (by simp)
          have Yv:=Vs.sub hl.bd k vk
          have SA:=Vs.sub hl.bd k' WT
          simp only[List.map_cons,dg]at h
          cases e:gv f (bf (aq l) k) (bf (aq l) k') l1 with
          |none=>rw[e]at h;cases h
          |some r1=>
           obtain⟨g,b',g1,g2⟩:=GY f _ _ l1 r1 e pH Yv SA k k' b ρ R pI vk WT (he.sub vk).symm (he.sub WT).symm
           obtain⟨l2,ok⟩:=r1
           rw[e]at h
           cases ok with
           |false=>
            simp only at h
            injection h with h
            subst h
            exact⟨g,b',by simp only[xl,g1],g2⟩
           |true=>
            simp only at h
            obtain⟨Z3,R2,ED⟩:=g2 rfl
            obtain⟨o1,o2⟩:=od f _ _ l1 l2 e pH Yv SA
            obtain⟨g',b2,k1,k2⟩:=qW ys l2 b' Z3 R2 (fun y hy=>m1 y (by simp[hy])) (fun y hy=>m2 y (by simp[hy])) o1 (he.trans hl o2 fun v=>hl.CS) ED h
            refine⟨max g g',b2, ?_,k2⟩
            simp only[xl]
            rw[gq g1 (Nat.le_max_left _ _)]
            exact kR (fun k k' b r hk=>gq hk (Nat.le_max_right _ _)) k1
       rw[p5 h1,q5 h2]at h
       obtain⟨g,b',g1,g2⟩:=key x.kids y.kids l b ρ R (fun k hk=>a2.lU hk) (fun k hk=>b2.lU hk) hl (ni.refl hl) hs h
       refine⟨max g (R+2)+1,b', ?_,g2⟩
       simp only[pB]
       rw[cQ a1 (Nat.le_max_right _ _),cQ b1 (Nat.le_max_right _ _)]
       simp only[if_neg h1,if_neg h2,if_pos re]
       exact kR (fun k k' b r hk=>gq hk (Nat.le_max_left _ _)) g1
theorem oe{F G:Tm->Tm->List TB->Option (List TB×Bool)}(zV:∀k k' l r,F k k' l=some r->G k k' l=some r):∀ {ks cW:List Tm} {l:List TB} {r:List TB×Bool},dg F ks cW l=some r->dg G ks cW l=some r
 |[],_,_,_,h=>by simp only[dg]at h|-;exact h
 |_::_,[],_,_,h=>by simp only[dg]at h|-;exact h
 |k::ks,k'::cW,b,r,h=>by
  simp only[dg]at h|-
  split at h
  ·rename_i b1 e;rw[zV _ _ _ _ e];exact oe zV h
  ·rename_i b1 e;rw[zV _ _ _ _ e];exact h
  ·cases h
theorem qm:∀ {f g:Nat} {a c:Tm} {l:List TB} {r:List TB×Bool},gv f a c l=some r->f<=g->gv g a c l=some r
 |0,_,_,_,_,_,h,_=>by cases h
 |f+1,0,_,_,_,_,_,h=>by omega
 |f+1,g+1,a,c,l,r,h,hg=>by
  simp only[gv]at h|-
  repeat' (split at h<;>rename_i hh<;>first|rw[if_pos hh]|rw[if_neg hh])
  all_goals first
   |exact h
   |exact oe (fun k k' l r hk=>qm hk (by omega)) h
theorem CU(l:List TB)(n:Int)(t:Tm):(jC l n t).length=l.length+1:=by
 induction l with
 |nil=>rfl
 |cons x l ih=>simp only[jC];split<;>simp[ih]
theorem tM(l:List TB)(n:Int)(t:Tm):(iJ l n t).length=l.length+1:=by rw[iJ,CU,List.length_map]
theorem CV:∀ (f:Nat) (a c:Tm) (l l':List TB),gv f a c l=some (l',true)->l'=l\/l.length<l'.length
 |0,_,_,_,_,h=>by cases h
 |f+1,a,c,l,l',h=>by
  simp only[gv]at h
  split at h
  ·injection h with h;injection h with h;exact Or.inl h.symm
  ·split at h
   ·injection h with h;injection h with h;subst h;right;rw[tM];omega
   ·split at h
    ·injection h with h;injection h with h;subst h;right;rw[tM];omega
    ·split at h
     ·injection h with h;injection h with h;subst h;right;rw[tM];omega
     ·split at h
      ·injection h with h;injection h with _ h;cases h
      ·have key:∀ (ks cW:List Tm) (l:List TB),dg (gv f) ks cW l=some (l',true)->l'=l\/l.length<l'.length:=by
        intro ks
        induction ks with
        |nil=>intro cW l h;simp only[dg]at h;injection h with h;injection h with h;exact Or.inl h.symm
        |cons k ks qW=>
         intro cW l h
         cases cW with
         |nil=>simp only[dg]at h;injection h with h;injection h with h;exact Or.inl h.symm
         |cons k' cW=>
          simp only[dg]at h
          split at h
          ·rename_i l1 e
           have h1:=CV f k k' l l1 e
           have h2:=qW cW l1 h
           rcases h1 with rfl|h1
           ·exact h2
           ·rcases h2 with rfl|h2
            ·exact Or.inr h1
            ·exact Or.inr (by omega)
          ·injection h with h;injection h with _ h;cases h
          ·cases h
       exact key _ _ _ h
theorem kQ.len {s:aW}{l:List TB}(h:kQ s l):l.length<=20:=by
 have:=rM (ns:=l.map (·.var)) (fun n hn=>by obtain⟨x,hx,rfl⟩:=List.mem_map.1 hn;exact(h.ok x hx).1) (by rw[EK,List.pairwise_map];exact h.Jj)
 rwa [List.length_map]at this
theorem Ep{s:aW}:∀ (N z:Nat) (a c:Tm) (l:List TB),20 - l.length<=N->(bf (aq l) a).sz<=z->kQ s l->Vs s a->Vs s c->∃f r,gv f a c l=some r:=by
 intro N
 induction N using Nat.strongRecOn with
 |ind N Z4=>
 intro z
 induction z with
 |zero=>intro a c l _ hz;have:=Tm.mD (bf (aq l) a);omega
 |succ z Z5=>
  intro a c l hN hz hl ha hc
  have va:=Vs.sub hl.bd a ha
  have vc:=Vs.sub hl.bd c hc
  have key:∀ (ks cW:List Tm) (l1:List TB),(∀k∈ks,k∈(bf (aq l) a).kids)->(∀k∈cW,Vs s k)->kQ s l1->(l1=l\/l.length<l1.length)->∃f r,dg (gv f) ks cW l1=some r:=by
   intro ks
   induction ks with
   |nil=>intro cW l1 _ _ _ _;exact⟨0,_,rfl⟩
   |cons k ks qW=>
    intro cW l1 m1 m2 pH MC
    cases cW with
    |nil=>exact⟨0,_,rfl⟩
    |cons k' cW=>
     have hk:=m1 k (by simp)
     have vk:=va.lU hk
     have Db:∃f r,gv f k k' l1=some r:=by
      rcases MC with rfl|MC
      ·refine Z5 k k' l1 hN ?_ pH vk (m2 k' (by simp))
       have:bf (aq l1) k=k:=GU (s:=s) k vk fun v hv=>by
        by_cases h1:(bf (aq l1) a).op=1
        ·rw[va.eta h1]at hk;cases hk
        ·exact hl.free ha ((qV va h1).2 ⟨k,hk,hv⟩)
       rw[this]
       have:=Tm.iD hk
       omega
      ·have Z6:=pH.len
       exact Z4 (20 - l1.length) (by omega) _ k k' l1 (Nat.le_refl _) (Nat.le_refl _) pH vk (m2 k' (by simp))
     obtain⟨f,⟨l2,ok⟩,e⟩:=Db
     cases ok with
     |false=>exact⟨f,(l2,false),by simp only[dg,e]⟩
     |true=>
      obtain⟨o1,_⟩:=od f k k' l1 l2 e pH vk (m2 k' (by simp))
      have hle:=CV f k k' l1 l2 e
      obtain⟨f2,r2,e2⟩:=qW cW l2 (fun y hy=>m1 y (by simp[hy])) (fun y hy=>m2 y (by simp[hy])) o1 (by
       rcases hle with rfl|h
       ·exact MC
       ·right
        rcases MC with rfl|h2
        ·exact h
        ·omega)
      refine⟨max f f2,r2, ?_⟩
      simp only[dg]
      rw[qm e (Nat.le_max_left _ _)]
      exact oe (fun k k' l r hk=>qm hk (Nat.le_max_right _ _)) e2
  obtain⟨f,r,e⟩:=key (bf (aq l) a).kids (bf (aq l) c).kids l (fun _ h=>h) (fun k hk=>vc.lU hk) hl (Or.inl rfl)
  refine⟨f+1, ?_⟩
  simp only[gv]
  repeat' split
  all_goals first
   |exact⟨_,rfl⟩
   |exact⟨r,e⟩
end Go.Proofs.YtealblliddhgiaaGreat
namespace Go.Proofs.YtealblliddhgiaaGreat
mutual
def mJ:Tm->Tm->List (Int×Tm)->List (Int×Tm)×Bool
 | .mk op n kids,v,b=>if op=1 then(match bL b n with|some x=>(b,hY x v)|none=>(b++[(n,v)],true))
   else if op≠v.op\/n≠v.n\/kids.length≠v.kids.length then(b,false)else jP kids v.kids b
def jP:List Tm->List Tm->List (Int×Tm)->List (Int×Tm)×Bool
 |[],_,b=>(b,true)
 |_::_,[],b=>(b,true)
 |k::l,k'::l',b=>if(mJ k k' b).2=true then jP l l' (mJ k k' b).1 else((mJ k k' b).1,false)
end
mutual
def dB:Tm->Tm->List TB->List TB×Bool
 | .mk op n kids,v,b=>if op=1 then(match bL (aq b) n with|some x=>(b,hY x v)|none=>(jC b n v,true))
   else if op≠v.op\/n≠v.n\/kids.length≠v.kids.length then([],false)else dQ kids v.kids b
def dQ:List Tm->List Tm->List TB->List TB×Bool
 |[],_,b=>(b,true)
 |_::_,[],b=>(b,true)
 |k::l,k'::l',b=>if(dB k k' b).2=true then dQ l l' (dB k k' b).1 else((dB k k' b).1,false)
end
theorem xm(t v:Tm)(b:List (Int×Tm)):mJ t v b=if t.op=1 then(match bL b t.n with|some x=>(b,hY x v)|none=>(b++[(t.n,v)],true))
 else if t.op≠v.op\/t.n≠v.n\/t.kids.length≠v.kids.length then(b,false)else jP t.kids v.kids b:=by cases t;rfl
theorem tN(t v:Tm)(b:List TB):dB t v b=if t.op=1 then(match bL (aq b) t.n with|some x=>(b,hY x v)|none=>(jC b t.n v,true))
 else if t.op≠v.op\/t.n≠v.n\/t.kids.length≠v.kids.length then([],false)else dQ t.kids v.kids b:=by cases t;rfl
structure EL (s:aW) (l:List TB):Prop where
 Jj:l.Pairwise fun x y=>x.var<y.var
 ok:∀x∈l,(0<=x.var/\x.var<20)/\Vs s x.term
theorem kQ.SB {s:aW}{l:List TB}(h:kQ s l):EL s l:=⟨h.Jj,h.ok⟩
theorem EL.ins {s:aW}{l:List TB}(h:EL s l){n:Int}{t:Tm}(hn:bL (aq l) n=none)(hr:0<=n/\n<20)(ht:Vs s t):EL s (jC l n t):=
 ⟨CT h.Jj (nB hn),fun x hx=>by
  rcases m6.1 hx with rfl|hx
  ·exact⟨hr,ht⟩
  ·exact h.ok x hx⟩
structure MS (b:List (Int×Tm)) (l:List TB):Prop where
 keys:(b.map (·.1)).Nodup
 lk:∀v,bL b v=bL (aq l) v
theorem MS.snoc {b:List (Int×Tm)}{l:List TB}(h:MS b l){n:Int}{t:Tm}(hn:bL b n=none):MS (b++[(n,t)]) (jC l n t):=by
 refine⟨?_,fun v=> ?_⟩
 ·rw[List.map_append,List.map_cons,List.map_nil,List.nodup_append]
  refine⟨h.keys,by simp,fun a ha c hc=> ?_⟩
  simp at hc
  subst hc
  exact fun e=>(kN.1 hn) (e ▸ ha)
 ·rw[tL,GV (by rw[<- h.lk];exact hn), <- h.lk]
  by_cases e:v=n
  ·subst e;simp[hn]
  ·rw[if_neg e]
   cases bL b v with
   |some x=>rfl
   |none=>simp;exact fun h=>e h.symm
theorem CW{s:aW}:∀ (t v:Tm) (b:List (Int×Tm)) (l:List TB),Vs s t->Vs s v->MS b l->EL s l->(mJ t v b).2=(dB t v l).2/\((dB t v l).2=true->MS (mJ t v b).1 (dB t v l).1/\EL s (dB t v l).1):=by
 refine Tm.ej fun t ih v b l ht hv hm hs=> ?_
 rw[xm,tN]
 by_cases h1:t.op=1
 ·simp only[if_pos h1]
  rw[<- hm.lk]
  cases hl:bL b t.n with
  |some x=>exact⟨rfl,fun _=>⟨hm,hs⟩⟩
  |none=>exact⟨rfl,fun _=>⟨hm.snoc hl,hs.ins (by rw[<- hm.lk];exact hl) (ht.range ((iI h1).2 rfl)) hv⟩⟩
 ·simp only[if_neg h1]
  split
  ·exact⟨rfl,fun h=>by cases h⟩
  ·have key:∀ (ks cW:List Tm) (b:List (Int×Tm)) (l:List TB),(∀k∈ks,k∈t.kids)->(∀k∈cW,Vs s k)->MS b l->EL s l->(jP ks cW b).2=(dQ ks cW l).2/\((dQ ks cW l).2=true->MS (jP ks cW b).1 (dQ ks cW l).1/\EL s (dQ ks cW l).1):=by
    intro ks
    induction ks with
    |nil=>intro cW b l _ _ hm hs;simp only[jP,dQ];exact⟨trivial,fun _=>⟨hm,hs⟩⟩
    |cons k ks qW=>
     intro cW b l m1 m2 hm hs
     cases cW with
     |nil=>simp only[jP,dQ];exact⟨trivial,fun _=>⟨hm,hs⟩⟩
     |cons k' cW=>
      simp only[jP,dQ]
      obtain⟨e1,e2⟩:=ih k (m1 k (by simp)) k' b l (ht.lU (m1 k (by simp))) (m2 k' (by simp)) hm hs
      rw[e1]
      by_cases h2:(dB k k' l).2=true
      ·simp only[if_pos h2]
       obtain⟨e3,e4⟩:=e2 h2
       exact qW cW _ _ (fun y hy=>m1 y (by simp[hy])) (fun y hy=>m2 y (by simp[hy])) e3 e4
      ·simp only[if_neg h2]
       exact⟨trivial,fun h=>by cases h⟩
   exact key t.kids v.kids b l (fun _ h=>h) (fun k hk=>hv.lU hk) hm hs
theorem GZ:∀ {l l':List TB},l.Pairwise (fun x y=>x.var<y.var)->l'.Pairwise (fun x y=>x.var<y.var)->(∀v,bL (aq l) v=bL (aq l') v)->l=l'
 |[],[],_,_,_=>rfl
 |[],y::l',_,_,h=>by have:=h y.var;simp[aq,bL]at this
 |x::l,[],_,_,h=>by have:=h x.var;simp[aq,bL]at this
 |x::l,y::l',hx,hy,h=>by
  rw[List.pairwise_cons]at hx hy
  have none_lt:∀ (l:List TB) (v:Int),(∀z∈l,v<z.var)->bL (aq l) v=none:=fun l v hz=>by
   rw[kN]
   intro hm
   obtain⟨p,hp,e⟩:=List.mem_map.1 hm
   obtain⟨z,Z7,rfl⟩:=List.mem_map.1 hp
   have:=hz z Z7
   simp only at e
   omega
  have Dg:=h x.var
  have TE:=h y.var
  simp only[aq,List.map_cons,bL,if_pos]at Dg TE
  have WU:x.var=y.var:=by
   rcases Int.lt_trichotomy x.var y.var with h1|h1|h1
   ·rw[if_neg (by omega)]at Dg
    have:=none_lt l' x.var (fun z hz=>by have:=hy.1 z hz;omega)
    rw[aq]at this
    rw[this]at Dg;cases Dg
   ·exact h1
   ·rw[if_neg (by omega)]at TE
    have:=none_lt l y.var (fun z hz=>by have:=hx.1 z hz;omega)
    rw[aq]at this
    rw[this]at TE;cases TE
  rw[if_pos WU.symm]at Dg
  injection Dg with Dg
  have e:x=y:=by cases x;cases y;simp only at WU Dg;rw[WU,Dg]
  subst e
  rw[GZ hx.2 hy.2 fun v=> ?_]
  have hv:=h v
  simp only[aq,List.map_cons,bL]at hv
  by_cases e:x.var=v
  ·subst e
   rw[none_lt l x.var hx.1,none_lt l' x.var hy.1]
  ·rw[if_neg e,if_neg e]at hv
   exact hv
def jx(b:List (Int×Tm))(n:Nat):List TB:=(List.range n).filterMap fun i:Nat=>(bL b (i:Int)).map fun x=>⟨(i:Int),x⟩
theorem og(b:List (Int×Tm))(n:Nat):jx b (n+1)=jx b n++(match bL b (n:Int)with|some x=>[⟨(n:Int),x⟩]|none=>[]):=by
 unfold jx
 rw[List.range_succ,List.filterMap_append]
 cases h:bL b (n:Int)<;>simp[h]
theorem Er(b:List (Int×Tm))(n:Nat):(jx b n).length<=n:=by
 unfold jx
 have:=List.length_filterMap_le (fun i:Nat=>(bL b (i:Int)).map fun x=>(⟨(i:Int),x⟩:TB)) (List.range n)
 simpa using this
theorem Es{b:List (Int×Tm)}{n:Nat}{x:TB}(h:x∈jx b n):0<=x.var/\x.var<n/\bL b x.var=some x.term:=by
 unfold jx at h
 rw[List.mem_filterMap]at h
 obtain⟨i,hi,e⟩:=h
 rw[List.mem_range]at hi
 cases hl:bL b (i:Int)with
 |none=>rw[hl]at e;cases e
 |some y=>rw[hl]at e;simp at e;subst e;exact⟨by simp only;omega,by simp only;omega,hl⟩
theorem vB(b:List (Int×Tm)):∀n:Nat,(jx b n).Pairwise fun x y=>x.var<y.var
 |0=>by simp[jx]
 |n+1=>by
  rw[og,List.pairwise_append]
  refine⟨vB b n, ?_,fun x hx y hy=> ?_⟩
  ·cases bL b (n:Int)<;>simp
  ·have:=Es hx
   cases hl:bL b (n:Int)with
   |none=>rw[hl]at hy;cases hy
   |some z=>rw[hl]at hy;simp at hy;subst hy;exact this.2.1
theorem zX(b:List (Int×Tm))(v:Int):∀n:Nat,bL (aq (jx b n)) v=if 0<=v/\v<n then bL b v else none
 |0=>by
  have: ¬ (0<=v/\v<((0:Nat):Int)):=by omega
  rw[if_neg this];simp[jx,aq,bL]
 |n+1=>by
  have app:∀ (l m:List TB),bL (aq (l++m)) v=match bL (aq l) v with|some x=>some x|none=>bL (aq m) v:=by
   intro l m
   induction l with
   |nil=>simp[aq,bL]
   |cons q l ih=>
    simp only[aq,List.cons_append,List.map_cons,bL]at ih|-
    split
    ·rfl
    ·exact ih
  rw[og,app,zX b v n]
  by_cases h1:0<=v/\v<(n:Int)
  ·rw[if_pos h1,if_pos (by omega)]
   cases hl:bL b v with
   |some x=>rfl
   |none=>
    cases hn:bL b (n:Int)with
    |none=>rfl
    |some x=>
     simp only[aq,List.map_cons,List.map_nil,bL]
     rw[if_neg (by omega)]
  ·rw[if_neg h1]
   by_cases h2:v=(n:Int)
   ·subst h2
    rw[if_pos (by omega)]
    cases hn:bL b (n:Int)with
    |none=>rfl
    |some x=>simp[aq,bL]
   ·rw[if_neg (by omega)]
    cases hn:bL b (n:Int)with
    |none=>rfl
    |some x=>
     simp only[aq,List.map_cons,List.map_nil,bL]
     rw[if_neg (fun e=>h2 e.symm)]
theorem zY{s:aW}{b:List (Int×Tm)}{l:List TB}(h:∀v,bL b v=bL (aq l) v)(hs:EL s l):jx b 20=l:=by
 refine GZ (vB b 20) hs.Jj fun v=> ?_
 rw[zX,h]
 split
 ·rfl
 ·rename_i h2
  cases hl:bL (aq l) v with
  |none=>rfl
  |some x=>
   obtain⟨y,hy,e1,e2⟩:=gP hl
   have:=(hs.ok y hy).1
   exact absurd (⟨by omega,by omega⟩:0<=v/\v<((20:Nat):Int)) h2
def ud(F:Tm->Int->Option (Option Tm×Int)):List Tm->Int->Option (Option (List Tm)×Int)
 |[],left=>some (some [],left)
 |k::ks,left=>match F k left with
  |some (some y,l1)=>(match ud F ks l1 with
   |some (some ys,l2)=>some (some (y::ys),l2)
   |some (none,l2)=>some (none,l2)
   |none=>none)
  |some (none,l1)=>some (none,l1)
  |none=>none
def vC:Nat->List (Int×Tm)->Tm->Int->Int->Option (Option Tm×Int)
 |0,_,_,_,_=>none
 |f+1,b,t,left,d=>match ka f b t with
  |some x=>if left - 1<0\/d=0 then some (none,left - 1)else(match ud (fun k l=>vC f b k l (d - 1)) x.kids (left - 1)with
   |some (some ks,l1)=>some (some (.mk x.op x.n ks),l1)
   |some (none,l1)=>some (none,l1)
   |none=>none)
  |none=>none
theorem kS{F G:Tm->Int->Option (Option Tm×Int)}(zV:∀k l r,F k l=some r->G k l=some r):∀ {ks:List Tm} {l:Int} {r:Option (List Tm)×Int},ud F ks l=some r->ud G ks l=some r
 |[],_,_,h=>h
 |k::ks,l,r,h=>by
  simp only[ud]at h|-
  split at h
  ·rename_i y l1 e
   rw[zV _ _ _ e]
   simp only
   split at h
   ·rename_i ys l2 e2;rw[kS zV e2];exact h
   ·rename_i l2 e2;rw[kS zV e2];exact h
   ·cases h
  ·rename_i l1 e;rw[zV _ _ _ e];exact h
  ·cases h
theorem mK{b:List (Int×Tm)}:∀ {f g:Nat} {t:Tm} {left d:Int} {r:Option Tm×Int},vC f b t left d=some r->f<=g->vC g b t left d=some r
 |0,_,_,_,_,_,h,_=>by cases h
 |f+1,0,_,_,_,_,_,h=>by omega
 |f+1,g+1,t,left,d,r,h,hg=>by
  simp only[vC]at h|-
  split at h
  ·rename_i x e
   rw[cQ e (by omega:f<=g)]
   simp only
   split
   ·rename_i h1;rw[if_pos h1]at h;exact h
   ·rename_i h1
    rw[if_neg h1]at h
    split at h
    ·rename_i ks l1 e2;rw[kS (fun k l r hk=>mK hk (by omega:f<=g)) e2];exact h
    ·rename_i l1 e2;rw[kS (fun k l r hk=>mK hk (by omega:f<=g)) e2];exact h
    ·cases h
  ·cases h
theorem Nz{s:aW}{b:List (Int×Tm)}{l:List TB}{ρ:Int->Nat}{R:Nat}(h:ur s b l ρ R):∀ (z:Nat) (t:Tm),Vs s t->(bf (aq l) t).sz<=z->∀ (left d:Int),0<=d->
 ∃f l1,vC f b t left d=some (if((bf (aq l) t).sz:Int)<=left/\((bf (aq l) t).eB:Int)<=d then some (bf (aq l) t)else none,l1)/\(((bf (aq l) t).sz:Int)<=left/\((bf (aq l) t).eB:Int)<=d->l1=left - (bf (aq l) t).sz):=by
 intro z
 induction z with
 |zero=>intro t _ hz;have:=Tm.mD (bf (aq l) t);omega
 |succ z ih=>
  intro t ht hz left d hd
  obtain⟨x,a1,a2,a3,a4,_,_⟩:=h.root ht
  obtain⟨p1,p2,p3,p4,p5⟩:=pC h a2 a4
  rw[<- a3]at hz|-
  have fy:=Tm.mD (bf (aq l) x)
  have hhp:1<=(bf (aq l) x).eB:=by rw[Tm.j7];omega
  by_cases h1:left - 1<0\/d=0
  ·refine⟨R+3,left - 1, ?_,fun hh=> ?_⟩
   ·simp only[vC,a1,if_pos h1]
    rw[if_neg (by omega)]
   ·omega
  ·have CX:(bf (aq l) x).kids=x.kids.map (bf (aq l)):=by
    by_cases hx:x.op=1
    ·rw[p4 hx,a2.eta hx];rfl
    ·exact p5 hx
   have key:∀ (ks:List Tm) (left:Int),0<=left->(∀k∈ks,k∈x.kids)->
    ∃f l1,ud (fun k l=>vC f b k l (d - 1)) ks left=some (if(jO (ks.map (bf (aq l))):Int)<=left/\(Tm.eV (ks.map (bf (aq l))):Int)<=d - 1 then some (ks.map (bf (aq l)))else none,l1)/\((jO (ks.map (bf (aq l))):Int)<=left/\(Tm.eV (ks.map (bf (aq l))):Int)<=d - 1->l1=left - jO (ks.map (bf (aq l)))):=by
    intro ks
    induction ks with
    |nil=>
     intro left hl _
     refine⟨0,left, ?_,fun _=>by simp[jO]⟩
     simp only[ud,List.map_nil,jO,List.sum_nil,Tm.eV]
     rw[if_pos (by omega)]
    |cons k ks qW=>
     intro left hl OJ
     have hk:=OJ k (by simp)
     have vk:=a2.lU hk
     have OL:(bf (aq l) k).sz<=z:=by
      have h3:bf (aq l) k∈(bf (aq l) x).kids:=by rw[CX];exact List.mem_map.2 ⟨k,hk,rfl⟩
      have h4:=Tm.iD h3
      omega
     obtain⟨f,l1,e1,e2⟩:=ih k vk OL left (d - 1) (by omega)
     rw[List.map_cons,eH,kM]
     have BQ:∀ (m n:Nat) (c:Int),((Nat.max m n:Nat):Int)<=c↔(m:Int)<=c/\(n:Int)<=c:=fun m n c=>by
      show((max m n:Nat):Int)<=c↔_
      omega
     by_cases h2:((bf (aq l) k).sz:Int)<=left/\((bf (aq l) k).eB:Int)<=d - 1
     ·rw[if_pos h2]at e1
      have e2:=e2 h2
      obtain⟨f2,l2,e3,e4⟩:=qW l1 (by omega) (fun y hy=>OJ y (by simp[hy]))
      have hw:ud (fun k l=>vC (max f f2) b k l (d - 1)) (k::ks) left=match(if(jO (ks.map (bf (aq l))):Int)<=l1/\(Tm.eV (ks.map (bf (aq l))):Int)<=d - 1 then some (ks.map (bf (aq l)))else none)with|some ys=>some (some (bf (aq l) k::ys),l2)|none=>some (none,l2):=by
       simp only[ud]
       rw[mK e1 (Nat.le_max_left _ _)]
       simp only
       rw[kS (fun k l r hk=>mK hk (Nat.le_max_right f f2)) e3]
       generalize (if(jO (ks.map (bf (aq l))):Int)<=l1/\(Tm.eV (ks.map (bf (aq l))):Int)<=d - 1 then some (ks.map (bf (aq l)))else none)=q
       cases q<;>rfl
      refine⟨max f f2,l2, ?_,fun hh=> ?_⟩
      ·rw[hw]
       by_cases h3:(jO (ks.map (bf (aq l))):Int)<=l1/\(Tm.eV (ks.map (bf (aq l))):Int)<=d - 1
       ·rw[if_pos h3,if_pos]
        rw[BQ];omega
       ·rw[if_neg h3,if_neg]
        rw[BQ];omega
      ·rw[BQ]at hh
       rw[e4 (by omega)]
       omega
     ·rw[if_neg h2]at e1
      refine⟨f,l1, ?_,fun hh=> ?_⟩
      ·simp only[ud,e1]
       rw[if_neg]
       rw[BQ];omega
      ·rw[BQ]at hh
       omega
   obtain⟨f,l1,e1,e2⟩:=key x.kids (left - 1) (by omega) (fun _ h=>h)
   have dL:(bf (aq l) x).sz=1+jO (x.kids.map (bf (aq l))):=by rw[Tm.iH,CX]
   have hhg:(bf (aq l) x).eB=1+Tm.eV (x.kids.map (bf (aq l))):=by rw[Tm.j7,CX]
   have Z8:Tm.mk x.op x.n (x.kids.map (bf (aq l)))=bf (aq l) x:=by rw[<- CX, <- p1, <- p2];exact Tm.eta _
   refine⟨max f (R+2)+1,l1, ?_,fun hh=> ?_⟩
   ·simp only[vC]
    rw[cQ a1 (Nat.le_max_right _ _)]
    simp only[if_neg h1]
    rw[kS (fun k l r hk=>mK hk (Nat.le_max_left f (R+2))) e1]
    by_cases h3:(jO (x.kids.map (bf (aq l))):Int)<=left - 1/\(Tm.eV (x.kids.map (bf (aq l))):Int)<=d - 1
    ·rw[if_pos h3,if_pos (by omega)]
     simp only[Z8]
    ·rw[if_neg h3,if_neg (by omega)]
   ·rw[e2 (by omega)];omega
end Go.Proofs.YtealblliddhgiaaGreat
