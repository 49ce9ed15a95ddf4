/-
  A PART OF THE PROOF. Conditions: none.
-/
import Derived.Test.YtlhemmpklhhgoaaGreatQb15
set_option linter.unusedSimpArgs false
set_option linter.unusedVariables false
namespace Go.Proofs.YtlhemmpklhhgoaaGreat
theorem CU{v op n:Int}(h:op≠8):∀ (l:List Tm) (i:Nat),wS v op n l i=l.any (fR v)
 |[],i=>rfl
 |k::l,i=>by
  have:(op==8)=false:=by simpa using h
  simp[wS,CU h l,this]
theorem G6{s:aN}{t:Tm}(h:a8 s t=true)(h1:t.op=1):t.kids=[]:=by
 simp[a8,h1]at h
 exact h.1
theorem sT:∀ (l:List Int) (n:Int),∃k,k<=l.length/\(∀x∈l.take k,x<n)/\(∀x,l[k]? =some x-> ¬x<n)/\me l n=if l[k]? =some n then l else l.take k++n::l.drop k
 |[],n=>⟨0,Nat.zero_le _,aK,aK,by simp[me]⟩
 |x::l,n=>by
  obtain⟨k,h1,h2,h3,h4⟩:=sT l n
  by_cases hx:x<n
  ·refine⟨k+1,by simp;omega, ?_,by simpa using h3, ?_⟩
   ·intro y hy
    simp only[List.take_succ_cons,List.mem_cons]at hy
    rcases hy with rfl|hy
    ·exact hx
    ·exact h2 y hy
   ·simp only[me,if_pos hx,h4,List.getElem?_cons_succ,List.take_succ_cons,List.drop_succ_cons]
    split<;>simp
  ·refine⟨0,Nat.zero_le _,aK,by simpa using hx, ?_⟩
   simp only[me,if_neg hx]
   by_cases e:x=n
   ·subst e;simp
   ·simp[e]
theorem WU(l:List Int)(n:Int)(hl:l.length<=1000000):aX Tryz.prog 155 [.sl (l.map .i), .i n] (.ret [.sl ((me l n).map .i)]):=by
 obtain⟨j,j1,j2,j3,j4⟩:=sT l n
 have tk:∀ (i:Nat) (l:List Int),List.take i (l.map D.i)=(l.take i).map D.i:=fun i l=>List.map_take.symm
 have dr:∀ (i:Nat) (l:List Int),List.drop i (l.map D.i)=(l.drop i).map D.i:=fun i l=>List.map_drop.symm
 have ap:∀ (a b:List Int),a.map D.i++[D.i n]++b.map D.i=(a++n::b).map D.i:=fun a b=>aK
 refine aX.aM mix VS aK ?_
 rw[VR]
 refine cm ?_
 refine aH (fun k:Nat=>⟨ba [.d (.sl (l.map .i)), .d (.i n), .aa, .aa, .aa, .d (.i k)],fun _=> .no,0⟩)
  (fun k=>k<=j) (fun k=>l.length - k) 0 (Nat.zero_le _) (bG.d0 _ ?_) (fun k hk=> ?_)
 ·exact dQ
 by_cases hkj:k=j
 ·subst hkj
  by_cases h5:k<l.length
  ·obtain⟨x,hx⟩:=aF h5
   have h6:=j3 x hx
   have EJ:(k:Int)<l.length:=af
   refine EY hx EJ h6 ?_
   refine ak (fun h3=> ?_) (fun h3=> ?_)
   ·refine cm ?_
    have e:x=n:=by simpa using h3
    rw[j4,if_pos (by rw[hx,e])]
   ·have e: ¬x=n:=by simpa using h3
    rw[j4,if_neg (by rw[hx];simpa using e)]
    simp+contextual (disch:=first|omega|simp only[go_sem,false_implies]) only[go_sem,wrap64,if_pos,hx,EJ,h6,tk,dr,List.take_length,List.length_map,List.length_take,List.length_drop,List.length_append,List.length_cons,List.length_nil]
    rw[ap]
    refine aR cA ?_
    exact nq
  ·have EJ: ¬ (k:Int)<l.length:=af
   have hx:l[k]? =none:=by simp;omega
   rw[j4,if_neg (by rw[hx];simp)]
   simp+contextual (disch:=first|omega|simp only[go_sem,false_implies]) only[go_sem,wrap64,if_pos,EJ,tk,dr,List.take_length,List.length_map,List.length_take,List.length_drop,List.length_append,List.length_cons,List.length_nil]
   rw[ap]
   refine aR cA ?_
   exact nq
 ·have bR:k<l.length:=af
  obtain⟨x,hx⟩:=aF bR
  have EJ:(k:Int)<l.length:=af
  have h6:x<n:=j2 x (List.mem_of_getElem? (i:=k) (by rw[List.getElem?_take_of_lt (by omega)];exact hx))
  refine EY hx EJ h6 ?_
  refine aw (k+1) af af (bG.d0 _ ?_)
  exact dQ
theorem Eu{op n:Int}{i:Nat}{l:List Int}{k:Nat}{v:Int}(h:l[k]? =some v)(out:List Int):ng op n i (l.take (k+1)) out=if(op !=8||(i:Int)!=1||v !=n)=true then me (ng op n i (l.take k) out) v else ng op n i (l.take k) out:=by
 unfold ng
 rw[List.take_add_one,h,List.foldl_append]
 rfl
theorem Qa{t a body:Tm}{v:Int}(h8:t.op=8)(hk:t.kids=[a,body]):fR v t=(fR v a||(fR v body&& !(t.n==v))):=by
 rw[pI,hk,h8]
 simp[wS]
theorem sU{v n:Int}:fR v (.mk 1 n [])=(n==v):=rfl
theorem G7{t:Tm}{v:Int}(h1:t.op≠1)(h8:t.op≠8):fR v t=t.kids.any (fR v):=by rw[pI,if_neg h1,CU h8]
def aaw(R:Int->Int->Prop)(x y:Int):Int->Int->Prop:=fun v w=>(v=x/\w=y)\/(v≠x/\w≠y/\R v w)
inductive Al:(Int->Int->Prop)->Tm->Tm->Prop where
 |var {R:Int->Int->Prop} {v w:Int} (h:R v w):Al R (.mk 1 v []) (.mk 1 w [])
 |Bl {R:Int->Int->Prop} {n m:Int} {a a' b b':Tm} (ha:Al R a a') (hb:Al (aaw R n m) b b'):Al R (.mk 8 n [a,b]) (.mk 8 m [a',b'])
 |node {R:Int->Int->Prop} {op n:Int} {l l':List Tm} (h1:op≠1) (h8:op≠8) (hl:l.length=l'.length) (h:∀ (i:Nat) (k k':Tm),l[i]? =some k->l'[i]? =some k'->Al R k k'):Al R (.mk op n l) (.mk op n l')
theorem Al.mono {R:Int->Int->Prop}{t t':Tm}(h:Al R t t'):∀ {S:Int->Int->Prop},(∀v w,R v w->S v w)->Al S t t':=by
 induction h with
 |var h=>exact fun hs=> .var (hs _ _ h)
 |Bl ha hb iha ihb=>
  exact fun hs=> .Bl (iha hs) (ihb fun v w h=>h.elim Or.inl fun h=>Or.inr ⟨h.1,h.2.1,hs _ _ h.2.2⟩)
 |node h1 h8 hl h ih=>exact fun hs=> .node h1 h8 hl fun i k k' g g'=>ih i k k' g g' hs
def WV(R S:Int->Int->Prop):Int->Int->Prop:=fun v w=>∃u,R v u/\S u w
theorem Al.comp {R:Int->Int->Prop}{t t1:Tm}(h:Al R t t1):∀ {S:Int->Int->Prop} {t2:Tm},Al S t1 t2->Al (WV R S) t t2:=by
 induction h with
 |var h=>
  intro S t2 h2
  generalize he:Tm.mk 1 _ []=x at h2
  cases h2 with
  |var h3=>injection he with _ e _;subst e;exact .var ⟨_,h,h3⟩
  |Bl _ _=>injection he with e;cases e
  |node g1 _ _ _=>injection he with e;exact absurd e.symm g1
 |Bl ha hb iha ihb=>
  intro S t2 h2
  generalize he:Tm.mk 8 _ _=x at h2
  cases h2 with
  |var h3=>injection he with e;cases e
  |Bl g1 g2=>
   injection he with _ e1 e2
   injection e2 with e2 e3
   injection e3 with e3 _
   subst e1;subst e2;subst e3
   refine .Bl (iha g1) ((ihb g2).mono ?_)
   rintro v w ⟨u,(⟨p1,p2⟩|⟨p1,p2,p3⟩),(⟨q1,q2⟩|⟨q1,q2,q3⟩)⟩
   ·exact Or.inl ⟨p1,q2⟩
   ·exact absurd p2 q1
   ·exact absurd q1 p2
   ·exact Or.inr ⟨p1,q2,u,p3,q3⟩
  |node g1 g8 _ _=>injection he with e;exact absurd e.symm g8
 |node h1 h8 hl h ih=>
  intro S t2 h2
  generalize he:Tm.mk _ _ _=x at h2
  cases h2 with
  |var h3=>injection he with e;exact absurd e h1
  |Bl _ _=>injection he with e;exact absurd e h8
  |node g1 g8 gl g3=>
   injection he with e1 e2 e3
   subst e1;subst e2;subst e3
   refine .node h1 h8 (hl.trans gl) fun i k k2 hk hk2=> ?_
   have bR:i<_:=(List.getElem?_eq_some_iff.1 hk).1
   have K9:=List.getElem?_eq_getElem (hl ▸ bR)
   exact ih i k _ hk K9 (g3 i _ k2 K9 hk2)
theorem JI{t:Tm}(hw:t.wf)(h:t.op=1):t= .mk 1 t.n []:=by
 obtain⟨op,n,kids⟩:=t
 rw[Tm.Bj]at hw
 simp only[Tm.op,Tm.n,Tm.kids]at h hw|-
 rw[h,hw.1 h]
def IC.snd:IC->IC
 | .seq _ y=>y
 |c=>c
def IC.fst:IC->IC
 | .seq x _=>x
 | .block _ x=>x
 | .loop x=>x
 | .cond _ x _=>x
 |c=>c
@[reducible] def aax (m:List (Int×Int)):ab:= .map 3 3 (enc (D.int .i64) (ints m))
@[reducible] def aay (m:List (Int×Int)):ab:= .cM (enc (D.int .i64) (ints m))
def BdV(o:Nat->ab)(bv:V)(m:List (Int×Int)):Prop:=(bv= .d .eQ/\m=[])\/∃b,bv= .mp b/\o b=aay m
structure aaz (o:Nat->ab) (nx cid fid:Nat) (bv:V) (mB bd fr:List (Int×Int)) (n:Int) (sz:Nat):Prop where
 cc:Good o nx
 hc:o cid= .row [.d (.i n), .mp fid]
 hf:o fid=aax fr
 hb:BdV o bv mB
 kb:Keys mB
 lk:∀v,lk mB v=lk bd v
 n0:0<=n
 n1:n+sz<=1000000
@[go_sem] theorem RE {P:Program} {kt:TypeId} {k:D} {i:Nat}:findD P kt k [] i=some none:=rfl
theorem oC:∀l:List Tm,l.length<=pG l
 |[]=>by simp[pG]
 |k::l=>by have:=oC l;have:=Tm.Be k;rw[ow,List.length_cons];omega
theorem Tm.Bm {t k:Tm}(hk:k∈t.kids):k.sz+1<=t.sz:=by
 have:=Tm.u7 hk
 rw[Tm.zk,Tm.zk]at this
 omega
theorem Tm.iY:∀t:Tm,t.sz<=1000000->t.fits:=by
 refine Tm.fk fun t ih h=> ?_
 rw[Tm.bD]
 refine⟨?_,fun k hk=>ih k hk (by have:=Tm.Bm hk;omega)⟩
 have:=oC t.kids
 rw[Tm.lD]at h
 omega
def oD(b:List (Int×Tm)):List (Int×D):=b.map fun p=>(p.1,p.2.d)
@[reducible] def Bn (b:List (Int×Tm)):D:=mpD (oD b)
theorem sV:∀ (m:List (Int×Tm)) (v:Int) (i:Nat),(match gM v (oD m) i with|some (_,x)=>some x|none=>none)=(bZ m v).map Tm.d
 |[],_,_=>rfl
 |p::m,v,i=>by
  have ih:=sV m v (i+1)
  simp only[oD,List.map_cons,gM,bZ]at ih|-
  by_cases h:v=p.1
  ·subst h;simp
  ·have h2: ¬p.1=v:=fun e=>h e.symm
   simp only[beq_iff_eq,h,h2,if_false]
   exact ih
theorem jr{m:List (Int×Tm)}{v:Int}{x:Tm}(h:bZ m v=some x):∃j,gM v (oD m) 0=some (j,x.d):=by
 have:=sV m v 0
 rw[h]at this
 cases h2:gM v (oD m) 0 with
 |none=>rw[h2]at this;cases this
 |some p=>obtain⟨j,y⟩:=p;rw[h2]at this;simp at this;subst this;exact⟨j,rfl⟩
theorem fV{m:List (Int×Tm)}{v:Int}(h:bZ m v=none):gM v (oD m) 0=none:=by
 have:=sV m v 0
 rw[h]at this
 cases h2:gM v (oD m) 0 with
 |none=>rfl
 |some p=>rw[h2]at this;cases this
theorem vf{K:V->List (Nat×ab)->Prop}{id:Nat}{m:List (Int×Tm)}(h0:m=[]->K (.bH [.d (.bool false)]) [])
 (h1:∀ (i:Nat) k x,m[i]? =some (k,x)->K (.bH [.d (.bool true), .d (.int .i64 k), .d x.d]) [(id, .oX (enc (D.int .i64) (oD (m.eraseIdx i))) (some (.int .i64 k,x.d)))]):Co K id (enc (D.int .i64) (oD m)):=by
 refine Eg _ (fun h=>h0 ?_) fun i k x h=> ?_
 ·cases m with
  |nil=>rfl
  |cons x l=>simp[oD]at h
 ·unfold oD at h|-
  rw[List.getElem?_map]at h
  cases hm:m[i]? with
  |none=>rw[hm]at h;cases h
  |some p=>
   rw[hm]at h
   simp at h
   obtain⟨rfl,rfl⟩:=h
   have:=h1 i p.1 p.2 (by rw[hm])
   rw[j9]
   exact this
@[reducible] def lF (m:List (Int×Tm)):ab:= .map 3 33 (enc (D.int .i64) (oD m))
theorem G8{m:List (Int×Tm)}{v:Int}{x:Tm}(h:bZ m v=none):Ee v x.d (oD m)=oD (m++[(v,x)]):=by
 unfold Ee
 rw[fV h]
 simp[oD]
theorem lG(s:aN):∀t:Tm,fK s t=true->t.wf:=by
 refine Tm.fk fun t ih h=> ?_
 rw[jH,Bool.and_eq_true,List.all_eq_true]at h
 rw[Tm.Bj]
 refine⟨fun h1=>G6 h.1 h1,fun h8=> ?_,fun k hk=>ih k hk (h.2 k hk)⟩
 have:=h.1
 simp[a8,h8]at this
 omega
theorem JJ{s:aN}{t:Tm}(h:iz s t=true):t.wf/\t.sz<=40/\t.mD<=12:=by
 simp only[iz,Bool.and_eq_true,decide_eq_true_eq,sM]at h
 exact⟨lG s t h.2,af,af⟩
def ay(l:List TB):List (Int×Tm):=l.map fun x=>(x.var,x.term)
theorem Bo{s:aN}{op n:Int}{l l':List Tm}(h:l'.length=l.length):a8 s (.mk op n l')=a8 s (.mk op n l):=by
 unfold a8
 dsimp only[Tm.op,Tm.n,Tm.kids]
 rw[h]
 rfl
theorem Ev{s:aN}{k:Int}(h:0<=k/\k<20):a8 s (.mk 1 k [])=true:=by
 have:da k 0 19=true:=by simp[da];omega
 simp[a8,Tm.op,Tm.n,Tm.kids,this]
theorem G9{s:aN}:∀t:Tm,fK s t=true->∀v,fR v t=true->0<=v/\v<20:=by
 refine Tm.fk fun t ih h v hv=> ?_
 have hw:=(Tm.Bj t).1 (lG s t h)
 rw[jH,Bool.and_eq_true,List.all_eq_true]at h
 by_cases h1:t.op=1
 ·rw[pI,if_pos h1]at hv
  have hv:t.n=v:=by simpa using hv
  have:=h.1
  simp[a8,h1,da]at this
  omega
 ·by_cases h8:t.op=8
  ·obtain⟨a,body,hk⟩:=P9 (hw.2.1 h8)
   rw[Qa h8 hk,Bool.or_eq_true,Bool.and_eq_true]at hv
   rcases hv with hv|hv
   ·exact ih a (by rw[hk];simp) (h.2 a (by rw[hk];simp)) v hv
   ·exact ih body (by rw[hk];simp) (h.2 body (by rw[hk];simp)) v hv.1
  ·rw[G7 h1 h8,List.any_eq_true]at hv
   obtain⟨k,hk,hv⟩:=hv
   exact ih k hk (h.2 k hk) v hv
def findF(l:List TB)(n:Int):Int:=match l.findIdx? (·.var==n)with|some i=>i|none=> -1
theorem wT(l:List TB)(n:Int):(findF l n<0/\bZ (ay l) n=none)\/∃ (k:Nat) (x:TB),findF l n=k/\l[k]? =some x/\bZ (ay l) n=some x.term:=by
 induction l with
 |nil=>left;exact⟨by simp[findF],rfl⟩
 |cons y l ih=>
  by_cases h:y.var=n
  ·right
   refine⟨0,y, ?_,rfl, ?_⟩
   ·simp[findF,List.findIdx?_cons,h]
   ·simp[ay,bZ,h]
  ·have hf:bZ (ay (y::l)) n=bZ (ay l) n:=by simp[ay,bZ,h]
   have h':(y.var==n)=false:=by simpa using h
   rw[hf]
   unfold findF at ih|-
   rw[List.findIdx?_cons,h']
   simp only[Bool.false_eq_true,if_false]
   rcases ih with⟨h1,h2⟩|⟨k,x,h1,h2,h3⟩
   ·left
    refine⟨?_,h2⟩
    cases hi:l.findIdx? (·.var==n)with
    |none=>simp
    |some i=>rw[hi]at h1;simp at h1;omega
   ·right
    refine⟨k+1,x, ?_,h2,h3⟩
    cases hi:l.findIdx? (·.var==n)with
    |none=>rw[hi]at h1;simp at h1;try omega
    |some i=>rw[hi]at h1;simp at h1|-;try omega
def iJ(g:List Int)(i:Int):Nat:=(g.filter fun x=>decide (x<i)).length
theorem lH{g:List Int}{i:Int}(h:∀x∈g,i<=x):iJ g i=0:=by
 unfold iJ
 rw[List.filter_eq_nil_iff.2 (fun x hx=>by have:=h x hx;simp;omega)];rfl
theorem JK{g:List Int}{i:Int}(h:∀x∈g,x<i):iJ g i=g.length:=by
 unfold iJ
 rw[List.filter_eq_self.2 (fun x hx=>by simpa using h x hx)]
theorem zp:∀ {g:List Int},Es g->∀i:Int,if i∈g then g[iJ g i]? =some i/\iJ g (i+1)=iJ g i+1 else iJ g (i+1)=iJ g i
 |[],_,i=>by simp[iJ]
 |x::g,hg,i=>by
  have RF:=List.pairwise_cons.1 hg
  have ih:=zp RF.2 i
  have hc:∀j,iJ (x::g) j=(if x<j then 1 else 0)+iJ g j:=fun j=>by
   unfold iJ
   rw[List.filter_cons]
   by_cases e:x<j
   ·simp[e];omega
   ·simp[e]
  rcases Int.lt_trichotomy x i with h|h|h
  ·have hm:(i∈x::g)↔i∈g:=by simp;omega
   simp only[hm,hc,if_pos h,if_pos (show x<i+1 by omega)]
   split
   ·rename_i e
    rw[if_pos e]at ih
    refine⟨?_,af⟩
    rw[show 1+iJ g i=iJ g i+1 by omega,List.getElem?_cons_succ]
    exact ih.1
   ·rename_i e
    rw[if_neg e]at ih
    omega
  ·subst h
   have z1:iJ g x=0:=lH fun y hy=>by have:=RF.1 y hy;omega
   have z2:iJ g (x+1)=0:=lH fun y hy=>by have:=RF.1 y hy;omega
   rw[if_pos (by simp),hc,hc,z1,z2,if_neg (by omega),if_pos (by omega)]
   exact⟨rfl,rfl⟩
  ·have hm: ¬i∈x::g:=by
    intro hm
    rcases List.mem_cons.1 hm with rfl|hm
    ·omega
    ·have:=RF.1 i hm;omega
   have z1:iJ g i=0:=lH fun y hy=>by have:=RF.1 y hy;omega
   have z2:iJ g (i+1)=0:=lH fun y hy=>by have:=RF.1 y hy;omega
   rw[if_neg hm,hc,hc,z1,z2,if_neg (by omega),if_neg (by omega)]
theorem wU{ns:List Int}(h:∀n∈ns,0<=n/\n<20)(hi:Es ns):ns.length<=20:=by
 have hc:∀k:Nat,iJ ns (k:Int)<=k:=by
  intro k
  induction k with
  |zero=>show iJ ns (0:Int)<=0;rw[lH (fun x hx=>(h x hx).1)];exact Nat.le_refl _
  |succ k ih=>
   have:=zp hi (k:Int)
   rw[Int.natCast_succ]
   split at this<;>omega
 have:iJ ns (20:Int)<=20:=hc 20
 rwa [JK (fun x hx=>(h x hx).2)]at this
mutual
def dy(b:List (Int×Tm)):Tm->Tm
 | .mk op n kids=>if op=1 then(match bZ b n with|some x=>x|none=> .mk op n kids)else .mk op n (JL b kids)
def JL(b:List (Int×Tm)):List Tm->List Tm
 |[]=>[]
 |k::l=>dy b k::JL b l
end
theorem zq(b:List (Int×Tm)):∀l:List Tm,JL b l=l.map (dy b)
 |[]=>rfl
 |k::l=>by simp[JL,zq b l]
theorem Bp(b:List (Int×Tm))(t:Tm):dy b t=if t.op=1 then(match bZ b t.n with|some x=>x|none=>t)else .mk t.op t.n (t.kids.map (dy b)):=by
 cases t;simp only[dy,zq,Tm.op,Tm.n,Tm.kids];rfl
def Lv(b:List (Int×Tm))(v:Int):Tm:=match bZ b v with|some x=>x|none=> .mk 1 v []
def vop(t:Tm):Prop:=(1<=t.op/\t.op<=3)\/t.op=5
def Vs(s:aN)(t:Tm):Prop:=fK s t=true/\eG t=true
theorem pJ{s:aN}{t:Tm}:Vs s t↔a8 s t=true/\vop t/\∀k∈t.kids,Vs s k:=by
 unfold Vs vop
 rw[jH,pF]
 simp only[Bool.and_eq_true,List.all_eq_true,Bool.or_eq_true,decide_eq_true_eq,beq_iff_eq]
 constructor
 ·rintro⟨⟨h1,h2⟩,h3,h4⟩;exact⟨h1,h4,fun k hk=>⟨h2 k hk,h3 k hk⟩⟩
 ·rintro⟨h1,h2,h3⟩;exact⟨⟨h1,fun k hk=>(h3 k hk).1⟩,fun k hk=>(h3 k hk).2,h2⟩
theorem Vs.zj {s:aN}{t k:Tm}(h:Vs s t)(hk:k∈t.kids):Vs s k:=(pJ.1 h).2.2 k hk
theorem Vs.eta {s:aN}{t:Tm}(h:Vs s t)(h1:t.op=1):t= .mk 1 t.n []:=JI (lG s t h.1) h1
theorem Vs.n8 {s:aN}{t:Tm}(h:Vs s t):t.op≠8:=by rcases(pJ.1 h).2.1 with h|h<;>omega
theorem Vs.range {s:aN}{t:Tm}(h:Vs s t){v:Int}(hv:fR v t=true):0<=v/\v<20:=G9 t h.1 v hv
theorem Vs.var {s:aN}{v:Int}(h:0<=v/\v<20):Vs s (.mk 1 v []):=pJ.2 ⟨Ev h,Or.inl ⟨by show(1:Int)<=1;omega,by show(1:Int)<=3;omega⟩,fun k hk=>by cases hk⟩
theorem Vs.mk' {s:aN}{t:Tm}{l:List Tm}(h:Vs s t)(hl:l.length=t.kids.length)(hk:∀k∈l,Vs s k):Vs s (.mk t.op t.n l):=
 pJ.2 ⟨by rw[Bo hl,Tm.eta];exact(pJ.1 h).1,(pJ.1 h).2.1,hk⟩
theorem mm{t:Tm}(h1:t.op=1){v:Int}:fR v t=true↔t.n=v:=by rw[pI,if_pos h1];simp
theorem vg{s:aN}{t:Tm}(h:Vs s t)(h1:t.op≠1){v:Int}:fR v t=true↔∃k∈t.kids,fR v k=true:=by rw[G7 h1 h.n8,List.any_eq_true]
theorem ku{b:List (Int×Tm)}{s:aN}{t:Tm}(h:Vs s t)(h1:t.op=1):dy b t=Lv b t.n:=by
 rw[Bp,if_pos h1,Lv]
 cases bZ b t.n with
 |some x=>rfl
 |none=>exact h.eta h1
theorem wV{b:List (Int×Tm)}{v:Int}:dy b (.mk 1 v [])=Lv b v:=by rw[Bp];rfl
theorem mG{b:List (Int×Tm)}{t:Tm}(h1:t.op≠1):dy b t= .mk t.op t.n (t.kids.map (dy b)):=by rw[Bp,if_neg h1]
theorem CV{s:aN}{b c d:List (Int×Tm)}:∀t:Tm,Vs s t->(∀v,fR v t=true->dy c (Lv b v)=Lv d v)->dy c (dy b t)=dy d t:=by
 refine Tm.fk fun t ih hv h=> ?_
 by_cases h1:t.op=1
 ·rw[ku hv h1,ku hv h1,h _ ((mm h1).2 rfl)]
 ·rw[mG h1,mG h1 (b:=d),mG (by exact h1)]
  show Tm.mk t.op t.n ((t.kids.map (dy b)).map (dy c))=_
  rw[List.map_map,List.map_congr_left (f:=dy c∘dy b) (g:=dy d) fun k hk=>ih k hk (hv.zj hk) fun v JM=>h v ((vg hv h1).2 ⟨k,hk,JM⟩)]
theorem MB{s:aN}{b:List (Int×Tm)}:∀t:Tm,Vs s t->(∀v,fR v t=true->bZ b v=none)->dy b t=t:=by
 refine Tm.fk fun t ih hv h=> ?_
 by_cases h1:t.op=1
 ·rw[ku hv h1,Lv,h _ ((mm h1).2 rfl)]
  exact(hv.eta h1).symm
 ·rw[mG h1,List.map_congr_left (g:=id) fun k hk=>ih k hk (hv.zj hk) fun v JM=>h v ((vg hv h1).2 ⟨k,hk,JM⟩),List.map_id]
  exact Tm.eta t
theorem Vs.Lv {s:aN}{b:List (Int×Tm)}(hb:∀p∈b,Vs s p.2){v:Int}(h:0<=v/\v<20):Vs s (Lv b v):=by
 unfold YtlhemmpklhhgoaaGreat.Lv
 cases hl:bZ b v with
 |some x=>exact hb _ (dt hl)
 |none=>exact Vs.var h
theorem Vs.sub {s:aN}{b:List (Int×Tm)}(hb:∀p∈b,Vs s p.2):∀t:Tm,Vs s t->Vs s (dy b t):=by
 refine Tm.fk fun t ih hv=> ?_
 by_cases h1:t.op=1
 ·rw[ku hv h1];exact Vs.Lv hb (hv.range ((mm h1).2 rfl))
 ·rw[mG h1]
  refine hv.mk' aK fun k hk=> ?_
  obtain⟨x,hx,rfl⟩:=List.mem_map.1 hk
  exact ih x hx (hv.zj hx)
theorem qq{s:aN}{b:List (Int×Tm)}(hb:∀p∈b,Vs s p.2):∀t:Tm,Vs s t->∀v,fR v (dy b t)=true↔∃u,fR u t=true/\fR v (Lv b u)=true:=by
 refine Tm.fk fun t ih hv v=> ?_
 by_cases h1:t.op=1
 ·rw[ku hv h1]
  simp only[mm h1]
  exact⟨fun h=>⟨_,rfl,h⟩,fun⟨u,e,h⟩=>e ▸ h⟩
 ·have Ha:=Vs.sub hb t hv
  rw[mG h1]at Ha|-
  rw[vg Ha (by exact h1)]
  simp only[vg hv h1,Tm.kids,List.mem_map]
  constructor
  ·rintro⟨_,⟨k,hk,rfl⟩,h⟩
   obtain⟨u,h2,h3⟩:=(ih k hk (hv.zj hk) v).1 h
   exact⟨u,⟨k,hk,h2⟩,h3⟩
  ·rintro⟨u,⟨k,hk,h2⟩,h3⟩
   exact⟨_,⟨k,hk,rfl⟩,(ih k hk (hv.zj hk) v).2 ⟨u,h2,h3⟩⟩
def sW:List TB->Int->Tm->List TB
 |[],n,t=>[⟨n,t⟩]
 |x::l,n,t=>if x.var<n then x::sW l n t else⟨n,t⟩::x::l
abbrev wW(n:Int)(t:Tm):List (Int×Tm):=[(n,t)]
def sX(l:List TB)(n:Int)(t:Tm):List TB:=sW (l.map fun x=>⟨x.var,dy (wW n t) x.term⟩) n t
theorem Qb{l:List TB}{n:Int}{t:Tm}(hn:bZ (ay l) n=none)(v:Int):bZ (ay (sW l n t)) v=if v=n then some t else bZ (ay l) v:=by
 induction l with
 |nil=>
  simp only[sW,ay,List.map_cons,List.map_nil,bZ]
  by_cases e:v=n
  ·simp[e]
  ·exact E8
 |cons x l ih=>
  simp only[ay,List.map_cons,bZ]at hn
  by_cases e1:x.var=n
  ·rw[if_pos e1]at hn;cases hn
  ·rw[if_neg e1]at hn
   have ih:=ih hn
   simp only[sW]
   split
   ·simp only[ay,List.map_cons,bZ]at ih|-
    by_cases e:x.var=v
    ·rw[if_pos e,if_pos e,if_neg fun h=>e1 (e.trans h)]
    ·rw[if_neg e,if_neg e];exact ih
   ·simp only[ay,List.map_cons,bZ]
    by_cases e:v=n
    ·simp[e]
    ·exact E8
theorem Hb(l:List TB)(g:Tm->Tm)(v:Int):bZ (ay (l.map fun x=>⟨x.var,g x.term⟩)) v=(bZ (ay l) v).map g:=by
 induction l with
 |nil=>rfl
 |cons x l ih=>
  simp only[ay,List.map_cons,bZ]at ih|-
  split
  ·rfl
  ·exact ih
theorem wX{l:List TB}{n:Int}{t:Tm}(hn:bZ (ay l) n=none)(v:Int):bZ (ay (sX l n t)) v=if v=n then some t else(bZ (ay l) v).map (dy (wW n t)):=by
 unfold sX
 rw[Qb (by rw[Hb,hn];rfl),Hb]
theorem Bq{n v:Int}{t:Tm}:Lv (wW n t) v=if v=n then t else .mk 1 v []:=by
 simp only[Lv,wW,bZ]
 by_cases e:v=n
 ·simp[e]
 ·exact E8
theorem wY{l:List TB}{n:Int}{t:Tm}(hn:bZ (ay l) n=none)(v:Int):Lv (ay (sX l n t)) v=if v=n then t else dy (wW n t) (Lv (ay l) v):=by
 simp only[Lv,wX hn]
 by_cases e:v=n
 ·simp[e]
 ·simp only[if_neg e]
  cases h:bZ (ay l) v with
  |some x=>rfl
  |none=>simp only[Option.map_none];rw[wV,Bq,if_neg e]
structure tq (s:aN) (l:List TB):Prop where
 srt:l.Pairwise fun x y=>x.var<y.var
 ok:∀x∈l,(0<=x.var/\x.var<20)/\Vs s x.term
 idem:∀x∈l,∀u,fR u x.term=true->bZ (ay l) u=none
theorem tq.nil {s:aN}:tq s []:=⟨List.Pairwise.nil,fun _ h=>(by cases h),fun _ h=>(by cases h)⟩
theorem tq.bd {s:aN}{l:List TB}(h:tq s l):∀p∈ay l,Vs s p.2:=fun p hp=>by
 obtain⟨x,hx,rfl⟩:=List.mem_map.1 hp
 exact(h.ok x hx).2
theorem lZ{l:List TB}{v:Int}{t:Tm}(h:bZ (ay l) v=some t):∃x∈l,x.var=v/\x.term=t:=by
 obtain⟨x,hx,e⟩:=List.mem_map.1 (dt h)
 injection e with e1 e2
 exact⟨x,hx,e1,e2⟩
theorem tq.JN {s:aN}{l:List TB}(h:tq s l){v u:Int}(hu:fR u (Lv (ay l) v)=true):bZ (ay l) u=none:=by
 unfold Lv at hu
 cases hl:bZ (ay l) v with
 |some x=>
  rw[hl]at hu
  obtain⟨y,hy,e1,e2⟩:=lZ hl
  exact h.idem y hy u (e2 ▸ hu)
 |none=>
  rw[hl]at hu
  have:v=u:=by rw[sU]at hu;simpa using hu
  exact this ▸ hl
theorem tq.free {s:aN}{l:List TB}(h:tq s l){t:Tm}(ht:Vs s t){u:Int}(hu:fR u (dy (ay l) t)=true):bZ (ay l) u=none:=by
 obtain⟨w,_,h2⟩:=(qq h.bd t ht u).1 hu
 exact h.JN h2
def zr(l l':List TB):Prop:=∀v,dy (ay l') (Lv (ay l) v)=Lv (ay l') v
theorem zr.sub {s:aN}{l l':List TB}(h:zr l l'){t:Tm}(ht:Vs s t):dy (ay l') (dy (ay l) t)=dy (ay l') t:=CV t ht fun v _=>h v
theorem zr.refl {s:aN}{l:List TB}(h:tq s l):zr l l:=fun v=>by
 cases hl:bZ (ay l) v with
 |none=>rw[show Lv (ay l) v= .mk 1 v [] by simp[Lv,hl],wV];simp[Lv,hl]
 |some x=>
  have hx:Lv (ay l) v=x:=by simp[Lv,hl]
  obtain⟨y,hy,e1,e2⟩:=lZ hl
  rw[hx]
  exact MB (s:=s) x (e2 ▸ (h.ok y hy).2) fun u hu=>h.idem y hy u (e2 ▸ hu)
theorem zr.trans {s:aN}{l l' l'':List TB}(hl:tq s l)(h:zr l l')(h':zr l' l'')(hr:∀v,bZ (ay l) v≠none->0<=v/\v<20):zr l l'':=fun v=>by
 cases hv:bZ (ay l) v with
 |none=>rw[show Lv (ay l) v= .mk 1 v [] by simp[Lv,hv],wV]
 |some x=>
  have hx:Lv (ay l) v=x:=by simp[Lv,hv]
  obtain⟨y,hy,e1,e2⟩:=lZ hv
  have Ha:Vs s x:=e2 ▸ (hl.ok y hy).2
  rw[hx, <- h'.sub Ha, <- hx,h v,h' v]
theorem tq.Hc {s:aN}{l:List TB}(h:tq s l){v:Int}(hv:bZ (ay l) v≠none):0<=v/\v<20:=by
 cases hl:bZ (ay l) v with
 |none=>exact absurd hl hv
 |some x=>obtain⟨y,hy,e1,e2⟩:=lZ hl;exact e1 ▸ (h.ok y hy).1
theorem wZ{l:List TB}{n:Int}{t:Tm}{x:TB}:x∈sW l n t↔x=⟨n,t⟩\/x∈l:=by
 induction l with
 |nil=>simp[sW]
 |cons y l ih=>
  simp only[sW]
  split
  ·simp only[List.mem_cons,ih]
   constructor
   ·rintro(h|h|h)
    ·exact Or.inr (Or.inl h)
    ·exact Or.inl h
    ·exact Or.inr (Or.inr h)
   ·rintro(h|h|h)
    ·exact Or.inr (Or.inl h)
    ·exact Or.inl h
    ·exact Or.inr (Or.inr h)
  ·simp only[List.mem_cons]
theorem JO{l:List TB}{n:Int}{t:Tm}(h:l.Pairwise fun x y=>x.var<y.var)(hn:∀x∈l,x.var≠n):(sW l n t).Pairwise fun x y=>x.var<y.var:=by
 induction l with
 |nil=>simp[sW]
 |cons y l ih=>
  rw[List.pairwise_cons]at h
  simp only[sW]
  split
  ·rename_i hy
   rw[List.pairwise_cons]
   refine⟨fun z hz=> ?_,ih h.2 fun x hx=>hn x pR⟩
   rcases wZ.1 hz with rfl|hz
   ·exact hy
   ·exact h.1 z hz
  ·rename_i hy
   have:=hn y aK
   rw[List.pairwise_cons,List.pairwise_cons]
   refine⟨fun z hz=> ?_,h⟩
   rcases List.mem_cons.1 hz with rfl|hz
   ·show n<z.var;omega
   ·have:=h.1 z hz;show n<z.var;omega
theorem tO{l:List TB}{n:Int}(h:bZ (ay l) n=none):∀x∈l,x.var≠n:=fun x hx e=>by
 rw[oA]at h
 exact h (List.mem_map.2 ⟨(x.var,x.term),List.mem_map.2 ⟨x,hx,rfl⟩,e⟩)
theorem Hd{s:aN}{l:List TB}(h:tq s l){n:Int}{t:Tm}(hr:0<=n/\n<20)(hn:bZ (ay l) n=none)(ht:Vs s t)(hf:∀u,fR u t=true->bZ (ay l) u=none)(XH: ¬fR n t=true):tq s (sX l n t):=by
 have h1:∀p∈wW n t,Vs s p.2:=fun p hp=>by simp[wW]at hp;subst hp;exact ht
 have He:∀u,u≠n->bZ (ay l) u=none->bZ (ay (sX l n t)) u=none:=fun u e hu=>by rw[wX hn,if_neg e,hu];rfl
 refine⟨?_,fun x hx=> ?_,fun x hx u hu=> ?_⟩
 ·refine JO ?_ ?_
  ·rw[List.pairwise_map];exact h.srt
  ·intro x hx
   obtain⟨y,hy,rfl⟩:=List.mem_map.1 hx
   exact tO hn y hy
 ·rcases wZ.1 hx with rfl|hx
  ·exact⟨hr,ht⟩
  ·obtain⟨y,hy,rfl⟩:=List.mem_map.1 hx
   exact⟨(h.ok y hy).1,Vs.sub h1 _ (h.ok y hy).2⟩
 ·rcases wZ.1 hx with rfl|hx
  ·exact He u (fun e=>XH (e ▸ hu)) (hf u hu)
  ·obtain⟨y,hy,rfl⟩:=List.mem_map.1 hx
   obtain⟨w,hw,KW⟩:=(qq h1 _ (h.ok y hy).2 u).1 hu
   rw[Bq]at KW
   split at KW
   ·exact He u (fun e=>XH (e ▸ KW)) (hf u KW)
   ·rename_i e
    have:w=u:=by rw[sU]at KW;simpa using KW
    subst this
    exact He w e (h.idem y hy w hw)
def oN:Nat->List (Int×Tm)->Tm->Option Tm
 |0,_,_=>none
 |f+1,b,t=>if t.op=1 then(match bZ b t.n with|some x=>oN f b x|none=>some t)else some t
theorem iE{b:List (Int×Tm)}:∀ {f g:Nat} {t x:Tm},oN f b t=some x->f<=g->oN g b t=some x
 |0,_,_,_,h,_=>by cases h
 |f+1,0,_,_,_,h=>af
 |f+1,g+1,t,x,h,hg=>by
  simp only[oN]at h|-
  split
  ·rename_i h1
   rw[if_pos h1]at h
   cases hl:bZ b t.n with
   |none=>rw[hl]at h;exact h
   |some y=>rw[hl]at h;exact iE (f:=f) h af
  ·rename_i h1
   rw[if_neg h1]at h
   exact h
structure qZ (s:aN) (b:List (Int×Tm)) (l:List TB) (ρ:Int->Nat) (R:Nat):Prop where
 keys:(b.map (·.1)).Nodup
 Hc:∀v,bZ b v=none↔bZ (ay l) v=none
 ok:∀v x,bZ b v=some x->Vs s x/\Lv (ay l) v=dy (ay l) x/\∀u,fR u x=true->ρ u<ρ v
 bd:∀v,ρ v<=R
theorem qZ.nil {s:aN}:qZ s [] [] (fun _=>0) 0:=⟨List.nodup_nil,fun _=>Iff.rfl,fun _ _ h=>(by cases h),fun _=>Nat.le_refl _⟩
theorem qZ.at {s:aN}{b:List (Int×Tm)}{l:List TB}{ρ:Int->Nat}{R:Nat}(h:qZ s b l ρ R):∀ (m:Nat) (t:Tm),Vs s t->(t.op=1->ρ t.n<=m)->∃x,oN (m+2) b t=some x/\Vs s x/\dy (ay l) x=dy (ay l) t/\(x.op=1->bZ b x.n=none)/\(t.op≠1->x=t)/\(t.op=1->(∀u,fR u x=true->ρ u<=ρ t.n)/\(x.op≠1->∀u,fR u x=true->ρ u<ρ t.n)):=by
 intro m
 induction m with
 |zero=>
  intro t hv hm
  by_cases h1:t.op=1
  ·cases hl:bZ b t.n with
   |none=>
    exact SN
   |some x=>
    obtain⟨g1,g2,g3⟩:=h.ok _ _ hl
    by_cases hx:x.op=1
    ·have:=g3 x.n ((mm hx).2 rfl)
     have:=hm h1
     omega
    ·refine⟨x,by simp only[oN,if_pos h1,hl,if_neg hx],g1,by rw[<- g2,ku hv h1],fun h=>absurd h hx,fun h=>absurd h1 h,fun _=>⟨fun u hu=>Nat.le_of_lt (g3 u hu),fun _=>g3⟩⟩
  ·exact R8
 |succ m ih=>
  intro t hv hm
  by_cases h1:t.op=1
  ·cases hl:bZ b t.n with
   |none=>
    exact SN
   |some x=>
    obtain⟨g1,g2,g3⟩:=h.ok _ _ hl
    obtain⟨y,i1,i2,i3,i4,i5,i6⟩:=ih x g1 (fun hx=>by have:=g3 x.n ((mm hx).2 rfl);have:=hm h1;omega)
    refine⟨y,by rw[oN,if_pos h1,hl];exact i1,i2,by rw[i3, <- g2,ku hv h1],i4,fun h=>absurd h1 h,fun _=> ?_⟩
    by_cases hx:x.op=1
    ·have g4:=g3 x.n ((mm hx).2 rfl)
     exact⟨fun u hu=>by have:=(i6 hx).1 u hu;omega,fun h2 u hu=>by have:=(i6 hx).2 h2 u hu;omega⟩
    ·rw[i5 hx]
     exact⟨fun u hu=>Nat.le_of_lt (g3 u hu),fun _=>g3⟩
  ·exact R8
theorem qZ.root {s:aN}{b:List (Int×Tm)}{l:List TB}{ρ:Int->Nat}{R:Nat}(h:qZ s b l ρ R){t:Tm}(hv:Vs s t):∃x,oN (R+2) b t=some x/\Vs s x/\dy (ay l) x=dy (ay l) t/\(x.op=1->bZ b x.n=none)/\(t.op≠1->x=t)/\(t.op=1->(∀u,fR u x=true->ρ u<=ρ t.n)/\(x.op≠1->∀u,fR u x=true->ρ u<ρ t.n)):=
 h.at R t hv fun _=>h.bd _
theorem zu(l:List (Int×Tm))(p:Int×Tm)(v:Int):bZ (l++[p]) v=match bZ l v with|some x=>some x|none=>if p.1=v then some p.2 else none:=by
 induction l with
 |nil=>simp[bZ]
 |cons q l ih=>
  simp only[List.cons_append,bZ]
  split
  ·rfl
  ·exact ih
theorem one_sub{s:aN}{l:List TB}{n:Int}{t:Tm}(hn:bZ (ay l) n=none){x:Tm}(hx:Vs s x):dy (wW n t) (dy (ay l) x)=dy (ay (sX l n t)) x:=by
 refine CV x hx fun u _=> ?_
 rw[wY hn]
 split
 ·rename_i e
  rw[e,show Lv (ay l) n= .mk 1 n [] by simp[Lv,hn],wV,Bq,if_pos rfl]
 ·rfl
theorem qZ.ext {s:aN}{b:List (Int×Tm)}{l:List TB}{ρ:Int->Nat}{R:Nat}(h:qZ s b l ρ R)(hl:tq s l){n:Int}(hn:bZ b n=none){y:Tm}(hy:Vs s y)(WW: ¬fR n (dy (ay l) y)=true):
 ∃ρ' R',qZ s (b++[(n,y)]) (sX l n (dy (ay l) y)) ρ' R':=by
 have IG:=(h.Hc n).1 hn
 refine⟨fun v=>if fR n (Lv (ay l) v)=true then R+1+ρ v else ρ v,2*R+1, ?_,fun v=> ?_,fun v x hx=> ?_,fun v=> ?_⟩
 ·rw[List.map_append,List.map_cons,List.map_nil,List.nodup_append]
  refine⟨h.keys,aK,fun a ha c hc=> ?_⟩
  simp at hc
  subst hc
  exact fun e=>(oA.1 hn) (e ▸ ha)
 ·rw[zu,wX IG]
  by_cases e:v=n
  ·subst e;simp[hn]
  ·rw[if_neg e]
   cases hv:bZ b v with
   |some x=>
    simp only[reduceCtorEq,false_iff]
    intro h2
    cases h3:bZ (ay l) v with
    |some y=>rw[h3]at h2;cases h2
    |none=>rw[(h.Hc v).2 h3]at hv;cases hv
   |none=>
    simp[(h.Hc v).1 hv]
    exact fun h=>e h.symm
 ·rw[zu]at hx
  cases hv:bZ b v with
  |some z=>
   rw[hv]at hx
   injection hx with hx
   subst hx
   have hvn:v≠n:=fun e=>by rw[e,hn]at hv;cases hv
   obtain⟨g1,g2,g3⟩:=h.ok v z hv
   refine⟨g1,by rw[wY IG,if_neg hvn,g2,one_sub IG g1],fun u hu=> ?_⟩
   have h3:=g3 u hu
   have h4:fR n (Lv (ay l) u)=true->fR n (Lv (ay l) v)=true:=fun h5=>by rw[g2];exact(qq hl.bd z g1 n).2 ⟨u,hu,h5⟩
   by_cases h5:fR n (Lv (ay l) u)=true
   ·rw[if_pos h5,if_pos (h4 h5)];omega
   ·rw[if_neg h5];split<;>omega
  |none=>
   rw[hv]at hx
   simp only at hx
   split at hx
   ·rename_i e
    injection hx with hx
    subst hx;subst e
    refine⟨hy, ?_,fun u hu=> ?_⟩
    ·rw[wY IG,if_pos rfl, <- one_sub IG hy]
     exact(MB (s:=s) _ (Vs.sub hl.bd y hy) fun v hv=>by
      have: ¬n=v:=fun e=>by subst e;exact WW hv
      simp[wW,bZ,this]).symm
    ·have h5: ¬fR n (Lv (ay l) u)=true:=fun h5=>WW ((qq hl.bd y hy n).2 ⟨u,hu,h5⟩)
     have h6:fR n (Lv (ay l) n)=true:=by rw[show Lv (ay l) n= .mk 1 n [] by simp[Lv,IG],sU];simp
     have:=h.bd u
     simp only[if_neg h5,if_pos h6]
     omega
   ·cases hx
 ·have:=h.bd v
  split<;>omega
theorem tq.len {s:aN}{l:List TB}(h:tq s l):l.length<=20:=by
 have:=wU (ns:=l.map (·.var)) (fun n hn=>by obtain⟨x,hx,rfl⟩:=List.mem_map.1 hn;exact(h.ok x hx).1) (by rw[Es,List.pairwise_map];exact h.srt)
 rwa [List.length_map]at this
mutual
def pK:Tm->List Int
 | .mk op n kids=>if op=1 then [n]else JP kids
def JP:List Tm->List Int
 |[]=>[]
 |k::l=>pK k++JP l
end
theorem zw:∀l:List Tm,JP l=l.flatMap pK
 |[]=>rfl
 |k::l=>by rw[JP,zw l,List.flatMap_cons]
theorem Hf(t:Tm):pK t=if t.op=1 then [t.n]else t.kids.flatMap pK:=by
 cases t;rw[pK,zw];rfl
theorem MC{s:aN}:∀t:Tm,Vs s t->∀v,v∈pK t↔fR v t=true:=by
 refine Tm.fk fun t ih hv v=> ?_
 rw[Hf]
 by_cases h1:t.op=1
 ·rw[if_pos h1,mm h1,List.mem_singleton];exact eq_comm
 ·rw[if_neg h1,vg hv h1,List.mem_flatMap]
  exact⟨fun⟨k,hk,h⟩=>⟨k,hk,(ih k hk (hv.zj hk) v).1 h⟩,fun⟨k,hk,h⟩=>⟨k,hk,(ih k hk (hv.zj hk) v).2 h⟩⟩
inductive oE (b:List (Int×Tm)) (n:Int):Tm->Prop where
 |here {t:Tm}:fR n t=true->oE b n t
 |step {t:Tm} {v:Int} {x:Tm}:fR v t=true->bZ b v=some x->oE b n x->oE b n t
theorem oE.mono {b c:List (Int×Tm)}(h:∀v x,bZ b v=some x->bZ c v=some x){t:Tm}{n:Int}(hr:oE b n t):oE c n t:=by
 induction hr with
 |here h1=>exact .here h1
 |step h1 h2 _ ih=>exact .step h1 (h _ _ h2) ih
def Hg(F:Tm->List Int->Option (Bool×List Int))(b:List (Int×Tm))(n:Int):List Int->List Int->Option (Bool×List Int)
 |[],met=>some (false,met)
 |v::vs,met=>if v=n then some (true,met)else
  match bZ b v with
  |none=>Hg F b n vs met
  |some x=>if v∈met then Hg F b n vs met else
   match F x (dq met v)with
   |some (true,m)=>some (true,m)
   |some (false,m)=>Hg F b n vs m
   |none=>none
def H5:Nat->List (Int×Tm)->Int->Tm->List Int->Option (Bool×List Int)
 |0,_,_,_,_=>none
 |f+1,b,n,t,met=>Hg (H5 f b n) b n (pK t) met
theorem oF{F G:Tm->List Int->Option (Bool×List Int)}(H6:∀x m r,F x m=some r->G x m=some r){b:List (Int×Tm)}{n:Int}:∀ {vs met:List Int} {r:Bool×List Int},Hg F b n vs met=some r->Hg G b n vs met=some r
 |[],_,_,h=>h
 |v::vs,met,r,h=>by
  simp only[Hg]at h|-
  split at h
  ·rename_i e;rw[if_pos e];exact h
  ·rename_i e
   rw[if_neg e]
   split at h
   ·exact oF H6 h
   ·split at h
    ·rename_i e2;rw[if_pos e2];exact oF H6 h
    ·rename_i x _ e2
     rw[if_neg e2]
     cases hF:F x (dq met v)with
     |none=>rw[hF]at h;cases h
     |some q=>
      rw[hF]at h
      rw[H6 _ _ _ hF]
      obtain⟨is,m⟩:=q
      cases is with
      |true=>exact h
      |false=>exact oF H6 h
theorem zA{b:List (Int×Tm)}{n:Int}:∀ {f g:Nat} {t:Tm} {met:List Int} {r:Bool×List Int},H5 f b n t met=some r->f<=g->H5 g b n t met=some r
 |0,_,_,_,_,h,_=>by cases h
 |f+1,0,_,_,_,h,hg=>af
 |f+1,g+1,t,met,r,h,hg=>oF (fun x m q hq=>zA hq af) h
def Br(b:List (Int×Tm))(n:Int)(m:List Int)(t:Tm):Prop:=∀v,fR v t=true->v≠n/\∀x,bZ b v=some x->v∈m
theorem Br.mono {b:List (Int×Tm)}{n:Int}{m m':List Int}(h:∀v∈m,v∈m'){t:Tm}(ht:Br b n m t):Br b n m' t:=fun v hv=>⟨(ht v hv).1,fun x hx=>h v ((ht v hv).2 x hx)⟩
def LdQ(b:List (Int×Tm))(n:Int)(met:List Int)(t:Tm)(is:Bool)(ej:List Int):Prop:=
 (is=true->oE b n t)/\(is=false->(∀v∈met,v∈ej)/\Br b n ej t/\∀v∈ej,v∉met->∀x,bZ b v=some x->Br b n ej x)
def tx(b:List (Int×Tm))(met:List Int):Nat:=((b.map (·.1)).filter fun v=> !met.contains v).length
theorem q8{b:List (Int×Tm)}{met:List Int}{v:Int}{x:Tm}(h:bZ b v=some x)(hm:v∉met):tx b (dq met v)<tx b met:=by
 unfold tx
 have hv:v∈b.map (·.1):=List.mem_map.2 ⟨_,dt h,rfl⟩
 generalize b.map (·.1)=ks at hv
 have hle:∀ks:List Int,(ks.filter fun u=> !(dq met v).contains u).length<=(ks.filter fun u=> !met.contains u).length:=by
  intro ks
  refine(List.Sublist.length_le ?_)
  rw[show(ks.filter fun u=> !(dq met v).contains u)=(ks.filter fun u=> !met.contains u).filter fun u=> !(dq met v).contains u by
   rw[List.filter_filter]
   congr 1
   funext u
   cases e:(dq met v).contains u with
   |true=>rfl
   |false=>
    cases e2:met.contains u with
    |false=>rfl
    |true=>
     rw[List.contains_iff_mem]at e2
     have:(dq met v).contains u=true:=List.contains_iff_mem.2 (iD.2 (.inl e2))
     rw[this]at e;cases e]
  exact List.filter_sublist
 induction ks with
 |nil=>cases hv
 |cons u ks ih=>
  by_cases e:u=v
  ·subst e
   have h1:(dq met u).contains u=true:=List.contains_iff_mem.2 (iD.2 (.inr rfl))
   have h2:met.contains u=false:=by rw[Bool.eq_false_iff];intro h;exact hm (List.contains_iff_mem.1 h)
   rw[List.filter_cons,List.filter_cons,h1,h2]
   simp only[Bool.not_true,Bool.false_eq_true,if_false,Bool.not_false,if_true,List.length_cons]
   have:=hle ks
   omega
  ·have nm:v∈ks:=by
    rcases List.mem_cons.1 hv with h|h
    ·exact absurd h.symm e
    ·exact h
   have:=ih nm
   rw[List.filter_cons,List.filter_cons]
   have hu:(dq met v).contains u=met.contains u:=by
    rw[Bool.eq_iff_iff,List.contains_iff_mem,List.contains_iff_mem,iD]
    exact⟨fun h=>h.elim id fun h=>absurd h e, .inl⟩
   rw[hu]
   split
   ·rw[List.length_cons,List.length_cons];omega
   ·exact this
theorem zB{b:List (Int×Tm)}{m m':List Int}(h:∀v∈m,v∈m'):tx b m'<=tx b m:=by
 unfold tx
 refine List.Sublist.length_le ?_
 rw[show((b.map (·.1)).filter fun u=> !m'.contains u)=((b.map (·.1)).filter fun u=> !m.contains u).filter fun u=> !m'.contains u by
  rw[List.filter_filter]
  congr 1
  funext u
  cases e:m'.contains u with
  |true=>rfl
  |false=>
   cases e2:m.contains u with
   |false=>rfl
   |true=>
    rw[List.contains_iff_mem]at e2
    have:m'.contains u=true:=List.contains_iff_mem.2 (h u e2)
    rw[this]at e;cases e]
 exact List.filter_sublist
theorem CW{s:aN}{b:List (Int×Tm)}(hb:∀p∈b,Vs s p.2)(n:Int):∀ (N:Nat) (t:Tm) (met:List Int),tx b met<=N->Vs s t->∃is ej,H5 (N+1) b n t met=some (is,ej)/\LdQ b n met t is ej
 |N,t,met,hN,ht=>by
  have key:∀ (vs met:List Int),tx b met<=N->(∀v∈vs,fR v t=true)->∃is ej,Hg (H5 N b n) b n vs met=some (is,ej)/\(is=true->oE b n t)/\
   (is=false->(∀v∈met,v∈ej)/\(∀v∈vs,v≠n/\∀x,bZ b v=some x->v∈ej)/\∀v∈ej,v∉met->∀x,bZ b v=some x->Br b n ej x):=by
   intro vs
   induction vs with
   |nil=>intro met _ _;exact⟨false,met,rfl,fun h=>(by cases h),fun _=>⟨fun _ h=>h,fun _ h=>(by cases h),fun v h h'=>absurd h h'⟩⟩
   |cons v vs ih=>
    intro met hm Ha
    have hv:=Ha v aK
    have Qc:∀u∈vs,fR u t=true:=fun u hu=>Ha u (by simp[hu])
    simp only[Hg]
    by_cases e:v=n
    ·rw[if_pos e]
     exact⟨true,met,rfl,fun _=> .here (e ▸ hv),fun h=>by cases h⟩
    ·rw[if_neg e]
     cases hl:bZ b v with
     |none=>
      obtain⟨is,ej,h1,h2,h3⟩:=ih met hm Qc
      refine⟨is,ej,h1,h2,fun h=>⟨(h3 h).1,fun u hu=> ?_,(h3 h).2.2⟩⟩
      rcases List.mem_cons.1 hu with rfl|hu
      ·exact⟨e,fun x hx=>by rw[hl]at hx;cases hx⟩
      ·exact(h3 h).2.1 u hu
     |some x=>
      simp only
      by_cases e2:v∈met
      ·rw[if_pos e2]
       obtain⟨is,ej,h1,h2,h3⟩:=ih met hm Qc
       refine⟨is,ej,h1,h2,fun h=>⟨(h3 h).1,fun u hu=> ?_,(h3 h).2.2⟩⟩
       rcases List.mem_cons.1 hu with rfl|hu
       ·exact⟨e,fun _ _=>(h3 h).1 _ e2⟩
       ·exact(h3 h).2.1 u hu
      ·rw[if_neg e2]
       have hu:=q8 hl e2
       obtain⟨N',rfl⟩:∃N',N=N'+1:=⟨N - 1,af⟩
       obtain⟨is1,m1,g1,g2,g3⟩:=CW hb n N' x (dq met v) af (hb _ (dt hl))
       rw[g1]
       cases is1 with
       |true=>exact⟨true,m1,rfl,fun _=> .step hv hl (g2 rfl),fun h=>by cases h⟩
       |false=>
        obtain⟨k1,k2,k3⟩:=g3 rfl
        have k0:∀u∈met,u∈m1:=fun u hu=>k1 u (iD.2 (.inl hu))
        obtain⟨is,ej,h1,h2,h3⟩:=ih m1 (by have:=zB (b:=b) k0;omega) Qc
        refine⟨is,ej,h1,h2,fun h=> ?_⟩
        obtain⟨j1,j2,j3⟩:=h3 h
        refine⟨fun u hu=>j1 u (k0 u hu),fun u hu=> ?_,fun u hu hnu y hy=> ?_⟩
        ·rcases List.mem_cons.1 hu with rfl|hu
         ·exact⟨e,fun _ _=>j1 _ (k1 _ (iD.2 (.inr rfl)))⟩
         ·exact j2 u hu
        ·by_cases HX:u∈m1
         ·by_cases huv:u=v
          ·subst huv
           rw[hl]at hy
           cases hy
           exact k2.mono j1
          ·exact(k3 u HX (fun h=>(iD.1 h).elim hnu huv) y hy).mono j1
         ·exact j3 u hu HX y hy
  obtain⟨is,ej,h1,h2,h3⟩:=key (pK t) met hN fun v hv=>(MC t ht v).1 hv
  exact⟨is,ej,h1,h2,fun h=>⟨(h3 h).1,fun v hv=>(h3 h).2.1 v ((MC t ht v).2 hv),(h3 h).2.2⟩⟩
theorem Qd{s:aN}{b:List (Int×Tm)}(hb:∀p∈b,Vs s p.2)(n:Int){t:Tm}(ht:Vs s t):∃is ej,H5 (b.length+1) b n t []=some (is,ej)/\(is=true↔oE b n t):=by
 have hN:tx b []<=b.length:=by
  unfold tx
  exact Nat.le_trans (List.length_filter_le _ _) M0
 obtain⟨is,ej,h1,h2,h3⟩:=CW hb n b.length t [] hN ht
 refine⟨is,ej,h1,h2,fun hr=> ?_⟩
 cases is with
 |true=>rfl
 |false=>
  obtain⟨_,k2,k3⟩:=h3 rfl
  exfalso
  have:∀t,oE b n t-> ¬Br b n ej t:=by
   intro t hr
   induction hr with
   |here h=>exact fun hs=>(hs _ h).1 rfl
   |step h1 h2 _ ih=>exact fun hs=>ih (k3 _ ((hs _ h1).2 _ h2) aK _ h2)
  exact this t hr k2
def nh(l more:List Int):List Int:=more.foldl dq l
theorem Bs:∀ {more l:List Int} {v:Int},v∈nh l more↔v∈l\/v∈more
 |[],l,v=>by simp[nh]
 |u::more,l,v=>by
  show v∈nh (dq l u) more↔_
  rw[Bs,iD,List.mem_cons,or_assoc]
theorem Hh:∀ (more l:List Int),∃r,nh l more=l++r
 |[],l=>⟨[],by simp[nh]⟩
 |u::more,l=>by
  obtain⟨r,hr⟩:=Hh more (dq l u)
  show ∃r,nh (dq l u) more=_
  rw[hr]
  unfold dq
  split
  ·exact⟨r,rfl⟩
  ·exact⟨[u]++r,by rw[List.append_assoc]⟩
theorem sY:∀ (more l:List Int),l.Nodup->(nh l more).Nodup
 |[],l,h=>h
 |u::more,l,h=>sY more (dq l u) (Bi u h)
def Hi(b:List (Int×Tm))(all:List Int)(v:Int):List Int:=match bZ b v with
 |some x=>nh all (dc x)
 |none=>all
theorem JQ(b:List (Int×Tm))(all:List Int)(v:Int):∃r,Hi b all v=all++r:=by
 unfold Hi
 split
 ·exact Hh _ _
 ·exact⟨[],aK⟩
theorem Ew(b:List (Int×Tm)){all:List Int}(v:Int)(h:all.Nodup):(Hi b all v).Nodup:=by
 unfold Hi
 split
 ·exact sY _ _ h
 ·exact h
theorem WX{l:List Int}(hn:l.Nodup)(h:∀v∈l,0<=v/\v<20):l.length<=20:=by
 have:∀ (n:Nat) (l:List Int),l.Nodup->(∀v∈l,0<=v/\v<(n:Int))->l.length<=n:=by
  intro n
  induction n with
  |zero=>
   intro l _ h
   cases l with
   |nil=>exact Nat.le_refl _
   |cons a l=>have:=h a aK;omega
  |succ n ih=>
   intro l hn h
   have h1:=ih (l.erase (n:Int)) (hn.erase _) fun v hv=>by
    have kA:v≠(n:Int):=fun e=>by
     subst e
     exact hn.not_mem_erase hv
    have:=h v (List.mem_of_mem_erase hv)
    omega
   have h2:l.length<=(l.erase (n:Int)).length+1:=by
    by_cases hm:(n:Int)∈l
    ·rw[List.length_erase_of_mem hm];omega
    ·rw[List.erase_of_not_mem hm];omega
   omega
 exact this 20 l hn h
structure JR (s:aN) (b:List (Int×Tm)) (t:Tm) (i:Nat) (all:List Int):Prop where
 nd:all.Nodup
 rg:∀v∈all,0<=v/\v<20
 le:i<=all.length
 fst:∀v,fR v t=true->v∈all
 snd:∀v∈all,oE b v t
 cl:∀j,j<i->∀v x,all[j]? =some v->bZ b v=some x->∀u,fR u x=true->u∈all
theorem JR.zero {s:aN}{b:List (Int×Tm)}{t:Tm}(ht:Vs s t):JR s b t 0 (nh [] (dc t)):=by
 have hm:∀v,v∈nh [] (dc t)↔fR v t=true:=fun v=>by rw[Bs,(fS t).2 v];simp
 exact⟨sY _ _ List.nodup_nil,fun v hv=>ht.range ((hm v).1 hv),Nat.zero_le _,fun v hv=>(hm v).2 hv,fun v hv=> .here ((hm v).1 hv),fun j hj=>absurd hj (Nat.not_lt_zero _)⟩
theorem oE.trans {b:List (Int×Tm)}{t:Tm}{v:Int}(h:oE b v t){x:Tm}(hx:bZ b v=some x){n:Int}(hn:oE b n x):oE b n t:=by
 induction h with
 |here h1=>exact .step h1 hx hn
 |step h1 h2 _ ih=>exact .step h1 h2 ih
theorem JR.succ {s:aN}{b:List (Int×Tm)}(hb:∀p∈b,Vs s p.2){t:Tm}{i:Nat}{all:List Int}(h:JR s b t i all){v:Int}(hv:all[i]? =some v):JR s b t (i+1) (Hi b all v):=by
 obtain⟨r,hr⟩:=JQ b all v
 have hi:=(List.getElem?_eq_some_iff.1 hv).1
 have hvm:=List.mem_of_getElem? hv
 have hm:∀u,u∈Hi b all v↔u∈all\/∃x,bZ b v=some x/\fR u x=true:=fun u=>by
  unfold Hi
  cases hl:bZ b v with
  |none=>simp
  |some x=>simp only[Bs,(fS x).2 u,Option.some.injEq,exists_eq_left']
 refine⟨Ew b v h.nd,fun u hu=> ?_,by rw[hr,List.length_append];omega,fun u hu=>(hm u).2 (.inl (h.fst u hu)),fun u hu=> ?_,fun j hj w x hw hx u hu=> ?_⟩
 ·rcases(hm u).1 hu with hu|⟨x,hx,hu⟩
  ·exact h.rg u hu
  ·exact(hb _ (dt hx)).range hu
 ·rcases(hm u).1 hu with hu|⟨x,hx,hu⟩
  ·exact h.snd u hu
  ·exact(h.snd v hvm).trans hx (.here hu)
 ·rw[hr,List.getElem?_append_left (by omega)]at hw
  rcases Nat.lt_or_ge j i with hji|hji
  ·exact(hm u).2 (.inl (h.cl j hji w x hw hx u hu))
  ·have:j=i:=af
   subst this
   rw[hv]at hw
   cases hw
   exact(hm u).2 (.inr ⟨x,hx,hu⟩)
theorem JS{s:aN}{b:List (Int×Tm)}{l:List TB}{ρ:Int->Nat}{R:Nat}(h:qZ s b l ρ R)(hl:tq s l){n:Int}(hn:bZ b n=none){t:Tm}(ht:Vs s t):fR n (dy (ay l) t)=true↔oE b n t:=by
 have WY:Lv (ay l) n= .mk 1 n []:=by simp[Lv,(h.Hc n).1 hn]
 constructor
 ·have key:∀ (r:Nat) (t:Tm),Vs s t->(∀u,fR u t=true->ρ u<r)->fR n (dy (ay l) t)=true->oE b n t:=by
   intro r
   induction r with
   |zero=>
    intro t ht hr hf
    obtain⟨u,hu,_⟩:=(qq hl.bd t ht n).1 hf
    exact absurd (hr u hu) (Nat.not_lt_zero _)
   |succ r ih=>
    intro t ht hr hf
    obtain⟨u,hu,hf⟩:=(qq hl.bd t ht n).1 hf
    cases hx:bZ b u with
    |none=>
     have:Lv (ay l) u= .mk 1 u []:=by simp[Lv,(h.Hc u).1 hx]
     rw[this,sU]at hf
     have:u=n:=by simpa using hf
     exact .here (this ▸ hu)
    |some x=>
     obtain⟨g1,g2,g3⟩:=h.ok u x hx
     rw[g2]at hf
     have:=hr u hu
     exact .step hu hx (ih x g1 (fun w hw=>by have:=g3 w hw;omega) hf)
  exact key (R+1) t ht fun u _=>by have:=h.bd u;omega
 ·intro hr
  induction hr with
  |here h1=>exact(qq hl.bd _ ht n).2 ⟨n,h1,by rw[WY,sU];simp⟩
  | @step t v x h1 h2 _ ih=>
    obtain⟨g1,g2,g3⟩:=h.ok v x h2
    exact(qq hl.bd _ ht _).2 ⟨v,h1,by rw[g2];exact ih g1⟩
def RG(b:List (Int×Tm)):Prop:=∀v x,bZ b v=some x-> ¬oE b v x
theorem Qe{s:aN}{b:List (Int×Tm)}(x8:(b.map (·.1)).Nodup)(aQ:∀p∈b,(0<=p.1/\p.1<20)/\Vs s p.2)(ha:RG b):∃l ρ R,qZ s b l ρ R/\tq s l:=by
 have key:∀k,k<=b.length->∃l ρ R,qZ s (b.take k) l ρ R/\tq s l:=by
  intro k
  induction k with
  |zero=>intro _;exact⟨[],fun _=>0,0,by rw[List.take_zero];exact qZ.nil,tq.nil⟩
  |succ k ih=>
   intro hk
   obtain⟨l,ρ,R,h,hl⟩:=ih af
   obtain⟨⟨n,y⟩,hp⟩:∃p,b[k]? =some p:=⟨_,List.getElem?_eq_getElem (show k<b.length from af)⟩
   have hpm:=List.mem_of_getElem? hp
   have vh:b.take (k+1)=b.take k++[(n,y)]:=by rw[List.take_add_one,hp];rfl
   have JT:((b.take (k+1)).map (·.1)).Nodup:=x8.sublist ((List.take_sublist _ _).map _)
   have hn:bZ (b.take k) n=none:=by
    rw[oA]
    rw[vh,List.map_append,List.nodup_append]at JT
    exact fun hm=>JT.2.2 n hm n aK rfl
   obtain⟨hr,hy⟩:=aQ _ hpm
   have tz:∀v x,bZ (b.take k) v=some x->bZ b v=some x:=fun v x hx=>(oB x8).2 (List.mem_of_mem_take (dt hx))
   have WW: ¬fR n (dy (ay l) y)=true:=fun hf=>ha n y ((oB x8).2 hpm) (((JS h hl hn hy).1 hf).mono tz)
   obtain⟨ρ',R',h'⟩:=h.ext hl hn hy WW
   rw[vh]
   exact⟨_,ρ',R',h',Hd hl hr ((h.Hc n).1 hn) (Vs.sub hl.bd y hy) (fun u hu=>hl.free hy hu) WW⟩
 have:=key b.length (Nat.le_refl _)
 rwa [List.take_length]at this
theorem qZ.X6 {s:aN}{b:List (Int×Tm)}{l:List TB}{ρ:Int->Nat}{R:Nat}(h:qZ s b l ρ R):RG b:=by
 have key:∀t n,oE b n t->∀r,(∀u,fR u t=true->ρ u<r)->ρ n<r:=by
  intro t n hr
  induction hr with
  |here h1=>exact fun r hr=>hr _ h1
  |step h1 h2 _ ih=>
   intro r hr
   have h3:=ih _ (h.ok _ _ h2).2.2
   have:=hr _ h1
   omega
 intro v x hx hr
 have:=key x v hr _ (h.ok v x hx).2.2
 omega
def xp(F:Tm->Int->Option Int):List Tm->Int->Option Int
 |[],n=>some n
 |k::ks,n=>if n<0 then some n else match F k n with
  |some m=>xp F ks m
  |none=>none
def qs:Nat->List (Int×Tm)->Tm->Int->Nat->Option Int
 |0,_,_,_,_=>none
 |f+1,b,t,n,d=>match oN f b t with
  |some x=>(match d with
   |0=>some (-1)
   |d+1=>xp (fun k m=>qs f b k m d) x.kids (n - 1))
  |none=>none
theorem zD{F:Tm->Int->Option Int}:∀ {ks:List Tm} (n:Int),(∀k∈ks,∀m,∃r,F k m=some r)->∃r,xp F ks n=some r
 |[],n,_=>⟨n,rfl⟩
 |k::ks,n,h=>by
  simp only[xp]
  split
  ·exact⟨n,rfl⟩
  ·obtain⟨r,hr⟩:=h k aK n
   rw[hr]
   exact zD r fun y hy=>h y mj
theorem zE{F G:Tm->Int->Option Int}(H6:∀k m r,F k m=some r->G k m=some r):∀ {ks:List Tm} {n r:Int},xp F ks n=some r->xp G ks n=some r
 |[],_,_,h=>h
 |k::ks,n,r,h=>by
  simp only[xp]at h|-
  split at h
  ·rename_i e;rw[if_pos e];exact h
  ·rename_i e
   rw[if_neg e]
   cases hF:F k n with
   |none=>rw[hF]at h;cases h
   |some q=>rw[hF]at h;rw[H6 _ _ _ hF];exact zE H6 h
theorem sZ{b:List (Int×Tm)}:∀ {f g:Nat} {t:Tm} {n:Int} {d:Nat} {r:Int},qs f b t n d=some r->f<=g->qs g b t n d=some r
 |0,_,_,_,_,_,h,_=>by cases h
 |f+1,0,_,_,_,_,h,hg=>af
 |f+1,g+1,t,n,d,r,h,hg=>by
  simp only[qs]at h|-
  cases ha:oN f b t with
  |none=>rw[ha]at h;cases h
  |some x=>
   rw[ha]at h
   rw[iE ha (show f<=g by omega)]
   cases d with
   |zero=>exact h
   |succ d=>exact zE (fun k m q hq=>sZ hq af) h
theorem KL{s:aN}{b:List (Int×Tm)}{l:List TB}{ρ:Int->Nat}{R:Nat}(h:qZ s b l ρ R):∀ (d:Nat) (t:Tm) (n:Int),Vs s t->∃r,qs (R+3+d) b t n d=some r
 |0,t,n,ht=>by
  obtain⟨x,a1,_⟩:=h.root ht
  exact⟨-1,by simp only[qs];rw[show R+2+0=R+2 from rfl,a1]⟩
 |d+1,t,n,ht=>by
  obtain⟨x,a1,a2,_⟩:=h.root ht
  show ∃r,qs ((R+3+d)+1) b t n (d+1)=some r
  simp only[qs]
  rw[iE a1 (show R+2<=R+3+d by omega)]
  exact zD _ fun k hk m=>KL h d k m (a2.zj hk)
def EV(b:List (Int×Tm))(t:Tm):Prop:=∃f r,qs f b t 40 12=some r/\0<=r
theorem CX{b:List (Int×Tm)}{t:Tm}{f:Nat}{r:Int}(h:qs f b t 40 12=some r):EV b t↔0<=r:=by
 refine⟨fun⟨g,q,h1,h2⟩=> ?_,fun hr=>⟨f,r,h,hr⟩⟩
 have e1:=sZ h (Nat.le_max_left f g)
 rw[sZ h1 (Nat.le_max_right f g)]at e1
 cases e1
 exact h2
def zG(F:Tm->Option Tm):List Tm->Option (List Tm)
 |[]=>some []
 |k::ks=>match F k,zG F ks with
  |some x,some xs=>some (x::xs)
  |_,_=>none
def tt:Nat->List (Int×Tm)->Tm->Option Tm
 |0,_,_=>none
 |f+1,b,t=>match oN f b t with
  |some x=>(zG (tt f b) x.kids).map fun ks=> .mk x.op x.n ks
  |none=>none
theorem q9{F:Tm->Option Tm}{g:Tm->Tm}:∀ {ks:List Tm},(∀k∈ks,F k=some (g k))->zG F ks=some (ks.map g)
 |[],_=>rfl
 |k::ks,h=>by simp only[zG];rw[h k (by simp),q9 fun y hy=>h y (by simp[hy])];rfl
theorem zH{F G:Tm->Option Tm}(H6:∀k r,F k=some r->G k=some r):∀ {ks xs:List Tm},zG F ks=some xs->zG G ks=some xs
 |[],_,h=>h
 |k::ks,xs,h=>by
  simp only[zG]at h|-
  cases h1:F k with
  |none=>rw[h1]at h;cases h
  |some x=>
   cases h2:zG F ks with
   |none=>rw[h1,h2]at h;cases h
   |some ys=>rw[h1,h2]at h;rw[H6 _ _ h1,zH H6 h2];exact h
theorem iF{b:List (Int×Tm)}:∀ {f g:Nat} {t x:Tm},tt f b t=some x->f<=g->tt g b t=some x
 |0,_,_,_,h,_=>by cases h
 |f+1,0,_,_,h,hg=>af
 |f+1,g+1,t,x,h,hg=>by
  simp only[tt]at h|-
  cases ha:oN f b t with
  |none=>rw[ha]at h;cases h
  |some y=>
   rw[ha]at h
   rw[iE ha (show f<=g by omega)]
   dsimp only at h|-
   cases h2:zG (tt f b) y.kids with
   |none=>rw[h2]at h;cases h
   |some ys=>rw[h2]at h;rw[zH (fun k r hr=>iF hr (by omega)) h2];exact h
theorem zI{s:aN}{b:List (Int×Tm)}{l:List TB}{ρ:Int->Nat}{R:Nat}(h:qZ s b l ρ R):∀ (z:Nat) (t:Tm),Vs s t->(dy (ay l) t).sz<=z->tt (R+3+z) b t=some (dy (ay l) t)
 |0,t,_,hz=>by have:=Tm.Be (dy (ay l) t);omega
 |z+1,t,ht,hz=>by
  obtain⟨x,a1,a2,a3,a4,_⟩:=h.root ht
  show tt ((R+3+z)+1) b t=_
  simp only[tt]
  rw[iE a1 (show R+2<=R+3+z by omega)]
  by_cases h1:x.op=1
  ·have e:=a2.eta h1
   have hk:x.kids=[]:=by rw[e];rfl
   have:dy (ay l) x=x:=by
    rw[ku a2 h1,show Lv (ay l) x.n= .mk 1 x.n [] by simp[Lv,(h.Hc _).1 (a4 h1)]];exact e.symm
   rw[<- a3,this]
   dsimp only
   rw[hk]
   show some (Tm.mk x.op x.n [])=some x
   rw[<- hk,Tm.eta]
  ·have hv:=mG (b:=ay l) h1
   have hk:∀k∈x.kids,tt (R+3+z) b k=some (dy (ay l) k):=fun k hk=>by
    refine zI h z k (a2.zj hk) ?_
    have h3:dy (ay l) k∈(dy (ay l) x).kids:=by rw[hv];exact List.mem_map.2 ⟨k,hk,rfl⟩
    have h4:=Tm.Bm h3
    rw[a3]at h4
    omega
   dsimp only
   rw[q9 hk, <- a3,hv]
   rfl
def CY:Nat->List (Int×Tm)->Tm->Nat->Option Tm
 |0,_,_,_=>none
 |f+1,b,t,d=>if t.op=1 then(match bZ b t.n with
   |some x=>(match d with
    |0=>none
    |d+1=>CY f b x d)
   |none=>some t)
  else(zG (fun k=>CY f b k d) t.kids).map fun ks=> .mk t.op t.n ks
def Hj(b:List (Int×Tm))(ρ:Int->Nat)(r:Nat):Nat:=((b.map (·.1)).filter fun u=>decide (ρ u<r)).length
theorem JU{b:List (Int×Tm)}{ρ:Int->Nat}{v:Int}{x:Tm}(hv:bZ b v=some x){r:Nat}(hr:ρ v<r):Hj b ρ (ρ v)<Hj b ρ r:=by
 unfold Hj
 have hm:v∈b.map (·.1):=List.mem_map.2 ⟨_,dt hv,rfl⟩
 generalize b.map (·.1)=ks at hm
 have hle:∀ks:List Int,(ks.filter fun u=>decide (ρ u<ρ v)).length<=(ks.filter fun u=>decide (ρ u<r)).length:=by
  intro ks
  induction ks with
  |nil=>exact Nat.le_refl _
  |cons u ks ih=>
   rw[List.filter_cons,List.filter_cons]
   by_cases e:ρ u<ρ v
   ·rw[if_pos (by simpa using e),if_pos (by simp;omega),List.length_cons,List.length_cons];omega
   ·rw[if_neg (by simpa using e)]
    split
    ·rw[List.length_cons];omega
    ·exact ih
 induction ks with
 |nil=>cases hm
 |cons u ks ih=>
  rw[List.filter_cons,List.filter_cons]
  by_cases e:u=v
  ·subst e
   rw[if_neg (by simp),if_pos (by simpa using hr),List.length_cons]
   have:=hle ks
   omega
  ·have:=ih ((List.mem_cons.1 hm).resolve_left fun h=>e h.symm)
   by_cases e2:ρ u<ρ v
   ·rw[if_pos (by simpa using e2),if_pos (by simp;omega),List.length_cons,List.length_cons];omega
   ·rw[if_neg (by simpa using e2)]
    split
    ·rw[List.length_cons];omega
    ·exact this
theorem WZ{s:aN}{b:List (Int×Tm)}{l:List TB}{ρ:Int->Nat}{R:Nat}(h:qZ s b l ρ R):∀ (r:Nat) (t:Tm) (d:Nat),Vs s t->(∀u,fR u t=true->ρ u<r)->Hj b ρ r<=d->∃f,∀g,f<=g->CY g b t d=some (dy (ay l) t):=by
 intro r
 induction r using Nat.strongRecOn with
 |ind r ihr=>
  refine Tm.fk fun t ih d ht hr hd=> ?_
  by_cases h1:t.op=1
  ·have hv:fR t.n t=true:=(mm h1).2 rfl
   cases hx:bZ b t.n with
   |none=>
    refine⟨1,fun g hg=> ?_⟩
    obtain⟨g,rfl⟩:∃k,g=k+1:=⟨g - 1,af⟩
    simp only[CY]
    rw[if_pos h1,hx,ku ht h1,show Lv (ay l) t.n= .mk 1 t.n [] by simp[Lv,(h.Hc _).1 hx]]
    exact congrArg some (ht.eta h1)
   |some x=>
    obtain⟨g1,g2,g3⟩:=h.ok _ _ hx
    have h3:=JU hx (hr _ hv)
    obtain⟨d,rfl⟩:∃k,d=k+1:=⟨d - 1,af⟩
    obtain⟨f,hf⟩:=ihr _ (hr _ hv) x d g1 g3 af
    refine⟨f+1,fun g hg=> ?_⟩
    obtain⟨g,rfl⟩:∃k,g=k+1:=⟨g - 1,af⟩
    simp only[CY]
    rw[if_pos h1,hx]
    dsimp only
    rw[hf g (by omega), <- g2,ku ht h1]
  ·have key:∀ks:List Tm,(∀k∈ks,k∈t.kids)->∃f,∀g,f<=g->∀k∈ks,CY g b k d=some (dy (ay l) k):=by
    intro ks
    induction ks with
    |nil=>intro _;exact⟨0,fun _ _ _ h=>by cases h⟩
    |cons k ks W0=>
     intro X7
     obtain⟨f1,jR⟩:=W0 fun y hy=>X7 y mj
     obtain⟨f2,qa⟩:=ih k (X7 k aK) d (ht.zj (X7 k aK)) (fun u hu=>hr u ((vg ht h1).2 ⟨k,X7 k aK,hu⟩)) hd
     refine⟨max f1 f2,fun g hg y hy=> ?_⟩
     rcases List.mem_cons.1 hy with rfl|hy
     ·exact qa g af
     ·exact jR g af y hy
   obtain⟨f,hf⟩:=key t.kids fun _ h=>h
   refine⟨f+1,fun g hg=> ?_⟩
   obtain⟨g,rfl⟩:∃k,g=k+1:=⟨g - 1,af⟩
   simp only[CY]
   rw[if_neg h1,q9 (hf g (by omega)),mG h1]
   rfl
theorem Hk{s:aN}{b:List (Int×Tm)}{l:List TB}{ρ:Int->Nat}{R:Nat}(h:qZ s b l ρ R){t:Tm}(ht:Vs s t):∃f,CY f b t b.length=some (dy (ay l) t):=by
 obtain⟨f,hf⟩:=WZ h (R+1) t b.length ht (fun u _=>by have:=h.bd u;omega) (by
  unfold Hj
  exact Nat.le_trans (List.length_filter_le _ _) M0)
 exact⟨f,hf f (Nat.le_refl _)⟩
def pnF(s:aN)(t:Tm):Bool:=
 let k:Int:=t.kids.length
 if t.op=16 then t.n==0&&k==0
 else if t.op=1 then da t.n 0 199&&k==0
 else if t.op=2 then da t.n (-1000000) 1000000&&k==0
 else if t.op=3 then da t.n 0 (s.cons.length - 1)&&k==fI s.cons t.n
 else if t.op=5 then da t.n 0 (s.bF.length - 1)&&decide (k<fI s.bF t.n)
 else false
mutual
def Ex(s:aN):Tm->Bool
 | .mk op n kids=>CZ s kids&&pnF s (.mk op n kids)
def CZ(s:aN):List Tm->Bool
 |[]=>true
 |k::l=>Ex s k&&CZ s l
end
theorem vi(s:aN):∀l:List Tm,CZ s l=l.all (Ex s)
 |[]=>rfl
 |k::l=>by rw[CZ,vi s l];rfl
theorem JV(s:aN)(t:Tm):Ex s t=(t.kids.all (Ex s)&&pnF s t):=by cases t;rw[Ex,vi];rfl
def Pn(s:aN)(t:Tm):Prop:=Ex s t=true
theorem Qf{s:aN}{t:Tm}:Pn s t↔pnF s t=true/\∀k∈t.kids,Pn s k:=by
 unfold Pn;rw[JV,Bool.and_eq_true,List.all_eq_true];exact and_comm
theorem Pn.zj {s:aN}{t k:Tm}(h:Pn s t)(hk:k∈t.kids):Pn s k:=(Qf.1 h).2 k hk
def tP{σ:Type}(step:σ->Tm->σ×Bool):σ->List Tm->Int->Int
 |_,[],_=> -1
 |s,x::l,k=>if(step s x).2=true then tP step (step s x).1 l (k+1)else k
theorem C0{σ:Type}(step:σ->Tm->σ×Bool):∀ (l:List Tm) (s:σ) (k:Int),0<=k->(0<=tP step s l k↔(aD step s l).2=false)
 |[],_,_,_=>by simp[tP,aD]
 |x::l,s,k,hk=>by
  have ih:=C0 step l (step s x).1 (k+1) af
  by_cases h:(step s x).2=true
  ·simp only[tP,aD,h,if_true];exact ih
  ·simp[tP,aD,h,hk]
theorem Qg{σ:Type}(l:List Tm)(hl:l.length<=9223372036854775807)(g:Nat)(cz:List V)(base:Nat)(H:σ->Nat->ab)(step:σ->Tm->σ×Bool)(hc:∀r∈V.aP cz,r<base)(ok:σ->Prop)(aQ:∀x∈l,∀s,ok s->(step s x).2=true->ok (step s x).1)
 (h:∀x∈l,∀s,ok s->sD Tryz.prog g (.d x.d::cz) base (H s) (H (step s x).1) (.d (.bool (!(step s x).2)))) (s:σ) (mR:ok s):
 sD Tryz.prog 186 [.d (.sl (l.map Tm.d)), .func (.func g) [] cz] base (H s) (H (aD step s l).1) (.d (.i (tP step s l 0))):=by
 intro o nx hI K X hK
 have jB:∀r∈V.aP cz,r<nx:=fun r hr=>Nat.lt_of_lt_of_le (hc r hr) hI.le
 refine dA.aM mix Mn aK ?_
 rw[Px]
 refine b8 ?_
 refine aH (fun i:Nat×σ×(Nat->ab)×Nat=>⟨ba [.d (.sl (l.map Tm.d)), .func (.func g) [] cz, .aa, .aa, .aa, .aa, .aa, .d (.i l.length), .d (.i i.1)],i.2.2.1,i.2.2.2⟩)
  (fun i=>i.1<=l.length/\ec base (H i.2.1) i.2.2.1 i.2.2.2/\nx<=i.2.2.2/\(∀id,base<=id->id<nx->i.2.2.1 id=o id)/\aD step s l=aD step i.2.1 (l.drop i.1)/\ok i.2.1/\tP step s l 0=tP step i.2.1 (l.drop i.1) i.1) (fun i=>l.length - i.1) (0,s,o,nx)
  ⟨Nat.zero_le _,hI,Nat.le_refl _,fun _ _ _=>rfl,rfl,mR,rfl⟩ ?_ ?_
 ·exact Ni
 rintro⟨k,s',o',nx'⟩ ⟨hk,HV,hn,cI,hf,sF,Hl⟩
 simp only at hk HV hn cI hf sF Hl
 refine b8 ?_
 refine ak (fun h1=> ?_) (fun h1=> ?_)
 ·simp at h1
  obtain⟨x,hx⟩:=aF h1
  have gI:=List.mem_of_getElem? hx
  have hd:l.drop k=x::l.drop (k+1):=by
   exact Nc
  rw[hd]at hf Hl
  simp only[aD,tP]at hf Hl
  refine MT hx ?_
  refine gh (h x gI s' sF _ _ (HV.mono af) _ _ fun o2 n2 m1 m2 m3=> ?_)
  cases hb:(step s' x).2 with
  |true=>
   rw[hb]at hf Hl
   simp only[if_true]at hf Hl
   refine cm ?_
   have Mx:∀r∈V.aP cz,r<n2+1+1:=fun r hr=>by have:=jB r hr;omega
   refine aw (k+1,(step s' x).1,o2,n2+1+1) ⟨h1,m2.mono (show n2<=n2+1+1 from af),(show nx<=n2+1+1 from af),fun id i1 i2=>(m3 id i1 af).trans (cI id i1 i2),hf,aQ x gI s' sF hb,by rw[Hl];rfl⟩ rh (bG.bU _ (show nx<=n2+1+1 from af) (Nat.le_refl _) (m2.mono (show n2<=n2+1+1 from af)).cc (fun _ _=>rfl) ?_)
   exact dQ
  |false=>
   rw[hb]at hf Hl
   simp only[Bool.false_eq_true,if_false]at hf Hl
   refine b8 ?_
   rw[hf,Hl]at hK
   exact hK _ _ af (m2.mono af) fun id i1 i2=>(m3 id i1 af).trans (cI id i1 i2)
 ·simp at h1
  refine b8 ?_
  rw[List.drop_eq_nil_of_le h1]at hf Hl
  rw[hf,Hl]at hK
  exact SC
theorem zJ{σ:Type}(l:List Tm)(hl:l.length<=9223372036854775807)(g:Nat)(cz:List V)(base:Nat)(H:σ->Nat->ab)(step:σ->Tm->σ×Bool)(hc:∀r∈V.aP cz,r<base)(ok:σ->Prop)(aQ:∀x∈l,∀s,ok s->(step s x).2=true->ok (step s x).1)
 (h:∀x∈l,∀s,ok s->sD Tryz.prog g (.d x.d::cz) base (H s) (H (step s x).1) (.d (.bool (!(step s x).2)))) (s:σ) (mR:ok s):
 sD Tryz.prog 166 [.d (.sl (l.map Tm.d)), .func (.func g) [] cz] base (H s) (H (aD step s l).1) (.d (.bool (!(aD step s l).2))):=by
 intro o nx hI K X hK
 have jB:∀r∈V.aP cz,r<nx:=fun r hr=>Nat.lt_of_lt_of_le (hc r hr) hI.le
 refine dA.aM mix Mf aK ?_
 rw[Pp]
 refine oQ ?_
 refine bX (Qg l hl g cz base H step hc ok aQ h s mR _ _ ?_ _ _ fun o2 n2 m1 m2 m3=> ?_)
 ·exact hI.mono af
 refine oQ ?_
 have e:decide (0<=tP step s l 0)= !(aD step s l).2:=by
  have:=C0 step l s 0 af
  rw[Bool.eq_iff_iff,decide_eq_true_eq,this]
  cases(aD step s l).2<;>simp
 rw[e]
 exact hK _ _ af (m2.mono af) fun id i1 i2=>m3 id i1 af
theorem Hm{b:List (Int×Tm)}{f:Nat}{t x:Tm}(h:oN f b t=some x):aX Tryz.prog 112 [Bn b,t.d] (.ret [x.d]):=by
 refine aX.aM mix LY aK ?_
 rw[O4]
 refine cm ?_
 refine aH (fun i:Nat×Tm=>⟨ba [.d (Bn b), .aa, .aa, .ptr 0 0, .ptr 1 0],aI (aI (fun _=> .no) 0 (.row i.2.row)) 1 (.row [.d (.i 0), .d (.i 0), .aE]),2⟩)
  (fun i=>oN i.1 b i.2=some x) (fun i=>i.1) (f,t) h ?_ ?_
 ·dsimp only
  refine bG.bU _ af af ek (fun j hj=>by(repeat(first|rfl|rw[ae]|rw[ah _ _ _ _ (by omega)]))) ?_
  exact dQ
 rintro⟨f,t⟩ hf
 simp only at hf
 cases f with
 |zero=>cases hf
 |succ f=>
 simp only[oN]at hf
 by_cases h1:t.op=1
 ·have jR:(t.op==1)=true:=by simpa using h1
  rw[if_pos h1]at hf
  cases hl:bZ b t.n with
  |none=>
   rw[hl]at hf
   injection hf with hf
   subst hf
   simp+contextual (disch:=first|omega|simp only[go_sem,false_implies]) only[go_sem,wrap64,if_pos,jR,lY,fV hl]
  |some z=>
   rw[hl]at hf
   obtain⟨j,hj⟩:=jr hl
   simp+contextual (disch:=first|omega|simp only[go_sem,false_implies]) only[go_sem,wrap64,if_pos,jR,lY,hj]
   refine aw (f,z) hf rh (bG.bU _ af af ek (fun j hj=> ?_) ?_)
   ·have Xv:j<2:=hj
    rcases(show j=0\/j=1 from af)with rfl|rfl
    ·exact fq
    ·exact fq
   ·exact dQ
 ·have jR:(t.op==1)=false:=by simpa using h1
  rw[if_neg h1]at hf
  injection hf with hf
  subst hf
  exact xq jR
theorem JW:∀a:Tm,a.fits->∀b:Tm,b.fits->aX Tryz.prog 108 [a.d,b.d] (.ret [.bool (iA a b)]):=by
 refine Tm.fk fun a ih ha b hb=> ?_
 have RH:=(Tm.bD _).1 ha
 have Fs:=(Tm.bD _).1 hb
 refine aX.aM mix LX aK ?_
 rw[O2,oo]
 refine cm ?_
 refine yJ (ak (fun h1=> ?_) (fun h1=> ?_))
 ·rw[h1]
  refine mg h1 ?_
  refine bX (G5 a.kids b.kids RH.1 Fs.1 108 (fun x hx y hy=>ih x hx (RH.2 x hx) y (Fs.2 y hy)) _ _ ek _ _ fun o2 n2 m1 m2 m3=> ?_)
  exact xq h1
 ·rw[h1]
  exact xq h1
theorem oG{b:List (Int×Tm)}(hb:∀p∈b,p.2.fits):∀ (f:Nat) (t x:Tm),t.fits->oN f b t=some x->x.fits
 |0,_,_,_,h=>by cases h
 |f+1,t,x,ht,h=>by
  simp only[oN]at h
  split at h
  ·split at h
   ·rename_i y hy;exact oG hb f y x (hb _ (dt hy)) h
   ·injection h with h;exact h ▸ ht
  ·injection h with h;exact h ▸ ht
theorem C1{F:Tm->Int->Option Int}(hF:∀k m r,0<=m->F k m=some r-> -1<=r/\r<=m):∀ (ks:List Tm) (n r:Int), -1<=n->xp F ks n=some r-> -1<=r/\r<=n
 |[],n,r,hn,h=>by cases h;omega
 |k::ks,n,r,hn,h=>by
  simp only[xp]at h
  split at h
  ·cases h;omega
  ·cases e:F k n with
   |none=>rw[e]at h;cases h
   |some q=>
    rw[e]at h
    have h1:=hF k n q af e
    have h2:=C1 hF ks q r af h
    omega
theorem w6{b:List (Int×Tm)}:∀ (f:Nat) (t:Tm) (n:Int) (d:Nat) (r:Int),0<=n->qs f b t n d=some r-> -1<=r/\r<=n
 |0,_,_,_,_,_,h=>by cases h
 |f+1,t,n,d,r,hn,h=>by
  simp only[qs]at h
  cases ha:oN f b t with
  |none=>rw[ha]at h;cases h
  |some x=>
   rw[ha]at h
   cases d with
   |zero=>cases h;omega
   |succ d=>
    have:=C1 (fun k m r hm h=>w6 f k m d r hm h) x.kids (n - 1) r af h
    omega
theorem Hn{b:List (Int×Tm)}:∀ (f:Nat) (t:Tm) (n:Int) (d:Nat) (r:Int),t.fits->(∀p∈b,p.2.fits)->0<=n/\n<=1000->d<=1000->qs f b t n d=some r->aX Tryz.prog 91 [Bn b,t.d, .i n, .i d] (.ret [.i r])
 |0,_,_,_,_,_,_,_,_,h=>by cases h
 |f+1,t,n,d,r,ht,hb,hn,hd,h=>by
  simp only[qs]at h
  cases ha:oN f b t with
  |none=>rw[ha]at h;cases h
  |some x=>
  rw[ha]at h
  refine aX.aM mix U6 aK ?_
  rw[c91]
  refine cm ?_
  refine bE (Hm ha) ?_
  cases d with
  |zero=>
   injection h with h
   subst h
   exact nq
  |succ d=>
   have IP:(((d+1:Nat):Int)==0)=false:=by rw[beq_eq_false_iff_ne];omega
   dsimp only at h
   have EW:=(Tm.bD x).1 (oG hb f t x ht ha)
   refine mg IP ?_
   refine aH (fun i:Nat×Int=>⟨ba [.d (Bn b), .aa, .d (.i i.2), .d (.i (d+1:Nat)), .aa, .aa, .aa, .aa, .aa, .aa, .aa, .aa, .aa, .aa, .aa, .aa, .aa, .aa, .aa, .d (.sl (x.kids.map Tm.d)), .d (.i x.kids.length), .d (.i i.1)],fun _=> .no,0⟩)
    (fun i=>i.1<=x.kids.length/\xp (fun k m=>qs f b k m d) (x.kids.drop i.1) i.2=some r/\ -1<=i.2/\i.2<=1000) (fun i=>x.kids.length - i.1) (0,n - 1) ⟨Nat.zero_le _,h,by dsimp only;omega,by dsimp only;omega⟩ (bG.d0 _ ?_) ?_
   ·exact dQ
   rintro⟨k,m⟩ ⟨hk,hl,HX,K0⟩
   simp only at hk hl HX K0
   refine zZ ?_
   refine ak (fun h2=> ?_) (fun h2=> ?_)
   ·replace h2:k<x.kids.length:=by simp at h2;omega
    obtain⟨y,hy⟩:=aF h2
    have Jy:=List.mem_of_getElem? hy
    have JX:x.kids.drop k=y::x.kids.drop (k+1):=by
     obtain⟨i1,i2⟩:=List.getElem?_eq_some_iff.1 hy
     exact Il
    rw[JX]at hl
    simp only[xp]at hl
    by_cases h0:m<0
    ·have vI:decide (m<0)=true:=decide_eq_true h0
     rw[if_pos h0]at hl
     cases hl
     exact MR hy vI
    ·have vI:decide (m<0)=false:=decide_eq_false h0
     rw[if_neg h0]at hl
     refine C9 hy vI ?_
     cases e:qs f b y m d with
     |none=>rw[e]at hl;cases hl
     |some q=>
     rw[e]at hl
     have hq:=w6 f y m d q af e
     rw[show(((d+1:Nat):Int) - 1)=((d:Nat):Int) by omega]
     refine ao (Hn f y m d q (EW.2 y Jy) hb af af e) rfl ?_
     refine cm ?_
     refine aw (k+1,q) ⟨h2,hl,by dsimp only;omega,by dsimp only;omega⟩ rh (bG.d0 _ ?_)
     exact dQ
   ·replace h2:k=x.kids.length:=by simp at h2;omega
    subst h2
    rw[List.drop_length]at hl
    cases hl
    exact nq
theorem w7{F:Tm->Option Tm}:∀ {ks xs:List Tm},zG F ks=some xs->xs.length=ks.length/\∀ (i:Nat) (k:Tm),ks[i]? =some k->∃x,xs[i]? =some x/\F k=some x
 |[],xs,h=>by cases h;exact⟨rfl,fun i k hk=>by simp at hk⟩
 |k::ks,xs,h=>by
  simp only[zG]at h
  cases h1:F k with
  |none=>rw[h1]at h;cases h
  |some x=>
   cases h2:zG F ks with
   |none=>rw[h1,h2]at h;cases h
   |some ys=>
    rw[h1,h2]at h
    cases h
    obtain⟨g1,g2⟩:=w7 h2
    refine⟨by rw[List.length_cons,List.length_cons,g1],fun i k' hk=> ?_⟩
    cases i with
    |zero=>simp at hk;subst hk;exact⟨x,rfl,h1⟩
    |succ i=>exact g2 i k' hk
def Bt(op n:Int)(ks:List Tm)(k:Nat):Nat->ab:=aI (aI (aI (fun _=> .no) 1 (.row [.d (.i 0), .d (.i 0), .aE])) 11 (.row [.d (.i op), .d (.i n), .osl 12 0])) 12 (.arr 0 33 3 ((ks.take k).map Tm.d))
theorem fuH_1(op n:Int)(ks:List Tm)(k:Nat):Bt op n ks k 1= .row [.d (.i 0), .d (.i 0), .aE]:=rfl
theorem fuH_11(op n:Int)(ks:List Tm)(k:Nat):Bt op n ks k 11= .row [.d (.i op), .d (.i n), .osl 12 0]:=rfl
theorem fuH_12(op n:Int)(ks:List Tm)(k:Nat):Bt op n ks k 12= .arr 0 33 3 ((ks.take k).map Tm.d):=rfl
theorem w8(op n:Int)(ks:List Tm)(k:Nat){j:Nat}(h1:j≠1)(h2:j≠11)(h3:j≠12):Bt op n ks k j= .no:=by unfold Bt;rw[ah _ _ _ _ h3,ah _ _ _ _ h2,ah _ _ _ _ h1]
theorem Ho(gone:Nat->Prop)(x:V)(L:List V)(Gn:∀id,gone id->12<=id){op n:Int}{ks:List Tm}{k:Nat}{e:Nat->V}{so:Nat->ab}{m:Nat}(gx:j7 so gone 33 3 ((ks.take k).map Tm.d) x)
 (s1:so 1= .row [.d (.i 0), .d (.i 0), .aE]) (s11:so 11= .row [.d (.i op), .d (.i n),x]) (he:jq 12 [⟨x,33,3,(ks.take k).map Tm.d⟩] so gone e L 0):bG 0 ⟨e,so,m⟩ ⟨ba L,Bt op n ks k,12+1⟩:=by
 refine bG.GR gone x 12 L af (fun j hj=> ?_) (fuH_12 op n ks k) gx (fun j hj=>w8 _ _ _ _ af af af) (fun j h1 h2=>absurd (Gn j h1) af) he
 by_cases e1:j=1
 ·subst e1
  rw[fuH_1]
  exact SD
 ·by_cases e2:j=11
  ·subst e2
   rw[fuH_11]
   exact SI
  ·rw[w8 _ _ _ _ e1 e2 (by omega)]
   exact wL
theorem w9{k:Tm}:∀ {l:List Tm},k∈l->k.sz<=pG l
 |x::l,h=>by
  rw[show pG (x::l)=x.sz+pG l from rfl]
  rcases List.mem_cons.1 h with rfl|h
  ·omega
  ·have:=w9 h;omega
theorem xa{b:List (Int×Tm)}(hb:∀p∈b,p.2.fits):∀ (f:Nat) (t y:Tm),t.fits->tt f b t=some y->y.sz<=1000000->aX Tryz.prog 68 [Bn b,t.d] (.ret [y.d])
 |0,_,_,_,h,_=>by cases h
 |f+1,t,y,ht,h,hz=>by
  simp only[tt]at h
  cases ha:oN f b t with
  |none=>rw[ha]at h;cases h
  |some x=>
  rw[ha]at h
  dsimp only at h
  have EW:=(Tm.bD x).1 (oG hb f t x ht ha)
  cases hL:zG (tt f b) x.kids with
  |none=>rw[hL]at h;cases h
  |some ks=>
  rw[hL]at h
  cases h
  obtain⟨IB,KM⟩:=w7 hL
  have du:pG ks+1<=1000000:=by rw[Tm.lD]at hz;simp only[Tm.kids]at hz;omega
  have hle:=oC ks
  refine aX.aM mix U2 aK ?_
  rw[c68]
  refine cm ?_
  refine bE (Hm ha) ?_
  refine cm ?_
  refine aH (fun i:Nat=>⟨ba [.d (Bn b), .aa, .aa, .aa, .ptr 1 0, .ptr 11 0, .aa, .aa, .aa, .aa, .aa, .aa, .aa, .aa, .aa, .aa, .aa, .d (.sl (x.kids.map Tm.d)), .d (.i x.kids.length), .d (.i i)],Bt x.op x.n ks i,12+1⟩)
   (fun i=>i<=x.kids.length) (fun i=>x.kids.length - i) 0 (Nat.zero_le _) (Ho (fun _=>False) .aE _ (fun _ h=>h.elim) (.inl ⟨rfl,rfl,cA⟩) fq fq ?_) (fun k hk=> ?_)
  ·exact z7
  replace hk:k<=x.kids.length:=hk
  have q1:=fuH_1 x.op x.n ks k
  have JY:=fuH_11 x.op x.n ks k
  have JZ:=fuH_12 x.op x.n ks k
  refine H9 q1 JY JZ ?_
  refine ak (fun h2=> ?_) (fun h2=> ?_)
  ·replace h2:k<x.kids.length:=by simp at h2;omega
   obtain⟨z,hz⟩:=aF h2
   obtain⟨z',Nz,hF⟩:=KM k z hz
   have hzm:=List.mem_of_getElem? hz
   have vh:ks.take (k+1)=ks.take k++[z']:=by rw[List.take_add_one,Nz];rfl
   have e0:(ks.take k).length=k:=by rw[List.length_take];omega
   have hzs:z'.sz<=1000000:=by have:=w9 (List.mem_of_getElem? Nz);omega
   have jB:k<=140737488355327/\(k+1)*24<=140737488355328:=af
   refine H8 q1 JY JZ hz ?_
   refine cU (xa hb f z z' (EW.2 z hzm) hF hzs) ?_
   simp+contextual (disch:=first|omega|simp only[go_sem,false_implies]) only[go_sem,wrap64,if_pos,q1,JY,JZ,hz,List.length_map,e0,if_pos jB]
   refine aR ag ?_
   refine cm ?_
   refine aw (k+1) h2 af (Ho (fun j=>12<=j) (.osl 12 1) _ (fun _ h=>h) (.inr ⟨12,1,Nat.le_refl _,rfl,by(repeat(first|rfl|rw[ae]|rw[ah _ _ _ _ (by omega)]));rw[vh,List.map_append];rfl⟩) Sp fq ?_)
   exact z7
  ·replace h2:k=x.kids.length:=by simp at h2;omega
   subst h2
   have Qh:Bt x.op x.n ks x.kids.length 12= .arr 0 33 3 (ks.map Tm.d):=by rw[JZ, <- IB,List.take_length]
   refine EY q1 JY Qh ?_
   rw[Tm.On]
section
section
variable {σ:Type}(base sH:Nat)(H:σ->Nat->ab)(step:σ->Tm->σ×Bool)(ok:σ->Prop)
end
end
end Go.Proofs.YtlhemmpklhhgoaaGreat
