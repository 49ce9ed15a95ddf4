/-
  A PART OF THE PROOF. Conditions: none.
-/
import Derived.Test.YtlhemmpklhhgoaaGreatQc15
set_option linter.unusedSimpArgs false
set_option linter.unusedVariables false
namespace Go.Proofs.YtlhemmpklhhgoaaGreat
theorem B6{v op n:Int}(h:op≠8):∀ (l:List Tm) (i:Nat),v8 v op n l i=l.any (fG v)
 |[],i=>rfl
 |k::l,i=>by
  have:(op==8)=false:=by simpa using h
  simp[v8,B6 h l,this]
theorem F7{s:aJ}{t:Tm}(h:aX s t=true)(h1:t.op=1):t.kids=[]:=by
 simp[aX,h1]at h
 exact h.1
theorem ss:∀ (l:List Int) (n:Int),∃k,k<=l.length/\(∀x∈l.take k,x<n)/\(∀x,l[k]? =some x-> ¬x<n)/\lO l n=if l[k]? =some n then l else l.take k++n::l.drop k
 |[],n=>⟨0,Nat.zero_le _,aK,aK,by simp[lO]⟩
 |x::l,n=>by
  obtain⟨k,h1,h2,h3,h4⟩:=ss l n
  by_cases hx:x<n
  ·refine⟨k+1,by simp;omega, ?_,by simpa using h3, ?_⟩
   ·intro y hy
    simp only[List.take_succ_cons,List.mem_cons]at hy
    rcases hy with rfl|hy
    ·exact hx
    ·exact h2 y hy
   ·simp only[lO,if_pos hx,h4,List.getElem?_cons_succ,List.take_succ_cons,List.drop_succ_cons]
    split<;>simp
  ·refine⟨0,Nat.zero_le _,aK,by simpa using hx, ?_⟩
   simp only[lO,if_neg hx]
   by_cases e:x=n
   ·subst e;simp
   ·simp[e]
theorem VD(l:List Int)(n:Int)(hl:l.length<=1000000):aY Tryz.prog 155 [.sl (l.map .i), .i n] (.ret [.sl ((lO l n).map .i)]):=by
 obtain⟨j,j1,j2,j3,j4⟩:=ss l n
 have tk:∀ (i:Nat) (l:List Int),List.take i (l.map D.i)=(l.take i).map D.i:=fun i l=>List.map_take.symm
 have dr:∀ (i:Nat) (l:List Int),List.drop i (l.map D.i)=(l.drop i).map D.i:=fun i l=>List.map_drop.symm
 have ap:∀ (a b:List Int),a.map D.i++[D.i n]++b.map D.i=(a++n::b).map D.i:=fun a b=>aK
 refine aY.aN mix UB aK ?_
 rw[UA]
 refine cQ ?_
 refine aL (fun k:Nat=>⟨bc [.d (.sl (l.map .i)), .d (.i n), .ab, .ab, .ab, .d (.i k)],fun _=> .no,0⟩)
  (fun k=>k<=j) (fun k=>l.length - k) 0 (Nat.zero_le _) (bM.d0 _ ?_) (fun k hk=> ?_)
 ·exact ec
 by_cases hkj:k=j
 ·subst hkj
  by_cases h5:k<l.length
  ·obtain⟨x,hx⟩:=aH h5
   have h6:=j3 x hx
   have DM:(k:Int)<l.length:=af
   refine D2 hx DM h6 ?_
   refine ak (fun h3=> ?_) (fun h3=> ?_)
   ·refine cQ ?_
    have e:x=n:=by simpa using h3
    rw[j4,if_pos (by rw[hx,e])]
   ·have e: ¬x=n:=by simpa using h3
    rw[j4,if_neg (by rw[hx];simpa using e)]
    simp+contextual (disch:=first|omega|simp only[go_sem,false_implies]) only[go_sem,wrap64,if_pos,hx,DM,h6,tk,dr,List.take_length,List.length_map,List.length_take,List.length_drop,List.length_append,List.length_cons,List.length_nil]
    rw[ap]
    refine bg dU ?_
    exact qG
  ·have DM: ¬ (k:Int)<l.length:=af
   have hx:l[k]? =none:=by simp;omega
   rw[j4,if_neg (by rw[hx];simp)]
   simp+contextual (disch:=first|omega|simp only[go_sem,false_implies]) only[go_sem,wrap64,if_pos,DM,tk,dr,List.take_length,List.length_map,List.length_take,List.length_drop,List.length_append,List.length_cons,List.length_nil]
   rw[ap]
   refine bg dU ?_
   exact qG
 ·have bQ:k<l.length:=af
  obtain⟨x,hx⟩:=aH bQ
  have DM:(k:Int)<l.length:=af
  have h6:x<n:=j2 x (List.mem_of_getElem? (i:=k) (by rw[List.getElem?_take_of_lt (by omega)];exact hx))
  refine D2 hx DM h6 ?_
  refine ax (k+1) af af (bM.d0 _ ?_)
  exact ec
theorem Dx{op n:Int}{i:Nat}{l:List Int}{k:Nat}{v:Int}(h:l[k]? =some v)(out:List Int):mL op n i (l.take (k+1)) out=if(op !=8||(i:Int)!=1||v !=n)=true then lO (mL op n i (l.take k) out) v else mL op n i (l.take k) out:=by
 unfold mL
 rw[List.take_add_one,h,List.foldl_append]
 rfl
theorem OE{t a body:Tm}{v:Int}(h8:t.op=8)(hk:t.kids=[a,body]):fG v t=(fG v a||(fG v body&& !(t.n==v))):=by
 rw[pa,hk,h8]
 simp[v8]
theorem su{v n:Int}:fG v (.mk 1 n [])=(n==v):=rfl
theorem F8{t:Tm}{v:Int}(h1:t.op≠1)(h8:t.op≠8):fG v t=t.kids.any (fG v):=by rw[pa,if_neg h1,B6 h8]
def Zr(R:Int->Int->Prop)(x y:Int):Int->Int->Prop:=fun v w=>(v=x/\w=y)\/(v≠x/\w≠y/\R v w)
inductive Al:(Int->Int->Prop)->Tm->Tm->Prop where
 |var {R:Int->Int->Prop} {v w:Int} (h:R v w):Al R (.mk 1 v []) (.mk 1 w [])
 |Ay {R:Int->Int->Prop} {n m:Int} {a a' b b':Tm} (ha:Al R a a') (hb:Al (Zr R n m) b b'):Al R (.mk 8 n [a,b]) (.mk 8 m [a',b'])
 |node {R:Int->Int->Prop} {op n:Int} {l l':List Tm} (h1:op≠1) (h8:op≠8) (hl:l.length=l'.length) (h:∀ (i:Nat) (k k':Tm),l[i]? =some k->l'[i]? =some k'->Al R k k'):Al R (.mk op n l) (.mk op n l')
theorem Al.mono {R:Int->Int->Prop}{t t':Tm}(h:Al R t t'):∀ {S:Int->Int->Prop},(∀v w,R v w->S v w)->Al S t t':=by
 induction h with
 |var h=>exact fun hs=> .var (hs _ _ h)
 |Ay ha hb Zs Zt=>
  exact fun hs=> .Ay (Zs hs) (Zt fun v w h=>h.elim Or.inl fun h=>Or.inr ⟨h.1,h.2.1,hs _ _ h.2.2⟩)
 |node h1 h8 hl h ih=>exact fun hs=> .node h1 h8 hl fun i k k' g g'=>ih i k k' g g' hs
def VE(R S:Int->Int->Prop):Int->Int->Prop:=fun v w=>∃u,R v u/\S u w
theorem Al.comp {R:Int->Int->Prop}{t t1:Tm}(h:Al R t t1):∀ {S:Int->Int->Prop} {t2:Tm},Al S t1 t2->Al (VE R S) t t2:=by
 induction h with
 |var h=>
  intro S t2 h2
  generalize he:Tm.mk 1 _ []=x at h2
  cases h2 with
  |var h3=>injection he with _ e _;subst e;exact .var ⟨_,h,h3⟩
  |Ay _ _=>injection he with e;cases e
  |node g1 _ _ _=>injection he with e;exact absurd e.symm g1
 |Ay ha hb Zs Zt=>
  intro S t2 h2
  generalize he:Tm.mk 8 _ _=x at h2
  cases h2 with
  |var h3=>injection he with e;cases e
  |Ay g1 g2=>
   injection he with _ e1 e2
   injection e2 with e2 e3
   injection e3 with e3 _
   subst e1;subst e2;subst e3
   refine .Ay (Zs g1) ((Zt g2).mono ?_)
   rintro v w ⟨u,(⟨p1,p2⟩|⟨p1,p2,p3⟩),(⟨q1,q2⟩|⟨q1,q2,q3⟩)⟩
   ·exact Or.inl ⟨p1,q2⟩
   ·exact absurd p2 q1
   ·exact absurd q1 p2
   ·exact Or.inr ⟨p1,q2,u,p3,q3⟩
  |node g1 g8 _ _=>injection he with e;exact absurd e.symm g8
 |node h1 h8 hl h ih=>
  intro S t2 h2
  generalize he:Tm.mk _ _ _=x at h2
  cases h2 with
  |var h3=>injection he with e;exact absurd e h1
  |Ay _ _=>injection he with e;exact absurd e h8
  |node g1 g8 gl g3=>
   injection he with e1 e2 e3
   subst e1;subst e2;subst e3
   refine .node h1 h8 (hl.trans gl) fun i k k2 hk hk2=> ?_
   have bQ:i<_:=(List.getElem?_eq_some_iff.1 hk).1
   have JN:=List.getElem?_eq_getElem (hl ▸ bQ)
   exact ih i k _ hk JN (g3 i _ k2 JN hk2)
theorem ID{t:Tm}(hw:t.wf)(h:t.op=1):t= .mk 1 t.n []:=by
 obtain⟨op,n,kids⟩:=t
 rw[Tm.Aw]at hw
 simp only[Tm.op,Tm.n,Tm.kids]at h hw|-
 rw[h,hw.1 h]
def IC.snd:IC->IC
 | .seq _ y=>y
 |c=>c
def IC.fst:IC->IC
 | .seq x _=>x
 | .block _ x=>x
 | .loop x=>x
 | .cond _ x _=>x
 |c=>c
@[reducible] def Zu (m:List (Int×Int)):aa:= .map 3 3 (enc (D.int .i64) (ints m))
@[reducible] def Zv (m:List (Int×Int)):aa:= .cO (enc (D.int .i64) (ints m))
def BdV(o:Nat->aa)(bv:V)(m:List (Int×Int)):Prop:=(bv= .d .eJ/\m=[])\/∃b,bv= .mp b/\o b=Zv m
structure Zw (o:Nat->aa) (nx cid fid:Nat) (bv:V) (mB bd fr:List (Int×Int)) (n:Int) (sz:Nat):Prop where
 bZ:Good o nx
 hc:o cid= .row [.d (.i n), .mp fid]
 hf:o fid=Zu fr
 hb:BdV o bv mB
 kb:Keys mB
 lk:∀v,lk mB v=lk bd v
 n0:0<=n
 n1:n+sz<=1000000
@[go_sem] theorem Qm {P:Program} {kt:TypeId} {k:D} {i:Nat}:findD P kt k [] i=some none:=rfl
theorem nY:∀l:List Tm,l.length<=o8 l
 |[]=>by simp[o8]
 |k::l=>by have:=nY l;have:=Tm.Aq k;rw[nT,List.length_cons];omega
theorem Tm.Az {t k:Tm}(hk:k∈t.kids):k.sz+1<=t.sz:=by
 have:=Tm.uy hk
 rw[Tm.yz,Tm.yz]at this
 omega
theorem Tm.qB:∀t:Tm,t.sz<=1000000->t.fits:=by
 refine Tm.fe fun t ih h=> ?_
 rw[Tm.bA]
 refine⟨?_,fun k hk=>ih k hk (by have:=Tm.Az hk;omega)⟩
 have:=nY t.kids
 rw[Tm.lb]at h
 omega
def oq(b:List (Int×Tm)):List (Int×D):=b.map fun p=>(p.1,p.2.d)
@[reducible] def D0 (b:List (Int×Tm)):D:=mpD (oq b)
theorem sv:∀ (m:List (Int×Tm)) (v:Int) (i:Nat),(match gA v (oq m) i with|some (_,x)=>some x|none=>none)=(bW m v).map Tm.d
 |[],_,_=>rfl
 |p::m,v,i=>by
  have ih:=sv m v (i+1)
  simp only[oq,List.map_cons,gA,bW]at ih|-
  by_cases h:v=p.1
  ·subst h;simp
  ·have h2: ¬p.1=v:=fun e=>h e.symm
   simp only[beq_iff_eq,h,h2,if_false]
   exact ih
theorem jb{m:List (Int×Tm)}{v:Int}{x:Tm}(h:bW m v=some x):∃j,gA v (oq m) 0=some (j,x.d):=by
 have:=sv m v 0
 rw[h]at this
 cases h2:gA v (oq m) 0 with
 |none=>rw[h2]at this;cases this
 |some p=>obtain⟨j,y⟩:=p;rw[h2]at this;simp at this;subst this;exact⟨j,rfl⟩
theorem fL{m:List (Int×Tm)}{v:Int}(h:bW m v=none):gA v (oq m) 0=none:=by
 have:=sv m v 0
 rw[h]at this
 cases h2:gA v (oq m) 0 with
 |none=>rfl
 |some p=>rw[h2]at this;cases this
theorem uC{K:V->List (Nat×aa)->Prop}{id:Nat}{m:List (Int×Tm)}(h0:m=[]->K (.bC [.d (.bool false)]) [])
 (h1:∀ (i:Nat) k x,m[i]? =some (k,x)->K (.bC [.d (.bool true), .d (.int .i64 k), .d x.d]) [(id, .oB (enc (D.int .i64) (oq (m.eraseIdx i))) (some (.int .i64 k,x.d)))]):BA K id (enc (D.int .i64) (oq m)):=by
 refine Dj _ (fun h=>h0 ?_) fun i k x h=> ?_
 ·cases m with
  |nil=>rfl
  |cons x l=>simp[oq]at h
 ·unfold oq at h|-
  rw[List.getElem?_map]at h
  cases hm:m[i]? with
  |none=>rw[hm]at h;cases h
  |some p=>
   rw[hm]at h
   simp at h
   obtain⟨rfl,rfl⟩:=h
   have:=h1 i p.1 p.2 (by rw[hm])
   rw[jQ]
   exact this
@[reducible] def lh (m:List (Int×Tm)):aa:= .map 3 33 (enc (D.int .i64) (oq m))
theorem F9{m:List (Int×Tm)}{v:Int}{x:Tm}(h:bW m v=none):Di v x.d (oq m)=oq (m++[(v,x)]):=by
 unfold Di
 rw[fL h]
 simp[oq]
theorem lj(s:aJ):∀t:Tm,fA s t=true->t.wf:=by
 refine Tm.fe fun t ih h=> ?_
 rw[jo,Bool.and_eq_true,List.all_eq_true]at h
 rw[Tm.Aw]
 refine⟨fun h1=>F7 h.1 h1,fun h8=> ?_,fun k hk=>ih k hk (h.2 k hk)⟩
 have:=h.1
 simp[aX,h8]at this
 omega
theorem IE{s:aJ}{t:Tm}(h:hZ s t=true):t.wf/\t.sz<=40/\t.mS<=12:=by
 simp only[hZ,Bool.and_eq_true,decide_eq_true_eq,sc]at h
 exact⟨lj s t h.2,af,af⟩
def ay(l:List TB):List (Int×Tm):=l.map fun x=>(x.var,x.term)
theorem AA{s:aJ}{op n:Int}{l l':List Tm}(h:l'.length=l.length):aX s (.mk op n l')=aX s (.mk op n l):=by
 unfold aX
 dsimp only[Tm.op,Tm.n,Tm.kids]
 rw[h]
 rfl
theorem Dy{s:aJ}{k:Int}(h:0<=k/\k<20):aX s (.mk 1 k [])=true:=by
 have:c6 k 0 19=true:=by simp[c6];omega
 simp[aX,Tm.op,Tm.n,Tm.kids,this]
theorem Ga{s:aJ}:∀t:Tm,fA s t=true->∀v,fG v t=true->0<=v/\v<20:=by
 refine Tm.fe fun t ih h v hv=> ?_
 have hw:=(Tm.Aw t).1 (lj s t h)
 rw[jo,Bool.and_eq_true,List.all_eq_true]at h
 by_cases h1:t.op=1
 ·rw[pa,if_pos h1]at hv
  have hv:t.n=v:=by simpa using hv
  have:=h.1
  simp[aX,h1,c6]at this
  omega
 ·by_cases h8:t.op=8
  ·obtain⟨a,body,hk⟩:=OD (hw.2.1 h8)
   rw[OE h8 hk,Bool.or_eq_true,Bool.and_eq_true]at hv
   rcases hv with hv|hv
   ·exact ih a (by rw[hk];simp) (h.2 a (by rw[hk];simp)) v hv
   ·exact ih body (by rw[hk];simp) (h.2 body (by rw[hk];simp)) v hv.1
  ·rw[F8 h1 h8,List.any_eq_true]at hv
   obtain⟨k,hk,hv⟩:=hv
   exact ih k hk (h.2 k hk) v hv
def findF(l:List TB)(n:Int):Int:=match l.findIdx? (·.var==n)with|some i=>i|none=> -1
theorem wa(l:List TB)(n:Int):(findF l n<0/\bW (ay l) n=none)\/∃ (k:Nat) (x:TB),findF l n=k/\l[k]? =some x/\bW (ay l) n=some x.term:=by
 induction l with
 |nil=>left;exact⟨by simp[findF],rfl⟩
 |cons y l ih=>
  by_cases h:y.var=n
  ·right
   refine⟨0,y, ?_,rfl, ?_⟩
   ·simp[findF,List.findIdx?_cons,h]
   ·simp[ay,bW,h]
  ·have hf:bW (ay (y::l)) n=bW (ay l) n:=by simp[ay,bW,h]
   have h':(y.var==n)=false:=by simpa using h
   rw[hf]
   unfold findF at ih|-
   rw[List.findIdx?_cons,h']
   simp only[Bool.false_eq_true,if_false]
   rcases ih with⟨h1,h2⟩|⟨k,x,h1,h2,h3⟩
   ·left
    refine⟨?_,h2⟩
    cases hi:l.findIdx? (·.var==n)with
    |none=>simp
    |some i=>rw[hi]at h1;simp at h1;omega
   ·right
    refine⟨k+1,x, ?_,h2,h3⟩
    cases hi:l.findIdx? (·.var==n)with
    |none=>rw[hi]at h1;simp at h1;try omega
    |some i=>rw[hi]at h1;simp at h1|-;try omega
def iy(g:List Int)(i:Int):Nat:=(g.filter fun x=>decide (x<i)).length
theorem ll{g:List Int}{i:Int}(h:∀x∈g,i<=x):iy g i=0:=by
 unfold iy
 rw[List.filter_eq_nil_iff.2 (fun x hx=>by have:=h x hx;simp;omega)];rfl
theorem IF{g:List Int}{i:Int}(h:∀x∈g,x<i):iy g i=g.length:=by
 unfold iy
 rw[List.filter_eq_self.2 (fun x hx=>by simpa using h x hx)]
theorem yD:∀ {g:List Int},Dv g->∀i:Int,if i∈g then g[iy g i]? =some i/\iy g (i+1)=iy g i+1 else iy g (i+1)=iy g i
 |[],_,i=>by simp[iy]
 |x::g,hg,i=>by
  have Qn:=List.pairwise_cons.1 hg
  have ih:=yD Qn.2 i
  have hc:∀j,iy (x::g) j=(if x<j then 1 else 0)+iy g j:=fun j=>by
   unfold iy
   rw[List.filter_cons]
   by_cases e:x<j
   ·simp[e];omega
   ·simp[e]
  rcases Int.lt_trichotomy x i with h|h|h
  ·have hm:(i∈x::g)↔i∈g:=by simp;omega
   simp only[hm,hc,if_pos h,if_pos (show x<i+1 by omega)]
   split
   ·rename_i e
    rw[if_pos e]at ih
    refine⟨?_,af⟩
    rw[show 1+iy g i=iy g i+1 by omega,List.getElem?_cons_succ]
    exact ih.1
   ·rename_i e
    rw[if_neg e]at ih
    omega
  ·subst h
   have z1:iy g x=0:=ll fun y hy=>by have:=Qn.1 y hy;omega
   have z2:iy g (x+1)=0:=ll fun y hy=>by have:=Qn.1 y hy;omega
   rw[if_pos (by simp),hc,hc,z1,z2,if_neg (by omega),if_pos (by omega)]
   exact⟨rfl,rfl⟩
  ·have hm: ¬i∈x::g:=by
    intro hm
    rcases List.mem_cons.1 hm with rfl|hm
    ·omega
    ·have:=Qn.1 i hm;omega
   have z1:iy g i=0:=ll fun y hy=>by have:=Qn.1 y hy;omega
   have z2:iy g (i+1)=0:=ll fun y hy=>by have:=Qn.1 y hy;omega
   rw[if_neg hm,hc,hc,z1,z2,if_neg (by omega),if_neg (by omega)]
theorem wb{ns:List Int}(h:∀n∈ns,0<=n/\n<20)(hi:Dv ns):ns.length<=20:=by
 have hc:∀k:Nat,iy ns (k:Int)<=k:=by
  intro k
  induction k with
  |zero=>show iy ns (0:Int)<=0;rw[ll (fun x hx=>(h x hx).1)];exact Nat.le_refl _
  |succ k ih=>
   have:=yD hi (k:Int)
   rw[Int.natCast_succ]
   split at this<;>omega
 have:iy ns (20:Int)<=20:=hc 20
 rwa [IF (fun x hx=>(h x hx).2)]at this
mutual
def dt(b:List (Int×Tm)):Tm->Tm
 | .mk op n kids=>if op=1 then(match bW b n with|some x=>x|none=> .mk op n kids)else .mk op n (IG b kids)
def IG(b:List (Int×Tm)):List Tm->List Tm
 |[]=>[]
 |k::l=>dt b k::IG b l
end
theorem yE(b:List (Int×Tm)):∀l:List Tm,IG b l=l.map (dt b)
 |[]=>rfl
 |k::l=>by simp[IG,yE b l]
theorem AB(b:List (Int×Tm))(t:Tm):dt b t=if t.op=1 then(match bW b t.n with|some x=>x|none=>t)else .mk t.op t.n (t.kids.map (dt b)):=by
 cases t;simp only[dt,yE,Tm.op,Tm.n,Tm.kids];rfl
def Lv(b:List (Int×Tm))(v:Int):Tm:=match bW b v with|some x=>x|none=> .mk 1 v []
def vop(t:Tm):Prop:=(1<=t.op/\t.op<=3)\/t.op=5
def Vs(s:aJ)(t:Tm):Prop:=fA s t=true/\ey t=true
theorem pb{s:aJ}{t:Tm}:Vs s t↔aX s t=true/\vop t/\∀k∈t.kids,Vs s k:=by
 unfold Vs vop
 rw[jo,o7]
 simp only[Bool.and_eq_true,List.all_eq_true,Bool.or_eq_true,decide_eq_true_eq,beq_iff_eq]
 constructor
 ·rintro⟨⟨h1,h2⟩,h3,h4⟩;exact⟨h1,h4,fun k hk=>⟨h2 k hk,h3 k hk⟩⟩
 ·rintro⟨h1,h2,h3⟩;exact⟨⟨h1,fun k hk=>(h3 k hk).1⟩,fun k hk=>(h3 k hk).2,h2⟩
theorem Vs.yy {s:aJ}{t k:Tm}(h:Vs s t)(hk:k∈t.kids):Vs s k:=(pb.1 h).2.2 k hk
theorem Vs.eta {s:aJ}{t:Tm}(h:Vs s t)(h1:t.op=1):t= .mk 1 t.n []:=ID (lj s t h.1) h1
theorem Vs.n8 {s:aJ}{t:Tm}(h:Vs s t):t.op≠8:=by rcases(pb.1 h).2.1 with h|h<;>omega
theorem Vs.range {s:aJ}{t:Tm}(h:Vs s t){v:Int}(hv:fG v t=true):0<=v/\v<20:=Ga t h.1 v hv
theorem Vs.var {s:aJ}{v:Int}(h:0<=v/\v<20):Vs s (.mk 1 v []):=pb.2 ⟨Dy h,Or.inl ⟨by show(1:Int)<=1;omega,by show(1:Int)<=3;omega⟩,fun k hk=>by cases hk⟩
theorem Vs.mk' {s:aJ}{t:Tm}{l:List Tm}(h:Vs s t)(hl:l.length=t.kids.length)(hk:∀k∈l,Vs s k):Vs s (.mk t.op t.n l):=
 pb.2 ⟨by rw[AA hl,Tm.eta];exact(pb.1 h).1,(pb.1 h).2.1,hk⟩
theorem lT{t:Tm}(h1:t.op=1){v:Int}:fG v t=true↔t.n=v:=by rw[pa,if_pos h1];simp
theorem uD{s:aJ}{t:Tm}(h:Vs s t)(h1:t.op≠1){v:Int}:fG v t=true↔∃k∈t.kids,fG v k=true:=by rw[F8 h1 h.n8,List.any_eq_true]
theorem jY{b:List (Int×Tm)}{s:aJ}{t:Tm}(h:Vs s t)(h1:t.op=1):dt b t=Lv b t.n:=by
 rw[AB,if_pos h1,Lv]
 cases bW b t.n with
 |some x=>rfl
 |none=>exact h.eta h1
theorem wc{b:List (Int×Tm)}{v:Int}:dt b (.mk 1 v [])=Lv b v:=by rw[AB];rfl
theorem ma{b:List (Int×Tm)}{t:Tm}(h1:t.op≠1):dt b t= .mk t.op t.n (t.kids.map (dt b)):=by rw[AB,if_neg h1]
theorem B7{s:aJ}{b c d:List (Int×Tm)}:∀t:Tm,Vs s t->(∀v,fG v t=true->dt c (Lv b v)=Lv d v)->dt c (dt b t)=dt d t:=by
 refine Tm.fe fun t ih hv h=> ?_
 by_cases h1:t.op=1
 ·rw[jY hv h1,jY hv h1,h _ ((lT h1).2 rfl)]
 ·rw[ma h1,ma h1 (b:=d),ma (by exact h1)]
  show Tm.mk t.op t.n ((t.kids.map (dt b)).map (dt c))=_
  rw[List.map_map,List.map_congr_left (f:=dt c∘dt b) (g:=dt d) fun k hk=>ih k hk (hv.yy hk) fun v II=>h v ((uD hv h1).2 ⟨k,hk,II⟩)]
theorem Lk{s:aJ}{b:List (Int×Tm)}:∀t:Tm,Vs s t->(∀v,fG v t=true->bW b v=none)->dt b t=t:=by
 refine Tm.fe fun t ih hv h=> ?_
 by_cases h1:t.op=1
 ·rw[jY hv h1,Lv,h _ ((lT h1).2 rfl)]
  exact(hv.eta h1).symm
 ·rw[ma h1,List.map_congr_left (g:=id) fun k hk=>ih k hk (hv.yy hk) fun v II=>h v ((uD hv h1).2 ⟨k,hk,II⟩),List.map_id]
  exact Tm.eta t
theorem Vs.Lv {s:aJ}{b:List (Int×Tm)}(hb:∀p∈b,Vs s p.2){v:Int}(h:0<=v/\v<20):Vs s (Lv b v):=by
 unfold YtlhemmpklhhgoaaGreat.Lv
 cases hl:bW b v with
 |some x=>exact hb _ (dm hl)
 |none=>exact Vs.var h
theorem Vs.sub {s:aJ}{b:List (Int×Tm)}(hb:∀p∈b,Vs s p.2):∀t:Tm,Vs s t->Vs s (dt b t):=by
 refine Tm.fe fun t ih hv=> ?_
 by_cases h1:t.op=1
 ·rw[jY hv h1];exact Vs.Lv hb (hv.range ((lT h1).2 rfl))
 ·rw[ma h1]
  refine hv.mk' aK fun k hk=> ?_
  obtain⟨x,hx,rfl⟩:=List.mem_map.1 hk
  exact ih x hx (hv.yy hx)
theorem pX{s:aJ}{b:List (Int×Tm)}(hb:∀p∈b,Vs s p.2):∀t:Tm,Vs s t->∀v,fG v (dt b t)=true↔∃u,fG u t=true/\fG v (Lv b u)=true:=by
 refine Tm.fe fun t ih hv v=> ?_
 by_cases h1:t.op=1
 ·rw[jY hv h1]
  simp only[lT h1]
  exact⟨fun h=>⟨_,rfl,h⟩,fun⟨u,e,h⟩=>e ▸ h⟩
 ·have Gb:=Vs.sub hb t hv
  rw[ma h1]at Gb|-
  rw[uD Gb (by exact h1)]
  simp only[uD hv h1,Tm.kids,List.mem_map]
  constructor
  ·rintro⟨_,⟨k,hk,rfl⟩,h⟩
   obtain⟨u,h2,h3⟩:=(ih k hk (hv.yy hk) v).1 h
   exact⟨u,⟨k,hk,h2⟩,h3⟩
  ·rintro⟨u,⟨k,hk,h2⟩,h3⟩
   exact⟨_,⟨k,hk,rfl⟩,(ih k hk (hv.yy hk) v).2 ⟨u,h2,h3⟩⟩
def sw:List TB->Int->Tm->List TB
 |[],n,t=>[⟨n,t⟩]
 |x::l,n,t=>if x.var<n then x::sw l n t else⟨n,t⟩::x::l
abbrev we(n:Int)(t:Tm):List (Int×Tm):=[(n,t)]
def sx(l:List TB)(n:Int)(t:Tm):List TB:=sw (l.map fun x=>⟨x.var,dt (we n t) x.term⟩) n t
theorem OG{l:List TB}{n:Int}{t:Tm}(hn:bW (ay l) n=none)(v:Int):bW (ay (sw l n t)) v=if v=n then some t else bW (ay l) v:=by
 induction l with
 |nil=>
  simp only[sw,ay,List.map_cons,List.map_nil,bW]
  by_cases e:v=n
  ·simp[e]
  ·exact Ee
 |cons x l ih=>
  simp only[ay,List.map_cons,bW]at hn
  by_cases e1:x.var=n
  ·rw[if_pos e1]at hn;cases hn
  ·rw[if_neg e1]at hn
   have ih:=ih hn
   simp only[sw]
   split
   ·simp only[ay,List.map_cons,bW]at ih|-
    by_cases e:x.var=v
    ·rw[if_pos e,if_pos e,if_neg fun h=>e1 (e.trans h)]
    ·rw[if_neg e,if_neg e];exact ih
   ·simp only[ay,List.map_cons,bW]
    by_cases e:v=n
    ·simp[e]
    ·exact Ee
theorem Gc(l:List TB)(g:Tm->Tm)(v:Int):bW (ay (l.map fun x=>⟨x.var,g x.term⟩)) v=(bW (ay l) v).map g:=by
 induction l with
 |nil=>rfl
 |cons x l ih=>
  simp only[ay,List.map_cons,bW]at ih|-
  split
  ·rfl
  ·exact ih
theorem wg{l:List TB}{n:Int}{t:Tm}(hn:bW (ay l) n=none)(v:Int):bW (ay (sx l n t)) v=if v=n then some t else(bW (ay l) v).map (dt (we n t)):=by
 unfold sx
 rw[OG (by rw[Gc,hn];rfl),Gc]
theorem AD{n v:Int}{t:Tm}:Lv (we n t) v=if v=n then t else .mk 1 v []:=by
 simp only[Lv,we,bW]
 by_cases e:v=n
 ·simp[e]
 ·exact Ee
theorem wh{l:List TB}{n:Int}{t:Tm}(hn:bW (ay l) n=none)(v:Int):Lv (ay (sx l n t)) v=if v=n then t else dt (we n t) (Lv (ay l) v):=by
 simp only[Lv,wg hn]
 by_cases e:v=n
 ·simp[e]
 ·simp only[if_neg e]
  cases h:bW (ay l) v with
  |some x=>rfl
  |none=>simp only[Option.map_none];rw[wc,AD,if_neg e]
structure sM (s:aJ) (l:List TB):Prop where
 Zx:l.Pairwise fun x y=>x.var<y.var
 ok:∀x∈l,(0<=x.var/\x.var<20)/\Vs s x.term
 idem:∀x∈l,∀u,fG u x.term=true->bW (ay l) u=none
theorem sM.nil {s:aJ}:sM s []:=⟨List.Pairwise.nil,fun _ h=>(by cases h),fun _ h=>(by cases h)⟩
theorem sM.bd {s:aJ}{l:List TB}(h:sM s l):∀p∈ay l,Vs s p.2:=fun p hp=>by
 obtain⟨x,hx,rfl⟩:=List.mem_map.1 hp
 exact(h.ok x hx).2
theorem lI{l:List TB}{v:Int}{t:Tm}(h:bW (ay l) v=some t):∃x∈l,x.var=v/\x.term=t:=by
 obtain⟨x,hx,e⟩:=List.mem_map.1 (dm h)
 injection e with e1 e2
 exact⟨x,hx,e1,e2⟩
theorem sM.IJ {s:aJ}{l:List TB}(h:sM s l){v u:Int}(hu:fG u (Lv (ay l) v)=true):bW (ay l) u=none:=by
 unfold Lv at hu
 cases hl:bW (ay l) v with
 |some x=>
  rw[hl]at hu
  obtain⟨y,hy,e1,e2⟩:=lI hl
  exact h.idem y hy u (e2 ▸ hu)
 |none=>
  rw[hl]at hu
  have:v=u:=by rw[su]at hu;simpa using hu
  exact this ▸ hl
theorem sM.free {s:aJ}{l:List TB}(h:sM s l){t:Tm}(ht:Vs s t){u:Int}(hu:fG u (dt (ay l) t)=true):bW (ay l) u=none:=by
 obtain⟨w,_,h2⟩:=(pX h.bd t ht u).1 hu
 exact h.IJ h2
def yF(l l':List TB):Prop:=∀v,dt (ay l') (Lv (ay l) v)=Lv (ay l') v
theorem yF.sub {s:aJ}{l l':List TB}(h:yF l l'){t:Tm}(ht:Vs s t):dt (ay l') (dt (ay l) t)=dt (ay l') t:=B7 t ht fun v _=>h v
theorem yF.refl {s:aJ}{l:List TB}(h:sM s l):yF l l:=fun v=>by
 cases hl:bW (ay l) v with
 |none=>rw[show Lv (ay l) v= .mk 1 v [] by simp[Lv,hl],wc];simp[Lv,hl]
 |some x=>
  have hx:Lv (ay l) v=x:=by simp[Lv,hl]
  obtain⟨y,hy,e1,e2⟩:=lI hl
  rw[hx]
  exact Lk (s:=s) x (e2 ▸ (h.ok y hy).2) fun u hu=>h.idem y hy u (e2 ▸ hu)
theorem yF.trans {s:aJ}{l l' l'':List TB}(hl:sM s l)(h:yF l l')(h':yF l' l'')(hr:∀v,bW (ay l) v≠none->0<=v/\v<20):yF l l'':=fun v=>by
 cases hv:bW (ay l) v with
 |none=>rw[show Lv (ay l) v= .mk 1 v [] by simp[Lv,hv],wc]
 |some x=>
  have hx:Lv (ay l) v=x:=by simp[Lv,hv]
  obtain⟨y,hy,e1,e2⟩:=lI hv
  have Gb:Vs s x:=e2 ▸ (hl.ok y hy).2
  rw[hx, <- h'.sub Gb, <- hx,h v,h' v]
theorem sM.Gd {s:aJ}{l:List TB}(h:sM s l){v:Int}(hv:bW (ay l) v≠none):0<=v/\v<20:=by
 cases hl:bW (ay l) v with
 |none=>exact absurd hl hv
 |some x=>obtain⟨y,hy,e1,e2⟩:=lI hl;exact e1 ▸ (h.ok y hy).1
theorem wk{l:List TB}{n:Int}{t:Tm}{x:TB}:x∈sw l n t↔x=⟨n,t⟩\/x∈l:=by
 induction l with
 |nil=>simp[sw]
 |cons y l ih=>
  simp only[sw]
  split
  ·simp only[List.mem_cons,ih]
   constructor
   ·rintro(h|h|h)
    ·exact Or.inr (Or.inl h)
    ·exact Or.inl h
    ·exact Or.inr (Or.inr h)
   ·rintro(h|h|h)
    ·exact Or.inr (Or.inl h)
    ·exact Or.inl h
    ·exact Or.inr (Or.inr h)
  ·simp only[List.mem_cons]
theorem IK{l:List TB}{n:Int}{t:Tm}(h:l.Pairwise fun x y=>x.var<y.var)(hn:∀x∈l,x.var≠n):(sw l n t).Pairwise fun x y=>x.var<y.var:=by
 induction l with
 |nil=>simp[sw]
 |cons y l ih=>
  rw[List.pairwise_cons]at h
  simp only[sw]
  split
  ·rename_i hy
   rw[List.pairwise_cons]
   refine⟨fun z hz=> ?_,ih h.2 fun x hx=>hn x pw⟩
   rcases wk.1 hz with rfl|hz
   ·exact hy
   ·exact h.1 z hz
  ·rename_i hy
   have:=hn y aK
   rw[List.pairwise_cons,List.pairwise_cons]
   refine⟨fun z hz=> ?_,h⟩
   rcases List.mem_cons.1 hz with rfl|hz
   ·show n<z.var;omega
   ·have:=h.1 z hz;show n<z.var;omega
theorem s9{l:List TB}{n:Int}(h:bW (ay l) n=none):∀x∈l,x.var≠n:=fun x hx e=>by
 rw[nW]at h
 exact h (List.mem_map.2 ⟨(x.var,x.term),List.mem_map.2 ⟨x,hx,rfl⟩,e⟩)
theorem Ge{s:aJ}{l:List TB}(h:sM s l){n:Int}{t:Tm}(hr:0<=n/\n<20)(hn:bW (ay l) n=none)(ht:Vs s t)(hf:∀u,fG u t=true->bW (ay l) u=none)(Wr: ¬fG n t=true):sM s (sx l n t):=by
 have h1:∀p∈we n t,Vs s p.2:=fun p hp=>by simp[we]at hp;subst hp;exact ht
 have Gf:∀u,u≠n->bW (ay l) u=none->bW (ay (sx l n t)) u=none:=fun u e hu=>by rw[wg hn,if_neg e,hu];rfl
 refine⟨?_,fun x hx=> ?_,fun x hx u hu=> ?_⟩
 ·refine IK ?_ ?_
  ·rw[List.pairwise_map];exact h.Zx
  ·intro x hx
   obtain⟨y,hy,rfl⟩:=List.mem_map.1 hx
   exact s9 hn y hy
 ·rcases wk.1 hx with rfl|hx
  ·exact⟨hr,ht⟩
  ·obtain⟨y,hy,rfl⟩:=List.mem_map.1 hx
   exact⟨(h.ok y hy).1,Vs.sub h1 _ (h.ok y hy).2⟩
 ·rcases wk.1 hx with rfl|hx
  ·exact Gf u (fun e=>Wr (e ▸ hu)) (hf u hu)
  ·obtain⟨y,hy,rfl⟩:=List.mem_map.1 hx
   obtain⟨w,hw,JC⟩:=(pX h1 _ (h.ok y hy).2 u).1 hu
   rw[AD]at JC
   split at JC
   ·exact Gf u (fun e=>Wr (e ▸ JC)) (hf u JC)
   ·rename_i e
    have:w=u:=by rw[su]at JC;simpa using JC
    subst this
    exact Gf w e (h.idem y hy w hw)
def pq:Nat->List (Int×Tm)->Tm->Option Tm
 |0,_,_=>none
 |f+1,b,t=>if t.op=1 then(match bW b t.n with|some x=>pq f b x|none=>some t)else some t
theorem iq{b:List (Int×Tm)}:∀ {f g:Nat} {t x:Tm},pq f b t=some x->f<=g->pq g b t=some x
 |0,_,_,_,h,_=>by cases h
 |f+1,0,_,_,_,h=>af
 |f+1,g+1,t,x,h,hg=>by
  simp only[pq]at h|-
  split
  ·rename_i h1
   rw[if_pos h1]at h
   cases hl:bW b t.n with
   |none=>rw[hl]at h;exact h
   |some y=>rw[hl]at h;exact iq (f:=f) h af
  ·rename_i h1
   rw[if_neg h1]at h
   exact h
structure qC (s:aJ) (b:List (Int×Tm)) (l:List TB) (ρ:Int->Nat) (R:Nat):Prop where
 keys:(b.map (·.1)).Nodup
 Gd:∀v,bW b v=none↔bW (ay l) v=none
 ok:∀v x,bW b v=some x->Vs s x/\Lv (ay l) v=dt (ay l) x/\∀u,fG u x=true->ρ u<ρ v
 bd:∀v,ρ v<=R
theorem qC.nil {s:aJ}:qC s [] [] (fun _=>0) 0:=⟨List.nodup_nil,fun _=>Iff.rfl,fun _ _ h=>(by cases h),fun _=>Nat.le_refl _⟩
theorem qC.at {s:aJ}{b:List (Int×Tm)}{l:List TB}{ρ:Int->Nat}{R:Nat}(h:qC s b l ρ R):∀ (m:Nat) (t:Tm),Vs s t->(t.op=1->ρ t.n<=m)->∃x,pq (m+2) b t=some x/\Vs s x/\dt (ay l) x=dt (ay l) t/\(x.op=1->bW b x.n=none)/\(t.op≠1->x=t)/\(t.op=1->(∀u,fG u x=true->ρ u<=ρ t.n)/\(x.op≠1->∀u,fG u x=true->ρ u<ρ t.n)):=by
 intro m
 induction m with
 |zero=>
  intro t hv hm
  by_cases h1:t.op=1
  ·cases hl:bW b t.n with
   |none=>
    exact Rn
   |some x=>
    obtain⟨g1,g2,g3⟩:=h.ok _ _ hl
    by_cases hx:x.op=1
    ·have:=g3 x.n ((lT hx).2 rfl)
     have:=hm h1
     omega
    ·refine⟨x,by simp only[pq,if_pos h1,hl,if_neg hx],g1,by rw[<- g2,jY hv h1],fun h=>absurd h hx,fun h=>absurd h1 h,fun _=>⟨fun u hu=>Nat.le_of_lt (g3 u hu),fun _=>g3⟩⟩
  ·exact QN
 |succ m ih=>
  intro t hv hm
  by_cases h1:t.op=1
  ·cases hl:bW b t.n with
   |none=>
    exact Rn
   |some x=>
    obtain⟨g1,g2,g3⟩:=h.ok _ _ hl
    obtain⟨y,i1,i2,i3,i4,i5,i6⟩:=ih x g1 (fun hx=>by have:=g3 x.n ((lT hx).2 rfl);have:=hm h1;omega)
    refine⟨y,by rw[pq,if_pos h1,hl];exact i1,i2,by rw[i3, <- g2,jY hv h1],i4,fun h=>absurd h1 h,fun _=> ?_⟩
    by_cases hx:x.op=1
    ·have g4:=g3 x.n ((lT hx).2 rfl)
     exact⟨fun u hu=>by have:=(i6 hx).1 u hu;omega,fun h2 u hu=>by have:=(i6 hx).2 h2 u hu;omega⟩
    ·rw[i5 hx]
     exact⟨fun u hu=>Nat.le_of_lt (g3 u hu),fun _=>g3⟩
  ·exact QN
theorem qC.root {s:aJ}{b:List (Int×Tm)}{l:List TB}{ρ:Int->Nat}{R:Nat}(h:qC s b l ρ R){t:Tm}(hv:Vs s t):∃x,pq (R+2) b t=some x/\Vs s x/\dt (ay l) x=dt (ay l) t/\(x.op=1->bW b x.n=none)/\(t.op≠1->x=t)/\(t.op=1->(∀u,fG u x=true->ρ u<=ρ t.n)/\(x.op≠1->∀u,fG u x=true->ρ u<ρ t.n)):=
 h.at R t hv fun _=>h.bd _
theorem yG(l:List (Int×Tm))(p:Int×Tm)(v:Int):bW (l++[p]) v=match bW l v with|some x=>some x|none=>if p.1=v then some p.2 else none:=by
 induction l with
 |nil=>simp[bW]
 |cons q l ih=>
  simp only[List.cons_append,bW]
  split
  ·rfl
  ·exact ih
theorem one_sub{s:aJ}{l:List TB}{n:Int}{t:Tm}(hn:bW (ay l) n=none){x:Tm}(hx:Vs s x):dt (we n t) (dt (ay l) x)=dt (ay (sx l n t)) x:=by
 refine B7 x hx fun u _=> ?_
 rw[wh hn]
 split
 ·rename_i e
  rw[e,show Lv (ay l) n= .mk 1 n [] by simp[Lv,hn],wc,AD,if_pos rfl]
 ·rfl
theorem qC.ext {s:aJ}{b:List (Int×Tm)}{l:List TB}{ρ:Int->Nat}{R:Nat}(h:qC s b l ρ R)(hl:sM s l){n:Int}(hn:bW b n=none){y:Tm}(hy:Vs s y)(VF: ¬fG n (dt (ay l) y)=true):
 ∃Zy R',qC s (b++[(n,y)]) (sx l n (dt (ay l) y)) Zy R':=by
 have Hz:=(h.Gd n).1 hn
 refine⟨fun v=>if fG n (Lv (ay l) v)=true then R+1+ρ v else ρ v,2*R+1, ?_,fun v=> ?_,fun v x hx=> ?_,fun v=> ?_⟩
 ·rw[List.map_append,List.map_cons,List.map_nil,List.nodup_append]
  refine⟨h.keys,aK,fun a ha c hc=> ?_⟩
  simp at hc
  subst hc
  exact fun e=>(nW.1 hn) (e ▸ ha)
 ·rw[yG,wg Hz]
  by_cases e:v=n
  ·subst e;simp[hn]
  ·rw[if_neg e]
   cases hv:bW b v with
   |some x=>
    simp only[reduceCtorEq,false_iff]
    intro h2
    cases h3:bW (ay l) v with
    |some y=>rw[h3]at h2;cases h2
    |none=>rw[(h.Gd v).2 h3]at hv;cases hv
   |none=>
    simp[(h.Gd v).1 hv]
    exact fun h=>e h.symm
 ·rw[yG]at hx
  cases hv:bW b v with
  |some z=>
   rw[hv]at hx
   injection hx with hx
   subst hx
   have hvn:v≠n:=fun e=>by rw[e,hn]at hv;cases hv
   obtain⟨g1,g2,g3⟩:=h.ok v z hv
   refine⟨g1,by rw[wh Hz,if_neg hvn,g2,one_sub Hz g1],fun u hu=> ?_⟩
   have h3:=g3 u hu
   have h4:fG n (Lv (ay l) u)=true->fG n (Lv (ay l) v)=true:=fun h5=>by rw[g2];exact(pX hl.bd z g1 n).2 ⟨u,hu,h5⟩
   by_cases h5:fG n (Lv (ay l) u)=true
   ·rw[if_pos h5,if_pos (h4 h5)];omega
   ·rw[if_neg h5];split<;>omega
  |none=>
   rw[hv]at hx
   simp only at hx
   split at hx
   ·rename_i e
    injection hx with hx
    subst hx;subst e
    refine⟨hy, ?_,fun u hu=> ?_⟩
    ·rw[wh Hz,if_pos rfl, <- one_sub Hz hy]
     exact(Lk (s:=s) _ (Vs.sub hl.bd y hy) fun v hv=>by
      have: ¬n=v:=fun e=>by subst e;exact VF hv
      simp[we,bW,this]).symm
    ·have h5: ¬fG n (Lv (ay l) u)=true:=fun h5=>VF ((pX hl.bd y hy n).2 ⟨u,hu,h5⟩)
     have h6:fG n (Lv (ay l) n)=true:=by rw[show Lv (ay l) n= .mk 1 n [] by simp[Lv,Hz],su];simp
     have:=h.bd u
     simp only[if_neg h5,if_pos h6]
     omega
   ·cases hx
 ·have:=h.bd v
  split<;>omega
theorem sM.len {s:aJ}{l:List TB}(h:sM s l):l.length<=20:=by
 have:=wb (ns:=l.map (·.var)) (fun n hn=>by obtain⟨x,hx,rfl⟩:=List.mem_map.1 hn;exact(h.ok x hx).1) (by rw[Dv,List.pairwise_map];exact h.Zx)
 rwa [List.length_map]at this
mutual
def pc:Tm->List Int
 | .mk op n kids=>if op=1 then [n]else IL kids
def IL:List Tm->List Int
 |[]=>[]
 |k::l=>pc k++IL l
end
theorem yH:∀l:List Tm,IL l=l.flatMap pc
 |[]=>rfl
 |k::l=>by rw[IL,yH l,List.flatMap_cons]
theorem Gg(t:Tm):pc t=if t.op=1 then [t.n]else t.kids.flatMap pc:=by
 cases t;rw[pc,yH];rfl
theorem Ll{s:aJ}:∀t:Tm,Vs s t->∀v,v∈pc t↔fG v t=true:=by
 refine Tm.fe fun t ih hv v=> ?_
 rw[Gg]
 by_cases h1:t.op=1
 ·rw[if_pos h1,lT h1,List.mem_singleton];exact eq_comm
 ·rw[if_neg h1,uD hv h1,List.mem_flatMap]
  exact⟨fun⟨k,hk,h⟩=>⟨k,hk,(ih k hk (hv.yy hk) v).1 h⟩,fun⟨k,hk,h⟩=>⟨k,hk,(ih k hk (hv.yy hk) v).2 h⟩⟩
inductive nZ (b:List (Int×Tm)) (n:Int):Tm->Prop where
 |here {t:Tm}:fG n t=true->nZ b n t
 |step {t:Tm} {v:Int} {x:Tm}:fG v t=true->bW b v=some x->nZ b n x->nZ b n t
theorem nZ.mono {b c:List (Int×Tm)}(h:∀v x,bW b v=some x->bW c v=some x){t:Tm}{n:Int}(hr:nZ b n t):nZ c n t:=by
 induction hr with
 |here h1=>exact .here h1
 |step h1 h2 _ ih=>exact .step h1 (h _ _ h2) ih
def Gh(F:Tm->List Int->Option (Bool×List Int))(b:List (Int×Tm))(n:Int):List Int->List Int->Option (Bool×List Int)
 |[],met=>some (false,met)
 |v::vs,met=>if v=n then some (true,met)else
  match bW b v with
  |none=>Gh F b n vs met
  |some x=>if v∈met then Gh F b n vs met else
   match F x (dk met v)with
   |some (true,m)=>some (true,m)
   |some (false,m)=>Gh F b n vs m
   |none=>none
def GZ:Nat->List (Int×Tm)->Int->Tm->List Int->Option (Bool×List Int)
 |0,_,_,_,_=>none
 |f+1,b,n,t,met=>Gh (GZ f b n) b n (pc t) met
theorem n6{F G:Tm->List Int->Option (Bool×List Int)}(G0:∀x m r,F x m=some r->G x m=some r){b:List (Int×Tm)}{n:Int}:∀ {vs met:List Int} {r:Bool×List Int},Gh F b n vs met=some r->Gh G b n vs met=some r
 |[],_,_,h=>h
 |v::vs,met,r,h=>by
  simp only[Gh]at h|-
  split at h
  ·rename_i e;rw[if_pos e];exact h
  ·rename_i e
   rw[if_neg e]
   split at h
   ·exact n6 G0 h
   ·split at h
    ·rename_i e2;rw[if_pos e2];exact n6 G0 h
    ·rename_i x _ e2
     rw[if_neg e2]
     cases hF:F x (dk met v)with
     |none=>rw[hF]at h;cases h
     |some q=>
      rw[hF]at h
      rw[G0 _ _ _ hF]
      obtain⟨is,m⟩:=q
      cases is with
      |true=>exact h
      |false=>exact n6 G0 h
theorem yI{b:List (Int×Tm)}{n:Int}:∀ {f g:Nat} {t:Tm} {met:List Int} {r:Bool×List Int},GZ f b n t met=some r->f<=g->GZ g b n t met=some r
 |0,_,_,_,_,h,_=>by cases h
 |f+1,0,_,_,_,h,hg=>af
 |f+1,g+1,t,met,r,h,hg=>n6 (fun x m q hq=>yI hq af) h
def AE(b:List (Int×Tm))(n:Int)(m:List Int)(t:Tm):Prop:=∀v,fG v t=true->v≠n/\∀x,bW b v=some x->v∈m
theorem AE.mono {b:List (Int×Tm)}{n:Int}{m m':List Int}(h:∀v∈m,v∈m'){t:Tm}(ht:AE b n m t):AE b n m' t:=fun v hv=>⟨(ht v hv).1,fun x hx=>h v ((ht v hv).2 x hx)⟩
def LdQ(b:List (Int×Tm))(n:Int)(met:List Int)(t:Tm)(is:Bool)(dY:List Int):Prop:=
 (is=true->nZ b n t)/\(is=false->(∀v∈met,v∈dY)/\AE b n dY t/\∀v∈dY,v∉met->∀x,bW b v=some x->AE b n dY x)
def sQ(b:List (Int×Tm))(met:List Int):Nat:=((b.map (·.1)).filter fun v=> !met.contains v).length
theorem qD{b:List (Int×Tm)}{met:List Int}{v:Int}{x:Tm}(h:bW b v=some x)(hm:v∉met):sQ b (dk met v)<sQ b met:=by
 unfold sQ
 have hv:v∈b.map (·.1):=List.mem_map.2 ⟨_,dm h,rfl⟩
 generalize b.map (·.1)=ks at hv
 have hle:∀ks:List Int,(ks.filter fun u=> !(dk met v).contains u).length<=(ks.filter fun u=> !met.contains u).length:=by
  intro ks
  refine(List.Sublist.length_le ?_)
  rw[show(ks.filter fun u=> !(dk met v).contains u)=(ks.filter fun u=> !met.contains u).filter fun u=> !(dk met v).contains u by
   rw[List.filter_filter]
   congr 1
   funext u
   cases e:(dk met v).contains u with
   |true=>rfl
   |false=>
    cases e2:met.contains u with
    |false=>rfl
    |true=>
     rw[List.contains_iff_mem]at e2
     have:(dk met v).contains u=true:=List.contains_iff_mem.2 (im.2 (.inl e2))
     rw[this]at e;cases e]
  exact List.filter_sublist
 induction ks with
 |nil=>cases hv
 |cons u ks ih=>
  by_cases e:u=v
  ·subst e
   have h1:(dk met u).contains u=true:=List.contains_iff_mem.2 (im.2 (.inr rfl))
   have h2:met.contains u=false:=by rw[Bool.eq_false_iff];intro h;exact hm (List.contains_iff_mem.1 h)
   rw[List.filter_cons,List.filter_cons,h1,h2]
   simp only[Bool.not_true,Bool.false_eq_true,if_false,Bool.not_false,if_true,List.length_cons]
   have:=hle ks
   omega
  ·have mQ:v∈ks:=by
    rcases List.mem_cons.1 hv with h|h
    ·exact absurd h.symm e
    ·exact h
   have:=ih mQ
   rw[List.filter_cons,List.filter_cons]
   have hu:(dk met v).contains u=met.contains u:=by
    rw[Bool.eq_iff_iff,List.contains_iff_mem,List.contains_iff_mem,im]
    exact⟨fun h=>h.elim id fun h=>absurd h e, .inl⟩
   rw[hu]
   split
   ·rw[List.length_cons,List.length_cons];omega
   ·exact this
theorem yJ{b:List (Int×Tm)}{m m':List Int}(h:∀v∈m,v∈m'):sQ b m'<=sQ b m:=by
 unfold sQ
 refine List.Sublist.length_le ?_
 rw[show((b.map (·.1)).filter fun u=> !m'.contains u)=((b.map (·.1)).filter fun u=> !m.contains u).filter fun u=> !m'.contains u by
  rw[List.filter_filter]
  congr 1
  funext u
  cases e:m'.contains u with
  |true=>rfl
  |false=>
   cases e2:m.contains u with
   |false=>rfl
   |true=>
    rw[List.contains_iff_mem]at e2
    have:m'.contains u=true:=List.contains_iff_mem.2 (h u e2)
    rw[this]at e;cases e]
 exact List.filter_sublist
theorem B8{s:aJ}{b:List (Int×Tm)}(hb:∀p∈b,Vs s p.2)(n:Int):∀ (N:Nat) (t:Tm) (met:List Int),sQ b met<=N->Vs s t->∃is dY,GZ (N+1) b n t met=some (is,dY)/\LdQ b n met t is dY
 |N,t,met,hN,ht=>by
  have key:∀ (vs met:List Int),sQ b met<=N->(∀v∈vs,fG v t=true)->∃is dY,Gh (GZ N b n) b n vs met=some (is,dY)/\(is=true->nZ b n t)/\
   (is=false->(∀v∈met,v∈dY)/\(∀v∈vs,v≠n/\∀x,bW b v=some x->v∈dY)/\∀v∈dY,v∉met->∀x,bW b v=some x->AE b n dY x):=by
   intro vs
   induction vs with
   |nil=>intro met _ _;exact⟨false,met,rfl,fun h=>(by cases h),fun _=>⟨fun _ h=>h,fun _ h=>(by cases h),fun v h h'=>absurd h h'⟩⟩
   |cons v vs ih=>
    intro met hm Gb
    have hv:=Gb v aK
    have OH:∀u∈vs,fG u t=true:=fun u hu=>Gb u (by simp[hu])
    simp only[Gh]
    by_cases e:v=n
    ·rw[if_pos e]
     exact⟨true,met,rfl,fun _=> .here (e ▸ hv),fun h=>by cases h⟩
    ·rw[if_neg e]
     cases hl:bW b v with
     |none=>
      obtain⟨is,dY,h1,h2,h3⟩:=ih met hm OH
      refine⟨is,dY,h1,h2,fun h=>⟨(h3 h).1,fun u hu=> ?_,(h3 h).2.2⟩⟩
      rcases List.mem_cons.1 hu with rfl|hu
      ·exact⟨e,fun x hx=>by rw[hl]at hx;cases hx⟩
      ·exact(h3 h).2.1 u hu
     |some x=>
      simp only
      by_cases e2:v∈met
      ·rw[if_pos e2]
       obtain⟨is,dY,h1,h2,h3⟩:=ih met hm OH
       refine⟨is,dY,h1,h2,fun h=>⟨(h3 h).1,fun u hu=> ?_,(h3 h).2.2⟩⟩
       rcases List.mem_cons.1 hu with rfl|hu
       ·exact⟨e,fun _ _=>(h3 h).1 _ e2⟩
       ·exact(h3 h).2.1 u hu
      ·rw[if_neg e2]
       have hu:=qD hl e2
       obtain⟨N',rfl⟩:∃N',N=N'+1:=⟨N - 1,af⟩
       obtain⟨is1,m1,g1,g2,g3⟩:=B8 hb n N' x (dk met v) af (hb _ (dm hl))
       rw[g1]
       cases is1 with
       |true=>exact⟨true,m1,rfl,fun _=> .step hv hl (g2 rfl),fun h=>by cases h⟩
       |false=>
        obtain⟨k1,k2,k3⟩:=g3 rfl
        have k0:∀u∈met,u∈m1:=fun u hu=>k1 u (im.2 (.inl hu))
        obtain⟨is,dY,h1,h2,h3⟩:=ih m1 (by have:=yJ (b:=b) k0;omega) OH
        refine⟨is,dY,h1,h2,fun h=> ?_⟩
        obtain⟨j1,j2,j3⟩:=h3 h
        refine⟨fun u hu=>j1 u (k0 u hu),fun u hu=> ?_,fun u hu hnu y hy=> ?_⟩
        ·rcases List.mem_cons.1 hu with rfl|hu
         ·exact⟨e,fun _ _=>j1 _ (k1 _ (im.2 (.inr rfl)))⟩
         ·exact j2 u hu
        ·by_cases GU:u∈m1
         ·by_cases huv:u=v
          ·subst huv
           rw[hl]at hy
           cases hy
           exact k2.mono j1
          ·exact(k3 u GU (fun h=>(im.1 h).elim hnu huv) y hy).mono j1
         ·exact j3 u hu GU y hy
  obtain⟨is,dY,h1,h2,h3⟩:=key (pc t) met hN fun v hv=>(Ll t ht v).1 hv
  exact⟨is,dY,h1,h2,fun h=>⟨(h3 h).1,fun v hv=>(h3 h).2.1 v ((Ll t ht v).2 hv),(h3 h).2.2⟩⟩
theorem OI{s:aJ}{b:List (Int×Tm)}(hb:∀p∈b,Vs s p.2)(n:Int){t:Tm}(ht:Vs s t):∃is dY,GZ (b.length+1) b n t []=some (is,dY)/\(is=true↔nZ b n t):=by
 have hN:sQ b []<=b.length:=by
  unfold sQ
  exact Nat.le_trans (List.length_filter_le _ _) LD
 obtain⟨is,dY,h1,h2,h3⟩:=B8 hb n b.length t [] hN ht
 refine⟨is,dY,h1,h2,fun hr=> ?_⟩
 cases is with
 |true=>rfl
 |false=>
  obtain⟨_,k2,k3⟩:=h3 rfl
  exfalso
  have:∀t,nZ b n t-> ¬AE b n dY t:=by
   intro t hr
   induction hr with
   |here h=>exact fun hs=>(hs _ h).1 rfl
   |step h1 h2 _ ih=>exact fun hs=>ih (k3 _ ((hs _ h1).2 _ h2) aK _ h2)
  exact this t hr k2
def mM(l more:List Int):List Int:=more.foldl dk l
theorem AF:∀ {more l:List Int} {v:Int},v∈mM l more↔v∈l\/v∈more
 |[],l,v=>by simp[mM]
 |u::more,l,v=>by
  show v∈mM (dk l u) more↔_
  rw[AF,im,List.mem_cons,or_assoc]
theorem Gi:∀ (more l:List Int),∃r,mM l more=l++r
 |[],l=>⟨[],by simp[mM]⟩
 |u::more,l=>by
  obtain⟨r,hr⟩:=Gi more (dk l u)
  show ∃r,mM (dk l u) more=_
  rw[hr]
  unfold dk
  split
  ·exact⟨r,rfl⟩
  ·exact⟨[u]++r,by rw[List.append_assoc]⟩
theorem sy:∀ (more l:List Int),l.Nodup->(mM l more).Nodup
 |[],l,h=>h
 |u::more,l,h=>sy more (dk l u) (Av u h)
def Gj(b:List (Int×Tm))(all:List Int)(v:Int):List Int:=match bW b v with
 |some x=>mM all (c8 x)
 |none=>all
theorem IM(b:List (Int×Tm))(all:List Int)(v:Int):∃r,Gj b all v=all++r:=by
 unfold Gj
 split
 ·exact Gi _ _
 ·exact⟨[],aK⟩
theorem Dz(b:List (Int×Tm)){all:List Int}(v:Int)(h:all.Nodup):(Gj b all v).Nodup:=by
 unfold Gj
 split
 ·exact sy _ _ h
 ·exact h
theorem VG{l:List Int}(hn:l.Nodup)(h:∀v∈l,0<=v/\v<20):l.length<=20:=by
 have:∀ (n:Nat) (l:List Int),l.Nodup->(∀v∈l,0<=v/\v<(n:Int))->l.length<=n:=by
  intro n
  induction n with
  |zero=>
   intro l _ h
   cases l with
   |nil=>exact Nat.le_refl _
   |cons a l=>have:=h a aK;omega
  |succ n ih=>
   intro l hn h
   have h1:=ih (l.erase (n:Int)) (hn.erase _) fun v hv=>by
    have j7:v≠(n:Int):=fun e=>by
     subst e
     exact hn.not_mem_erase hv
    have:=h v (List.mem_of_mem_erase hv)
    omega
   have h2:l.length<=(l.erase (n:Int)).length+1:=by
    by_cases hm:(n:Int)∈l
    ·rw[List.length_erase_of_mem hm];omega
    ·rw[List.erase_of_not_mem hm];omega
   omega
 exact this 20 l hn h
structure IP (s:aJ) (b:List (Int×Tm)) (t:Tm) (i:Nat) (all:List Int):Prop where
 nd:all.Nodup
 rg:∀v∈all,0<=v/\v<20
 le:i<=all.length
 fst:∀v,fG v t=true->v∈all
 snd:∀v∈all,nZ b v t
 cl:∀j,j<i->∀v x,all[j]? =some v->bW b v=some x->∀u,fG u x=true->u∈all
theorem IP.zero {s:aJ}{b:List (Int×Tm)}{t:Tm}(ht:Vs s t):IP s b t 0 (mM [] (c8 t)):=by
 have hm:∀v,v∈mM [] (c8 t)↔fG v t=true:=fun v=>by rw[AF,(fH t).2 v];simp
 exact⟨sy _ _ List.nodup_nil,fun v hv=>ht.range ((hm v).1 hv),Nat.zero_le _,fun v hv=>(hm v).2 hv,fun v hv=> .here ((hm v).1 hv),fun j hj=>absurd hj (Nat.not_lt_zero _)⟩
theorem nZ.trans {b:List (Int×Tm)}{t:Tm}{v:Int}(h:nZ b v t){x:Tm}(hx:bW b v=some x){n:Int}(hn:nZ b n x):nZ b n t:=by
 induction h with
 |here h1=>exact .step h1 hx hn
 |step h1 h2 _ ih=>exact .step h1 h2 ih
theorem IP.succ {s:aJ}{b:List (Int×Tm)}(hb:∀p∈b,Vs s p.2){t:Tm}{i:Nat}{all:List Int}(h:IP s b t i all){v:Int}(hv:all[i]? =some v):IP s b t (i+1) (Gj b all v):=by
 obtain⟨r,hr⟩:=IM b all v
 have hi:=(List.getElem?_eq_some_iff.1 hv).1
 have hvm:=List.mem_of_getElem? hv
 have hm:∀u,u∈Gj b all v↔u∈all\/∃x,bW b v=some x/\fG u x=true:=fun u=>by
  unfold Gj
  cases hl:bW b v with
  |none=>simp
  |some x=>simp only[AF,(fH x).2 u,Option.some.injEq,exists_eq_left']
 refine⟨Dz b v h.nd,fun u hu=> ?_,by rw[hr,List.length_append];omega,fun u hu=>(hm u).2 (.inl (h.fst u hu)),fun u hu=> ?_,fun j hj w x hw hx u hu=> ?_⟩
 ·rcases(hm u).1 hu with hu|⟨x,hx,hu⟩
  ·exact h.rg u hu
  ·exact(hb _ (dm hx)).range hu
 ·rcases(hm u).1 hu with hu|⟨x,hx,hu⟩
  ·exact h.snd u hu
  ·exact(h.snd v hvm).trans hx (.here hu)
 ·rw[hr,List.getElem?_append_left (by omega)]at hw
  rcases Nat.lt_or_ge j i with Zz|Zz
  ·exact(hm u).2 (.inl (h.cl j Zz w x hw hx u hu))
  ·have:j=i:=af
   subst this
   rw[hv]at hw
   cases hw
   exact(hm u).2 (.inr ⟨x,hx,hu⟩)
theorem IQ{s:aJ}{b:List (Int×Tm)}{l:List TB}{ρ:Int->Nat}{R:Nat}(h:qC s b l ρ R)(hl:sM s l){n:Int}(hn:bW b n=none){t:Tm}(ht:Vs s t):fG n (dt (ay l) t)=true↔nZ b n t:=by
 have VH:Lv (ay l) n= .mk 1 n []:=by simp[Lv,(h.Gd n).1 hn]
 constructor
 ·have key:∀ (r:Nat) (t:Tm),Vs s t->(∀u,fG u t=true->ρ u<r)->fG n (dt (ay l) t)=true->nZ b n t:=by
   intro r
   induction r with
   |zero=>
    intro t ht hr hf
    obtain⟨u,hu,_⟩:=(pX hl.bd t ht n).1 hf
    exact absurd (hr u hu) (Nat.not_lt_zero _)
   |succ r ih=>
    intro t ht hr hf
    obtain⟨u,hu,hf⟩:=(pX hl.bd t ht n).1 hf
    cases hx:bW b u with
    |none=>
     have:Lv (ay l) u= .mk 1 u []:=by simp[Lv,(h.Gd u).1 hx]
     rw[this,su]at hf
     have:u=n:=by simpa using hf
     exact .here (this ▸ hu)
    |some x=>
     obtain⟨g1,g2,g3⟩:=h.ok u x hx
     rw[g2]at hf
     have:=hr u hu
     exact .step hu hx (ih x g1 (fun w hw=>by have:=g3 w hw;omega) hf)
  exact key (R+1) t ht fun u _=>by have:=h.bd u;omega
 ·intro hr
  induction hr with
  |here h1=>exact(pX hl.bd _ ht n).2 ⟨n,h1,by rw[VH,su];simp⟩
  | @step t v x h1 h2 _ ih=>
    obtain⟨g1,g2,g3⟩:=h.ok v x h2
    exact(pX hl.bd _ ht _).2 ⟨v,h1,by rw[g2];exact ih g1⟩
def Qo(b:List (Int×Tm)):Prop:=∀v x,bW b v=some x-> ¬nZ b v x
theorem OJ{s:aJ}{b:List (Int×Tm)}(xr:(b.map (·.1)).Nodup)(aP:∀p∈b,(0<=p.1/\p.1<20)/\Vs s p.2)(ha:Qo b):∃l ρ R,qC s b l ρ R/\sM s l:=by
 have key:∀k,k<=b.length->∃l ρ R,qC s (b.take k) l ρ R/\sM s l:=by
  intro k
  induction k with
  |zero=>intro _;exact⟨[],fun _=>0,0,by rw[List.take_zero];exact qC.nil,sM.nil⟩
  |succ k ih=>
   intro hk
   obtain⟨l,ρ,R,h,hl⟩:=ih af
   obtain⟨⟨n,y⟩,hp⟩:∃p,b[k]? =some p:=⟨_,List.getElem?_eq_getElem (show k<b.length from af)⟩
   have hpm:=List.mem_of_getElem? hp
   have ze:b.take (k+1)=b.take k++[(n,y)]:=by rw[List.take_add_one,hp];rfl
   have IU:((b.take (k+1)).map (·.1)).Nodup:=xr.sublist ((List.take_sublist _ _).map _)
   have hn:bW (b.take k) n=none:=by
    rw[nW]
    rw[ze,List.map_append,List.nodup_append]at IU
    exact fun hm=>IU.2.2 n hm n aK rfl
   obtain⟨hr,hy⟩:=aP _ hpm
   have sR:∀v x,bW (b.take k) v=some x->bW b v=some x:=fun v x hx=>(nX xr).2 (List.mem_of_mem_take (dm hx))
   have VF: ¬fG n (dt (ay l) y)=true:=fun hf=>ha n y ((nX xr).2 hpm) (((IQ h hl hn hy).1 hf).mono sR)
   obtain⟨Zy,R',h'⟩:=h.ext hl hn hy VF
   rw[ze]
   exact⟨_,Zy,R',h',Ge hl hr ((h.Gd n).1 hn) (Vs.sub hl.bd y hy) (fun u hu=>hl.free hy hu) VF⟩
 have:=key b.length (Nat.le_refl _)
 rwa [List.take_length]at this
theorem qC.WO {s:aJ}{b:List (Int×Tm)}{l:List TB}{ρ:Int->Nat}{R:Nat}(h:qC s b l ρ R):Qo b:=by
 have key:∀t n,nZ b n t->∀r,(∀u,fG u t=true->ρ u<r)->ρ n<r:=by
  intro t n hr
  induction hr with
  |here h1=>exact fun r hr=>hr _ h1
  |step h1 h2 _ ih=>
   intro r hr
   have h3:=ih _ (h.ok _ _ h2).2.2
   have:=hr _ h1
   omega
 intro v x hx hr
 have:=key x v hr _ (h.ok v x hx).2.2
 omega
def wH(F:Tm->Int->Option Int):List Tm->Int->Option Int
 |[],n=>some n
 |k::ks,n=>if n<0 then some n else match F k n with
  |some m=>wH F ks m
  |none=>none
def pY:Nat->List (Int×Tm)->Tm->Int->Nat->Option Int
 |0,_,_,_,_=>none
 |f+1,b,t,n,d=>match pq f b t with
  |some x=>(match d with
   |0=>some (-1)
   |d+1=>wH (fun k m=>pY f b k m d) x.kids (n - 1))
  |none=>none
theorem yK{F:Tm->Int->Option Int}:∀ {ks:List Tm} (n:Int),(∀k∈ks,∀m,∃r,F k m=some r)->∃r,wH F ks n=some r
 |[],n,_=>⟨n,rfl⟩
 |k::ks,n,h=>by
  simp only[wH]
  split
  ·exact⟨n,rfl⟩
  ·obtain⟨r,hr⟩:=h k aK n
   rw[hr]
   exact yK r fun y hy=>h y lS
theorem yL{F G:Tm->Int->Option Int}(G0:∀k m r,F k m=some r->G k m=some r):∀ {ks:List Tm} {n r:Int},wH F ks n=some r->wH G ks n=some r
 |[],_,_,h=>h
 |k::ks,n,r,h=>by
  simp only[wH]at h|-
  split at h
  ·rename_i e;rw[if_pos e];exact h
  ·rename_i e
   rw[if_neg e]
   cases hF:F k n with
   |none=>rw[hF]at h;cases h
   |some q=>rw[hF]at h;rw[G0 _ _ _ hF];exact yL G0 h
theorem sA{b:List (Int×Tm)}:∀ {f g:Nat} {t:Tm} {n:Int} {d:Nat} {r:Int},pY f b t n d=some r->f<=g->pY g b t n d=some r
 |0,_,_,_,_,_,h,_=>by cases h
 |f+1,0,_,_,_,_,h,hg=>af
 |f+1,g+1,t,n,d,r,h,hg=>by
  simp only[pY]at h|-
  cases ha:pq f b t with
  |none=>rw[ha]at h;cases h
  |some x=>
   rw[ha]at h
   rw[iq ha (show f<=g by omega)]
   cases d with
   |zero=>exact h
   |succ d=>exact yL (fun k m q hq=>sA hq af) h
theorem Jv{s:aJ}{b:List (Int×Tm)}{l:List TB}{ρ:Int->Nat}{R:Nat}(h:qC s b l ρ R):∀ (d:Nat) (t:Tm) (n:Int),Vs s t->∃r,pY (R+3+d) b t n d=some r
 |0,t,n,ht=>by
  obtain⟨x,a1,_⟩:=h.root ht
  exact⟨-1,by simp only[pY];rw[show R+2+0=R+2 from rfl,a1]⟩
 |d+1,t,n,ht=>by
  obtain⟨x,a1,a2,_⟩:=h.root ht
  show ∃r,pY ((R+3+d)+1) b t n (d+1)=some r
  simp only[pY]
  rw[iq a1 (show R+2<=R+3+d by omega)]
  exact yK _ fun k hk m=>Jv h d k m (a2.yy hk)
def D1(b:List (Int×Tm))(t:Tm):Prop:=∃f r,pY f b t 40 12=some r/\0<=r
theorem B9{b:List (Int×Tm)}{t:Tm}{f:Nat}{r:Int}(h:pY f b t 40 12=some r):D1 b t↔0<=r:=by
 refine⟨fun⟨g,q,h1,h2⟩=> ?_,fun hr=>⟨f,r,h,hr⟩⟩
 have e1:=sA h (Nat.le_max_left f g)
 rw[sA h1 (Nat.le_max_right f g)]at e1
 cases e1
 exact h2
def AG(F:Tm->Option Tm):List Tm->Option (List Tm)
 |[]=>some []
 |k::ks=>match F k,AG F ks with
  |some x,some xs=>some (x::xs)
  |_,_=>none
def wI:Nat->List (Int×Tm)->Tm->Option Tm
 |0,_,_=>none
 |f+1,b,t=>match pq f b t with
  |some x=>(AG (wI f b) x.kids).map fun ks=> .mk x.op x.n ks
  |none=>none
theorem wm{F:Tm->Option Tm}{g:Tm->Tm}:∀ {ks:List Tm},(∀k∈ks,F k=some (g k))->AG F ks=some (ks.map g)
 |[],_=>rfl
 |k::ks,h=>by simp only[AG];rw[h k (by simp),wm fun y hy=>h y (by simp[hy])];rfl
theorem yM{F G:Tm->Option Tm}(G0:∀k r,F k=some r->G k=some r):∀ {ks xs:List Tm},AG F ks=some xs->AG G ks=some xs
 |[],_,h=>h
 |k::ks,xs,h=>by
  simp only[AG]at h|-
  cases h1:F k with
  |none=>rw[h1]at h;cases h
  |some x=>
   cases h2:AG F ks with
   |none=>rw[h1,h2]at h;cases h
   |some ys=>rw[h1,h2]at h;rw[G0 _ _ h1,yM G0 h2];exact h
theorem ir{b:List (Int×Tm)}:∀ {f g:Nat} {t x:Tm},wI f b t=some x->f<=g->wI g b t=some x
 |0,_,_,_,h,_=>by cases h
 |f+1,0,_,_,h,hg=>af
 |f+1,g+1,t,x,h,hg=>by
  simp only[wI]at h|-
  cases ha:pq f b t with
  |none=>rw[ha]at h;cases h
  |some y=>
   rw[ha]at h
   rw[iq ha (show f<=g by omega)]
   dsimp only at h|-
   cases h2:AG (wI f b) y.kids with
   |none=>rw[h2]at h;cases h
   |some ys=>rw[h2]at h;rw[yM (fun k r hr=>ir hr (by omega)) h2];exact h
theorem yN{s:aJ}{b:List (Int×Tm)}{l:List TB}{ρ:Int->Nat}{R:Nat}(h:qC s b l ρ R):∀ (z:Nat) (t:Tm),Vs s t->(dt (ay l) t).sz<=z->wI (R+3+z) b t=some (dt (ay l) t)
 |0,t,_,hz=>by have:=Tm.Aq (dt (ay l) t);omega
 |z+1,t,ht,hz=>by
  obtain⟨x,a1,a2,a3,a4,_⟩:=h.root ht
  show wI ((R+3+z)+1) b t=_
  simp only[wI]
  rw[iq a1 (show R+2<=R+3+z by omega)]
  by_cases h1:x.op=1
  ·have e:=a2.eta h1
   have hk:x.kids=[]:=by rw[e];rfl
   have:dt (ay l) x=x:=by
    rw[jY a2 h1,show Lv (ay l) x.n= .mk 1 x.n [] by simp[Lv,(h.Gd _).1 (a4 h1)]];exact e.symm
   rw[<- a3,this]
   dsimp only
   rw[hk]
   show some (Tm.mk x.op x.n [])=some x
   rw[<- hk,Tm.eta]
  ·have hv:=ma (b:=ay l) h1
   have hk:∀k∈x.kids,wI (R+3+z) b k=some (dt (ay l) k):=fun k hk=>by
    refine yN h z k (a2.yy hk) ?_
    have h3:dt (ay l) k∈(dt (ay l) x).kids:=by rw[hv];exact List.mem_map.2 ⟨k,hk,rfl⟩
    have h4:=Tm.Az h3
    rw[a3]at h4
    omega
   dsimp only
   rw[wm hk, <- a3,hv]
   rfl
def Ca:Nat->List (Int×Tm)->Tm->Nat->Option Tm
 |0,_,_,_=>none
 |f+1,b,t,d=>if t.op=1 then(match bW b t.n with
   |some x=>(match d with
    |0=>none
    |d+1=>Ca f b x d)
   |none=>some t)
  else(AG (fun k=>Ca f b k d) t.kids).map fun ks=> .mk t.op t.n ks
def Gk(b:List (Int×Tm))(ρ:Int->Nat)(r:Nat):Nat:=((b.map (·.1)).filter fun u=>decide (ρ u<r)).length
theorem IV{b:List (Int×Tm)}{ρ:Int->Nat}{v:Int}{x:Tm}(hv:bW b v=some x){r:Nat}(hr:ρ v<r):Gk b ρ (ρ v)<Gk b ρ r:=by
 unfold Gk
 have hm:v∈b.map (·.1):=List.mem_map.2 ⟨_,dm hv,rfl⟩
 generalize b.map (·.1)=ks at hm
 have hle:∀ks:List Int,(ks.filter fun u=>decide (ρ u<ρ v)).length<=(ks.filter fun u=>decide (ρ u<r)).length:=by
  intro ks
  induction ks with
  |nil=>exact Nat.le_refl _
  |cons u ks ih=>
   rw[List.filter_cons,List.filter_cons]
   by_cases e:ρ u<ρ v
   ·rw[if_pos (by simpa using e),if_pos (by simp;omega),List.length_cons,List.length_cons];omega
   ·rw[if_neg (by simpa using e)]
    split
    ·rw[List.length_cons];omega
    ·exact ih
 induction ks with
 |nil=>cases hm
 |cons u ks ih=>
  rw[List.filter_cons,List.filter_cons]
  by_cases e:u=v
  ·subst e
   rw[if_neg (by simp),if_pos (by simpa using hr),List.length_cons]
   have:=hle ks
   omega
  ·have:=ih ((List.mem_cons.1 hm).resolve_left fun h=>e h.symm)
   by_cases e2:ρ u<ρ v
   ·rw[if_pos (by simpa using e2),if_pos (by simp;omega),List.length_cons,List.length_cons];omega
   ·rw[if_neg (by simpa using e2)]
    split
    ·rw[List.length_cons];omega
    ·exact this
theorem VI{s:aJ}{b:List (Int×Tm)}{l:List TB}{ρ:Int->Nat}{R:Nat}(h:qC s b l ρ R):∀ (r:Nat) (t:Tm) (d:Nat),Vs s t->(∀u,fG u t=true->ρ u<r)->Gk b ρ r<=d->∃f,∀g,f<=g->Ca g b t d=some (dt (ay l) t):=by
 intro r
 induction r using Nat.strongRecOn with
 |ind r ihr=>
  refine Tm.fe fun t ih d ht hr hd=> ?_
  by_cases h1:t.op=1
  ·have hv:fG t.n t=true:=(lT h1).2 rfl
   cases hx:bW b t.n with
   |none=>
    refine⟨1,fun g hg=> ?_⟩
    obtain⟨g,rfl⟩:∃k,g=k+1:=⟨g - 1,af⟩
    simp only[Ca]
    rw[if_pos h1,hx,jY ht h1,show Lv (ay l) t.n= .mk 1 t.n [] by simp[Lv,(h.Gd _).1 hx]]
    exact congrArg some (ht.eta h1)
   |some x=>
    obtain⟨g1,g2,g3⟩:=h.ok _ _ hx
    have h3:=IV hx (hr _ hv)
    obtain⟨d,rfl⟩:∃k,d=k+1:=⟨d - 1,af⟩
    obtain⟨f,hf⟩:=ihr _ (hr _ hv) x d g1 g3 af
    refine⟨f+1,fun g hg=> ?_⟩
    obtain⟨g,rfl⟩:∃k,g=k+1:=⟨g - 1,af⟩
    simp only[Ca]
    rw[if_pos h1,hx]
    dsimp only
    rw[hf g (by omega), <- g2,jY ht h1]
  ·have key:∀ks:List Tm,(∀k∈ks,k∈t.kids)->∃f,∀g,f<=g->∀k∈ks,Ca g b k d=some (dt (ay l) k):=by
    intro ks
    induction ks with
    |nil=>intro _;exact⟨0,fun _ _ _ h=>by cases h⟩
    |cons k ks VJ=>
     intro WQ
     obtain⟨f1,jD⟩:=VJ fun y hy=>WQ y lS
     obtain⟨f2,pH⟩:=ih k (WQ k aK) d (ht.yy (WQ k aK)) (fun u hu=>hr u ((uD ht h1).2 ⟨k,WQ k aK,hu⟩)) hd
     refine⟨max f1 f2,fun g hg y hy=> ?_⟩
     rcases List.mem_cons.1 hy with rfl|hy
     ·exact pH g af
     ·exact jD g af y hy
   obtain⟨f,hf⟩:=key t.kids fun _ h=>h
   refine⟨f+1,fun g hg=> ?_⟩
   obtain⟨g,rfl⟩:∃k,g=k+1:=⟨g - 1,af⟩
   simp only[Ca]
   rw[if_neg h1,wm (hf g (by omega)),ma h1]
   rfl
theorem Gl{s:aJ}{b:List (Int×Tm)}{l:List TB}{ρ:Int->Nat}{R:Nat}(h:qC s b l ρ R){t:Tm}(ht:Vs s t):∃f,Ca f b t b.length=some (dt (ay l) t):=by
 obtain⟨f,hf⟩:=VI h (R+1) t b.length ht (fun u _=>by have:=h.bd u;omega) (by
  unfold Gk
  exact Nat.le_trans (List.length_filter_le _ _) LD)
 exact⟨f,hf f (Nat.le_refl _)⟩
def ZA(s:aJ)(t:Tm):Bool:=
 let k:Int:=t.kids.length
 if t.op=16 then t.n==0&&k==0
 else if t.op=1 then c6 t.n 0 199&&k==0
 else if t.op=2 then c6 t.n (-1000000) 1000000&&k==0
 else if t.op=3 then c6 t.n 0 (s.cons.length - 1)&&k==fw s.cons t.n
 else if t.op=5 then c6 t.n 0 (s.cA.length - 1)&&decide (k<fw s.cA t.n)
 else false
mutual
def DA(s:aJ):Tm->Bool
 | .mk op n kids=>Cb s kids&&ZA s (.mk op n kids)
def Cb(s:aJ):List Tm->Bool
 |[]=>true
 |k::l=>DA s k&&Cb s l
end
theorem uE(s:aJ):∀l:List Tm,Cb s l=l.all (DA s)
 |[]=>rfl
 |k::l=>by rw[Cb,uE s l];rfl
theorem IW(s:aJ)(t:Tm):DA s t=(t.kids.all (DA s)&&ZA s t):=by cases t;rw[DA,uE];rfl
def Pn(s:aJ)(t:Tm):Prop:=DA s t=true
theorem OK{s:aJ}{t:Tm}:Pn s t↔ZA s t=true/\∀k∈t.kids,Pn s k:=by
 unfold Pn;rw[IW,Bool.and_eq_true,List.all_eq_true];exact and_comm
theorem Pn.yy {s:aJ}{t k:Tm}(h:Pn s t)(hk:k∈t.kids):Pn s k:=(OK.1 h).2 k hk
def ta{σ:Type}(step:σ->Tm->σ×Bool):σ->List Tm->Int->Int
 |_,[],_=> -1
 |s,x::l,k=>if(step s x).2=true then ta step (step s x).1 l (k+1)else k
theorem Cc{σ:Type}(step:σ->Tm->σ×Bool):∀ (l:List Tm) (s:σ) (k:Int),0<=k->(0<=ta step s l k↔(aD step s l).2=false)
 |[],_,_,_=>by simp[ta,aD]
 |x::l,s,k,hk=>by
  have ih:=Cc step l (step s x).1 (k+1) af
  by_cases h:(step s x).2=true
  ·simp only[ta,aD,h,if_true];exact ih
  ·simp[ta,aD,h,hk]
theorem OL{σ:Type}(l:List Tm)(hl:l.length<=9223372036854775807)(g:Nat)(cp:List V)(base:Nat)(H:σ->Nat->aa)(step:σ->Tm->σ×Bool)(hc:∀r∈V.aO cp,r<base)(ok:σ->Prop)(aP:∀x∈l,∀s,ok s->(step s x).2=true->ok (step s x).1)
 (h:∀x∈l,∀s,ok s->rV Tryz.prog g (.d x.d::cp) base (H s) (H (step s x).1) (.d (.bool (!(step s x).2)))) (s:σ) (my:ok s):
 rV Tryz.prog 186 [.d (.sl (l.map Tm.d)), .func (.func g) [] cp] base (H s) (H (aD step s l).1) (.d (.i (ta step s l 0))):=by
 intro o nx hI K X hK
 have nk:∀r∈V.aO cp,r<nx:=fun r hr=>Nat.lt_of_lt_of_le (hc r hr) hI.le
 refine dV.aN mix K6 aK ?_
 rw[N5]
 refine bX ?_
 refine aL (fun i:Nat×σ×(Nat->aa)×Nat=>⟨bc [.d (.sl (l.map Tm.d)), .func (.func g) [] cp, .ab, .ab, .ab, .ab, .ab, .d (.i l.length), .d (.i i.1)],i.2.2.1,i.2.2.2⟩)
  (fun i=>i.1<=l.length/\dR base (H i.2.1) i.2.2.1 i.2.2.2/\nx<=i.2.2.2/\(∀id,base<=id->id<nx->i.2.2.1 id=o id)/\aD step s l=aD step i.2.1 (l.drop i.1)/\ok i.2.1/\ta step s l 0=ta step i.2.1 (l.drop i.1) i.1) (fun i=>l.length - i.1) (0,s,o,nx)
  ⟨Nat.zero_le _,hI,Nat.le_refl _,fun _ _ _=>rfl,rfl,my,rfl⟩ ?_ ?_
 ·exact LW
 rintro⟨k,s',o',nx'⟩ ⟨hk,GR,hn,cC,hf,rX,Gm⟩
 simp only at hk GR hn cC hf rX Gm
 refine bX ?_
 refine ak (fun h1=> ?_) (fun h1=> ?_)
 ·simp at h1
  obtain⟨x,hx⟩:=aH h1
  have gv:=List.mem_of_getElem? hx
  have hd:l.drop k=x::l.drop (k+1):=by
   exact LQ
  rw[hd]at hf Gm
  simp only[aD,ta]at hf Gm
  refine Lw hx ?_
  refine kO (h x gv s' rX _ _ (GR.mono af) _ _ fun o2 n2 m1 m2 m3=> ?_)
  cases hb:(step s' x).2 with
  |true=>
   rw[hb]at hf Gm
   simp only[if_true]at hf Gm
   refine cQ ?_
   have Lg:∀r∈V.aO cp,r<n2+1+1:=fun r hr=>by have:=nk r hr;omega
   refine ax (k+1,(step s' x).1,o2,n2+1+1) ⟨h1,m2.mono (show n2<=n2+1+1 from af),(show nx<=n2+1+1 from af),fun id i1 i2=>(m3 id i1 af).trans (cC id i1 i2),hf,aP x gv s' rX hb,by rw[Gm];rfl⟩ qH (bM.bP _ (show nx<=n2+1+1 from af) (Nat.le_refl _) (m2.mono (show n2<=n2+1+1 from af)).bZ (fun _ _=>rfl) ?_)
   exact ec
  |false=>
   rw[hb]at hf Gm
   simp only[Bool.false_eq_true,if_false]at hf Gm
   refine bX ?_
   rw[hf,Gm]at hK
   exact hK _ _ af (m2.mono af) fun id i1 i2=>(m3 id i1 af).trans (cC id i1 i2)
 ·simp at h1
  refine bX ?_
  rw[List.drop_eq_nil_of_le h1]at hf Gm
  rw[hf,Gm]at hK
  exact Rc
theorem yO{σ:Type}(l:List Tm)(hl:l.length<=9223372036854775807)(g:Nat)(cp:List V)(base:Nat)(H:σ->Nat->aa)(step:σ->Tm->σ×Bool)(hc:∀r∈V.aO cp,r<base)(ok:σ->Prop)(aP:∀x∈l,∀s,ok s->(step s x).2=true->ok (step s x).1)
 (h:∀x∈l,∀s,ok s->rV Tryz.prog g (.d x.d::cp) base (H s) (H (step s x).1) (.d (.bool (!(step s x).2)))) (s:σ) (my:ok s):
 rV Tryz.prog 166 [.d (.sl (l.map Tm.d)), .func (.func g) [] cp] base (H s) (H (aD step s l).1) (.d (.bool (!(aD step s l).2))):=by
 intro o nx hI K X hK
 have nk:∀r∈V.aO cp,r<nx:=fun r hr=>Nat.lt_of_lt_of_le (hc r hr) hI.le
 refine dV.aN mix KW aK ?_
 rw[NX]
 refine wJ ?_
 refine bT (OL l hl g cp base H step hc ok aP h s my _ _ ?_ _ _ fun o2 n2 m1 m2 m3=> ?_)
 ·exact hI.mono af
 refine wJ ?_
 have e:decide (0<=ta step s l 0)= !(aD step s l).2:=by
  have:=Cc step l s 0 af
  rw[Bool.eq_iff_iff,decide_eq_true_eq,this]
  cases(aD step s l).2<;>simp
 rw[e]
 exact hK _ _ af (m2.mono af) fun id i1 i2=>m3 id i1 af
theorem Gn{b:List (Int×Tm)}{f:Nat}{t x:Tm}(h:pq f b t=some x):aY Tryz.prog 112 [D0 b,t.d] (.ret [x.d]):=by
 refine aY.aN mix Kz aK ?_
 rw[NG]
 refine cQ ?_
 refine aL (fun i:Nat×Tm=>⟨bc [.d (D0 b), .ab, .ab, .ptr 0 0, .ptr 1 0],aM (aM (fun _=> .no) 0 (.row i.2.row)) 1 (.row [.d (.i 0), .d (.i 0), .a8]),2⟩)
  (fun i=>pq i.1 b i.2=some x) (fun i=>i.1) (f,t) h ?_ ?_
 ·dsimp only
  refine bM.bP _ af af dZ (fun j hj=>by(repeat(first|rfl|rw[ag]|rw[ah _ _ _ _ (by omega)]))) ?_
  exact ec
 rintro⟨f,t⟩ hf
 simp only at hf
 cases f with
 |zero=>cases hf
 |succ f=>
 simp only[pq]at hf
 by_cases h1:t.op=1
 ·have jD:(t.op==1)=true:=by simpa using h1
  rw[if_pos h1]at hf
  cases hl:bW b t.n with
  |none=>
   rw[hl]at hf
   injection hf with hf
   subst hf
   simp+contextual (disch:=first|omega|simp only[go_sem,false_implies]) only[go_sem,wrap64,if_pos,jD,lH,fL hl]
  |some z=>
   rw[hl]at hf
   obtain⟨j,hj⟩:=jb hl
   simp+contextual (disch:=first|omega|simp only[go_sem,false_implies]) only[go_sem,wrap64,if_pos,jD,lH,hj]
   refine ax (f,z) hf qH (bM.bP _ af af dZ (fun j hj=> ?_) ?_)
   ·have Wg:j<2:=hj
    rcases(show j=0\/j=1 from af)with rfl|rfl
    ·exact iA
    ·exact iA
   ·exact ec
 ·have jD:(t.op==1)=false:=by simpa using h1
  rw[if_neg h1]at hf
  injection hf with hf
  subst hf
  exact Cj jD
theorem IX:∀a:Tm,a.fits->∀b:Tm,b.fits->aY Tryz.prog 108 [a.d,b.d] (.ret [.bool (ig a b)]):=by
 refine Tm.fe fun a ih ha b hb=> ?_
 have Qp:=(Tm.bA _).1 ha
 have Ex:=(Tm.bA _).1 hb
 refine aY.aN mix Ky aK ?_
 rw[NF,nQ]
 refine cQ ?_
 refine x5 (ak (fun h1=> ?_) (fun h1=> ?_))
 ·rw[h1]
  refine ou h1 ?_
  refine bT (F6 a.kids b.kids Qp.1 Ex.1 108 (fun x hx y hy=>ih x hx (Qp.2 x hx) y (Ex.2 y hy)) _ _ dZ _ _ fun o2 n2 m1 m2 m3=> ?_)
  exact Cj h1
 ·rw[h1]
  exact Cj h1
theorem n9{b:List (Int×Tm)}(hb:∀p∈b,p.2.fits):∀ (f:Nat) (t x:Tm),t.fits->pq f b t=some x->x.fits
 |0,_,_,_,h=>by cases h
 |f+1,t,x,ht,h=>by
  simp only[pq]at h
  split at h
  ·split at h
   ·rename_i y hy;exact n9 hb f y x (hb _ (dm hy)) h
   ·injection h with h;exact h ▸ ht
  ·injection h with h;exact h ▸ ht
theorem Cd{F:Tm->Int->Option Int}(hF:∀k m r,0<=m->F k m=some r-> -1<=r/\r<=m):∀ (ks:List Tm) (n r:Int), -1<=n->wH F ks n=some r-> -1<=r/\r<=n
 |[],n,r,hn,h=>by cases h;omega
 |k::ks,n,r,hn,h=>by
  simp only[wH]at h
  split at h
  ·cases h;omega
  ·cases e:F k n with
   |none=>rw[e]at h;cases h
   |some q=>
    rw[e]at h
    have h1:=hF k n q af e
    have h2:=Cd hF ks q r af h
    omega
theorem wo{b:List (Int×Tm)}:∀ (f:Nat) (t:Tm) (n:Int) (d:Nat) (r:Int),0<=n->pY f b t n d=some r-> -1<=r/\r<=n
 |0,_,_,_,_,_,h=>by cases h
 |f+1,t,n,d,r,hn,h=>by
  simp only[pY]at h
  cases ha:pq f b t with
  |none=>rw[ha]at h;cases h
  |some x=>
   rw[ha]at h
   cases d with
   |zero=>cases h;omega
   |succ d=>
    have:=Cd (fun k m r hm h=>wo f k m d r hm h) x.kids (n - 1) r af h
    omega
theorem Gp{b:List (Int×Tm)}:∀ (f:Nat) (t:Tm) (n:Int) (d:Nat) (r:Int),t.fits->(∀p∈b,p.2.fits)->0<=n/\n<=1000->d<=1000->pY f b t n d=some r->aY Tryz.prog 91 [D0 b,t.d, .i n, .i d] (.ret [.i r])
 |0,_,_,_,_,_,_,_,_,h=>by cases h
 |f+1,t,n,d,r,ht,hb,hn,hd,h=>by
  simp only[pY]at h
  cases ha:pq f b t with
  |none=>rw[ha]at h;cases h
  |some x=>
  rw[ha]at h
  refine aY.aN mix TK aK ?_
  rw[Zd]
  refine cQ ?_
  refine cW (Gn ha) ?_
  cases d with
  |zero=>
   injection h with h
   subst h
   exact qG
  |succ d=>
   have HG:(((d+1:Nat):Int)==0)=false:=by rw[beq_eq_false_iff_ne];omega
   dsimp only at h
   have OM:=(Tm.bA x).1 (n9 hb f t x ht ha)
   refine ou HG ?_
   refine aL (fun i:Nat×Int=>⟨bc [.d (D0 b), .ab, .d (.i i.2), .d (.i (d+1:Nat)), .ab, .ab, .ab, .ab, .ab, .ab, .ab, .ab, .ab, .ab, .ab, .ab, .ab, .ab, .ab, .d (.sl (x.kids.map Tm.d)), .d (.i x.kids.length), .d (.i i.1)],fun _=> .no,0⟩)
    (fun i=>i.1<=x.kids.length/\wH (fun k m=>pY f b k m d) (x.kids.drop i.1) i.2=some r/\ -1<=i.2/\i.2<=1000) (fun i=>x.kids.length - i.1) (0,n - 1) ⟨Nat.zero_le _,h,by dsimp only;omega,by dsimp only;omega⟩ (bM.d0 _ ?_) ?_
   ·exact ec
   rintro⟨k,m⟩ ⟨hk,hl,GU,JF⟩
   simp only at hk hl GU JF
   refine DE ?_
   refine ak (fun h2=> ?_) (fun h2=> ?_)
   ·replace h2:k<x.kids.length:=by simp at h2;omega
    obtain⟨y,hy⟩:=aH h2
    have Is:=List.mem_of_getElem? hy
    have IY:x.kids.drop k=y::x.kids.drop (k+1):=by
     obtain⟨i1,i2⟩:=List.getElem?_eq_some_iff.1 hy
     exact Hc
    rw[IY]at hl
    simp only[wH]at hl
    by_cases h0:m<0
    ·have uZ:decide (m<0)=true:=decide_eq_true h0
     rw[if_pos h0]at hl
     cases hl
     exact Lu hy uZ
    ·have uZ:decide (m<0)=false:=decide_eq_false h0
     rw[if_neg h0]at hl
     refine O7 hy uZ ?_
     cases e:pY f b y m d with
     |none=>rw[e]at hl;cases hl
     |some q=>
     rw[e]at hl
     have hq:=wo f y m d q af e
     rw[show(((d+1:Nat):Int) - 1)=((d:Nat):Int) by omega]
     refine aw (Gp f y m d q (OM.2 y Is) hb af af e) rfl ?_
     refine cQ ?_
     refine ax (k+1,q) ⟨h2,hl,by dsimp only;omega,by dsimp only;omega⟩ qH (bM.d0 _ ?_)
     exact ec
   ·replace h2:k=x.kids.length:=by simp at h2;omega
    subst h2
    rw[List.drop_length]at hl
    cases hl
    exact qG
theorem wq{F:Tm->Option Tm}:∀ {ks xs:List Tm},AG F ks=some xs->xs.length=ks.length/\∀ (i:Nat) (k:Tm),ks[i]? =some k->∃x,xs[i]? =some x/\F k=some x
 |[],xs,h=>by cases h;exact⟨rfl,fun i k hk=>by simp at hk⟩
 |k::ks,xs,h=>by
  simp only[AG]at h
  cases h1:F k with
  |none=>rw[h1]at h;cases h
  |some x=>
   cases h2:AG F ks with
   |none=>rw[h1,h2]at h;cases h
   |some ys=>
    rw[h1,h2]at h
    cases h
    obtain⟨g1,g2⟩:=wq h2
    refine⟨by rw[List.length_cons,List.length_cons,g1],fun i k' hk=> ?_⟩
    cases i with
    |zero=>simp at hk;subst hk;exact⟨x,rfl,h1⟩
    |succ i=>exact g2 i k' hk
def AH(op n:Int)(ks:List Tm)(k:Nat):Nat->aa:=aM (aM (aM (fun _=> .no) 1 (.row [.d (.i 0), .d (.i 0), .a8])) 11 (.row [.d (.i op), .d (.i n), .osl 12 0])) 12 (.arr 0 33 3 ((ks.take k).map Tm.d))
theorem fuH_1(op n:Int)(ks:List Tm)(k:Nat):AH op n ks k 1= .row [.d (.i 0), .d (.i 0), .a8]:=rfl
theorem fuH_11(op n:Int)(ks:List Tm)(k:Nat):AH op n ks k 11= .row [.d (.i op), .d (.i n), .osl 12 0]:=rfl
theorem fuH_12(op n:Int)(ks:List Tm)(k:Nat):AH op n ks k 12= .arr 0 33 3 ((ks.take k).map Tm.d):=rfl
theorem wu(op n:Int)(ks:List Tm)(k:Nat){j:Nat}(h1:j≠1)(h2:j≠11)(h3:j≠12):AH op n ks k j= .no:=by unfold AH;rw[ah _ _ _ _ h3,ah _ _ _ _ h2,ah _ _ _ _ h1]
theorem Gq(gone:Nat->Prop)(x:V)(L:List V)(M5:∀id,gone id->12<=id){op n:Int}{ks:List Tm}{k:Nat}{e:Nat->V}{so:Nat->aa}{m:Nat}(gx:mG so gone 33 3 ((ks.take k).map Tm.d) x)
 (s1:so 1= .row [.d (.i 0), .d (.i 0), .a8]) (ZS:so 11= .row [.d (.i op), .d (.i n),x]) (he:jO 12 [⟨x,33,3,(ks.take k).map Tm.d⟩] so gone e L 0):bM 0 ⟨e,so,m⟩ ⟨bc L,AH op n ks k,12+1⟩:=by
 refine bM.Og gone x 12 L af (fun j hj=> ?_) (fuH_12 op n ks k) gx (fun j hj=>wu _ _ _ _ af af af) (fun j h1 h2=>absurd (M5 j h1) af) he
 by_cases e1:j=1
 ·subst e1
  rw[fuH_1]
  exact Re
 ·by_cases e2:j=11
  ·subst e2
   rw[fuH_11]
   exact Rj
  ·rw[wu _ _ _ _ e1 e2 (by omega)]
   exact vV
theorem wv{k:Tm}:∀ {l:List Tm},k∈l->k.sz<=o8 l
 |x::l,h=>by
  rw[show o8 (x::l)=x.sz+o8 l from rfl]
  rcases List.mem_cons.1 h with rfl|h
  ·omega
  ·have:=wv h;omega
theorem AJ{b:List (Int×Tm)}(hb:∀p∈b,p.2.fits):∀ (f:Nat) (t y:Tm),t.fits->wI f b t=some y->y.sz<=1000000->aY Tryz.prog 68 [D0 b,t.d] (.ret [y.d])
 |0,_,_,_,h,_=>by cases h
 |f+1,t,y,ht,h,hz=>by
  simp only[wI]at h
  cases ha:pq f b t with
  |none=>rw[ha]at h;cases h
  |some x=>
  rw[ha]at h
  dsimp only at h
  have OM:=(Tm.bA x).1 (n9 hb f t x ht ha)
  cases hL:AG (wI f b) x.kids with
  |none=>rw[hL]at h;cases h
  |some ks=>
  rw[hL]at h
  cases h
  obtain⟨Hv,Jw⟩:=wq hL
  have dn:o8 ks+1<=1000000:=by rw[Tm.lb]at hz;simp only[Tm.kids]at hz;omega
  have hle:=nY ks
  refine aY.aN mix TI aK ?_
  rw[YZ]
  refine cQ ?_
  refine cW (Gn ha) ?_
  refine cQ ?_
  refine aL (fun i:Nat=>⟨bc [.d (D0 b), .ab, .ab, .ab, .ptr 1 0, .ptr 11 0, .ab, .ab, .ab, .ab, .ab, .ab, .ab, .ab, .ab, .ab, .ab, .d (.sl (x.kids.map Tm.d)), .d (.i x.kids.length), .d (.i i)],AH x.op x.n ks i,12+1⟩)
   (fun i=>i<=x.kids.length) (fun i=>x.kids.length - i) 0 (Nat.zero_le _) (Gq (fun _=>False) .a8 _ (fun _ h=>h.elim) (.inl ⟨rfl,rfl,dU⟩) iA iA ?_) (fun k hk=> ?_)
  ·exact DF
  replace hk:k<=x.kids.length:=hk
  have q1:=fuH_1 x.op x.n ks k
  have IZ:=fuH_11 x.op x.n ks k
  have I0:=fuH_12 x.op x.n ks k
  refine G3 q1 IZ I0 ?_
  refine ak (fun h2=> ?_) (fun h2=> ?_)
  ·replace h2:k<x.kids.length:=by simp at h2;omega
   obtain⟨z,hz⟩:=aH h2
   obtain⟨z',Mb,hF⟩:=Jw k z hz
   have ZB:=List.mem_of_getElem? hz
   have ze:ks.take (k+1)=ks.take k++[z']:=by rw[List.take_add_one,Mb];rfl
   have e0:(ks.take k).length=k:=by rw[List.length_take];omega
   have ZC:z'.sz<=1000000:=by have:=wv (List.mem_of_getElem? Mb);omega
   have nk:k<=140737488355327/\(k+1)*24<=140737488355328:=af
   refine G2 q1 IZ I0 hz ?_
   refine hU (AJ hb f z z' (OM.2 z ZB) hF ZC) ?_
   simp+contextual (disch:=first|omega|simp only[go_sem,false_implies]) only[go_sem,wrap64,if_pos,q1,IZ,I0,hz,List.length_map,e0,if_pos nk]
   refine bg ae ?_
   refine cQ ?_
   refine ax (k+1) h2 af (Gq (fun j=>12<=j) (.osl 12 1) _ (fun _ h=>h) (.inr ⟨12,1,Nat.le_refl _,rfl,by(repeat(first|rfl|rw[ag]|rw[ah _ _ _ _ (by omega)]));rw[ze,List.map_append];rfl⟩) Q3 iA ?_)
   exact DF
  ·replace h2:k=x.kids.length:=by simp at h2;omega
   subst h2
   have ON:AH x.op x.n ks x.kids.length 12= .arr 0 33 3 (ks.map Tm.d):=by rw[I0, <- Hv,List.take_length]
   refine D2 q1 IZ ON ?_
   rw[Tm.MZ]
section
section
variable {σ:Type}(base rZ:Nat)(H:σ->Nat->aa)(step:σ->Tm->σ×Bool)(ok:σ->Prop)
end
end
end Go.Proofs.YtlhemmpklhhgoaaGreat
