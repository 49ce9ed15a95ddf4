/-
  A PART OF THE PROOF. Conditions: none.
-/
import Derived.Test.YtlhemmpklhhgoaaGreatQa15
set_option linter.unusedSimpArgs false
set_option linter.unusedVariables false
namespace Go.Proofs.YtlhemmpklhhgoaaGreat
theorem Fj{v op n:Int}(h:op≠8):∀ (l:List Tm) (i:Nat),y0 v op n l i=l.any (fU v)
 |[],i=>rfl
 |k::l,i=>by
  have:(op==8)=false:=by simpa using h
  simp[y0,Fj h l,this]
theorem JW{s:aB}{t:Tm}(h:bn s t=true)(h1:t.op=1):t.kids=[]:=by
 simp[bn,h1]at h
 exact h.1
theorem u7:∀ (l:List Int) (n:Int),∃k,k<=l.length/\(∀x∈l.take k,x<n)/\(∀x,l[k]? =some x-> ¬x<n)/\nT l n=if l[k]? =some n then l else l.take k++n::l.drop k
 |[],n=>⟨0,Nat.zero_le _,aG,aG,by simp[nT]⟩
 |x::l,n=>by
  obtain⟨k,h1,h2,h3,h4⟩:=u7 l n
  by_cases hx:x<n
  ·refine⟨k+1,by simp;omega, ?_,by simpa using h3, ?_⟩
   ·intro y hy
    simp only[List.take_succ_cons,List.mem_cons]at hy
    rcases hy with rfl|hy
    ·exact hx
    ·exact h2 y hy
   ·simp only[nT,if_pos hx,h4,List.getElem?_cons_succ,List.take_succ_cons,List.drop_succ_cons]
    split<;>simp
  ·refine⟨0,Nat.zero_le _,aG,by simpa using hx, ?_⟩
   simp only[nT,if_neg hx]
   by_cases e:x=n
   ·subst e;simp
   ·simp[e]
theorem aam(l:List Int)(n:Int)(hl:l.length<=1000000):aV Tryz.prog 155 [.sl (l.map .i), .i n] (.ret [.sl ((nT l n).map .i)]):=by
 obtain⟨j,j1,j2,j3,j4⟩:=u7 l n
 have tk:∀ (i:Nat) (l:List Int),List.take i (l.map D.i)=(l.take i).map D.i:=fun i l=>List.map_take.symm
 have dr:∀ (i:Nat) (l:List Int),List.drop i (l.map D.i)=(l.drop i).map D.i:=fun i l=>List.map_drop.symm
 have ap:∀ (a b:List Int),a.map D.i++[D.i n]++b.map D.i=(a++n::b).map D.i:=fun a b=>aG
 refine aV.aJ mix Zq aG ?_
 rw[Zp]
 refine bJ ?_
 refine aF (fun k:Nat=>⟨bf [.d (.sl (l.map .i)), .d (.i n), .ab, .ab, .ab, .d (.i k)],fun _=> .no,0⟩)
  (fun k=>k<=j) (fun k=>l.length - k) 0 (Nat.zero_le _) (bM.d0 _ ?_) (fun k hk=> ?_)
 ·exact dU
 by_cases hkj:k=j
 ·subst hkj
  by_cases h5:k<l.length
  ·obtain⟨x,hx⟩:=aD h5
   have h6:=j3 x hx
   have Hr:(k:Int)<l.length:=ae
   refine Cz hx Hr h6 ?_
   refine au (fun h3=> ?_) (fun h3=> ?_)
   ·refine bJ ?_
    have e:x=n:=by simpa using h3
    rw[j4,if_pos (by rw[hx,e])]
   ·have e: ¬x=n:=by simpa using h3
    rw[j4,if_neg (by rw[hx];simpa using e)]
    simp+contextual (disch:=first|omega|simp only[go_sem,false_implies]) only[go_sem,wrap64,if_pos,hx,Hr,h6,tk,dr,List.take_length,List.length_map,List.length_take,List.length_drop,List.length_append,List.length_cons,List.length_nil]
    rw[ap]
    refine aL cE ?_
    exact l6
  ·have Hr: ¬ (k:Int)<l.length:=ae
   have hx:l[k]? =none:=by simp;omega
   rw[j4,if_neg (by rw[hx];simp)]
   simp+contextual (disch:=first|omega|simp only[go_sem,false_implies]) only[go_sem,wrap64,if_pos,Hr,tk,dr,List.take_length,List.length_map,List.length_take,List.length_drop,List.length_append,List.length_cons,List.length_nil]
   rw[ap]
   refine aL cE ?_
   exact l6
 ·have bW:k<l.length:=ae
  obtain⟨x,hx⟩:=aD bW
  have Hr:(k:Int)<l.length:=ae
  have h6:x<n:=j2 x (List.mem_of_getElem? (i:=k) (by rw[List.getElem?_take_of_lt (by omega)];exact hx))
  refine Cz hx Hr h6 ?_
  refine aq (k+1) ae ae (bM.d0 _ ?_)
  exact dU
theorem G5{op n:Int}{i:Nat}{l:List Int}{k:Nat}{v:Int}(h:l[k]? =some v)(out:List Int):oW op n i (l.take (k+1)) out=if(op !=8||(i:Int)!=1||v !=n)=true then nT (oW op n i (l.take k) out) v else oW op n i (l.take k) out:=by
 unfold oW
 rw[List.take_add_one,h,List.foldl_append]
 rfl
theorem Tv{t a body:Tm}{v:Int}(h8:t.op=8)(hk:t.kids=[a,body]):fU v t=(fU v a||(fU v body&& !(t.n==v))):=by
 rw[rH,hk,h8]
 simp[y0]
theorem m8{v n:Int}:fU v (.mk 1 n [])=(n==v):=rfl
theorem JX{t:Tm}{v:Int}(h1:t.op≠1)(h8:t.op≠8):fU v t=t.kids.any (fU v):=by rw[rH,if_neg h1,Fj h8]
def acE(R:Int->Int->Prop)(x y:Int):Int->Int->Prop:=fun v w=>(v=x/\w=y)\/(v≠x/\w≠y/\R v w)
inductive Al:(Int->Int->Prop)->Tm->Tm->Prop where
 |var {R:Int->Int->Prop} {v w:Int} (h:R v w):Al R (.mk 1 v []) (.mk 1 w [])
 |DG {R:Int->Int->Prop} {n m:Int} {a a' b b':Tm} (ha:Al R a a') (hb:Al (acE R n m) b b'):Al R (.mk 8 n [a,b]) (.mk 8 m [a',b'])
 |node {R:Int->Int->Prop} {op n:Int} {l l':List Tm} (h1:op≠1) (h8:op≠8) (hl:l.length=l'.length) (h:∀ (i:Nat) (k k':Tm),l[i]? =some k->l'[i]? =some k'->Al R k k'):Al R (.mk op n l) (.mk op n l')
theorem Al.mono {R:Int->Int->Prop}{t t':Tm}(h:Al R t t'):∀ {S:Int->Int->Prop},(∀v w,R v w->S v w)->Al S t t':=by
 induction h with
 |var h=>exact fun hs=> .var (hs _ _ h)
 |DG ha hb iha ihb=>
  exact fun hs=> .DG (iha hs) (ihb fun v w h=>h.elim Or.inl fun h=>Or.inr ⟨h.1,h.2.1,hs _ _ h.2.2⟩)
 |node h1 h8 hl h ih=>exact fun hs=> .node h1 h8 hl fun i k k' g g'=>ih i k k' g g' hs
def aan(R S:Int->Int->Prop):Int->Int->Prop:=fun v w=>∃u,R v u/\S u w
theorem Al.comp {R:Int->Int->Prop}{t t1:Tm}(h:Al R t t1):∀ {S:Int->Int->Prop} {t2:Tm},Al S t1 t2->Al (aan R S) t t2:=by
 induction h with
 |var h=>
  intro S t2 h2
  generalize he:Tm.mk 1 _ []=x at h2
  cases h2 with
  |var h3=>injection he with _ e _;subst e;exact .var ⟨_,h,h3⟩
  |DG _ _=>injection he with e;cases e
  |node g1 _ _ _=>injection he with e;exact absurd e.symm g1
 |DG ha hb iha ihb=>
  intro S t2 h2
  generalize he:Tm.mk 8 _ _=x at h2
  cases h2 with
  |var h3=>injection he with e;cases e
  |DG g1 g2=>
   injection he with _ e1 e2
   injection e2 with e2 e3
   injection e3 with e3 _
   subst e1;subst e2;subst e3
   refine .DG (iha g1) ((ihb g2).mono ?_)
   rintro v w ⟨u,(⟨p1,p2⟩|⟨p1,p2,p3⟩),(⟨q1,q2⟩|⟨q1,q2,q3⟩)⟩
   ·exact Or.inl ⟨p1,q2⟩
   ·exact absurd p2 q1
   ·exact absurd q1 p2
   ·exact Or.inr ⟨p1,q2,u,p3,q3⟩
  |node g1 g8 _ _=>injection he with e;exact absurd e.symm g8
 |node h1 h8 hl h ih=>
  intro S t2 h2
  generalize he:Tm.mk _ _ _=x at h2
  cases h2 with
  |var h3=>injection he with e;exact absurd e h1
  |DG _ _=>injection he with e;exact absurd e h8
  |node g1 g8 gl g3=>
   injection he with e1 e2 e3
   subst e1;subst e2;subst e3
   refine .node h1 h8 (hl.trans gl) fun i k k2 hk ML=> ?_
   have bW:i<_:=(List.getElem?_eq_some_iff.1 hk).1
   have LP:=List.getElem?_eq_getElem (hl ▸ bW)
   exact ih i k _ hk LP (g3 i _ k2 LP ML)
theorem MM{t:Tm}(hw:t.wf)(h:t.op=1):t= .mk 1 t.n []:=by
 obtain⟨op,n,kids⟩:=t
 rw[Tm.DE]at hw
 simp only[Tm.op,Tm.n,Tm.kids]at h hw|-
 rw[h,hw.1 h]
def IC.snd:IC->IC
 | .seq _ y=>y
 |c=>c
def IC.fst:IC->IC
 | .seq x _=>x
 | .block _ x=>x
 | .loop x=>x
 | .cond _ x _=>x
 |c=>c
@[reducible] def acF (m:List (Int×Int)):aa:= .map 3 3 (enc (D.int .i64) (ints m))
@[reducible] def acG (m:List (Int×Int)):aa:= .cZ (enc (D.int .i64) (ints m))
def BdV(o:Nat->aa)(bv:V)(m:List (Int×Int)):Prop:=(bv= .d .dC/\m=[])\/∃b,bv= .mp b/\o b=acG m
structure acH (o:Nat->aa) (nx cid fid:Nat) (bv:V) (mB bd fr:List (Int×Int)) (n:Int) (sz:Nat):Prop where
 cq:Good o nx
 hc:o cid= .row [.d (.i n), .mp fid]
 hf:o fid=acF fr
 hb:BdV o bv mB
 kb:Keys mB
 lk:∀v,lk mB v=lk bd v
 n0:0<=n
 n1:n+sz<=1000000
@[go_sem] theorem Va {P:Program} {kt:TypeId} {k:D} {i:Nat}:findD P kt k [] i=some none:=rfl
theorem qs{c:Nat}{G:List Gr}{so:Nat->aa}{gone:Nat->Prop}{x x' y y':aa}(h:x=y)(h':x'=y')(hs:BG c G so gone y y'):BG c G so gone x x':=by rw[h,h'];exact hs
theorem lN:∀l:List Tm,l.length<=qN l
 |[]=>by simp[qN]
 |k::l=>by have:=lN l;have:=Tm.rE k;rw[qm,List.length_cons];omega
theorem Tm.mi {t k:Tm}(hk:k∈t.kids):k.sz+1<=t.sz:=by
 have:=Tm.xC hk
 rw[Tm.BR,Tm.BR]at this
 omega
theorem Tm.xF:∀t:Tm,t.l7<=t.sz:=by
 refine Tm.fg fun t ih=> ?_
 have h:Tm.iq t.kids<=t.sz - 1:=(nF _ _).2 fun k hk=>by have:=ih k hk;have:=Tm.mi hk;omega
 have:=Tm.rE t
 rw[Tm.rF]
 omega
theorem Tm.cI:∀t:Tm,t.sz<=1000000->t.fits:=by
 refine Tm.fg fun t ih h=> ?_
 rw[Tm.bF]
 refine⟨?_,fun k hk=>ih k hk (by have:=Tm.mi hk;omega)⟩
 have:=lN t.kids
 rw[Tm.jt]at h
 omega
def ou(b:List (Int×Tm)):List (Int×D):=b.map fun p=>(p.1,p.2.d)
@[reducible] def G6 (b:List (Int×Tm)):D:=mpD (ou b)
theorem u9:∀ (m:List (Int×Tm)) (v:Int) (i:Nat),(match iP v (ou m) i with|some (_,x)=>some x|none=>none)=(bL m v).map Tm.d
 |[],_,_=>rfl
 |p::m,v,i=>by
  have ih:=u9 m v (i+1)
  simp only[ou,List.map_cons,iP,bL]at ih|-
  by_cases h:v=p.1
  ·subst h;simp
  ·have h2: ¬p.1=v:=fun e=>h e.symm
   simp only[beq_iff_eq,h,h2,if_false]
   exact ih
theorem hO{m:List (Int×Tm)}{v:Int}{x:Tm}(h:bL m v=some x):∃j,iP v (ou m) 0=some (j,x.d):=by
 have:=u9 m v 0
 rw[h]at this
 cases h2:iP v (ou m) 0 with
 |none=>rw[h2]at this;cases this
 |some p=>obtain⟨j,y⟩:=p;rw[h2]at this;simp at this;subst this;exact⟨j,rfl⟩
theorem ee{m:List (Int×Tm)}{v:Int}(h:bL m v=none):iP v (ou m) 0=none:=by
 have:=u9 m v 0
 rw[h]at this
 cases h2:iP v (ou m) 0 with
 |none=>rfl
 |some p=>rw[h2]at this;cases this
def ve:Tm:= .mk 0 0 []
theorem xG{K:V->List (Nat×aa)->Prop}{id:Nat}{m:List (Int×Tm)}(h0:m=[]->K (.bN [.d (.bool false)]) [])
 (h1:∀ (i:Nat) k x,m[i]? =some (k,x)->K (.bN [.d (.bool true), .d (.int .i64 k), .d x.d]) [(id, .qS (enc (D.int .i64) (ou (m.eraseIdx i))) (some (.int .i64 k,x.d)))]):EO K id (enc (D.int .i64) (ou m)):=by
 refine GR _ (fun h=>h0 ?_) fun i k x h=> ?_
 ·cases m with
  |nil=>rfl
  |cons x l=>simp[ou]at h
 ·unfold ou at h|-
  rw[List.getElem?_map]at h
  cases hm:m[i]? with
  |none=>rw[hm]at h;cases h
  |some p=>
   rw[hm]at h
   simp at h
   obtain⟨rfl,rfl⟩:=h
   have:=h1 i p.1 p.2 (by rw[hm])
   rw[lL]
   exact this
@[reducible] def eJ (m:List (Int×Tm)):aa:= .map 3 33 (enc (D.int .i64) (ou m))
theorem BV{m:List (Int×Tm)}{v:Int}{x:Tm}(h:bL m v=none):GQ v x.d (ou m)=ou (m++[(v,x)]):=by
 unfold GQ
 rw[ee h]
 simp[ou]
theorem m9(s:aB):∀t:Tm,gU s t=true->t.wf:=by
 refine Tm.fg fun t ih h=> ?_
 rw[kM,Bool.and_eq_true,List.all_eq_true]at h
 rw[Tm.DE]
 refine⟨fun h1=>JW h.1 h1,fun h8=> ?_,fun k hk=>ih k hk (h.2 k hk)⟩
 have:=h.1
 simp[bn,h8]at this
 omega
theorem Fk{s:aB}{t:Tm}(h:ew s t=true):t.wf/\t.sz<=40/\t.l7<=12:=by
 simp only[ew,Bool.and_eq_true,decide_eq_true_eq,qn]at h
 exact⟨m9 s t h.2,ae,ae⟩
def ah(l:List TB):List (Int×Tm):=l.map fun x=>(x.var,x.term)
theorem DH{s:aB}{op n:Int}{l l':List Tm}(h:l'.length=l.length):bn s (.mk op n l')=bn s (.mk op n l):=by
 unfold bn
 dsimp only[Tm.op,Tm.n,Tm.kids]
 rw[h]
 rfl
theorem G7{s:aB}{k:Int}(h:0<=k/\k<20):bn s (.mk 1 k [])=true:=by
 have:dF k 0 19=true:=by simp[dF];omega
 simp[bn,Tm.op,Tm.n,Tm.kids,this]
theorem JY{s:aB}:∀t:Tm,gU s t=true->∀v,fU v t=true->0<=v/\v<20:=by
 refine Tm.fg fun t ih h v hv=> ?_
 have hw:=(Tm.DE t).1 (m9 s t h)
 rw[kM,Bool.and_eq_true,List.all_eq_true]at h
 by_cases h1:t.op=1
 ·rw[rH,if_pos h1]at hv
  have hv:t.n=v:=by simpa using hv
  have:=h.1
  simp[bn,h1,dF]at this
  omega
 ·by_cases h8:t.op=8
  ·obtain⟨a,body,hk⟩:=Tu (hw.2.1 h8)
   rw[Tv h8 hk,Bool.or_eq_true,Bool.and_eq_true]at hv
   rcases hv with hv|hv
   ·exact ih a (by rw[hk];simp) (h.2 a (by rw[hk];simp)) v hv
   ·exact ih body (by rw[hk];simp) (h.2 body (by rw[hk];simp)) v hv.1
  ·rw[JX h1 h8,List.any_eq_true]at hv
   obtain⟨k,hk,hv⟩:=hv
   exact ih k hk (h.2 k hk) v hv
def findF(l:List TB)(n:Int):Int:=match l.findIdx? (·.var==n)with|some i=>i|none=> -1
theorem tp(l:List TB)(n:Int):(findF l n<0/\bL (ah l) n=none)\/∃ (k:Nat) (x:TB),findF l n=k/\l[k]? =some x/\bL (ah l) n=some x.term:=by
 induction l with
 |nil=>left;exact⟨by simp[findF],rfl⟩
 |cons y l ih=>
  by_cases h:y.var=n
  ·right
   refine⟨0,y, ?_,rfl, ?_⟩
   ·simp[findF,List.findIdx?_cons,h]
   ·simp[ah,bL,h]
  ·have hf:bL (ah (y::l)) n=bL (ah l) n:=by simp[ah,bL,h]
   have h':(y.var==n)=false:=by simpa using h
   rw[hf]
   unfold findF at ih|-
   rw[List.findIdx?_cons,h']
   simp only[Bool.false_eq_true,if_false]
   rcases ih with⟨h1,h2⟩|⟨k,x,h1,h2,h3⟩
   ·left
    refine⟨?_,h2⟩
    cases hi:l.findIdx? (·.var==n)with
    |none=>simp
    |some i=>rw[hi]at h1;simp at h1;omega
   ·right
    refine⟨k+1,x, ?_,h2,h3⟩
    cases hi:l.findIdx? (·.var==n)with
    |none=>rw[hi]at h1;simp at h1;try omega
    |some i=>rw[hi]at h1;simp at h1|-;try omega
def jE(g:List Int)(i:Int):Nat:=(g.filter fun x=>decide (x<i)).length
theorem ng{g:List Int}{i:Int}(h:∀x∈g,i<=x):jE g i=0:=by
 unfold jE
 rw[List.filter_eq_nil_iff.2 (fun x hx=>by have:=h x hx;simp;omega)];rfl
theorem MN{g:List Int}{i:Int}(h:∀x∈g,x<i):jE g i=g.length:=by
 unfold jE
 rw[List.filter_eq_self.2 (fun x hx=>by simpa using h x hx)]
theorem BW:∀ {g:List Int},G3 g->∀i:Int,if i∈g then g[jE g i]? =some i/\jE g (i+1)=jE g i+1 else jE g (i+1)=jE g i
 |[],_,i=>by simp[jE]
 |x::g,hg,i=>by
  have Vb:=List.pairwise_cons.1 hg
  have ih:=BW Vb.2 i
  have hc:∀j,jE (x::g) j=(if x<j then 1 else 0)+jE g j:=fun j=>by
   unfold jE
   rw[List.filter_cons]
   by_cases e:x<j
   ·simp[e];omega
   ·simp[e]
  rcases Int.lt_trichotomy x i with h|h|h
  ·have hm:(i∈x::g)↔i∈g:=by simp;omega
   simp only[hm,hc,if_pos h,if_pos (show x<i+1 by omega)]
   split
   ·rename_i e
    rw[if_pos e]at ih
    refine⟨?_,ae⟩
    rw[show 1+jE g i=jE g i+1 by omega,List.getElem?_cons_succ]
    exact ih.1
   ·rename_i e
    rw[if_neg e]at ih
    omega
  ·subst h
   have z1:jE g x=0:=ng fun y hy=>by have:=Vb.1 y hy;omega
   have z2:jE g (x+1)=0:=ng fun y hy=>by have:=Vb.1 y hy;omega
   rw[if_pos (by simp),hc,hc,z1,z2,if_neg (by omega),if_pos (by omega)]
   exact⟨rfl,rfl⟩
  ·have hm: ¬i∈x::g:=by
    intro hm
    rcases List.mem_cons.1 hm with rfl|hm
    ·omega
    ·have:=Vb.1 i hm;omega
   have z1:jE g i=0:=ng fun y hy=>by have:=Vb.1 y hy;omega
   have z2:jE g (i+1)=0:=ng fun y hy=>by have:=Vb.1 y hy;omega
   rw[if_neg hm,hc,hc,z1,z2,if_neg (by omega),if_neg (by omega)]
theorem y9{ns:List Int}(h:∀n∈ns,0<=n/\n<20)(hi:G3 ns):ns.length<=20:=by
 have hc:∀k:Nat,jE ns (k:Int)<=k:=by
  intro k
  induction k with
  |zero=>show jE ns (0:Int)<=0;rw[ng (fun x hx=>(h x hx).1)];exact Nat.le_refl _
  |succ k ih=>
   have:=BW hi (k:Int)
   rw[Int.natCast_succ]
   split at this<;>omega
 have:jE ns (20:Int)<=20:=hc 20
 rwa [MN (fun x hx=>(h x hx).2)]at this
mutual
def aZ(b:List (Int×Tm)):Tm->Tm
 | .mk op n kids=>if op=1 then(match bL b n with|some x=>x|none=> .mk op n kids)else .mk op n (MO b kids)
def MO(b:List (Int×Tm)):List Tm->List Tm
 |[]=>[]
 |k::l=>aZ b k::MO b l
end
theorem BX(b:List (Int×Tm)):∀l:List Tm,MO b l=l.map (aZ b)
 |[]=>rfl
 |k::l=>by simp[MO,BX b l]
theorem zc(b:List (Int×Tm))(t:Tm):aZ b t=if t.op=1 then(match bL b t.n with|some x=>x|none=>t)else .mk t.op t.n (t.kids.map (aZ b)):=by
 cases t;simp only[aZ,BX,Tm.op,Tm.n,Tm.kids];rfl
def Lv(b:List (Int×Tm))(v:Int):Tm:=match bL b v with|some x=>x|none=> .mk 1 v []
def vop(t:Tm):Prop:=(1<=t.op/\t.op<=3)\/t.op=5
def Vs(s:aB)(t:Tm):Prop:=gU s t=true/\dR t=true
theorem rI{s:aB}{t:Tm}:Vs s t↔bn s t=true/\vop t/\∀k∈t.kids,Vs s k:=by
 unfold Vs vop
 rw[kM,rC]
 simp only[Bool.and_eq_true,List.all_eq_true,Bool.or_eq_true,decide_eq_true_eq,beq_iff_eq]
 constructor
 ·rintro⟨⟨h1,h2⟩,h3,h4⟩;exact⟨h1,h4,fun k hk=>⟨h2 k hk,h3 k hk⟩⟩
 ·rintro⟨h1,h2,h3⟩;exact⟨⟨h1,fun k hk=>(h3 k hk).1⟩,fun k hk=>(h3 k hk).2,h2⟩
theorem Vs.lW {s:aB}{t k:Tm}(h:Vs s t)(hk:k∈t.kids):Vs s k:=(rI.1 h).2.2 k hk
theorem Vs.eta {s:aB}{t:Tm}(h:Vs s t)(h1:t.op=1):t= .mk 1 t.n []:=MM (m9 s t h.1) h1
theorem Vs.n8 {s:aB}{t:Tm}(h:Vs s t):t.op≠8:=by rcases(rI.1 h).2.1 with h|h<;>omega
theorem Vs.range {s:aB}{t:Tm}(h:Vs s t){v:Int}(hv:fU v t=true):0<=v/\v<20:=JY t h.1 v hv
theorem Vs.var {s:aB}{v:Int}(h:0<=v/\v<20):Vs s (.mk 1 v []):=rI.2 ⟨G7 h,Or.inl ⟨by show(1:Int)<=1;omega,by show(1:Int)<=3;omega⟩,fun k hk=>by cases hk⟩
theorem Vs.mk' {s:aB}{t:Tm}{l:List Tm}(h:Vs s t)(hl:l.length=t.kids.length)(hk:∀k∈l,Vs s k):Vs s (.mk t.op t.n l):=
 rI.2 ⟨by rw[DH hl,Tm.eta];exact(rI.1 h).1,(rI.1 h).2.1,hk⟩
theorem hU{t:Tm}(h1:t.op=1){v:Int}:fU v t=true↔t.n=v:=by rw[rH,if_pos h1];simp
theorem qu{s:aB}{t:Tm}(h:Vs s t)(h1:t.op≠1){v:Int}:fU v t=true↔∃k∈t.kids,fU v k=true:=by rw[JX h1 h.n8,List.any_eq_true]
theorem iw{b:List (Int×Tm)}{s:aB}{t:Tm}(h:Vs s t)(h1:t.op=1):aZ b t=Lv b t.n:=by
 rw[zc,if_pos h1,Lv]
 cases bL b t.n with
 |some x=>rfl
 |none=>exact h.eta h1
theorem oX{b:List (Int×Tm)}{v:Int}:aZ b (.mk 1 v [])=Lv b v:=by rw[zc];rfl
theorem iM{b:List (Int×Tm)}{t:Tm}(h1:t.op≠1):aZ b t= .mk t.op t.n (t.kids.map (aZ b)):=by rw[zc,if_neg h1]
theorem JZ{s:aB}{b c:List (Int×Tm)}:∀t:Tm,Vs s t->(∀v,fU v t=true->Lv b v=Lv c v)->aZ b t=aZ c t:=by
 refine Tm.fg fun t ih hv h=> ?_
 by_cases h1:t.op=1
 ·rw[iw hv h1,iw hv h1,h _ ((hU h1).2 rfl)]
 ·rw[iM h1,iM h1,List.map_congr_left fun k hk=>ih k hk (hv.lW hk) fun v J0=>h v ((qu hv h1).2 ⟨k,hk,J0⟩)]
theorem Fl{s:aB}{b c d:List (Int×Tm)}:∀t:Tm,Vs s t->(∀v,fU v t=true->aZ c (Lv b v)=Lv d v)->aZ c (aZ b t)=aZ d t:=by
 refine Tm.fg fun t ih hv h=> ?_
 by_cases h1:t.op=1
 ·rw[iw hv h1,iw hv h1,h _ ((hU h1).2 rfl)]
 ·rw[iM h1,iM h1 (b:=d),iM (by exact h1)]
  show Tm.mk t.op t.n ((t.kids.map (aZ b)).map (aZ c))=_
  rw[List.map_map,List.map_congr_left (f:=aZ c∘aZ b) (g:=aZ d) fun k hk=>ih k hk (hv.lW hk) fun v J0=>h v ((qu hv h1).2 ⟨k,hk,J0⟩)]
theorem J1{s:aB}{b:List (Int×Tm)}:∀t:Tm,Vs s t->(∀v,fU v t=true->bL b v=none)->aZ b t=t:=by
 refine Tm.fg fun t ih hv h=> ?_
 by_cases h1:t.op=1
 ·rw[iw hv h1,Lv,h _ ((hU h1).2 rfl)]
  exact(hv.eta h1).symm
 ·rw[iM h1,List.map_congr_left (g:=id) fun k hk=>ih k hk (hv.lW hk) fun v J0=>h v ((qu hv h1).2 ⟨k,hk,J0⟩),List.map_id]
  exact Tm.eta t
theorem Vs.Lv {s:aB}{b:List (Int×Tm)}(hb:∀p∈b,Vs s p.2){v:Int}(h:0<=v/\v<20):Vs s (Lv b v):=by
 unfold YtlhemmpklhhgoaaGreat.Lv
 cases hl:bL b v with
 |some x=>exact hb _ (cB hl)
 |none=>exact Vs.var h
theorem Vs.sub {s:aB}{b:List (Int×Tm)}(hb:∀p∈b,Vs s p.2):∀t:Tm,Vs s t->Vs s (aZ b t):=by
 refine Tm.fg fun t ih hv=> ?_
 by_cases h1:t.op=1
 ·rw[iw hv h1];exact Vs.Lv hb (hv.range ((hU h1).2 rfl))
 ·rw[iM h1]
  refine hv.mk' aG fun k hk=> ?_
  obtain⟨x,hx,rfl⟩:=List.mem_map.1 hk
  exact ih x hx (hv.lW hx)
theorem sE{s:aB}{b:List (Int×Tm)}(hb:∀p∈b,Vs s p.2):∀t:Tm,Vs s t->∀v,fU v (aZ b t)=true↔∃u,fU u t=true/\fU v (Lv b u)=true:=by
 refine Tm.fg fun t ih hv v=> ?_
 by_cases h1:t.op=1
 ·rw[iw hv h1]
  simp only[hU h1]
  exact⟨fun h=>⟨_,rfl,h⟩,fun⟨u,e,h⟩=>e ▸ h⟩
 ·have J2:=Vs.sub hb t hv
  rw[iM h1]at J2|-
  rw[qu J2 (by exact h1)]
  simp only[qu hv h1,Tm.kids,List.mem_map]
  constructor
  ·rintro⟨_,⟨k,hk,rfl⟩,h⟩
   obtain⟨u,h2,h3⟩:=(ih k hk (hv.lW hk) v).1 h
   exact⟨u,⟨k,hk,h2⟩,h3⟩
  ·rintro⟨u,⟨k,hk,h2⟩,h3⟩
   exact⟨_,⟨k,hk,rfl⟩,(ih k hk (hv.lW hk) v).2 ⟨u,h2,h3⟩⟩
theorem aao{b:List (Int×Tm)}{t:Tm}(h1:t.op≠1):(aZ b t).op=t.op/\(aZ b t).n=t.n/\(aZ b t).kids=t.kids.map (aZ b):=by rw[iM h1];exact⟨rfl,rfl,rfl⟩
def rJ:List TB->Int->Tm->List TB
 |[],n,t=>[⟨n,t⟩]
 |x::l,n,t=>if x.var<n then x::rJ l n t else⟨n,t⟩::x::l
abbrev zd(n:Int)(t:Tm):List (Int×Tm):=[(n,t)]
def jU(l:List TB)(n:Int)(t:Tm):List TB:=rJ (l.map fun x=>⟨x.var,aZ (zd n t) x.term⟩) n t
def e9(F:Tm->Tm->List TB->Option (List TB×Bool)):List Tm->List Tm->List TB->Option (List TB×Bool)
 |k::ks,k'::dE,l=>match F k k' l with
  |some (l1,true)=>e9 F ks dE l1
  |some (l1,false)=>some (l1,false)
  |none=>none
 |_,_,l=>some (l,true)
def l9:Nat->Tm->Tm->List TB->Option (List TB×Bool)
 |0,_,_,_=>none
 |f+1,a,c,l=>
  if ir (aZ (ah l) a) (aZ (ah l) c)=true then some (l,true)
  else if(aZ (ah l) a).op=1/\(aZ (ah l) c).op=1 then some (jU l (max (aZ (ah l) a).n (aZ (ah l) c).n) (.mk 1 (min (aZ (ah l) a).n (aZ (ah l) c).n) []),true)
  else if(aZ (ah l) a).op=1 then some (jU l (aZ (ah l) a).n (aZ (ah l) c), !(cA (aZ (ah l) c)).contains (aZ (ah l) a).n)
  else if(aZ (ah l) c).op=1 then some (jU l (aZ (ah l) c).n (aZ (ah l) a), !(cA (aZ (ah l) a)).contains (aZ (ah l) c).n)
  else if(aZ (ah l) a).op≠(aZ (ah l) c).op\/(aZ (ah l) a).n≠(aZ (ah l) c).n\/(aZ (ah l) a).kids.length≠(aZ (ah l) c).kids.length then some ([],false)
  else e9 (l9 f) (aZ (ah l) a).kids (aZ (ah l) c).kids l
theorem Tw{l:List TB}{n:Int}{t:Tm}(hn:bL (ah l) n=none)(v:Int):bL (ah (rJ l n t)) v=if v=n then some t else bL (ah l) v:=by
 induction l with
 |nil=>
  simp only[rJ,ah,List.map_cons,List.map_nil,bL]
  by_cases e:v=n
  ·simp[e]
  ·exact HY
 |cons x l ih=>
  simp only[ah,List.map_cons,bL]at hn
  by_cases e1:x.var=n
  ·rw[if_pos e1]at hn;cases hn
  ·rw[if_neg e1]at hn
   have ih:=ih hn
   simp only[rJ]
   split
   ·simp only[ah,List.map_cons,bL]at ih|-
    by_cases e:x.var=v
    ·rw[if_pos e,if_pos e,if_neg fun h=>e1 (e.trans h)]
    ·rw[if_neg e,if_neg e];exact ih
   ·simp only[ah,List.map_cons,bL]
    by_cases e:v=n
    ·simp[e]
    ·exact HY
theorem J3(l:List TB)(g:Tm->Tm)(v:Int):bL (ah (l.map fun x=>⟨x.var,g x.term⟩)) v=(bL (ah l) v).map g:=by
 induction l with
 |nil=>rfl
 |cons x l ih=>
  simp only[ah,List.map_cons,bL]at ih|-
  split
  ·rfl
  ·exact ih
theorem ze{l:List TB}{n:Int}{t:Tm}(hn:bL (ah l) n=none)(v:Int):bL (ah (jU l n t)) v=if v=n then some t else(bL (ah l) v).map (aZ (zd n t)):=by
 unfold jU
 rw[Tw (by rw[J3,hn];rfl),J3]
theorem zf{n v:Int}{t:Tm}:Lv (zd n t) v=if v=n then t else .mk 1 v []:=by
 simp only[Lv,zd,bL]
 by_cases e:v=n
 ·simp[e]
 ·exact HY
theorem qv{l:List TB}{n:Int}{t:Tm}(hn:bL (ah l) n=none)(v:Int):Lv (ah (jU l n t)) v=if v=n then t else aZ (zd n t) (Lv (ah l) v):=by
 simp only[Lv,ze hn]
 by_cases e:v=n
 ·simp[e]
 ·simp only[if_neg e]
  cases h:bL (ah l) v with
  |some x=>rfl
  |none=>simp only[Option.map_none];rw[oX,zf,if_neg e]
structure kO (s:aB) (l:List TB):Prop where
 srt:l.Pairwise fun x y=>x.var<y.var
 ok:∀x∈l,(0<=x.var/\x.var<20)/\Vs s x.term
 idem:∀x∈l,∀u,fU u x.term=true->bL (ah l) u=none
theorem kO.nil {s:aB}:kO s []:=⟨List.Pairwise.nil,fun _ h=>(by cases h),fun _ h=>(by cases h)⟩
theorem kO.bd {s:aB}{l:List TB}(h:kO s l):∀p∈ah l,Vs s p.2:=fun p hp=>by
 obtain⟨x,hx,rfl⟩:=List.mem_map.1 hp
 exact(h.ok x hx).2
theorem kP{l:List TB}{v:Int}{t:Tm}(h:bL (ah l) v=some t):∃x∈l,x.var=v/\x.term=t:=by
 obtain⟨x,hx,e⟩:=List.mem_map.1 (cB h)
 injection e with e1 e2
 exact⟨x,hx,e1,e2⟩
theorem kO.MP {s:aB}{l:List TB}(h:kO s l){v u:Int}(hu:fU u (Lv (ah l) v)=true):bL (ah l) u=none:=by
 unfold Lv at hu
 cases hl:bL (ah l) v with
 |some x=>
  rw[hl]at hu
  obtain⟨y,hy,e1,e2⟩:=kP hl
  exact h.idem y hy u (e2 ▸ hu)
 |none=>
  rw[hl]at hu
  have:v=u:=by rw[m8]at hu;simpa using hu
  exact this ▸ hl
theorem kO.free {s:aB}{l:List TB}(h:kO s l){t:Tm}(ht:Vs s t){u:Int}(hu:fU u (aZ (ah l) t)=true):bL (ah l) u=none:=by
 obtain⟨w,_,h2⟩:=(sE h.bd t ht u).1 hu
 exact h.MP h2
def nU(l l':List TB):Prop:=∀v,aZ (ah l') (Lv (ah l) v)=Lv (ah l') v
theorem nU.sub {s:aB}{l l':List TB}(h:nU l l'){t:Tm}(ht:Vs s t):aZ (ah l') (aZ (ah l) t)=aZ (ah l') t:=Fl t ht fun v _=>h v
theorem nU.refl {s:aB}{l:List TB}(h:kO s l):nU l l:=fun v=>by
 cases hl:bL (ah l) v with
 |none=>rw[show Lv (ah l) v= .mk 1 v [] by simp[Lv,hl],oX];simp[Lv,hl]
 |some x=>
  have hx:Lv (ah l) v=x:=by simp[Lv,hl]
  obtain⟨y,hy,e1,e2⟩:=kP hl
  rw[hx]
  exact J1 (s:=s) x (e2 ▸ (h.ok y hy).2) fun u hu=>h.idem y hy u (e2 ▸ hu)
theorem nU.trans {s:aB}{l l' l'':List TB}(hl:kO s l)(h:nU l l')(h':nU l' l'')(hr:∀v,bL (ah l) v≠none->0<=v/\v<20):nU l l'':=fun v=>by
 cases hv:bL (ah l) v with
 |none=>rw[show Lv (ah l) v= .mk 1 v [] by simp[Lv,hv],oX]
 |some x=>
  have hx:Lv (ah l) v=x:=by simp[Lv,hv]
  obtain⟨y,hy,e1,e2⟩:=kP hv
  have J2:Vs s x:=e2 ▸ (hl.ok y hy).2
  rw[hx, <- h'.sub J2, <- hx,h v,h' v]
theorem kO.zN {s:aB}{l:List TB}(h:kO s l){v:Int}(hv:bL (ah l) v≠none):0<=v/\v<20:=by
 cases hl:bL (ah l) v with
 |none=>exact absurd hl hv
 |some x=>obtain⟨y,hy,e1,e2⟩:=kP hl;exact e1 ▸ (h.ok y hy).1
theorem zg{l:List TB}{n:Int}{t:Tm}{x:TB}:x∈rJ l n t↔x=⟨n,t⟩\/x∈l:=by
 induction l with
 |nil=>simp[rJ]
 |cons y l ih=>
  simp only[rJ]
  split
  ·simp only[List.mem_cons,ih]
   constructor
   ·rintro(h|h|h)
    ·exact Or.inr (Or.inl h)
    ·exact Or.inl h
    ·exact Or.inr (Or.inr h)
   ·rintro(h|h|h)
    ·exact Or.inr (Or.inl h)
    ·exact Or.inl h
    ·exact Or.inr (Or.inr h)
  ·simp only[List.mem_cons]
theorem MQ{l:List TB}{n:Int}{t:Tm}(h:l.Pairwise fun x y=>x.var<y.var)(hn:∀x∈l,x.var≠n):(rJ l n t).Pairwise fun x y=>x.var<y.var:=by
 induction l with
 |nil=>simp[rJ]
 |cons y l ih=>
  rw[List.pairwise_cons]at h
  simp only[rJ]
  split
  ·rename_i hy
   rw[List.pairwise_cons]
   refine⟨fun z hz=> ?_,ih h.2 fun x hx=>hn x nY⟩
   rcases zg.1 hz with rfl|hz
   ·exact hy
   ·exact h.1 z hz
  ·rename_i hy
   have:=hn y aG
   rw[List.pairwise_cons,List.pairwise_cons]
   refine⟨fun z hz=> ?_,h⟩
   rcases List.mem_cons.1 hz with rfl|hz
   ·show n<z.var;omega
   ·have:=h.1 z hz;show n<z.var;omega
theorem v8{l:List TB}{n:Int}(h:bL (ah l) n=none):∀x∈l,x.var≠n:=fun x hx e=>by
 rw[qq]at h
 exact h (List.mem_map.2 ⟨(x.var,x.term),List.mem_map.2 ⟨x,hx,rfl⟩,e⟩)
theorem qw{s:aB}{l:List TB}(h:kO s l){n:Int}{t:Tm}(hr:0<=n/\n<20)(hn:bL (ah l) n=none)(ht:Vs s t)(hf:∀u,fU u t=true->bL (ah l) u=none)(hnt: ¬fU n t=true):kO s (jU l n t):=by
 have h1:∀p∈zd n t,Vs s p.2:=fun p hp=>by simp[zd]at hp;subst hp;exact ht
 have J4:∀u,u≠n->bL (ah l) u=none->bL (ah (jU l n t)) u=none:=fun u e hu=>by rw[ze hn,if_neg e,hu];rfl
 refine⟨?_,fun x hx=> ?_,fun x hx u hu=> ?_⟩
 ·refine MQ ?_ ?_
  ·rw[List.pairwise_map];exact h.srt
  ·intro x hx
   obtain⟨y,hy,rfl⟩:=List.mem_map.1 hx
   exact v8 hn y hy
 ·rcases zg.1 hx with rfl|hx
  ·exact⟨hr,ht⟩
  ·obtain⟨y,hy,rfl⟩:=List.mem_map.1 hx
   exact⟨(h.ok y hy).1,Vs.sub h1 _ (h.ok y hy).2⟩
 ·rcases zg.1 hx with rfl|hx
  ·exact J4 u (fun e=>hnt (e ▸ hu)) (hf u hu)
  ·obtain⟨y,hy,rfl⟩:=List.mem_map.1 hx
   obtain⟨w,hw,Oi⟩:=(sE h1 _ (h.ok y hy).2 u).1 hu
   rw[zf]at Oi
   split at Oi
   ·exact J4 u (fun e=>hnt (e ▸ Oi)) (hf u Oi)
   ·rename_i e
    have:w=u:=by rw[m8]at Oi;simpa using Oi
    subst this
    exact J4 w e (h.idem y hy w hw)
theorem vf{s:aB}{l:List TB}(h:kO s l){n:Int}{t:Tm}(hn:bL (ah l) n=none):nU l (jU l n t):=fun v=>by
 cases hl:bL (ah l) v with
 |none=>rw[show Lv (ah l) v= .mk 1 v [] by simp[Lv,hl],oX]
 |some x=>
  have hx:Lv (ah l) v=x:=by simp[Lv,hl]
  obtain⟨y,hy,e1,e2⟩:=kP hl
  have hvn:v≠n:=fun e=>by rw[e,hn]at hl;cases hl
  rw[qv hn,if_neg hvn,hx]
  refine JZ (s:=s) x (e2 ▸ (h.ok y hy).2) fun u hu=> ?_
  have hu2:bL (ah l) u=none:=h.idem y hy u (e2 ▸ hu)
  rw[qv hn,show Lv (ah l) u= .mk 1 u [] by simp[Lv,hu2],oX,zf]
  split<;>rfl
theorem kO.aap {s:aB}{l:List TB}(h:kO s l){t:Tm}(ht:Vs s t)(h1:(aZ (ah l) t).op=1):(0<=(aZ (ah l) t).n/\(aZ (ah l) t).n<20)/\bL (ah l) (aZ (ah l) t).n=none/\aZ (ah l) t= .mk 1 (aZ (ah l) t).n []:=by
 have hv:=Vs.sub h.bd t ht
 have hf:fU (aZ (ah l) t).n (aZ (ah l) t)=true:=(hU h1).2 rfl
 exact⟨hv.range hf,h.free ht hf,hv.eta h1⟩
theorem DI{s:aB}:∀ (f:Nat) (a c:Tm) (l l':List TB),l9 f a c l=some (l',true)->kO s l->Vs s a->Vs s c->kO s l'/\nU l l'
 |0,_,_,_,_,h,_,_,_=>by cases h
 |f+1,a,c,l,l',h,hl,ha,hc=>by
  have va:=Vs.sub hl.bd a ha
  have vc:=Vs.sub hl.bd c hc
  have fa:=fun u=>hl.free ha (u:=u)
  have fc:=fun u=>hl.free hc (u:=u)
  have na:=hl.aap ha
  have nc:=hl.aap hc
  simp only[l9]at h
  generalize aZ (ah l) a=a0 at*
  generalize aZ (ah l) c=c0 at*
  split at h
  ·injection h with h;injection h with h;subst h;exact⟨hl,nU.refl hl⟩
  ·rename_i hs
   split at h
   ·rename_i h1
    injection h with h;injection h with h;subst h
    obtain⟨r1,u1,e1⟩:=na h1.1
    obtain⟨r2,u2,e2⟩:=nc h1.2
    have j8:a0.n≠c0.n:=fun e=>hs (by rw[fT,e1,e2,e])
    have Az:bL (ah l) (max a0.n c0.n)=none:=by rcases Int.le_total a0.n c0.n with h|h<;>simp[Int.max_def]<;>split<;>assumption
    have hmn:bL (ah l) (min a0.n c0.n)=none:=by rcases Int.le_total a0.n c0.n with h|h<;>simp[Int.min_def]<;>split<;>assumption
    refine⟨qw hl ae Az (Vs.var ae) (fun u hu=> ?_) (fun hu=> ?_),vf hl Az⟩
    ·have:min a0.n c0.n=u:=by rw[m8]at hu;simpa using hu
     exact this ▸ hmn
    ·have:min a0.n c0.n=max a0.n c0.n:=by rw[m8]at hu;simpa using hu
     omega
   ·split at h
    ·rename_i h1 h2
     injection h with h;injection h with h h3;subst h
     obtain⟨r1,u1,e1⟩:=na h2
     have kV: ¬fU a0.n c0=true:=fun hh=>by
      have:(cA c0).contains a0.n=true:=List.contains_iff_mem.2 (((dm c0).2 _).2 hh)
      rw[this]at h3;cases h3
     exact⟨qw hl r1 u1 vc (fun u hu=>fc u hu) kV,vf hl u1⟩
    ·split at h
     ·rename_i h1 h2 lT
      injection h with h;injection h with h h3;subst h
      obtain⟨r2,u2,e2⟩:=nc lT
      have kV: ¬fU c0.n a0=true:=fun hh=>by
       have:(cA a0).contains c0.n=true:=List.contains_iff_mem.2 (((dm a0).2 _).2 hh)
       rw[this]at h3;cases h3
      exact⟨qw hl r2 u2 va (fun u hu=>fa u hu) kV,vf hl u2⟩
     ·split at h
      ·injection h with h;injection h with _ h;cases h
      ·have key:∀ (ks dE:List Tm) (l:List TB),(∀k∈ks,Vs s k)->(∀k∈dE,Vs s k)->kO s l->e9 (l9 f) ks dE l=some (l',true)->kO s l'/\nU l l':=by
        intro ks
        induction ks with
        |nil=>intro dE l _ _ hl h;simp only[e9]at h;injection h with h;injection h with h;subst h;exact⟨hl,nU.refl hl⟩
        |cons k ks DJ=>
         intro dE l h1 h2 hl h
         cases dE with
         |nil=>simp only[e9]at h;injection h with h;injection h with h;subst h;exact⟨hl,nU.refl hl⟩
         |cons k' dE=>
          simp only[e9]at h
          split at h
          ·rename_i l1 e
           obtain⟨g1,g2⟩:=DI f k k' l l1 e hl (h1 k aG) (h2 k' aG)
           obtain⟨g3,g4⟩:=DJ dE l1 (fun x hx=>h1 x nY) (fun x hx=>h2 x nY) g1 h
           exact⟨g3,g2.trans hl g4 (fun v=>hl.zN)⟩
          ·injection h with h;injection h with _ h;cases h
          ·cases h
       exact key _ _ _ (fun k hk=>va.lW hk) (fun k hk=>vc.lW hk) hl h
def jG:Nat->List (Int×Tm)->Tm->Option Tm
 |0,_,_=>none
 |f+1,b,t=>if t.op=1 then(match bL b t.n with|some x=>jG f b x|none=>some t)else some t
theorem eK{b:List (Int×Tm)}:∀ {f g:Nat} {t x:Tm},jG f b t=some x->f<=g->jG g b t=some x
 |0,_,_,_,h,_=>by cases h
 |f+1,0,_,_,_,h=>ae
 |f+1,g+1,t,x,h,hg=>by
  simp only[jG]at h|-
  split
  ·rename_i h1
   rw[if_pos h1]at h
   cases hl:bL b t.n with
   |none=>rw[hl]at h;exact h
   |some y=>rw[hl]at h;exact eK (f:=f) h ae
  ·rename_i h1
   rw[if_neg h1]at h
   exact h
structure lX (s:aB) (b:List (Int×Tm)) (l:List TB) (ρ:Int->Nat) (R:Nat):Prop where
 keys:(b.map (·.1)).Nodup
 zN:∀v,bL b v=none↔bL (ah l) v=none
 ok:∀v x,bL b v=some x->Vs s x/\Lv (ah l) v=aZ (ah l) x/\∀u,fU u x=true->ρ u<ρ v
 bd:∀v,ρ v<=R
theorem lX.nil {s:aB}:lX s [] [] (fun _=>0) 0:=⟨List.nodup_nil,fun _=>Iff.rfl,fun _ _ h=>(by cases h),fun _=>Nat.le_refl _⟩
theorem lX.at {s:aB}{b:List (Int×Tm)}{l:List TB}{ρ:Int->Nat}{R:Nat}(h:lX s b l ρ R):∀ (m:Nat) (t:Tm),Vs s t->(t.op=1->ρ t.n<=m)->∃x,jG (m+2) b t=some x/\Vs s x/\aZ (ah l) x=aZ (ah l) t/\(x.op=1->bL b x.n=none)/\(t.op≠1->x=t)/\(t.op=1->(∀u,fU u x=true->ρ u<=ρ t.n)/\(x.op≠1->∀u,fU u x=true->ρ u<ρ t.n)):=by
 intro m
 induction m with
 |zero=>
  intro t hv hm
  by_cases h1:t.op=1
  ·cases hl:bL b t.n with
   |none=>
    exact Wi
   |some x=>
    obtain⟨g1,g2,g3⟩:=h.ok _ _ hl
    by_cases hx:x.op=1
    ·have:=g3 x.n ((hU hx).2 rfl)
     have:=hm h1
     omega
    ·refine⟨x,by simp only[jG,if_pos h1,hl,if_neg hx],g1,by rw[<- g2,iw hv h1],fun h=>absurd h hx,fun h=>absurd h1 h,fun _=>⟨fun u hu=>Nat.le_of_lt (g3 u hu),fun _=>g3⟩⟩
  ·exact VN
 |succ m ih=>
  intro t hv hm
  by_cases h1:t.op=1
  ·cases hl:bL b t.n with
   |none=>
    exact Wi
   |some x=>
    obtain⟨g1,g2,g3⟩:=h.ok _ _ hl
    obtain⟨y,i1,i2,i3,i4,i5,i6⟩:=ih x g1 (fun hx=>by have:=g3 x.n ((hU hx).2 rfl);have:=hm h1;omega)
    refine⟨y,by rw[jG,if_pos h1,hl];exact i1,i2,by rw[i3, <- g2,iw hv h1],i4,fun h=>absurd h1 h,fun _=> ?_⟩
    by_cases hx:x.op=1
    ·have g4:=g3 x.n ((hU hx).2 rfl)
     exact⟨fun u hu=>by have:=(i6 hx).1 u hu;omega,fun h2 u hu=>by have:=(i6 hx).2 h2 u hu;omega⟩
    ·rw[i5 hx]
     exact⟨fun u hu=>Nat.le_of_lt (g3 u hu),fun _=>g3⟩
  ·exact VN
theorem lX.root {s:aB}{b:List (Int×Tm)}{l:List TB}{ρ:Int->Nat}{R:Nat}(h:lX s b l ρ R){t:Tm}(hv:Vs s t):∃x,jG (R+2) b t=some x/\Vs s x/\aZ (ah l) x=aZ (ah l) t/\(x.op=1->bL b x.n=none)/\(t.op≠1->x=t)/\(t.op=1->(∀u,fU u x=true->ρ u<=ρ t.n)/\(x.op≠1->∀u,fU u x=true->ρ u<ρ t.n)):=
 h.at R t hv fun _=>h.bd _
theorem BZ(l:List (Int×Tm))(p:Int×Tm)(v:Int):bL (l++[p]) v=match bL l v with|some x=>some x|none=>if p.1=v then some p.2 else none:=by
 induction l with
 |nil=>simp[bL]
 |cons q l ih=>
  simp only[List.cons_append,bL]
  split
  ·rfl
  ·exact ih
theorem one_sub{s:aB}{l:List TB}{n:Int}{t:Tm}(hn:bL (ah l) n=none){x:Tm}(hx:Vs s x):aZ (zd n t) (aZ (ah l) x)=aZ (ah (jU l n t)) x:=by
 refine Fl x hx fun u _=> ?_
 rw[qv hn]
 split
 ·rename_i e
  rw[e,show Lv (ah l) n= .mk 1 n [] by simp[Lv,hn],oX,zf,if_pos rfl]
 ·rfl
theorem lX.ext {s:aB}{b:List (Int×Tm)}{l:List TB}{ρ:Int->Nat}{R:Nat}(h:lX s b l ρ R)(hl:kO s l){n:Int}(hn:bL b n=none){y:Tm}(hy:Vs s y)(hny: ¬fU n (aZ (ah l) y)=true):
 ∃MR R',lX s (b++[(n,y)]) (jU l n (aZ (ah l) y)) MR R':=by
 have IB:=(h.zN n).1 hn
 refine⟨fun v=>if fU n (Lv (ah l) v)=true then R+1+ρ v else ρ v,2*R+1, ?_,fun v=> ?_,fun v x hx=> ?_,fun v=> ?_⟩
 ·rw[List.map_append,List.map_cons,List.map_nil,List.nodup_append]
  refine⟨h.keys,aG,fun a ha c hc=> ?_⟩
  simp at hc
  subst hc
  exact fun e=>(qq.1 hn) (e ▸ ha)
 ·rw[BZ,ze IB]
  by_cases e:v=n
  ·subst e;simp[hn]
  ·rw[if_neg e]
   cases hv:bL b v with
   |some x=>
    simp only[reduceCtorEq,false_iff]
    intro h2
    cases h3:bL (ah l) v with
    |some y=>rw[h3]at h2;cases h2
    |none=>rw[(h.zN v).2 h3]at hv;cases hv
   |none=>
    simp[(h.zN v).1 hv]
    exact fun h=>e h.symm
 ·rw[BZ]at hx
  cases hv:bL b v with
  |some z=>
   rw[hv]at hx
   injection hx with hx
   subst hx
   have hvn:v≠n:=fun e=>by rw[e,hn]at hv;cases hv
   obtain⟨g1,g2,g3⟩:=h.ok v z hv
   refine⟨g1,by rw[qv IB,if_neg hvn,g2,one_sub IB g1],fun u hu=> ?_⟩
   have h3:=g3 u hu
   have h4:fU n (Lv (ah l) u)=true->fU n (Lv (ah l) v)=true:=fun h5=>by rw[g2];exact(sE hl.bd z g1 n).2 ⟨u,hu,h5⟩
   by_cases h5:fU n (Lv (ah l) u)=true
   ·rw[if_pos h5,if_pos (h4 h5)];omega
   ·rw[if_neg h5];split<;>omega
  |none=>
   rw[hv]at hx
   simp only at hx
   split at hx
   ·rename_i e
    injection hx with hx
    subst hx;subst e
    refine⟨hy, ?_,fun u hu=> ?_⟩
    ·rw[qv IB,if_pos rfl, <- one_sub IB hy]
     exact(J1 (s:=s) _ (Vs.sub hl.bd y hy) fun v hv=>by
      have: ¬n=v:=fun e=>by subst e;exact hny hv
      simp[zd,bL,this]).symm
    ·have h5: ¬fU n (Lv (ah l) u)=true:=fun h5=>hny ((sE hl.bd y hy n).2 ⟨u,hu,h5⟩)
     have h6:fU n (Lv (ah l) n)=true:=by rw[show Lv (ah l) n= .mk 1 n [] by simp[Lv,IB],m8];simp
     have:=h.bd u
     simp only[if_neg h5,if_pos h6]
     omega
   ·cases hx
 ·have:=h.bd v
  split<;>omega
theorem tq{s:aB}{l:List TB}{b:List (Int×Tm)}{ρ:Int->Nat}{R:Nat}(h:lX s b l ρ R){x:Tm}(hx:Vs s x)(hr:x.op=1->bL b x.n=none):(aZ (ah l) x).op=x.op/\(aZ (ah l) x).n=x.n/\(aZ (ah l) x).kids.length=x.kids.length/\(x.op=1->aZ (ah l) x=x)/\(x.op≠1->(aZ (ah l) x).kids=x.kids.map (aZ (ah l))):=by
 by_cases h1:x.op=1
 ·have:aZ (ah l) x=x:=by
   rw[iw hx h1,show Lv (ah l) x.n= .mk 1 x.n [] by simp[Lv,(h.zN _).1 (hr h1)]]
   exact(hx.eta h1).symm
  rw[this]
  exact⟨rfl,rfl,rfl,fun _=>rfl,fun h=>absurd h1 h⟩
 ·obtain⟨g1,g2,g3⟩:=aao (b:=ah l) h1
  exact⟨g1,g2,by rw[g3];simp,fun h=>absurd h h1,fun _=>g3⟩
theorem oY{F G:Tm->Tm->List TB->Option (List TB×Bool)}(B0:∀k k' l r,F k k' l=some r->G k k' l=some r):∀ {ks dE:List Tm} {l:List TB} {r:List TB×Bool},e9 F ks dE l=some r->e9 G ks dE l=some r
 |[],_,_,_,h=>by simp only[e9]at h|-;exact h
 |_::_,[],_,_,h=>by simp only[e9]at h|-;exact h
 |k::ks,k'::dE,b,r,h=>by
  simp only[e9]at h|-
  split at h
  ·rename_i b1 e;rw[B0 _ _ _ _ e];exact oY B0 h
  ·rename_i b1 e;rw[B0 _ _ _ _ e];exact h
  ·cases h
theorem rK:∀ {f g:Nat} {a c:Tm} {l:List TB} {r:List TB×Bool},l9 f a c l=some r->f<=g->l9 g a c l=some r
 |0,_,_,_,_,_,h,_=>by cases h
 |f+1,0,_,_,_,_,_,h=>ae
 |f+1,g+1,a,c,l,r,h,hg=>by
  simp only[l9]at h|-
  repeat' (split at h<;>rename_i hh<;>first|rw[if_pos hh]|rw[if_neg hh])
  all_goals first
   |exact h
   |exact oY (fun k k' l r hk=>rK hk ae) h
theorem MT(l:List TB)(n:Int)(t:Tm):(rJ l n t).length=l.length+1:=by
 induction l with
 |nil=>rfl
 |cons x l ih=>simp only[rJ];split<;>simp[ih]
theorem HM(l:List TB)(n:Int)(t:Tm):(jU l n t).length=l.length+1:=by rw[jU,MT,List.length_map]
theorem Fm:∀ (f:Nat) (a c:Tm) (l l':List TB),l9 f a c l=some (l',true)->l'=l\/l.length<l'.length
 |0,_,_,_,_,h=>by cases h
 |f+1,a,c,l,l',h=>by
  simp only[l9]at h
  split at h
  ·injection h with h;injection h with h;exact Or.inl h.symm
  ·split at h
   ·exact QB
   ·split at h
    ·exact QB
    ·split at h
     ·exact QB
     ·split at h
      ·injection h with h;injection h with _ h;cases h
      ·have key:∀ (ks dE:List Tm) (l:List TB),e9 (l9 f) ks dE l=some (l',true)->l'=l\/l.length<l'.length:=by
        intro ks
        induction ks with
        |nil=>intro dE l h;simp only[e9]at h;injection h with h;injection h with h;exact Or.inl h.symm
        |cons k ks DJ=>
         intro dE l h
         cases dE with
         |nil=>simp only[e9]at h;injection h with h;injection h with h;exact Or.inl h.symm
         |cons k' dE=>
          simp only[e9]at h
          split at h
          ·rename_i l1 e
           have h1:=Fm f k k' l l1 e
           have h2:=DJ dE l1 h
           rcases h1 with rfl|h1
           ·exact h2
           ·rcases h2 with rfl|h2
            ·exact Or.inr h1
            ·exact Or.inr ae
          ·injection h with h;injection h with _ h;cases h
          ·cases h
       exact key _ _ _ h
theorem kO.len {s:aB}{l:List TB}(h:kO s l):l.length<=20:=by
 have:=y9 (ns:=l.map (·.var)) (fun n hn=>by obtain⟨x,hx,rfl⟩:=List.mem_map.1 hn;exact(h.ok x hx).1) (by rw[G3,List.pairwise_map];exact h.srt)
 rwa [List.length_map]at this
theorem G8{s:aB}:∀ (N z:Nat) (a c:Tm) (l:List TB),20 - l.length<=N->(aZ (ah l) a).sz<=z->kO s l->Vs s a->Vs s c->∃f r,l9 f a c l=some r:=by
 intro N
 induction N using Nat.strongRecOn with
 |ind N ihN=>
 intro z
 induction z with
 |zero=>intro a c l _ hz;have:=Tm.rE (aZ (ah l) a);omega
 |succ z ihz=>
  intro a c l hN hz hl ha hc
  have va:=Vs.sub hl.bd a ha
  have vc:=Vs.sub hl.bd c hc
  have key:∀ (ks dE:List Tm) (l1:List TB),(∀k∈ks,k∈(aZ (ah l) a).kids)->(∀k∈dE,Vs s k)->kO s l1->(l1=l\/l.length<l1.length)->∃f r,e9 (l9 f) ks dE l1=some r:=by
   intro ks
   induction ks with
   |nil=>intro dE l1 _ _ _ _;exact⟨0,_,rfl⟩
   |cons k ks DJ=>
    intro dE l1 m1 m2 qL Sm
    cases dE with
    |nil=>exact⟨0,_,rfl⟩
    |cons k' dE=>
     have hk:=m1 k aG
     have vk:=va.lW hk
     have FZ:∃f r,l9 f k k' l1=some r:=by
      rcases Sm with rfl|Sm
      ·refine ihz k k' l1 hN ?_ qL vk (m2 k' aG)
       have:aZ (ah l1) k=k:=J1 (s:=s) k vk fun v hv=>by
        by_cases h1:(aZ (ah l1) a).op=1
        ·rw[va.eta h1]at hk;cases hk
        ·exact hl.free ha ((qu va h1).2 ⟨k,hk,hv⟩)
       rw[this]
       have:=Tm.mi hk
       omega
      ·have h20:=qL.len
       exact ihN (20 - l1.length) ae _ k k' l1 (Nat.le_refl _) (Nat.le_refl _) qL vk (m2 k' aG)
     obtain⟨f,⟨l2,ok⟩,e⟩:=FZ
     cases ok with
     |false=>exact⟨f,(l2,false),by simp only[e9,e]⟩
     |true=>
      obtain⟨o1,_⟩:=DI f k k' l1 l2 e qL vk (m2 k' aG)
      have hle:=Fm f k k' l1 l2 e
      obtain⟨f2,r2,e2⟩:=DJ dE l2 (fun y hy=>m1 y mg) (fun y hy=>m2 y mg) o1 (by
       rcases hle with rfl|h
       ·exact Sm
       ·right
        rcases Sm with rfl|h2
        ·exact h
        ·omega)
      refine⟨max f f2,r2, ?_⟩
      simp only[e9]
      rw[rK e (Nat.le_max_left _ _)]
      exact oY (fun k k' l r hk=>rK hk (Nat.le_max_right _ _)) e2
  obtain⟨f,r,e⟩:=key (aZ (ah l) a).kids (aZ (ah l) c).kids l (fun _ h=>h) (fun k hk=>vc.lW hk) hl (Or.inl rfl)
  refine⟨f+1, ?_⟩
  simp only[l9]
  repeat' split
  all_goals first
   |exact⟨_,rfl⟩
   |exact⟨r,e⟩
mutual
def rL:Tm->List Int
 | .mk op n kids=>if op=1 then [n]else MU kids
def MU:List Tm->List Int
 |[]=>[]
 |k::l=>rL k++MU l
end
theorem B1:∀l:List Tm,MU l=l.flatMap rL
 |[]=>rfl
 |k::l=>by rw[MU,B1 l,List.flatMap_cons]
theorem J5(t:Tm):rL t=if t.op=1 then [t.n]else t.kids.flatMap rL:=by
 cases t;rw[rL,B1];rfl
theorem Qd{s:aB}:∀t:Tm,Vs s t->∀v,v∈rL t↔fU v t=true:=by
 refine Tm.fg fun t ih hv v=> ?_
 rw[J5]
 by_cases h1:t.op=1
 ·rw[if_pos h1,hU h1,List.mem_singleton];exact eq_comm
 ·rw[if_neg h1,qu hv h1,List.mem_flatMap]
  exact⟨fun⟨k,hk,h⟩=>⟨k,hk,(ih k hk (hv.lW hk) v).1 h⟩,fun⟨k,hk,h⟩=>⟨k,hk,(ih k hk (hv.lW hk) v).2 h⟩⟩
inductive lY (b:List (Int×Tm)) (n:Int):Tm->Prop where
 |here {t:Tm}:fU n t=true->lY b n t
 |step {t:Tm} {v:Int} {x:Tm}:fU v t=true->bL b v=some x->lY b n x->lY b n t
theorem lY.mono {b c:List (Int×Tm)}(h:∀v x,bL b v=some x->bL c v=some x){t:Tm}{n:Int}(hr:lY b n t):lY c n t:=by
 induction hr with
 |here h1=>exact .here h1
 |step h1 h2 _ ih=>exact .step h1 (h _ _ h2) ih
def J6(F:Tm->List Int->Option (Bool×List Int))(b:List (Int×Tm))(n:Int):List Int->List Int->Option (Bool×List Int)
 |[],met=>some (false,met)
 |v::vs,met=>if v=n then some (true,met)else
  match bL b v with
  |none=>J6 F b n vs met
  |some x=>if v∈met then J6 F b n vs met else
   match F x (dT met v)with
   |some (true,m)=>some (true,m)
   |some (false,m)=>J6 F b n vs m
   |none=>none
def La:Nat->List (Int×Tm)->Int->Tm->List Int->Option (Bool×List Int)
 |0,_,_,_,_=>none
 |f+1,b,n,t,met=>J6 (La f b n) b n (rL t) met
theorem qz{F G:Tm->List Int->Option (Bool×List Int)}(B0:∀x m r,F x m=some r->G x m=some r){b:List (Int×Tm)}{n:Int}:∀ {vs met:List Int} {r:Bool×List Int},J6 F b n vs met=some r->J6 G b n vs met=some r
 |[],_,_,h=>h
 |v::vs,met,r,h=>by
  simp only[J6]at h|-
  split at h
  ·rename_i e;rw[if_pos e];exact h
  ·rename_i e
   rw[if_neg e]
   split at h
   ·exact qz B0 h
   ·split at h
    ·rename_i e2;rw[if_pos e2];exact qz B0 h
    ·rename_i x _ e2
     rw[if_neg e2]
     cases hF:F x (dT met v)with
     |none=>rw[hF]at h;cases h
     |some q=>
      rw[hF]at h
      rw[B0 _ _ _ hF]
      obtain⟨is,m⟩:=q
      cases is with
      |true=>exact h
      |false=>exact qz B0 h
theorem B2{b:List (Int×Tm)}{n:Int}:∀ {f g:Nat} {t:Tm} {met:List Int} {r:Bool×List Int},La f b n t met=some r->f<=g->La g b n t met=some r
 |0,_,_,_,_,h,_=>by cases h
 |f+1,0,_,_,_,h,hg=>ae
 |f+1,g+1,t,met,r,h,hg=>qz (fun x m q hq=>B2 hq ae) h
def DK(b:List (Int×Tm))(n:Int)(m:List Int)(t:Tm):Prop:=∀v,fU v t=true->v≠n/\∀x,bL b v=some x->v∈m
theorem DK.mono {b:List (Int×Tm)}{n:Int}{m m':List Int}(h:∀v∈m,v∈m'){t:Tm}(ht:DK b n m t):DK b n m' t:=fun v hv=>⟨(ht v hv).1,fun x hx=>h v ((ht v hv).2 x hx)⟩
def LdQ(b:List (Int×Tm))(n:Int)(met:List Int)(t:Tm)(is:Bool)(fi:List Int):Prop:=
 (is=true->lY b n t)/\(is=false->(∀v∈met,v∈fi)/\DK b n fi t/\∀v∈fi,v∉met->∀x,bL b v=some x->DK b n fi x)
def vN(b:List (Int×Tm))(met:List Int):Nat:=((b.map (·.1)).filter fun v=> !met.contains v).length
theorem tt{b:List (Int×Tm)}{met:List Int}{v:Int}{x:Tm}(h:bL b v=some x)(hm:v∉met):vN b (dT met v)<vN b met:=by
 unfold vN
 have hv:v∈b.map (·.1):=List.mem_map.2 ⟨_,cB h,rfl⟩
 generalize b.map (·.1)=ks at hv
 have hle:∀ks:List Int,(ks.filter fun u=> !(dT met v).contains u).length<=(ks.filter fun u=> !met.contains u).length:=by
  intro ks
  refine(List.Sublist.length_le ?_)
  rw[show(ks.filter fun u=> !(dT met v).contains u)=(ks.filter fun u=> !met.contains u).filter fun u=> !(dT met v).contains u by
   rw[List.filter_filter]
   congr 1
   funext u
   cases e:(dT met v).contains u with
   |true=>rfl
   |false=>
    cases e2:met.contains u with
    |false=>rfl
    |true=>
     rw[List.contains_iff_mem]at e2
     have:(dT met v).contains u=true:=List.contains_iff_mem.2 (jv.2 (.inl e2))
     rw[this]at e;cases e]
  exact List.filter_sublist
 induction ks with
 |nil=>cases hv
 |cons u ks ih=>
  by_cases e:u=v
  ·subst e
   have h1:(dT met u).contains u=true:=List.contains_iff_mem.2 (jv.2 (.inr rfl))
   have h2:met.contains u=false:=by rw[Bool.eq_false_iff];intro h;exact hm (List.contains_iff_mem.1 h)
   rw[List.filter_cons,List.filter_cons,h1,h2]
   simp only[Bool.not_true,Bool.false_eq_true,if_false,Bool.not_false,if_true,List.length_cons]
   have:=hle ks
   omega
  ·have pf:v∈ks:=by
    rcases List.mem_cons.1 hv with h|h
    ·exact absurd h.symm e
    ·exact h
   have:=ih pf
   rw[List.filter_cons,List.filter_cons]
   have hu:(dT met v).contains u=met.contains u:=by
    rw[Bool.eq_iff_iff,List.contains_iff_mem,List.contains_iff_mem,jv]
    exact⟨fun h=>h.elim id fun h=>absurd h e, .inl⟩
   rw[hu]
   split
   ·rw[List.length_cons,List.length_cons];omega
   ·exact this
theorem B3{b:List (Int×Tm)}{m m':List Int}(h:∀v∈m,v∈m'):vN b m'<=vN b m:=by
 unfold vN
 refine List.Sublist.length_le ?_
 rw[show((b.map (·.1)).filter fun u=> !m'.contains u)=((b.map (·.1)).filter fun u=> !m.contains u).filter fun u=> !m'.contains u by
  rw[List.filter_filter]
  congr 1
  funext u
  cases e:m'.contains u with
  |true=>rfl
  |false=>
   cases e2:m.contains u with
   |false=>rfl
   |true=>
    rw[List.contains_iff_mem]at e2
    have:m'.contains u=true:=List.contains_iff_mem.2 (h u e2)
    rw[this]at e;cases e]
 exact List.filter_sublist
theorem Fo{s:aB}{b:List (Int×Tm)}(hb:∀p∈b,Vs s p.2)(n:Int):∀ (N:Nat) (t:Tm) (met:List Int),vN b met<=N->Vs s t->∃is fi,La (N+1) b n t met=some (is,fi)/\LdQ b n met t is fi
 |N,t,met,hN,ht=>by
  have key:∀ (vs met:List Int),vN b met<=N->(∀v∈vs,fU v t=true)->∃is fi,J6 (La N b n) b n vs met=some (is,fi)/\(is=true->lY b n t)/\
   (is=false->(∀v∈met,v∈fi)/\(∀v∈vs,v≠n/\∀x,bL b v=some x->v∈fi)/\∀v∈fi,v∉met->∀x,bL b v=some x->DK b n fi x):=by
   intro vs
   induction vs with
   |nil=>intro met _ _;exact⟨false,met,rfl,fun h=>(by cases h),fun _=>⟨fun _ h=>h,fun _ h=>(by cases h),fun v h h'=>absurd h h'⟩⟩
   |cons v vs ih=>
    intro met hm J2
    have hv:=J2 v aG
    have Tx:∀u∈vs,fU u t=true:=fun u hu=>J2 u (by simp[hu])
    simp only[J6]
    by_cases e:v=n
    ·rw[if_pos e]
     exact⟨true,met,rfl,fun _=> .here (e ▸ hv),fun h=>by cases h⟩
    ·rw[if_neg e]
     cases hl:bL b v with
     |none=>
      obtain⟨is,fi,h1,h2,h3⟩:=ih met hm Tx
      refine⟨is,fi,h1,h2,fun h=>⟨(h3 h).1,fun u hu=> ?_,(h3 h).2.2⟩⟩
      rcases List.mem_cons.1 hu with rfl|hu
      ·exact⟨e,fun x hx=>by rw[hl]at hx;cases hx⟩
      ·exact(h3 h).2.1 u hu
     |some x=>
      simp only
      by_cases e2:v∈met
      ·rw[if_pos e2]
       obtain⟨is,fi,h1,h2,h3⟩:=ih met hm Tx
       refine⟨is,fi,h1,h2,fun h=>⟨(h3 h).1,fun u hu=> ?_,(h3 h).2.2⟩⟩
       rcases List.mem_cons.1 hu with rfl|hu
       ·exact⟨e,fun _ _=>(h3 h).1 _ e2⟩
       ·exact(h3 h).2.1 u hu
      ·rw[if_neg e2]
       have hu:=tt hl e2
       obtain⟨N',rfl⟩:∃N',N=N'+1:=⟨N - 1,ae⟩
       obtain⟨is1,m1,g1,g2,g3⟩:=Fo hb n N' x (dT met v) ae (hb _ (cB hl))
       rw[g1]
       cases is1 with
       |true=>exact⟨true,m1,rfl,fun _=> .step hv hl (g2 rfl),fun h=>by cases h⟩
       |false=>
        obtain⟨k1,k2,k3⟩:=g3 rfl
        have k0:∀u∈met,u∈m1:=fun u hu=>k1 u (jv.2 (.inl hu))
        obtain⟨is,fi,h1,h2,h3⟩:=ih m1 (by have:=B3 (b:=b) k0;omega) Tx
        refine⟨is,fi,h1,h2,fun h=> ?_⟩
        obtain⟨j1,j2,j3⟩:=h3 h
        refine⟨fun u hu=>j1 u (k0 u hu),fun u hu=> ?_,fun u hu hnu y hy=> ?_⟩
        ·rcases List.mem_cons.1 hu with rfl|hu
         ·exact⟨e,fun _ _=>j1 _ (k1 _ (jv.2 (.inr rfl)))⟩
         ·exact j2 u hu
        ·by_cases Hv:u∈m1
         ·by_cases huv:u=v
          ·subst huv
           rw[hl]at hy
           cases hy
           exact k2.mono j1
          ·exact(k3 u Hv (fun h=>(jv.1 h).elim hnu huv) y hy).mono j1
         ·exact j3 u hu Hv y hy
  obtain⟨is,fi,h1,h2,h3⟩:=key (rL t) met hN fun v hv=>(Qd t ht v).1 hv
  exact⟨is,fi,h1,h2,fun h=>⟨(h3 h).1,fun v hv=>(h3 h).2.1 v ((Qd t ht v).2 hv),(h3 h).2.2⟩⟩
theorem Ty{s:aB}{b:List (Int×Tm)}(hb:∀p∈b,Vs s p.2)(n:Int){t:Tm}(ht:Vs s t):∃is fi,La (b.length+1) b n t []=some (is,fi)/\(is=true↔lY b n t):=by
 have hN:vN b []<=b.length:=by
  unfold vN
  exact VV
 obtain⟨is,fi,h1,h2,h3⟩:=Fo hb n b.length t [] hN ht
 refine⟨is,fi,h1,h2,fun hr=> ?_⟩
 cases is with
 |true=>rfl
 |false=>
  obtain⟨_,k2,k3⟩:=h3 rfl
  exfalso
  have:∀t,lY b n t-> ¬DK b n fi t:=by
   intro t hr
   induction hr with
   |here h=>exact fun hs=>(hs _ h).1 rfl
   |step h1 h2 _ ih=>exact fun hs=>ih (k3 _ ((hs _ h1).2 _ h2) aG _ h2)
  exact this t hr k2
def oZ(l more:List Int):List Int:=more.foldl dT l
theorem DL:∀ {more l:List Int} {v:Int},v∈oZ l more↔v∈l\/v∈more
 |[],l,v=>by simp[oZ]
 |u::more,l,v=>by
  show v∈oZ (dT l u) more↔_
  rw[DL,jv,List.mem_cons,or_assoc]
theorem J7:∀ (more l:List Int),∃r,oZ l more=l++r
 |[],l=>⟨[],by simp[oZ]⟩
 |u::more,l=>by
  obtain⟨r,hr⟩:=J7 more (dT l u)
  show ∃r,oZ (dT l u) more=_
  rw[hr]
  unfold dT
  split
  ·exact⟨r,rfl⟩
  ·exact⟨[u]++r,by rw[List.append_assoc]⟩
theorem vg:∀ (more l:List Int),l.Nodup->(oZ l more).Nodup
 |[],l,h=>h
 |u::more,l,h=>vg more (dT l u) (DD u h)
def J8(b:List (Int×Tm))(all:List Int)(v:Int):List Int:=match bL b v with
 |some x=>oZ all (cA x)
 |none=>all
theorem MV(b:List (Int×Tm))(all:List Int)(v:Int):∃r,J8 b all v=all++r:=by
 unfold J8
 split
 ·exact J7 _ _
 ·exact⟨[],aG⟩
theorem G9(b:List (Int×Tm)){all:List Int}(v:Int)(h:all.Nodup):(J8 b all v).Nodup:=by
 unfold J8
 split
 ·exact vg _ _ h
 ·exact h
theorem DM{l:List Int}(hn:l.Nodup)(h:∀v∈l,0<=v/\v<20):l.length<=20:=by
 have:∀ (n:Nat) (l:List Int),l.Nodup->(∀v∈l,0<=v/\v<(n:Int))->l.length<=n:=by
  intro n
  induction n with
  |zero=>
   intro l _ h
   cases l with
   |nil=>exact Nat.le_refl _
   |cons a l=>have:=h a aG;omega
  |succ n ih=>
   intro l hn h
   have h1:=ih (l.erase (n:Int)) (hn.erase _) fun v hv=>by
    have j8:v≠(n:Int):=fun e=>by
     subst e
     exact hn.not_mem_erase hv
    have:=h v (List.mem_of_mem_erase hv)
    omega
   have h2:l.length<=(l.erase (n:Int)).length+1:=by
    by_cases hm:(n:Int)∈l
    ·rw[List.length_erase_of_mem hm];omega
    ·rw[List.erase_of_not_mem hm];omega
   omega
 exact this 20 l hn h
structure MW (s:aB) (b:List (Int×Tm)) (t:Tm) (i:Nat) (all:List Int):Prop where
 nd:all.Nodup
 rg:∀v∈all,0<=v/\v<20
 le:i<=all.length
 fst:∀v,fU v t=true->v∈all
 snd:∀v∈all,lY b v t
 cl:∀j,j<i->∀v x,all[j]? =some v->bL b v=some x->∀u,fU u x=true->u∈all
theorem MW.zero {s:aB}{b:List (Int×Tm)}{t:Tm}(ht:Vs s t):MW s b t 0 (oZ [] (cA t)):=by
 have hm:∀v,v∈oZ [] (cA t)↔fU v t=true:=fun v=>by rw[DL,(dm t).2 v];simp
 exact⟨vg _ _ List.nodup_nil,fun v hv=>ht.range ((hm v).1 hv),Nat.zero_le _,fun v hv=>(hm v).2 hv,fun v hv=> .here ((hm v).1 hv),fun j hj=>absurd hj (Nat.not_lt_zero _)⟩
theorem lY.trans {b:List (Int×Tm)}{t:Tm}{v:Int}(h:lY b v t){x:Tm}(hx:bL b v=some x){n:Int}(hn:lY b n x):lY b n t:=by
 induction h with
 |here h1=>exact .step h1 hx hn
 |step h1 h2 _ ih=>exact .step h1 h2 ih
theorem MW.succ {s:aB}{b:List (Int×Tm)}(hb:∀p∈b,Vs s p.2){t:Tm}{i:Nat}{all:List Int}(h:MW s b t i all){v:Int}(hv:all[i]? =some v):MW s b t (i+1) (J8 b all v):=by
 obtain⟨r,hr⟩:=MV b all v
 have hi:=(List.getElem?_eq_some_iff.1 hv).1
 have hvm:=List.mem_of_getElem? hv
 have hm:∀u,u∈J8 b all v↔u∈all\/∃x,bL b v=some x/\fU u x=true:=fun u=>by
  unfold J8
  cases hl:bL b v with
  |none=>simp
  |some x=>simp only[DL,(dm x).2 u,Option.some.injEq,exists_eq_left']
 refine⟨G9 b v h.nd,fun u hu=> ?_,by rw[hr,List.length_append];omega,fun u hu=>(hm u).2 (.inl (h.fst u hu)),fun u hu=> ?_,fun j hj w x hw hx u hu=> ?_⟩
 ·rcases(hm u).1 hu with hu|⟨x,hx,hu⟩
  ·exact h.rg u hu
  ·exact(hb _ (cB hx)).range hu
 ·rcases(hm u).1 hu with hu|⟨x,hx,hu⟩
  ·exact h.snd u hu
  ·exact(h.snd v hvm).trans hx (.here hu)
 ·rw[hr,List.getElem?_append_left (by omega)]at hw
  rcases Nat.lt_or_ge j i with hji|hji
  ·exact(hm u).2 (.inl (h.cl j hji w x hw hx u hu))
  ·have:j=i:=ae
   subst this
   rw[hv]at hw
   cases hw
   exact(hm u).2 (.inr ⟨x,hx,hu⟩)
theorem zh{s:aB}{b:List (Int×Tm)}{l:List TB}{ρ:Int->Nat}{R:Nat}(h:lX s b l ρ R)(hl:kO s l){n:Int}(hn:bL b n=none){t:Tm}(ht:Vs s t):fU n (aZ (ah l) t)=true↔lY b n t:=by
 have hln:Lv (ah l) n= .mk 1 n []:=by simp[Lv,(h.zN n).1 hn]
 constructor
 ·have key:∀ (r:Nat) (t:Tm),Vs s t->(∀u,fU u t=true->ρ u<r)->fU n (aZ (ah l) t)=true->lY b n t:=by
   intro r
   induction r with
   |zero=>
    intro t ht hr hf
    obtain⟨u,hu,_⟩:=(sE hl.bd t ht n).1 hf
    exact absurd (hr u hu) (Nat.not_lt_zero _)
   |succ r ih=>
    intro t ht hr hf
    obtain⟨u,hu,hf⟩:=(sE hl.bd t ht n).1 hf
    cases hx:bL b u with
    |none=>
     have:Lv (ah l) u= .mk 1 u []:=by simp[Lv,(h.zN u).1 hx]
     rw[this,m8]at hf
     have:u=n:=by simpa using hf
     exact .here (this ▸ hu)
    |some x=>
     obtain⟨g1,g2,g3⟩:=h.ok u x hx
     rw[g2]at hf
     have:=hr u hu
     exact .step hu hx (ih x g1 (fun w hw=>by have:=g3 w hw;omega) hf)
  exact key (R+1) t ht fun u _=>by have:=h.bd u;omega
 ·intro hr
  induction hr with
  |here h1=>exact(sE hl.bd _ ht n).2 ⟨n,h1,by rw[hln,m8];simp⟩
  | @step t v x h1 h2 _ ih=>
    obtain⟨g1,g2,g3⟩:=h.ok v x h2
    exact(sE hl.bd _ ht _).2 ⟨v,h1,by rw[g2];exact ih g1⟩
def Tz(b:List (Int×Tm)):Prop:=∀v x,bL b v=some x-> ¬lY b v x
theorem J9{s:aB}{b:List (Int×Tm)}(AL:(b.map (·.1)).Nodup)(aS:∀p∈b,(0<=p.1/\p.1<20)/\Vs s p.2)(ha:Tz b):∃l ρ R,lX s b l ρ R/\kO s l:=by
 have key:∀k,k<=b.length->∃l ρ R,lX s (b.take k) l ρ R/\kO s l:=by
  intro k
  induction k with
  |zero=>intro _;exact⟨[],fun _=>0,0,by rw[List.take_zero];exact lX.nil,kO.nil⟩
  |succ k ih=>
   intro hk
   obtain⟨l,ρ,R,h,hl⟩:=ih ae
   obtain⟨⟨n,y⟩,hp⟩:∃p,b[k]? =some p:=⟨_,List.getElem?_eq_getElem (show k<b.length from ae)⟩
   have hpm:=List.mem_of_getElem? hp
   have zO:b.take (k+1)=b.take k++[(n,y)]:=by rw[List.take_add_one,hp];rfl
   have MX:((b.take (k+1)).map (·.1)).Nodup:=AL.sublist ((List.take_sublist _ _).map _)
   have hn:bL (b.take k) n=none:=by
    rw[qq]
    rw[zO,List.map_append,List.nodup_append]at MX
    exact fun hm=>MX.2.2 n hm n aG rfl
   obtain⟨hr,hy⟩:=aS _ hpm
   have sL:∀v x,bL (b.take k) v=some x->bL b v=some x:=fun v x hx=>(m7 AL).2 (List.mem_of_mem_take (cB hx))
   have hny: ¬fU n (aZ (ah l) y)=true:=fun hf=>ha n y ((m7 AL).2 hpm) (((zh h hl hn hy).1 hf).mono sL)
   obtain⟨MR,R',h'⟩:=h.ext hl hn hy hny
   rw[zO]
   exact⟨_,MR,R',h',qw hl hr ((h.zN n).1 hn) (Vs.sub hl.bd y hy) (fun u hu=>hl.free hy hu) hny⟩
 have:=key b.length (Nat.le_refl _)
 rwa [List.take_length]at this
theorem lX.Ha {s:aB}{b:List (Int×Tm)}{l:List TB}{ρ:Int->Nat}{R:Nat}(h:lX s b l ρ R):Tz b:=by
 have key:∀t n,lY b n t->∀r,(∀u,fU u t=true->ρ u<r)->ρ n<r:=by
  intro t n hr
  induction hr with
  |here h1=>exact fun r hr=>hr _ h1
  |step h1 h2 _ ih=>
   intro r hr
   have h3:=ih _ (h.ok _ _ h2).2.2
   have:=hr _ h1
   omega
 intro v x hx hr
 have:=key x v hr _ (h.ok v x hx).2.2
 omega
def xH(F:Tm->Int->Option Int):List Tm->Int->Option Int
 |[],n=>some n
 |k::ks,n=>if n<0 then some n else match F k n with
  |some m=>xH F ks m
  |none=>none
def o6:Nat->List (Int×Tm)->Tm->Int->Nat->Option Int
 |0,_,_,_,_=>none
 |f+1,b,t,n,d=>match jG f b t with
  |some x=>(match d with
   |0=>some (-1)
   |d+1=>xH (fun k m=>o6 f b k m d) x.kids (n - 1))
  |none=>none
theorem B4{F:Tm->Int->Option Int}:∀ {ks:List Tm} (n:Int),(∀k∈ks,∀m,∃r,F k m=some r)->∃r,xH F ks n=some r
 |[],n,_=>⟨n,rfl⟩
 |k::ks,n,h=>by
  simp only[xH]
  split
  ·exact⟨n,rfl⟩
  ·obtain⟨r,hr⟩:=h k aG n
   rw[hr]
   exact B4 r fun y hy=>h y mg
theorem B5{F G:Tm->Int->Option Int}(B0:∀k m r,F k m=some r->G k m=some r):∀ {ks:List Tm} {n r:Int},xH F ks n=some r->xH G ks n=some r
 |[],_,_,h=>h
 |k::ks,n,r,h=>by
  simp only[xH]at h|-
  split at h
  ·rename_i e;rw[if_pos e];exact h
  ·rename_i e
   rw[if_neg e]
   cases hF:F k n with
   |none=>rw[hF]at h;cases h
   |some q=>rw[hF]at h;rw[B0 _ _ _ hF];exact B5 B0 h
theorem vh{b:List (Int×Tm)}:∀ {f g:Nat} {t:Tm} {n:Int} {d:Nat} {r:Int},o6 f b t n d=some r->f<=g->o6 g b t n d=some r
 |0,_,_,_,_,_,h,_=>by cases h
 |f+1,0,_,_,_,_,h,hg=>ae
 |f+1,g+1,t,n,d,r,h,hg=>by
  simp only[o6]at h|-
  cases ha:jG f b t with
  |none=>rw[ha]at h;cases h
  |some x=>
   rw[ha]at h
   rw[eK ha (show f<=g by omega)]
   cases d with
   |zero=>exact h
   |succ d=>exact B5 (fun k m q hq=>vh hq ae) h
theorem Ac{s:aB}{b:List (Int×Tm)}{l:List TB}{ρ:Int->Nat}{R:Nat}(h:lX s b l ρ R):∀ (d:Nat) (t:Tm) (n:Int),Vs s t->∃r,o6 (R+3+d) b t n d=some r
 |0,t,n,ht=>by
  obtain⟨x,a1,_⟩:=h.root ht
  exact⟨-1,by simp only[o6];rw[show R+2+0=R+2 from rfl,a1]⟩
 |d+1,t,n,ht=>by
  obtain⟨x,a1,a2,_⟩:=h.root ht
  show ∃r,o6 ((R+3+d)+1) b t n (d+1)=some r
  simp only[o6]
  rw[eK a1 (show R+2<=R+3+d by omega)]
  exact B4 _ fun k hk m=>Ac h d k m (a2.lW hk)
def sX(b:List (Int×Tm))(t:Tm):Prop:=∃f r,o6 f b t 40 12=some r/\0<=r
theorem Fq{b:List (Int×Tm)}{t:Tm}{f:Nat}{r:Int}(h:o6 f b t 40 12=some r):sX b t↔0<=r:=by
 refine⟨fun⟨g,q,h1,h2⟩=> ?_,fun hr=>⟨f,r,h,hr⟩⟩
 have e1:=vh h (Nat.le_max_left f g)
 rw[vh h1 (Nat.le_max_right f g)]at e1
 cases e1
 exact h2
def DN(F:Tm->Option Tm):List Tm->Option (List Tm)
 |[]=>some []
 |k::ks=>match F k,DN F ks with
  |some x,some xs=>some (x::xs)
  |_,_=>none
def zi:Nat->List (Int×Tm)->Tm->Option Tm
 |0,_,_=>none
 |f+1,b,t=>match jG f b t with
  |some x=>(DN (zi f b) x.kids).map fun ks=> .mk x.op x.n ks
  |none=>none
theorem zj{F:Tm->Option Tm}{g:Tm->Tm}:∀ {ks:List Tm},(∀k∈ks,F k=some (g k))->DN F ks=some (ks.map g)
 |[],_=>rfl
 |k::ks,h=>by simp only[DN];rw[h k (by simp),zj fun y hy=>h y (by simp[hy])];rfl
theorem B6{F G:Tm->Option Tm}(B0:∀k r,F k=some r->G k=some r):∀ {ks xs:List Tm},DN F ks=some xs->DN G ks=some xs
 |[],_,h=>h
 |k::ks,xs,h=>by
  simp only[DN]at h|-
  cases h1:F k with
  |none=>rw[h1]at h;cases h
  |some x=>
   cases h2:DN F ks with
   |none=>rw[h1,h2]at h;cases h
   |some ys=>rw[h1,h2]at h;rw[B0 _ _ h1,B6 B0 h2];exact h
theorem gD{b:List (Int×Tm)}:∀ {f g:Nat} {t x:Tm},zi f b t=some x->f<=g->zi g b t=some x
 |0,_,_,_,h,_=>by cases h
 |f+1,0,_,_,h,hg=>ae
 |f+1,g+1,t,x,h,hg=>by
  simp only[zi]at h|-
  cases ha:jG f b t with
  |none=>rw[ha]at h;cases h
  |some y=>
   rw[ha]at h
   rw[eK ha (show f<=g by omega)]
   dsimp only at h|-
   cases h2:DN (zi f b) y.kids with
   |none=>rw[h2]at h;cases h
   |some ys=>rw[h2]at h;rw[B6 (fun k r hr=>gD hr (by omega)) h2];exact h
theorem sF{s:aB}{b:List (Int×Tm)}{l:List TB}{ρ:Int->Nat}{R:Nat}(h:lX s b l ρ R):∀ (z:Nat) (t:Tm),Vs s t->(aZ (ah l) t).sz<=z->zi (R+3+z) b t=some (aZ (ah l) t)
 |0,t,_,hz=>by have:=Tm.rE (aZ (ah l) t);omega
 |z+1,t,ht,hz=>by
  obtain⟨x,a1,a2,a3,a4,_⟩:=h.root ht
  show zi ((R+3+z)+1) b t=_
  simp only[zi]
  rw[eK a1 (show R+2<=R+3+z by omega)]
  by_cases h1:x.op=1
  ·have e:=a2.eta h1
   have hk:x.kids=[]:=by rw[e];rfl
   have:aZ (ah l) x=x:=by
    rw[iw a2 h1,show Lv (ah l) x.n= .mk 1 x.n [] by simp[Lv,(h.zN _).1 (a4 h1)]];exact e.symm
   rw[<- a3,this]
   dsimp only
   rw[hk]
   show some (Tm.mk x.op x.n [])=some x
   rw[<- hk,Tm.eta]
  ·have hv:=iM (b:=ah l) h1
   have hk:∀k∈x.kids,zi (R+3+z) b k=some (aZ (ah l) k):=fun k hk=>by
    refine sF h z k (a2.lW hk) ?_
    have h3:aZ (ah l) k∈(aZ (ah l) x).kids:=by rw[hv];exact List.mem_map.2 ⟨k,hk,rfl⟩
    have h4:=Tm.mi h3
    rw[a3]at h4
    omega
   dsimp only
   rw[zj hk, <- a3,hv]
   rfl
def Fs:Nat->List (Int×Tm)->Tm->Nat->Option Tm
 |0,_,_,_=>none
 |f+1,b,t,d=>if t.op=1 then(match bL b t.n with
   |some x=>(match d with
    |0=>none
    |d+1=>Fs f b x d)
   |none=>some t)
  else(DN (fun k=>Fs f b k d) t.kids).map fun ks=> .mk t.op t.n ks
def rM(b:List (Int×Tm))(ρ:Int->Nat)(r:Nat):Nat:=((b.map (·.1)).filter fun u=>decide (ρ u<r)).length
theorem Ft{b:List (Int×Tm)}{ρ:Int->Nat}{v:Int}{x:Tm}(hv:bL b v=some x){r:Nat}(hr:ρ v<r):rM b ρ (ρ v)<rM b ρ r:=by
 unfold rM
 have hm:v∈b.map (·.1):=List.mem_map.2 ⟨_,cB hv,rfl⟩
 generalize b.map (·.1)=ks at hm
 have hle:∀ks:List Int,(ks.filter fun u=>decide (ρ u<ρ v)).length<=(ks.filter fun u=>decide (ρ u<r)).length:=by
  intro ks
  induction ks with
  |nil=>exact Nat.le_refl _
  |cons u ks ih=>
   rw[List.filter_cons,List.filter_cons]
   by_cases e:ρ u<ρ v
   ·rw[if_pos (by simpa using e),if_pos (by simp;omega),List.length_cons,List.length_cons];omega
   ·rw[if_neg (by simpa using e)]
    split
    ·rw[List.length_cons];omega
    ·exact ih
 induction ks with
 |nil=>cases hm
 |cons u ks ih=>
  rw[List.filter_cons,List.filter_cons]
  by_cases e:u=v
  ·subst e
   rw[if_neg (by simp),if_pos (by simpa using hr),List.length_cons]
   have:=hle ks
   omega
  ·have:=ih ((List.mem_cons.1 hm).resolve_left fun h=>e h.symm)
   by_cases e2:ρ u<ρ v
   ·rw[if_pos (by simpa using e2),if_pos (by simp;omega),List.length_cons,List.length_cons];omega
   ·rw[if_neg (by simpa using e2)]
    split
    ·rw[List.length_cons];omega
    ·exact this
theorem aaq{s:aB}{b:List (Int×Tm)}{l:List TB}{ρ:Int->Nat}{R:Nat}(h:lX s b l ρ R):∀ (r:Nat) (t:Tm) (d:Nat),Vs s t->(∀u,fU u t=true->ρ u<r)->rM b ρ r<=d->∃f,∀g,f<=g->Fs g b t d=some (aZ (ah l) t):=by
 intro r
 induction r using Nat.strongRecOn with
 |ind r ihr=>
  refine Tm.fg fun t ih d ht hr hd=> ?_
  by_cases h1:t.op=1
  ·have hv:fU t.n t=true:=(hU h1).2 rfl
   cases hx:bL b t.n with
   |none=>
    refine⟨1,fun g hg=> ?_⟩
    obtain⟨g,rfl⟩:∃k,g=k+1:=⟨g - 1,ae⟩
    simp only[Fs]
    rw[if_pos h1,hx,iw ht h1,show Lv (ah l) t.n= .mk 1 t.n [] by simp[Lv,(h.zN _).1 hx]]
    exact congrArg some (ht.eta h1)
   |some x=>
    obtain⟨g1,g2,g3⟩:=h.ok _ _ hx
    have h3:=Ft hx (hr _ hv)
    obtain⟨d,rfl⟩:∃k,d=k+1:=⟨d - 1,ae⟩
    obtain⟨f,hf⟩:=ihr _ (hr _ hv) x d g1 g3 ae
    refine⟨f+1,fun g hg=> ?_⟩
    obtain⟨g,rfl⟩:∃k,g=k+1:=⟨g - 1,ae⟩
    simp only[Fs]
    rw[if_pos h1,hx]
    dsimp only
    rw[hf g (by omega), <- g2,iw ht h1]
  ·have key:∀ks:List Tm,(∀k∈ks,k∈t.kids)->∃f,∀g,f<=g->∀k∈ks,Fs g b k d=some (aZ (ah l) k):=by
    intro ks
    induction ks with
    |nil=>intro _;exact⟨0,fun _ _ _ h=>by cases h⟩
    |cons k ks DJ=>
     intro hks
     obtain⟨f1,eM⟩:=DJ fun y hy=>hks y mg
     obtain⟨f2,iK⟩:=ih k (hks k aG) d (ht.lW (hks k aG)) (fun u hu=>hr u ((qu ht h1).2 ⟨k,hks k aG,hu⟩)) hd
     refine⟨max f1 f2,fun g hg y hy=> ?_⟩
     rcases List.mem_cons.1 hy with rfl|hy
     ·exact iK g ae
     ·exact eM g ae y hy
   obtain⟨f,hf⟩:=key t.kids fun _ h=>h
   refine⟨f+1,fun g hg=> ?_⟩
   obtain⟨g,rfl⟩:∃k,g=k+1:=⟨g - 1,ae⟩
   simp only[Fs]
   rw[if_neg h1,zj (hf g (by omega)),iM h1]
   rfl
theorem vi{s:aB}{b:List (Int×Tm)}{l:List TB}{ρ:Int->Nat}{R:Nat}(h:lX s b l ρ R){t:Tm}(ht:Vs s t):∃f,Fs f b t b.length=some (aZ (ah l) t):=by
 obtain⟨f,hf⟩:=aaq h (R+1) t b.length ht (fun u _=>by have:=h.bd u;omega) (by
  unfold rM
  exact Nat.le_trans (List.length_filter_le _ _) VJ)
 exact⟨f,hf f (Nat.le_refl _)⟩
def pnF(s:aB)(t:Tm):Bool:=
 let k:Int:=t.kids.length
 if t.op=16 then t.n==0&&k==0
 else if t.op=1 then dF t.n 0 199&&k==0
 else if t.op=2 then dF t.n (-1000000) 1000000&&k==0
 else if t.op=3 then dF t.n 0 (s.cons.length - 1)&&k==gS s.cons t.n
 else if t.op=5 then dF t.n 0 (s.cC.length - 1)&&decide (k<gS s.cC t.n)
 else false
mutual
def Hb(s:aB):Tm->Bool
 | .mk op n kids=>Fu s kids&&pnF s (.mk op n kids)
def Fu(s:aB):List Tm->Bool
 |[]=>true
 |k::l=>Hb s k&&Fu s l
end
theorem xI(s:aB):∀l:List Tm,Fu s l=l.all (Hb s)
 |[]=>rfl
 |k::l=>by rw[Fu,xI s l];rfl
theorem MY(s:aB)(t:Tm):Hb s t=(t.kids.all (Hb s)&&pnF s t):=by cases t;rw[Hb,xI];rfl
def Pn(s:aB)(t:Tm):Prop:=Hb s t=true
theorem TA{s:aB}{t:Tm}:Pn s t↔pnF s t=true/\∀k∈t.kids,Pn s k:=by
 unfold Pn;rw[MY,Bool.and_eq_true,List.all_eq_true];exact and_comm
theorem Pn.lW {s:aB}{t k:Tm}(h:Pn s t)(hk:k∈t.kids):Pn s k:=(TA.1 h).2 k hk
def wa{σ:Type}(step:σ->Tm->σ×Bool):σ->List Tm->Int->Int
 |_,[],_=> -1
 |s,x::l,k=>if(step s x).2=true then wa step (step s x).1 l (k+1)else k
theorem Fv{σ:Type}(step:σ->Tm->σ×Bool):∀ (l:List Tm) (s:σ) (k:Int),0<=k->(0<=wa step s l k↔(aI step s l).2=false)
 |[],_,_,_=>by simp[wa,aI]
 |x::l,s,k,hk=>by
  have ih:=Fv step l (step s x).1 (k+1) ae
  by_cases h:(step s x).2=true
  ·simp only[wa,aI,h,if_true];exact ih
  ·simp[wa,aI,h,hk]
theorem TC{σ:Type}(l:List Tm)(hl:l.length<=9223372036854775807)(g:Nat)(bE:List V)(base:Nat)(H:σ->Nat->aa)(step:σ->Tm->σ×Bool)(hc:∀r∈V.aN bE,r<base)(ok:σ->Prop)(aS:∀x∈l,∀s,ok s->(step s x).2=true->ok (step s x).1)
 (h:∀x∈l,∀s,ok s->uO Tryz.prog g (.d x.d::bE) base (H s) (H (step s x).1) (.d (.bool (!(step s x).2)))) (s:σ) (oK:ok s):
 uO Tryz.prog 186 [.d (.sl (l.map Tm.d)), .func (.func g) [] bE] base (H s) (H (aI step s l).1) (.d (.i (wa step s l 0))):=by
 intro o nx hI K X hK
 have j9:∀r∈V.aN bE,r<nx:=fun r hr=>Nat.lt_of_lt_of_le (hc r hr) hI.le
 refine cO.aJ mix PQ aG ?_
 rw[SZ]
 refine cn ?_
 refine aF (fun i:Nat×σ×(Nat->aa)×Nat=>⟨bf [.d (.sl (l.map Tm.d)), .func (.func g) [] bE, .ab, .ab, .ab, .ab, .ab, .d (.i l.length), .d (.i i.1)],i.2.2.1,i.2.2.2⟩)
  (fun i=>i.1<=l.length/\eY base (H i.2.1) i.2.2.1 i.2.2.2/\nx<=i.2.2.2/\(∀id,base<=id->id<nx->i.2.2.1 id=o id)/\aI step s l=aI step i.2.1 (l.drop i.1)/\ok i.2.1/\wa step s l 0=wa step i.2.1 (l.drop i.1) i.1) (fun i=>l.length - i.1) (0,s,o,nx)
  ⟨Nat.zero_le _,hI,Nat.le_refl _,fun _ _ _=>rfl,rfl,oK,rfl⟩ ?_ ?_
 ·exact QQ
 rintro⟨k,s',o',nx'⟩ ⟨hk,K1,hn,cD,hf,uR,Ka⟩
 simp only at hk K1 hn cD hf uR Ka
 refine cn ?_
 refine au (fun h1=> ?_) (fun h1=> ?_)
 ·simp at h1
  obtain⟨x,hx⟩:=aD h1
  have cL:=List.mem_of_getElem? hx
  have hd:l.drop k=x::l.drop (k+1):=by
   exact QK
  rw[hd]at hf Ka
  simp only[aI,wa]at hf Ka
  refine Qv hx ?_
  refine jS (h x cL s' uR _ _ (K1.mono ae) _ _ fun o2 n2 m1 m2 m3=> ?_)
  cases hb:(step s' x).2 with
  |true=>
   rw[hb]at hf Ka
   simp only[if_true]at hf Ka
   refine bJ ?_
   have P9:∀r∈V.aN bE,r<n2+1+1:=fun r hr=>by have:=j9 r hr;omega
   refine aq (k+1,(step s' x).1,o2,n2+1+1) ⟨h1,m2.mono (show n2<=n2+1+1 from ae),(show nx<=n2+1+1 from ae),fun id i1 i2=>(m3 id i1 ae).trans (cD id i1 i2),hf,aS x cL s' uR hb,by rw[Ka];rfl⟩ pt (bM.bH _ (show nx<=n2+1+1 from ae) (Nat.le_refl _) (m2.mono (show n2<=n2+1+1 from ae)).cq (fun _ _=>rfl) ?_)
   exact dU
  |false=>
   rw[hb]at hf Ka
   simp only[Bool.false_eq_true,if_false]at hf Ka
   refine cn ?_
   rw[hf,Ka]at hK
   exact hK _ _ ae (m2.mono ae) fun id i1 i2=>(m3 id i1 ae).trans (cD id i1 i2)
 ·simp at h1
  refine cn ?_
  rw[List.drop_eq_nil_of_le h1]at hf Ka
  rw[hf,Ka]at hK
  exact NC
theorem B7{σ:Type}(l:List Tm)(hl:l.length<=9223372036854775807)(g:Nat)(bE:List V)(base:Nat)(H:σ->Nat->aa)(step:σ->Tm->σ×Bool)(hc:∀r∈V.aN bE,r<base)(ok:σ->Prop)(aS:∀x∈l,∀s,ok s->(step s x).2=true->ok (step s x).1)
 (h:∀x∈l,∀s,ok s->uO Tryz.prog g (.d x.d::bE) base (H s) (H (step s x).1) (.d (.bool (!(step s x).2)))) (s:σ) (oK:ok s):
 uO Tryz.prog 166 [.d (.sl (l.map Tm.d)), .func (.func g) [] bE] base (H s) (H (aI step s l).1) (.d (.bool (!(aI step s l).2))):=by
 intro o nx hI K X hK
 have j9:∀r∈V.aN bE,r<nx:=fun r hr=>Nat.lt_of_lt_of_le (hc r hr) hI.le
 refine cO.aJ mix PH aG ?_
 rw[SQ]
 refine ma ?_
 refine bp (TC l hl g bE base H step hc ok aS h s oK _ _ ?_ _ _ fun o2 n2 m1 m2 m3=> ?_)
 ·exact hI.mono ae
 refine ma ?_
 have e:decide (0<=wa step s l 0)= !(aI step s l).2:=by
  have:=Fv step l s 0 ae
  rw[Bool.eq_iff_iff,decide_eq_true_eq,this]
  cases(aI step s l).2<;>simp
 rw[e]
 exact hK _ _ ae (m2.mono ae) fun id i1 i2=>m3 id i1 ae
end Go.Proofs.YtlhemmpklhhgoaaGreat
