/-
  A PART. Conditions: none.
-/
import Derived.Test.YtlhemmpklhhgoaaGreatQf16
set_option linter.unusedSimpArgs false
set_option linter.unusedVariables false
set_option maxHeartbeats 8000000
namespace Go.Proofs.YtlhemmpklhhgoaaGreat
theorem B4{s:az}{b:List (Int×Tm)}{l:List TB}{ρ:Int->Nat}{R:Nat}(h:kp s b l ρ R)(hl:dK s l){n:Int}(hn:bR b n=none){t:Tm}(ht:Vs s t):gy n (aO (ag l) t)=true↔oY b n t:=by
 have L3:Lv (ag l) n= .mk 1 n []:=by simp[Lv,(h.vX n).1 hn]
 constructor
 ·have key:∀ (r:Nat) (t:Tm),Vs s t->(∀u,gy u t=true->ρ u<r)->gy n (aO (ag l) t)=true->oY b n t:=by
   intro r
   induction r with
   |zero=>
    intro t ht hr hf
    obtain⟨u,hu,_⟩:=(uZ hl.bd t ht n).1 hf
    exact absurd (hr u hu) (Nat.not_lt_zero _)
   |succ r ih=>
    intro t ht hr hf
    obtain⟨u,hu,hf⟩:=(uZ hl.bd t ht n).1 hf
    cases hx:bR b u with
    |none=>
     have:Lv (ag l) u= .mk 1 u []:=by simp[Lv,(h.vX u).1 hx]
     rw[this,oU]at hf
     have:u=n:=by simpa using hf
     exact .here (this ▸ hu)
    |some x=>
     obtain⟨g1,g2,g3⟩:=h.ok u x hx
     rw[g2]at hf
     have:=hr u hu
     exact .step hu hx (ih x g1 (fun w hw=>by have:=g3 w hw;omega) hf)
  exact key (R+1) t ht fun u _=>by have:=h.bd u;omega
 ·intro hr
  induction hr with
  |here h1=>exact(uZ hl.bd _ ht n).2 ⟨n,h1,by rw[L3,oU];simp⟩
  | @step t v x h1 h2 _ ih=>
    obtain⟨g1,g2,g3⟩:=h.ok v x h2
    exact(uZ hl.bd _ ht _).2 ⟨v,h1,by rw[g2];exact ih g1⟩
def ZY(b:List (Int×Tm)):Prop:=∀v x,bR b v=some x-> ¬oY b v x
theorem OO{s:az}{b:List (Int×Tm)}(yR:(b.map (·.1)).Nodup)(a8:∀p∈b,(0<=p.1/\p.1<20)/\Vs s p.2)(ha:ZY b):∃l ρ R,kp s b l ρ R/\dK s l:=by
 have key:∀k,k<=b.length->∃l ρ R,kp s (b.take k) l ρ R/\dK s l:=by
  intro k
  induction k with
  |zero=>intro _;exact⟨[],fun _=>0,0,by rw[List.take_zero];exact kp.nil,dK.nil⟩
  |succ k ih=>
   intro hk
   obtain⟨l,ρ,R,h,hl⟩:=ih ad
   obtain⟨⟨n,y⟩,hp⟩:∃p,b[k]? =some p:=⟨_,List.getElem?_eq_getElem (show k<b.length from ad)⟩
   have hpm:=List.mem_of_getElem? hp
   have qW:b.take (k+1)=b.take k++[(n,y)]:=by rw[List.take_add_one,hp];rfl
   have Sn:((b.take (k+1)).map (·.1)).Nodup:=yR.sublist ((List.take_sublist _ _).map _)
   have hn:bR (b.take k) n=none:=by
    rw[kW]
    rw[qW,List.map_append,List.nodup_append]at Sn
    exact fun hm=>Sn.2.2 n hm n aF rfl
   obtain⟨hr,hy⟩:=a8 _ hpm
   have vf:∀v x,bR (b.take k) v=some x->bR b v=some x:=fun v x hx=>(fN yR).2 (List.mem_of_mem_take (cm hx))
   have hny: ¬gy n (aO (ag l) y)=true:=fun hf=>ha n y ((fN yR).2 hpm) (((B4 h hl hn hy).1 hf).mono vf)
   obtain⟨GZ,R',h'⟩:=h.ext hl hn hy hny
   rw[qW]
   exact⟨_,GZ,R',h',sE hl hr ((h.vX n).1 hn) (Vs.sub hl.bd y hy) (fun u hu=>hl.free hy hu) hny⟩
 have:=key b.length (Nat.le_refl _)
 rwa [List.take_length]at this
theorem kp.Fu {s:az}{b:List (Int×Tm)}{l:List TB}{ρ:Int->Nat}{R:Nat}(h:kp s b l ρ R):ZY b:=by
 have key:∀t n,oY b n t->∀r,(∀u,gy u t=true->ρ u<r)->ρ n<r:=by
  intro t n hr
  induction hr with
  |here h1=>exact fun r hr=>hr _ h1
  |step h1 h2 _ ih=>
   intro r hr
   have h3:=ih _ (h.ok _ _ h2).2.2
   have:=hr _ h1
   omega
 intro v x hx hr
 have:=key x v hr _ (h.ok v x hx).2.2
 omega
def AD(F:Tm->Int->Option Int):List Tm->Int->Option Int
 |[],n=>some n
 |k::ks,n=>if n<0 then some n else match F k n with
  |some m=>AD F ks m
  |none=>none
def tc:Nat->List (Int×Tm)->Tm->Int->Nat->Option Int
 |0,_,_,_,_=>none
 |f+1,b,t,n,d=>match lU f b t with
  |some x=>(match d with
   |0=>some (-1)
   |d+1=>AD (fun k m=>tc f b k m d) x.kids (n - 1))
  |none=>none
theorem EM{F:Tm->Int->Option Int}:∀ {ks:List Tm} (n:Int),(∀k∈ks,∀m,∃r,F k m=some r)->∃r,AD F ks n=some r
 |[],n,_=>⟨n,rfl⟩
 |k::ks,n,h=>by
  simp only[AD]
  split
  ·exact⟨n,rfl⟩
  ·obtain⟨r,hr⟩:=h k aF n
   rw[hr]
   exact EM r fun y hy=>h y jX
theorem EN{F G:Tm->Int->Option Int}(EH:∀k m r,F k m=some r->G k m=some r):∀ {ks:List Tm} {n r:Int},AD F ks n=some r->AD G ks n=some r
 |[],_,_,h=>h
 |k::ks,n,r,h=>by
  simp only[AD]at h|-
  split at h
  ·rename_i e;rw[if_pos e];exact h
  ·rename_i e
   rw[if_neg e]
   cases hF:F k n with
   |none=>rw[hF]at h;cases h
   |some q=>rw[hF]at h;rw[EH _ _ _ hF];exact EN EH h
theorem xY{b:List (Int×Tm)}:∀ {f g:Nat} {t:Tm} {n:Int} {d:Nat} {r:Int},tc f b t n d=some r->f<=g->tc g b t n d=some r
 |0,_,_,_,_,_,h,_=>by cases h
 |f+1,0,_,_,_,_,h,hg=>ad
 |f+1,g+1,t,n,d,r,h,hg=>by
  simp only[tc]at h|-
  cases ha:lU f b t with
  |none=>rw[ha]at h;cases h
  |some x=>
   rw[ha]at h
   rw[fO ha (show f<=g by omega)]
   cases d with
   |zero=>exact h
   |succ d=>exact EN (fun k m q hq=>xY hq ad) h
theorem MM{s:az}{b:List (Int×Tm)}{l:List TB}{ρ:Int->Nat}{R:Nat}(h:kp s b l ρ R):∀ (d:Nat) (t:Tm) (n:Int),Vs s t->∃r,tc (R+3+d) b t n d=some r
 |0,t,n,ht=>by
  obtain⟨x,a1,_⟩:=h.root ht
  exact⟨-1,by simp only[tc];rw[show R+2+0=R+2 from rfl,a1]⟩
 |d+1,t,n,ht=>by
  obtain⟨x,a1,a2,_⟩:=h.root ht
  show ∃r,tc ((R+3+d)+1) b t n (d+1)=some r
  simp only[tc]
  rw[fO a1 (show R+2<=R+3+d by omega)]
  exact EM _ fun k hk m=>MM h d k m (a2.lu hk)
def AE(b:List (Int×Tm))(t:Tm):Prop:=∃f r,tc f b t 40 12=some r/\0<=r
theorem Jf{b:List (Int×Tm)}{t:Tm}{f:Nat}{r:Int}(h:tc f b t 40 12=some r):AE b t↔0<=r:=by
 refine⟨fun⟨g,q,h1,h2⟩=> ?_,fun hr=>⟨f,r,h,hr⟩⟩
 have e1:=xY h (Nat.le_max_left f g)
 rw[xY h1 (Nat.le_max_right f g)]at e1
 cases e1
 exact h2
def EO(F:Tm->Option Tm):List Tm->Option (List Tm)
 |[]=>some []
 |k::ks=>match F k,EO F ks with
  |some x,some xs=>some (x::xs)
  |_,_=>none
def v8:Nat->List (Int×Tm)->Tm->Option Tm
 |0,_,_=>none
 |f+1,b,t=>match lU f b t with
  |some x=>(EO (v8 f b) x.kids).map fun ks=> .mk x.op x.n ks
  |none=>none
theorem wa{F:Tm->Option Tm}{g:Tm->Tm}:∀ {ks:List Tm},(∀k∈ks,F k=some (g k))->EO F ks=some (ks.map g)
 |[],_=>rfl
 |k::ks,h=>by simp only[EO];rw[h k (by simp),wa fun y hy=>h y (by simp[hy])];rfl
theorem EP{F G:Tm->Option Tm}(EH:∀k r,F k=some r->G k=some r):∀ {ks xs:List Tm},EO F ks=some xs->EO G ks=some xs
 |[],_,h=>h
 |k::ks,xs,h=>by
  simp only[EO]at h|-
  cases h1:F k with
  |none=>rw[h1]at h;cases h
  |some x=>
   cases h2:EO F ks with
   |none=>rw[h1,h2]at h;cases h
   |some ys=>rw[h1,h2]at h;rw[EH _ _ h1,EP EH h2];exact h
theorem iQ{b:List (Int×Tm)}:∀ {f g:Nat} {t x:Tm},v8 f b t=some x->f<=g->v8 g b t=some x
 |0,_,_,_,h,_=>by cases h
 |f+1,0,_,_,h,hg=>ad
 |f+1,g+1,t,x,h,hg=>by
  simp only[v8]at h|-
  cases ha:lU f b t with
  |none=>rw[ha]at h;cases h
  |some y=>
   rw[ha]at h
   rw[fO ha (show f<=g by omega)]
   dsimp only at h|-
   cases h2:EO (v8 f b) y.kids with
   |none=>rw[h2]at h;cases h
   |some ys=>rw[h2]at h;rw[EP (fun k r hr=>iQ hr (by omega)) h2];exact h
theorem nP{s:az}{b:List (Int×Tm)}{l:List TB}{ρ:Int->Nat}{R:Nat}(h:kp s b l ρ R):∀ (z:Nat) (t:Tm),Vs s t->(aO (ag l) t).sz<=z->v8 (R+3+z) b t=some (aO (ag l) t)
 |0,t,_,hz=>by have:=Tm.qR (aO (ag l) t);omega
 |z+1,t,ht,hz=>by
  obtain⟨x,a1,a2,a3,a4,_⟩:=h.root ht
  show v8 ((R+3+z)+1) b t=_
  simp only[v8]
  rw[fO a1 (show R+2<=R+3+z by omega)]
  by_cases h1:x.op=1
  ·have e:=a2.eta h1
   have hk:x.kids=[]:=by rw[e];rfl
   have:aO (ag l) x=x:=by
    rw[dW a2 h1,show Lv (ag l) x.n= .mk 1 x.n [] by simp[Lv,(h.vX _).1 (a4 h1)]];exact e.symm
   rw[<- a3,this]
   dsimp only
   rw[hk]
   show some (Tm.mk x.op x.n [])=some x
   rw[<- hk,Tm.eta]
  ·have hv:=eo (b:=ag l) h1
   have hk:∀k∈x.kids,v8 (R+3+z) b k=some (aO (ag l) k):=fun k hk=>by
    refine nP h z k (a2.lu hk) ?_
    have h3:aO (ag l) k∈(aO (ag l) x).kids:=by rw[hv];exact List.mem_map.2 ⟨k,hk,rfl⟩
    have h4:=Tm.mW h3
    rw[a3]at h4
    omega
   dsimp only
   rw[wa hk, <- a3,hv]
   rfl
def Jg:Nat->List (Int×Tm)->Tm->Nat->Option Tm
 |0,_,_,_=>none
 |f+1,b,t,d=>if t.op=1 then(match bR b t.n with
   |some x=>(match d with
    |0=>none
    |d+1=>Jg f b x d)
   |none=>some t)
  else(EO (fun k=>Jg f b k d) t.kids).map fun ks=> .mk t.op t.n ks
def ug(b:List (Int×Tm))(ρ:Int->Nat)(r:Nat):Nat:=((b.map (·.1)).filter fun u=>decide (ρ u<r)).length
theorem Jh{b:List (Int×Tm)}{ρ:Int->Nat}{v:Int}{x:Tm}(hv:bR b v=some x){r:Nat}(hr:ρ v<r):ug b ρ (ρ v)<ug b ρ r:=by
 unfold ug
 have hm:v∈b.map (·.1):=List.mem_map.2 ⟨_,cm hv,rfl⟩
 generalize b.map (·.1)=ks at hm
 have hle:∀ks:List Int,(ks.filter fun u=>decide (ρ u<ρ v)).length<=(ks.filter fun u=>decide (ρ u<r)).length:=by
  intro ks
  induction ks with
  |nil=>exact Nat.le_refl _
  |cons u ks ih=>
   rw[List.filter_cons,List.filter_cons]
   by_cases e:ρ u<ρ v
   ·rw[if_pos (by simpa using e),if_pos (by simp;omega),List.length_cons,List.length_cons];omega
   ·rw[if_neg (by simpa using e)]
    split
    ·rw[List.length_cons];omega
    ·exact ih
 induction ks with
 |nil=>cases hm
 |cons u ks ih=>
  rw[List.filter_cons,List.filter_cons]
  by_cases e:u=v
  ·subst e
   rw[if_neg (by simp),if_pos (by simpa using hr),List.length_cons]
   have:=hle ks
   omega
  ·have:=ih ((List.mem_cons.1 hm).resolve_left fun h=>e h.symm)
   by_cases e2:ρ u<ρ v
   ·rw[if_pos (by simpa using e2),if_pos (by simp;omega),List.length_cons,List.length_cons];omega
   ·rw[if_neg (by simpa using e2)]
    split
    ·rw[List.length_cons];omega
    ·exact this
theorem afi{s:az}{b:List (Int×Tm)}{l:List TB}{ρ:Int->Nat}{R:Nat}(h:kp s b l ρ R):∀ (r:Nat) (t:Tm) (d:Nat),Vs s t->(∀u,gy u t=true->ρ u<r)->ug b ρ r<=d->∃f,∀g,f<=g->Jg g b t d=some (aO (ag l) t):=by
 intro r
 induction r using Nat.strongRecOn with
 |ind r ihr=>
  refine Tm.eM fun t ih d ht hr hd=> ?_
  by_cases h1:t.op=1
  ·have hv:gy t.n t=true:=(iy h1).2 rfl
   cases hx:bR b t.n with
   |none=>
    refine⟨1,fun g hg=> ?_⟩
    obtain⟨g,rfl⟩:∃k,g=k+1:=⟨g - 1,ad⟩
    simp only[Jg]
    rw[if_pos h1,hx,dW ht h1,show Lv (ag l) t.n= .mk 1 t.n [] by simp[Lv,(h.vX _).1 hx]]
    exact congrArg some (ht.eta h1)
   |some x=>
    obtain⟨g1,g2,g3⟩:=h.ok _ _ hx
    have h3:=Jh hx (hr _ hv)
    obtain⟨d,rfl⟩:∃k,d=k+1:=⟨d - 1,ad⟩
    obtain⟨f,hf⟩:=ihr _ (hr _ hv) x d g1 g3 ad
    refine⟨f+1,fun g hg=> ?_⟩
    obtain⟨g,rfl⟩:∃k,g=k+1:=⟨g - 1,ad⟩
    simp only[Jg]
    rw[if_pos h1,hx]
    dsimp only
    rw[hf g (by omega), <- g2,dW ht h1]
  ·have key:∀ks:List Tm,(∀k∈ks,k∈t.kids)->∃f,∀g,f<=g->∀k∈ks,Jg g b k d=some (aO (ag l) k):=by
    intro ks
    induction ks with
    |nil=>intro _;exact⟨0,fun _ _ _ h=>by cases h⟩
    |cons k ks vC=>
     intro hks
     obtain⟨f1,fP⟩:=vC fun y hy=>hks y jX
     obtain⟨f2,l7⟩:=ih k (hks k aF) d (ht.lu (hks k aF)) (fun u hu=>hr u ((qm ht h1).2 ⟨k,hks k aF,hu⟩)) hd
     refine⟨max f1 f2,fun g hg y hy=> ?_⟩
     rcases List.mem_cons.1 hy with rfl|hy
     ·exact l7 g ad
     ·exact fP g ad y hy
   obtain⟨f,hf⟩:=key t.kids fun _ h=>h
   refine⟨f+1,fun g hg=> ?_⟩
   obtain⟨g,rfl⟩:∃k,g=k+1:=⟨g - 1,ad⟩
   simp only[Jg]
   rw[if_neg h1,wa (hf g (by omega)),eo h1]
   rfl
theorem B5{s:az}{b:List (Int×Tm)}{l:List TB}{ρ:Int->Nat}{R:Nat}(h:kp s b l ρ R){t:Tm}(ht:Vs s t):∃f,Jg f b t b.length=some (aO (ag l) t):=by
 obtain⟨f,hf⟩:=afi h (R+1) t b.length ht (fun u _=>by have:=h.bd u;omega) (by
  unfold ug
  exact Nat.le_trans (List.length_filter_le _ _) abQ)
 exact⟨f,hf f (Nat.le_refl _)⟩
def y0{σ:Type}(step:σ->Tm->σ×Bool):σ->List Tm->Int->Int
 |_,[],_=> -1
 |s,x::l,k=>if(step s x).2=true then y0 step (step s x).1 l (k+1)else k
theorem Ji{σ:Type}(step:σ->Tm->σ×Bool):∀ (l:List Tm) (s:σ) (k:Int),0<=k->(0<=y0 step s l k↔(aR step s l).2=false)
 |[],_,_,_=>by simp[y0,aR]
 |x::l,s,k,hk=>by
  have ih:=Ji step l (step s x).1 (k+1) ad
  by_cases h:(step s x).2=true
  ·simp only[y0,aR,h,if_true];exact ih
  ·simp[y0,aR,h,hk]
theorem ZZ{σ:Type}(l:List Tm)(hl:l.length<=9223372036854775807)(g:Nat)(bW:List V)(base:Nat)(H:σ->Nat->aa)(step:σ->Tm->σ×Bool)(hc:∀r∈V.aN bW,r<base)(ok:σ->Prop)(a8:∀x∈l,∀s,ok s->(step s x).2=true->ok (step s x).1)
 (h:∀x∈l,∀s,ok s->Au Tryz.prog g (.d x.d::bW) base (H s) (H (step s x).1) (.d (.bool (!(step s x).2)))) (s:σ) (pQ:ok s):
 Au Tryz.prog 186 [.d (.sl (l.map Tm.d)), .func (.func g) [] bW] base (H s) (H (aR step s l).1) (.d (.i (y0 step s l 0))):=by
 intro o nx hI K X hK
 have dR:∀r∈V.aN bW,r<nx:=fun r hr=>Nat.lt_of_lt_of_le (hc r hr) hI.le
 refine bJ.aH mix V8 aF ?_
 rw[Zt]
 refine cZ ?_
 refine aC (fun i:Nat×σ×(Nat->aa)×Nat=>⟨aY [.d (.sl (l.map Tm.d)), .func (.func g) [] bW, .ai, .ai, .ai, .ai, .ai, .d (.i l.length), .d (.i i.1)],i.2.2.1,i.2.2.2⟩)
  (fun i=>i.1<=l.length/\fw base (H i.2.1) i.2.2.1 i.2.2.2/\nx<=i.2.2.2/\(∀id,base<=id->id<nx->i.2.2.1 id=o id)/\aR step s l=aR step i.2.1 (l.drop i.1)/\ok i.2.1/\y0 step s l 0=y0 step i.2.1 (l.drop i.1) i.1) (fun i=>l.length - i.1) (0,s,o,nx)
  ⟨Nat.zero_le _,hI,Nat.le_refl _,fun _ _ _=>rfl,rfl,pQ,rfl⟩ ?_ ?_
 ·exact Xk
 rintro⟨k,s',o',nx'⟩ ⟨hk,Qb,hn,dn,hf,xH,OP⟩
 simp only at hk Qb hn dn hf xH OP
 refine cZ ?_
 refine ak (fun h1=> ?_) (fun h1=> ?_)
 ·simp at h1
  obtain⟨x,hx⟩:=aA h1
  have cj:=List.mem_of_getElem? hx
  have hd:l.drop k=x::l.drop (k+1):=by
   exact Xf
  rw[hd]at hf OP
  simp only[aR,y0]at hf OP
  refine Fz hx ?_
  refine ij (h x cj s' xH _ _ (Qb.mono ad) _ _ fun o2 n2 m1 m2 m3=> ?_)
  cases hb:(step s' x).2 with
  |true=>
   rw[hb]at hf OP
   simp only[if_true]at hf OP
   refine cS ?_
   have Wj:∀r∈V.aN bW,r<n2+1+1:=fun r hr=>by have:=dR r hr;omega
   refine aj (k+1,(step s' x).1,o2,n2+1+1) ⟨h1,m2.mono (show n2<=n2+1+1 from ad),(show nx<=n2+1+1 from ad),fun id i1 i2=>(m3 id i1 ad).trans (dn id i1 i2),hf,a8 x cj s' xH hb,by rw[OP];rfl⟩ iT (bM.bQ _ (show nx<=n2+1+1 from ad) (Nat.le_refl _) (m2.mono (show n2<=n2+1+1 from ad)).cW (fun _ _=>rfl) ?_)
   exact dU
  |false=>
   rw[hb]at hf OP
   simp only[Bool.false_eq_true,if_false]at hf OP
   refine cZ ?_
   rw[hf,OP]at hK
   exact hK _ _ ad (m2.mono ad) fun id i1 i2=>(m3 id i1 ad).trans (dn id i1 i2)
 ·simp at h1
  refine cZ ?_
  rw[List.drop_eq_nil_of_le h1]at hf OP
  rw[hf,OP]at hK
  exact TI
theorem ER{σ:Type}(l:List Tm)(hl:l.length<=9223372036854775807)(g:Nat)(bW:List V)(base:Nat)(H:σ->Nat->aa)(step:σ->Tm->σ×Bool)(hc:∀r∈V.aN bW,r<base)(ok:σ->Prop)(a8:∀x∈l,∀s,ok s->(step s x).2=true->ok (step s x).1)
 (h:∀x∈l,∀s,ok s->Au Tryz.prog g (.d x.d::bW) base (H s) (H (step s x).1) (.d (.bool (!(step s x).2)))) (s:σ) (pQ:ok s):
 Au Tryz.prog 166 [.d (.sl (l.map Tm.d)), .func (.func g) [] bW] base (H s) (H (aR step s l).1) (.d (.bool (!(aR step s l).2))):=by
 intro o nx hI K X hK
 have dR:∀r∈V.aN bW,r<nx:=fun r hr=>Nat.lt_of_lt_of_le (hc r hr) hI.le
 refine bJ.aH mix V0 aF ?_
 rw[Zl]
 refine gB ?_
 refine aT (ZZ l hl g bW base H step hc ok a8 h s pQ _ _ ?_ _ _ fun o2 n2 m1 m2 m3=> ?_)
 ·exact hI.mono ad
 refine gB ?_
 have e:decide (0<=y0 step s l 0)= !(aR step s l).2:=by
  have:=Ji step l s 0 ad
  rw[Bool.eq_iff_iff,decide_eq_true_eq,this]
  cases(aR step s l).2<;>simp
 rw[e]
 exact hK _ _ ad (m2.mono ad) fun id i1 i2=>m3 id i1 ad
theorem OQ{b:List (Int×Tm)}{f:Nat}{t x:Tm}(h:lU f b t=some x):a7 Tryz.prog 112 [Ft b,t.d] (.ret [x.d]):=by
 refine a7.aH mix Oc aF ?_
 rw[RU]
 refine cS ?_
 refine aC (fun i:Nat×Tm=>⟨aY [.d (Ft b), .ai, .ai, .ptr 0 0, .ptr 1 0],aw (aw (fun _=> .no) 0 (.row i.2.row)) 1 (.row [.d (.i 0), .d (.i 0), .ao]),2⟩)
  (fun i=>lU i.1 b i.2=some x) (fun i=>i.1) (f,t) h ?_ ?_
 ·exact Us
 rintro⟨f,t⟩ hf
 simp only at hf
 cases f with
 |zero=>cases hf
 |succ f=>
 simp only[lU]at hf
 by_cases h1:t.op=1
 ·have fP:(t.op==1)=true:=by simpa using h1
  rw[if_pos h1]at hf
  cases hl:bR b t.n with
  |none=>
   rw[hl]at hf
   injection hf with hf
   subst hf
   exact qp (ae fP (ae (dS hl) @pB))
  |some z=>
   rw[hl]at hf
   obtain⟨j,hj⟩:=gI hl
   refine gC (ae fP (ae hj @pB)) ?_
   refine aj (f,z) hf iT (bM.bQ _ ad ad dx (fun j hj=> ?_) ?_)
   ·have UH:j<2:=hj
    rcases(show j=0\/j=1 from ad)with rfl|rfl
    ·exact bp
    ·exact bp
   ·exact dU
 ·have fP:(t.op==1)=false:=by simpa using h1
  rw[if_neg h1]at hf
  injection hf with hf
  subst hf
  exact qp fP
theorem Sp:∀a:Tm,a.fits->∀b:Tm,b.fits->a7 Tryz.prog 108 [a.d,b.d] (.ret [.bool (iH a b)]):=by
 refine Tm.eM fun a ih ha b hb=> ?_
 have Ws:=(Tm.cH _).1 ha
 have yK:=(Tm.cH _).1 hb
 refine a7.aH mix VC aF ?_
 rw[YX,sq]
 refine cS ?_
 refine D0 (ak (fun h1=> ?_) (fun h1=> ?_))
 ·rw[h1]
  refine gC h1 ?_
  refine aT (OC a.kids b.kids Ws.1 yK.1 108 (fun x hx y hy=>ih x hx (Ws.2 x hx) y (yK.2 y hy)) _ _ dx _ _ fun o2 n2 m1 m2 m3=> ?_)
  exact qp h1
 ·rw[h1]
  exact qp h1
theorem sG{b:List (Int×Tm)}(hb:∀p∈b,p.2.fits):∀ (f:Nat) (t x:Tm),t.fits->lU f b t=some x->x.fits
 |0,_,_,_,h=>by cases h
 |f+1,t,x,ht,h=>by
  simp only[lU]at h
  split at h
  ·split at h
   ·rename_i y hy;exact sG hb f y x (hb _ (cm hy)) h
   ·exact J9
  ·exact J9
theorem Jj{F:Tm->Int->Option Int}(hF:∀k m r,0<=m->F k m=some r-> -1<=r/\r<=m):∀ (ks:List Tm) (n r:Int), -1<=n->AD F ks n=some r-> -1<=r/\r<=n
 |[],n,r,hn,h=>by cases h;omega
 |k::ks,n,r,hn,h=>by
  simp only[AD]at h
  split at h
  ·cases h;omega
  ·cases e:F k n with
   |none=>rw[e]at h;cases h
   |some q=>
    rw[e]at h
    have h1:=hF k n q ad e
    have h2:=Jj hF ks q r ad h
    omega
theorem B7{b:List (Int×Tm)}:∀ (f:Nat) (t:Tm) (n:Int) (d:Nat) (r:Int),0<=n->tc f b t n d=some r-> -1<=r/\r<=n
 |0,_,_,_,_,_,h=>by cases h
 |f+1,t,n,d,r,hn,h=>by
  simp only[tc]at h
  cases ha:lU f b t with
  |none=>rw[ha]at h;cases h
  |some x=>
   rw[ha]at h
   cases d with
   |zero=>cases h;omega
   |succ d=>
    have:=Jj (fun k m r hm h=>B7 f k m d r hm h) x.kids (n - 1) r ad h
    omega
theorem OR{b:List (Int×Tm)}:∀ (f:Nat) (t:Tm) (n:Int) (d:Nat) (r:Int),t.fits->(∀p∈b,p.2.fits)->0<=n/\n<=1000->d<=1000->tc f b t n d=some r->a7 Tryz.prog 91 [Ft b,t.d, .i n, .i d] (.ret [.i r])
 |0,_,_,_,_,_,_,_,_,h=>by cases h
 |f+1,t,n,d,r,ht,hb,hn,hd,h=>by
  simp only[tc]at h
  cases ha:lU f b t with
  |none=>rw[ha]at h;cases h
  |some x=>
  rw[ha]at h
  refine a7.aH mix aek aF ?_
  rw[c91]
  refine cS ?_
  refine bC (OQ ha) ?_
  cases d with
  |zero=>
   injection h with h
   subst h
   exact qo
  |succ d=>
   have Rc:(((d+1:Nat):Int)==0)=false:=by rw[beq_eq_false_iff_ne];omega
   dsimp only at h
   have Z0:=(Tm.cH x).1 (sG hb f t x ht ha)
   refine gC Rc ?_
   refine aC (fun i:Nat×Int=>⟨aY (.d (Ft b):: .ai:: .d (.i i.2):: .d (.i (d+1:Nat))::dy [.ai, .ai, .ai, .ai, .ai, .ai, .ai, .d (.sl (x.kids.map Tm.d)), .d (.i x.kids.length), .d (.i i.1)]),fun _=> .no,0⟩)
    (fun i=>i.1<=x.kids.length/\AD (fun k m=>tc f b k m d) (x.kids.drop i.1) i.2=some r/\ -1<=i.2/\i.2<=1000) (fun i=>x.kids.length - i.1) (0,n - 1) ⟨Nat.zero_le _,h,by dsimp only;omega,by dsimp only;omega⟩ (bM.d0 _ ?_) ?_
   ·exact dU
   rintro⟨k,m⟩ ⟨hk,hl,LX,Qg⟩
   simp only at hk hl LX Qg
   refine ra ?_
   refine ak (fun h2=> ?_) (fun h2=> ?_)
   ·replace h2:k<x.kids.length:=by simp at h2;omega
    obtain⟨y,hy⟩:=aA h2
    have R3:=List.mem_of_getElem? hy
    have ES:x.kids.drop k=y::x.kids.drop (k+1):=by
     obtain⟨i1,i2⟩:=List.getElem?_eq_some_iff.1 hy
     exact FB
    rw[ES]at hl
    simp only[AD]at hl
    by_cases h0:m<0
    ·have Bd:decide (m<0)=true:=decide_eq_true h0
     rw[if_pos h0]at hl
     cases hl
     exact rk (ae hy Bd)
    ·have Bd:decide (m<0)=false:=decide_eq_false h0
     rw[if_neg h0]at hl
     refine eC (ae hy Bd) ?_
     cases e:tc f b y m d with
     |none=>rw[e]at hl;cases hl
     |some q=>
     rw[e]at hl
     have hq:=B7 f y m d q ad e
     rw[show(((d+1:Nat):Int) - 1)=((d:Nat):Int) by omega]
     refine ax (OR f y m d q (Z0.2 y R3) hb ad ad e) rfl ?_
     refine cS ?_
     refine aj (k+1,q) ⟨h2,hl,by dsimp only;omega,by dsimp only;omega⟩ iT (bM.d0 _ ?_)
     exact dU
   ·replace h2:k=x.kids.length:=by simp at h2;omega
    subst h2
    rw[List.drop_length]at hl
    cases hl
    exact qo
theorem B8{F:Tm->Option Tm}:∀ {ks xs:List Tm},EO F ks=some xs->xs.length=ks.length/\∀ (i:Nat) (k:Tm),ks[i]? =some k->∃x,xs[i]? =some x/\F k=some x
 |[],xs,h=>by cases h;exact⟨rfl,fun i k hk=>by simp at hk⟩
 |k::ks,xs,h=>by
  simp only[EO]at h
  cases h1:F k with
  |none=>rw[h1]at h;cases h
  |some x=>
   cases h2:EO F ks with
   |none=>rw[h1,h2]at h;cases h
   |some ys=>
    rw[h1,h2]at h
    cases h
    obtain⟨g1,g2⟩:=B8 h2
    refine⟨by rw[List.length_cons,List.length_cons,g1],fun i k' hk=> ?_⟩
    cases i with
    |zero=>simp at hk;subst hk;exact⟨x,rfl,h1⟩
    |succ i=>exact g2 i k' hk
def G2(op n:Int)(ks:List Tm)(k:Nat):Nat->aa:=aw (aw (aw (fun _=> .no) 1 (.row [.d (.i 0), .d (.i 0), .ao])) 11 (.row [.d (.i op), .d (.i n), .osl 12 0])) 12 (.arr 0 33 3 ((ks.take k).map Tm.d))
theorem fuH_1(op n:Int)(ks:List Tm)(k:Nat):G2 op n ks k 1= .row [.d (.i 0), .d (.i 0), .ao]:=rfl
theorem fuH_11(op n:Int)(ks:List Tm)(k:Nat):G2 op n ks k 11= .row [.d (.i op), .d (.i n), .osl 12 0]:=rfl
theorem fuH_12(op n:Int)(ks:List Tm)(k:Nat):G2 op n ks k 12= .arr 0 33 3 ((ks.take k).map Tm.d):=rfl
theorem B9(op n:Int)(ks:List Tm)(k:Nat){j:Nat}(h1:j≠1)(h2:j≠11)(h3:j≠12):G2 op n ks k j= .no:=by unfold G2;rw[af _ _ _ _ h3,af _ _ _ _ h2,af _ _ _ _ h1]
theorem OS(gone:Nat->Prop)(x:V)(L:List V)(tT:∀id,gone id->12<=id){op n:Int}{ks:List Tm}{k:Nat}{e:Nat->V}{so:Nat->aa}{m:Nat}(gx:gw so gone 33 3 ((ks.take k).map Tm.d) x)
 (s1:so 1= .row [.d (.i 0), .d (.i 0), .ao]) (s11:so 11= .row [.d (.i op), .d (.i n),x]) (he:iL 12 [⟨x,33,3,(ks.take k).map Tm.d⟩] so gone e L 0):bM 0 ⟨e,so,m⟩ ⟨aY L,G2 op n ks k,12+1⟩:=by
 refine bM.sj gone x 12 L ad (fun j hj=> ?_) (fuH_12 op n ks k) gx (fun j hj=>B9 _ _ _ _ ad ad ad) (fun j h1 h2=>absurd (tT j h1) ad) he
 by_cases e1:j=1
 ·subst e1
  rw[fuH_1]
  exact TJ
 ·by_cases e2:j=11
  ·subst e2
   rw[fuH_11]
   exact TQ
  ·rw[B9 _ _ _ _ e1 e2 (by omega)]
   exact lM
theorem Jk{k:Tm}:∀ {l:List Tm},k∈l->k.sz<=py l
 |x::l,h=>by
  rw[show py (x::l)=x.sz+py l from rfl]
  rcases List.mem_cons.1 h with rfl|h
  ·omega
  ·have:=Jk h;omega
mutual
def Tm.wid:Tm->Prop
 | .mk _ _ kids=>kids.length<=1000000/\Tm.OT kids
def Tm.OT:List Tm->Prop
 |[]=>True
 |k::l=>k.wid/\Tm.OT l
end
theorem Tm.ET:∀l:List Tm,Tm.OT l↔∀k∈l,k.wid
 |[]=>by simp[Tm.OT]
 |k::l=>by simp[Tm.OT,Tm.ET l]
theorem Tm.Ca (t:Tm):t.wid↔t.kids.length<=1000000/\∀k∈t.kids,k.wid:=by cases t;simp[Tm.wid,Tm.ET,Tm.kids]
theorem Tm.Z1:∀t:Tm,t.sz<=1000000->t.wid:=by
 refine Tm.eM fun t ih h=> ?_
 rw[Tm.Ca]
 have:=nD t.kids
 have h2:=Tm.iN t
 exact TO
theorem G3{b:List (Int×Tm)}(hb:∀p∈b,p.2.fits):∀ (f:Nat) (t y:Tm),t.fits->v8 f b t=some y->y.wid->a7 Tryz.prog 68 [Ft b,t.d] (.ret [y.d])
 |0,_,_,_,h,_=>by cases h
 |f+1,t,y,ht,h,hz=>by
  simp only[v8]at h
  cases ha:lU f b t with
  |none=>rw[ha]at h;cases h
  |some x=>
  rw[ha]at h
  dsimp only at h
  have Z0:=(Tm.cH x).1 (sG hb f t x ht ha)
  cases hL:EO (v8 f b) x.kids with
  |none=>rw[hL]at h;cases h
  |some ks=>
  rw[hL]at h
  cases h
  obtain⟨Dh,Kh⟩:=B8 hL
  have hkw:=(Tm.Ca _).1 hz
  have hle:ks.length<=1000000:=hkw.1
  refine a7.aH mix aee aF ?_
  rw[c68]
  refine cS ?_
  refine bC (OQ ha) ?_
  refine cS ?_
  refine aC (fun i:Nat=>⟨aY (.d (Ft b):: .ai:: .ai:: .ai:: .ptr 1 0:: .ptr 11 0::dy [.ai, .ai, .ai, .d (.sl (x.kids.map Tm.d)), .d (.i x.kids.length), .d (.i i)]),G2 x.op x.n ks i,12+1⟩)
   (fun i=>i<=x.kids.length) (fun i=>x.kids.length - i) 0 (Nat.zero_le _) (OS (fun _=>False) .ao _ (fun _ h=>h.elim) (.inl ⟨rfl,rfl,bF⟩) bp bp ?_) (fun k hk=> ?_)
  ·exact iV
  replace hk:k<=x.kids.length:=hk
  have q1:=fuH_1 x.op x.n ks k
  have Sq:=fuH_11 x.op x.n ks k
  have Sr:=fuH_12 x.op x.n ks k
  refine eC (ae q1 (ae Sq Sr)) ?_
  refine ak (fun h2=> ?_) (fun h2=> ?_)
  ·replace h2:k<x.kids.length:=by simp at h2;omega
   obtain⟨z,hz⟩:=aA h2
   obtain⟨z',Dc,hF⟩:=Kh k z hz
   have hzm:=List.mem_of_getElem? hz
   have qW:ks.take (k+1)=ks.take k++[z']:=by rw[List.take_add_one,Dc];rfl
   have e0:(ks.take k).length=k:=by rw[List.length_take];omega
   have hzs:z'.wid:=hkw.2 _ (List.mem_of_getElem? Dc)
   have dR:k<=140737488355327/\(k+1)*24<=140737488355328:=ad
   refine eC (ae q1 (ae Sq (ae Sr hz))) ?_
   refine aZ (G3 hb f z z' (Z0.2 z hzm) hF hzs) ?_
   simp+contextual (disch:=first|omega|simp only[go_sem,false_implies]) only[go_sem,wrap64,if_pos,q1,Sq,Sr,hz,List.length_map,e0,if_pos dR]
   refine aL aJ ?_
   refine cS ?_
   refine aj (k+1) h2 ad (OS (fun j=>12<=j) (.osl 12 1) _ (fun _ h=>h) (.inr ⟨12,1,Nat.le_refl _,rfl,by(repeat first|rfl|rw[ab]|rw[af _ _ _ _ (by omega)]);rw[qW,List.map_append];rfl⟩) (gW q1) bp ?_)
   exact iV
  ·replace h2:k=x.kids.length:=by simp at h2;omega
   subst h2
   have Z2:G2 x.op x.n ks x.kids.length 12= .arr 0 33 3 (ks.map Tm.d):=by rw[Sr, <- Dh,List.take_length]
   refine gC (ae q1 (ae Sq Z2)) ?_
   rw[Tm.D4]
theorem nF{b:List (Int×Tm)}(hb:∀p∈b,p.2.fits)(f:Nat)(t y:Tm)(ht:t.fits)(h:v8 f b t=some y)(hz:y.sz<=1000000):a7 Tryz.prog 68 [Ft b,t.d] (.ret [y.d]):=G3 hb f t y ht h (Tm.Z1 y hz)
section
section
variable {σ:Type}(base ss:Nat)(H:σ->Nat->aa)(step:σ->Tm->σ×Bool)(ok:σ->Prop)
end
end
section
theorem Z3{x:Tm}{yb vb base:Nat}{h h2:Nat->aa}{r:Bool}(hS:Au Tryz.prog 165 [.d x.d, .ptr yb 0, .ptr vb 0] base h h2 (.d (.bool r)))(hy:yb<base)(hv:vb<base)(ov:h vb= .row [.func (.func 165) [] [.ptr yb 0, .ptr vb 0]]):
 Au Tryz.prog 167 [.d x.d, .ptr vb 0] base h h2 (.d (.bool (!r))):=by
 intro o nx hI K X hK
 have hle:=hI.le
 have ho:o vb= .row [.func (.func 165) [] [.ptr yb 0, .ptr vb 0]]:=by rw[hI.eq vb hv,ov]
 have y1:∀k,vb≠nx+k:=fun k=>ad
 have y2:vb≠nx:=ad
 refine bJ.aH mix V1 aF ?_
 rw[Zm]
 refine c9 (ae ho (ae y1 y2)) ?_
 refine aT (hS _ _ ?_ _ _ fun o2 n2 m1 m2 m3=> ?_)
 ·exact hI.aw ad ad ad rfl
 refine gB ?_
 exact hK _ _ ad (m2.mono ad) fun id i1 i2=>by rw[m3 id i1 (by omega),af _ _ _ _ (by omega)]
section
variable {σ:Type}(base ss:Nat)(H:σ->Nat->aa)(step:σ->Int->σ×Bool)(ok:σ->Prop)
theorem OU:∀t:Tm,t.fits->(∀x∈uf t,∀s,ok s->(step s x).2=true->ok (step s x).1)->(∀x∈uf t,∀s,ok s->RoC Tryz.prog ss [.d (.i x)] base (H s) (H (step s x).1) (.d (.bool (step s x).2)))->ss<base->
 ∀ (c:Nat) (o0:Nat->aa) (yb vb:Nat),base<=c->base<=yb->yb<c->base<=vb->vb<c->o0 yb= .row [.lC ss]->o0 vb= .row [.func (.func 165) [] [.ptr yb 0, .ptr vb 0]]->
 ∀s,ok s->Au Tryz.prog 165 [.d t.d, .ptr yb 0, .ptr vb 0] c (ext base (H s) o0) (ext base (H (aR step s (uf t)).1) o0) (.d (.bool (aR step s (uf t)).2)):=by
 refine Tm.eM fun t ih hf a8 hR Ep c o0 yb vb hbc hy0 hy hv0 hv oy ov s pQ=> ?_
 have yQ:=(Tm.cH _).1 hf
 intro o nx hI K X hK
 have hle:=hI.le
 have oy':o yb= .row [.lC ss]:=by rw[hI.eq yb hy];unfold ext;rw[if_neg (by omega),oy]
 have ZJ:o vb= .row [.func (.func 165) [] [.ptr yb 0, .ptr vb 0]]:=by rw[hI.eq vb hv];unfold ext;rw[if_neg (by omega),ov]
 have y1:yb≠nx:=ad
 have y2:∀k,yb≠nx+k:=fun k=>ad
 have y3:vb≠nx:=ad
 have y4:∀k,vb≠nx+k:=fun k=>ad
 have qO:=OK t
 have hb:∀id,id<base->o id=H s id:=fun id ay=>by rw[hI.eq id (by omega)];unfold ext;rw[if_pos ay]
 have hIb:fw base (H s) o nx:=⟨hI.cW,ad,hb⟩
 have LS:∀id,base<=id->id<c->o id=o0 id:=fun id h1 h2=>by rw[hI.eq id h2];unfold ext;rw[if_neg (by omega)]
 refine bJ.aH mix VZ aF ?_
 rw[Zk]
 by_cases h1:t.op=1
 ·have fP:(t.op==1)=true:=by simpa using h1
  rw[if_pos h1]at qO
  have CG:aR step s (uf t)=step s t.n:=by
   rw[qO]
   simp only[aR]
   generalize step s t.n=q
   obtain⟨a,b⟩:=q
   cases b<;>rfl
  refine c9 (ae fP (ae oy' (ae ZJ (ae y1 (ae y2 (ae y3 y4)))))) ?_
  refine oN (hR t.n (by rw[qO];simp) s pQ _ _ ?_ _ _ fun o2 n2 m1 m2 m3=> ?_)
  ·exact hIb.aw ad ad ad rfl
  refine gB ?_
  rw[CG]at hK
  have hold:∀id,base<=id->id<nx->o2 id=o id:=fun id h1 h2=>by rw[m3 id h1 (by omega),af _ _ _ _ (by omega)]
  refine hK _ _ ad ⟨m2.cW.mono ad,ad,fun id ay=> ?_⟩ (fun id h1 h2=>hold id ad h2)
  unfold ext
  split
  ·exact m2.eq id (by assumption)
  ·exact QB
 ·have fP:(t.op==1)=false:=by simpa using h1
  rw[if_neg h1]at qO
  have CG:aR step s (uf t)=aR (fun s k=>aR step s (uf k)) s t.kids:=by rw[qO,xI]
  have vf:∀k∈t.kids,∀x∈uf k,x∈uf t:=fun k hk x hx=>by rw[qO];exact List.mem_flatMap.2 ⟨k,hk,hx⟩
  refine c9 (ae fP (ae oy' (ae ZJ (ae y1 (ae y2 (ae y3 y4)))))) ?_
  refine aT (ER t.kids yQ.1 167 [.ptr vb 0] (nx+8) (fun s=>ext base (H s) (aw o nx (.row t.row))) (fun s k=>aR step s (uf k)) ?_ ok ?_ ?_ s pQ _ _ ?_ _ _ ?_)
  ·exact HH
  ·exact Tv
  ·intro k hk s' kE
   refine Z3 (yb:=yb) (ih k hk (yQ.2 k hk) (fun x hx=>a8 x (vf k hk x hx)) (fun x hx=>hR x (vf k hk x hx)) Ep (nx+8) _ yb vb ad hy0 ad hv0 ad ?_ ?_ s' kE) ad ad ?_
   ·(repeat first|rfl|rw[ab]|rw[af _ _ _ _ (by omega)]);exact oy'
   ·(repeat first|rfl|rw[ab]|rw[af _ _ _ _ (by omega)]);exact ZJ
   ·unfold ext;rw[if_neg (by omega)];(repeat first|rfl|rw[ab]|rw[af _ _ _ _ (by omega)]);exact ZJ
  ·exact(hIb.aw ad ad ad rfl).ext ad ad
  ·intro o5 n5 p1 p2 p3
   refine cS ?_
   rw[<- CG]
   have hold:∀id,base<=id->id<nx->o5 id=o id:=fun id h1 h2=>by
    rw[p2.eq id (by omega)];unfold ext;rw[if_neg (by omega),af _ _ _ _ (by omega)]
   refine hK _ _ ad ⟨p2.cW.mono ad,ad,fun id ay=> ?_⟩ (fun id h1 h2=>hold id ad h2)
   rw[CG]
   unfold ext
   split
   ·rw[p2.eq id (by omega)];unfold ext;rw[if_pos (by assumption)]
   ·exact QB
theorem OV(t:Tm)(hf:t.fits)(a8:∀x∈uf t,∀s,ok s->(step s x).2=true->ok (step s x).1)(hR:∀x∈uf t,∀s,ok s->RoC Tryz.prog ss [.d (.i x)] base (H s) (H (step s x).1) (.d (.bool (step s x).2)))(Ep:ss<base)(tb:Nat)(L2:tb<base)(s:σ)(pQ:ok s)(cL:H s tb= .row t.row):
 Au Tryz.prog 164 [.lC ss, .ptr tb 0] base (H s) (H (aR step s (uf t)).1) (.cf []):=by
 intro o nx hI K X hK
 have hle:=hI.le
 have ot:o tb= .row t.row:=by rw[hI.eq tb L2,cL]
 have y1:tb≠nx:=ad
 have y2:∀k,tb≠nx+k:=fun k=>ad
 refine bJ.aH mix VY aF ?_
 rw[Zj]
 refine Fz (ae ot (ae y1 y2)) ?_
 have hI1:fw base (H s) (aw (aw (aw o nx (.row [.lC ss])) (nx+1) (.row [.d .cJ])) (nx+1) (.row [.func (.func 165) [] [.ptr nx 0, .ptr (nx+1) 0]])) (nx+6):=by
  refine((hI.aw (i:=nx) (m:=nx+6) ad ad ad ?_).aw (i:=nx+1) (m:=nx+6) ad ad ad rfl).aw (i:=nx+1) ad ad ad ?_
  ·exact Mg
  ·exact ve
 refine aT (OU base ss H step ok t hf a8 hR Ep (nx+6) _ nx (nx+1) ad hle ad ad ad ?_ ?_ s pQ _ _ (hI1.ext (Nat.le_refl _) ad) _ _ ?_)
 ·exact bp
 ·exact bp
 intro o2 n2 m1 m2 m3
 refine cZ ?_
 refine hK _ _ ad ⟨m2.cW,ad,fun id ay=> ?_⟩ (fun id h1 h2=> ?_)
 ·rw[m2.eq id (by omega)];unfold ext;rw[if_pos ay]
 ·exact Uw
end
theorem OW(t:Tm)(o:Nat->aa)(nx:Nat)(K X:V->(Nat->aa)->Nat->Prop)(h:K (.func (.func 164) [] [.ptr nx 0]) (aw o nx (.row t.row)) (nx+4)):bJ Tryz.prog 149 [.d t.d] o nx K X:=by
 refine bJ.aH mix VT aF ?_
 rw[Ze]
 refine cZ ?_
 exact h
def G4{σ:Type}(J:σ->Option lh)(step:σ->Int->σ)(s:σ)(x:Int):σ×Bool:=(step s x,(J (step s x)).isNone)
theorem EU{σ:Type}(t:Tm)(hf:t.fits){n bq:Nat}{gq:Operand}{ps:List Nat}{kG fV:IC}{Q:gr->S->Prop}{e:Nat->V}{o:Nat->aa}{nx tb:Nat}(env:List V)(he:oM e env 0)
 (Gy:ps.all (fun t=>decide (t<n))=true) (hl:ps.length=1) (hg:Good o nx) (hrefs:∀r∈V.aN env,r<nx) (ht:o tb= .row t.row)
 (G:σ->Nat->aa) (J:σ->Option lh) (step:σ->Int->σ) (ok:σ->Prop) (s0:σ) (pQ:ok s0) (hJ0:J s0=none) (h0:∀id,id<nx->o id=G s0 id) (a8:∀x∈uf t,∀s,ok s->J s=none->J (step s x)=none->ok (step s x))
 (wU:∀L,mj Tryz.prog n env ps kG fV L->(∀st pd m,nx<=m->(L st pd).refs.all (fun r=>decide (r<m))=true)->∀x∈uf t,∀s,ok s->J s=none->∀o3 n3,fw nx (G s) o3 n3->nx<n3->o3 nx=L .ready none->∀K X,
  (∀e' o' n' st pd,n3<=n'->fw nx (G (step s x)) o' n'->o' nx=L st pd->(∀id,nx<id->id<n3->o' id=o3 id)->mi nx K X (Wk (J (step s x))) ⟨e',o',n'⟩)->
  kQ Tryz.prog n n3 true kG (tU Tryz.prog n n3 nx fV K X) ⟨qH (aY env) ps [.d (.i x)],o3,n3⟩)
 (mf:∀o' n',fw nx (G (aR (G4 J step) s0 (uf t)).1) o' n'->rS Q (J (aR (G4 J step) s0 (uf t)).1) ⟨e,o',n'⟩):
 vA Tryz.prog n bq false gq ps kG fV Q ⟨e,o,nx⟩ (.func (.func 164) [] [.ptr tb 0]):=by
 refine GK env he (fun L hL=> ?_)
 have L2:tb<nx:=hg.lt (by rw[ht];exact aa.noConfusion)
 let H:σ->Nat->aa:=fun s id=>if id<nx then G s id else if id=nx then(match J s with|none=>L .ready none|some j=>L .done (some j))else .no
 have tg:∀s id,id<nx->H s id=G s id:=fun s id h=>if_pos h
 have GN:∀s,J s=none->H s nx=L .ready none:=fun s h=>by show(if nx<nx then _ else _)=_;rw[if_neg (by omega),if_pos rfl,h]
 have Wl:∀s j,J s=some j->H s nx=L .done (some j):=fun s j h=>by show(if nx<nx then _ else _)=_;rw[if_neg (by omega),if_pos rfl,h]
 have zg:∀st pd m,nx<=m->(L st pd).refs.all (fun r=>decide (r<m))=true:=fun st pd m hm=>by
  exact Ub
 refine OV (nx+1) nx H (G4 J step) (fun s=>ok s/\J s=none) t hf (fun x hx s h1 h2=> ?_) (fun x hx s h1=> ?_) ad tb ad s0 ⟨pQ,hJ0⟩ (by rw[tg _ _ L2, <- h0 _ L2,ht]) _ _ ⟨?_,Nat.le_refl _,fun id ay=> ?_⟩ _ _ ?_
 ·have hj:J (step s x)=none:=by simpa[G4]using h2
  exact⟨a8 x hx s h1.1 h1.2 hj,hj⟩
 ·intro o3 n3 hI K X hK
  have hle:=hI.le
  have Qo:o3 nx=L .ready none:=by rw[hI.eq nx (by omega),GN s h1.2]
  refine xE hL mix Qo ad Gy (by simp[hl]) ?_
  refine wU L hL zg x hx s h1.1 h1.2 o3 n3 ⟨hI.cW,ad,fun id ay=>by rw[hI.eq id (by omega),tg _ _ ay]⟩ ad Qo K X (fun e' o' n' st pd k1 k2 k3 k4=> ?_)
  have key:∀st' pd' b,(J (step s x)).isNone=b->H (step s x) nx=L st' pd'->K (.d (.bool b)) (aw o' nx (L st' pd')) n':=fun st' pd' b hb hh=>by
   subst hb
   refine hK _ _ k1 ⟨k2.cW.aw ad (zg _ _ _ ad),ad,fun id ay=> ?_⟩ (fun id g1 g2=> ?_)
   ·by_cases yH:id=nx
    ·subst yH;rw[ab];exact hh.symm
    ·rw[af _ _ _ _ yH]
     show o' id=H (step s x) id
     rw[tg _ _ (by omega)];exact k2.eq id ad
   ·rw[af _ _ _ _ (by omega)];exact k4 id ad g2
  cases hj:J (step s x)with
  |none=>exact tV hL k3 (key _ _ _ zw (GN _ hj))
  |some j=>
   cases j with
   |ret=>exact xF hL k3 (key _ _ _ zw (Wl _ _ hj))
   |exit j=>exact uV hL k3 (key _ _ _ zw (Wl _ _ hj))
 ·exact(hg.mono ad).aw ad (zg _ _ _ ad)
 ·by_cases yH:id=nx
  ·subst yH;rw[ab,GN _ hJ0]
  ·exact TP
 ·intro o' n' k1 k2 k3
  have hle:=k2.le
  generalize hsf:(aR (G4 J step) s0 (uf t)).1=sf at*
  have kk:∀st pd,fw nx (G sf) (aw o' nx (L st pd)) n':=fun st pd=>⟨k2.cW.aw ad (zg _ _ _ ad),ad,fun id ay=>by rw[af _ _ _ _ (by omega),k2.eq id (by omega),tg _ _ ay]⟩
  cases hj:J sf with
  |none=>
   refine⟨.ready,none,by rw[k2.eq nx (by omega),GN _ hj],(fun h=>by cases h), ?_⟩
   have:=mf _ _ (kk .exhausted none)
   rwa [hj]at this
  |some j=>
   refine⟨.done,some j,by rw[k2.eq nx (by omega),Wl _ _ hj],(fun h=>by cases h), ?_⟩
   have:=mf _ _ (kk .exhausted (some j))
   rwa [hj]at this
end
def ly(b:List (Int×Tm))(n:Int)(s:List Int×Bool)(v:Int):List Int×Bool:=if v=n then(s.1,true)else match bR b v with
 |none=>(s.1,false)
 |some x=>if v∈s.1 then(s.1,false)else match Qq (b.length+1) b n x (eO s.1 v)with
  |some (is,m)=>(m,is)
  |none=>(s.1,false)
def stJ(s:List Int×Bool):Option lh:=if s.2=true then some .ret else none
theorem sH{b:List (Int×Tm)}{n:Int}:∀ (vs met:List Int) (is:Bool) (m':List Int),OL (Qq b.length b n) b n vs met=some (is,m')->(aR (G4 stJ (ly b n)) (met,false) vs).1=(m',is)
 |[],met,is,m',h=>by cases h;rfl
 |v::vs,met,is,m',h=>by
  simp only[OL]at h
  simp only[aR,G4]
  by_cases e:v=n
  ·rw[if_pos e]at h
   cases h
   have:ly b n (met,false) v=(met,true):=by unfold ly;rw[if_pos e]
   simp only[this];rfl
  ·rw[if_neg e]at h
   cases hl:bR b v with
   |none=>
    rw[hl]at h
    have:ly b n (met,false) v=(met,false):=by unfold ly;rw[if_neg e,hl]
    simp only[this]
    exact sH vs met is m' h
   |some x=>
    rw[hl]at h
    dsimp only at h
    by_cases e2:v∈met
    ·rw[if_pos e2]at h
     have:ly b n (met,false) v=(met,false):=by unfold ly;rw[if_neg e,hl];dsimp only;rw[if_pos e2]
     simp only[this]
     exact sH vs met is m' h
    ·rw[if_neg e2]at h
     cases hF:Qq b.length b n x (eO met v)with
     |none=>rw[hF]at h;cases h
     |some q=>
      obtain⟨i,m⟩:=q
      rw[hF]at h
      have:ly b n (met,false) v=(m,i):=by unfold ly;rw[if_neg e,hl];dsimp only;rw[if_neg e2,EJ hF (Nat.le_succ _)]
      simp only[this]
      cases i with
      |true=>cases h;rfl
      |false=>exact sH vs m is m' h
theorem OX{s:az}{b:List (Int×Tm)}(hb:∀p∈b,Vs s p.2)(oZ:∀p∈b,p.2.fits)(n:Int):∀ (N:Nat) (t:Tm) (met:List Int),yF b met<=N->Vs s t->t.fits->∀ (is:Bool) (gz:List Int),Qq (b.length+1) b n t met=some (is,gz)->
 ∀ (o:Nat->aa) (nx nb bb mb fb mid:Nat),Good o nx->o nb= .row [.d (.i n)]->o bb= .row [.d (Ft b)]->o mb= .row [.mp mid]->o fb= .row [.func (.func 148) [] [.ptr nb 0, .ptr bb 0, .ptr mb 0, .ptr fb 0]]->o mid=Lx met->
 ∀ (K X:V->(Nat->aa)->Nat->Prop),(∀o' nx',nx<=nx'->Good o' nx'->(∀j,j<nx->j≠mid->o' j=o j)->o' mid=Lx gz->K (.d (.bool is)) o' nx')->
 bJ Tryz.prog 148 [.d t.d, .ptr nb 0, .ptr bb 0, .ptr mb 0, .ptr fb 0] o nx K X:=by
 intro N
 induction N using Nat.strongRecOn with
 |ind N ihN=>
  intro t met hN ht Z4 is gz hld o nx nb bb mb fb mid hg o1 o2 o3 o4 o5 K X hK
  have l1:nb<nx:=hg.lt (by rw[o1];exact aa.noConfusion)
  have l2:bb<nx:=hg.lt (by rw[o2];exact aa.noConfusion)
  have l3:mb<nx:=hg.lt (by rw[o3];exact aa.noConfusion)
  have l4:fb<nx:=hg.lt (by rw[o4];exact aa.noConfusion)
  have l5:mid<nx:=hg.lt (by rw[o5];exact aa.noConfusion)
  have d1:nb≠mid:=fun e=>by rw[e,o5]at o1;cases o1
  have d2:bb≠mid:=fun e=>by rw[e,o5]at o2;cases o2
  have d3:mb≠mid:=fun e=>by rw[e,o5]at o3;cases o3
  have d4:fb≠mid:=fun e=>by rw[e,o5]at o4;cases o4
  refine bJ.aH mix VS aF ?_
  rw[Zd]
  refine gB ?_
  refine bI (OW t _ _ _ _ ?_)
  refine gB ?_
  obtain⟨O1,hO1⟩:∃O1:Nat->aa,O1=aw (aw (aw o nx (aa.row [V.d (D.i t.op),V.d (D.i t.n),V.d (D.sl (List.map Tm.d t.kids))])) (nx+1) (aa.row [V.d (D.bool false)])) (nx+3) (aa.row t.row):=⟨_,rfl⟩
  have Ss:Good O1 (nx+7):=by rw[hO1];exact dx
  have hOl:∀j,j<nx->O1 j=o j:=fun j hj=>by rw[hO1];(repeat first|rfl|rw[ab]|rw[af _ _ _ _ (by omega)])
  have ahW:O1 (nx+1)= .row [.d (.bool false)]:=by rw[hO1];(repeat first|rfl|rw[ab]|rw[af _ _ _ _ (by omega)])
  have hO3:O1 (nx+3)= .row t.row:=by rw[hO1];(repeat first|rfl|rw[ab]|rw[af _ _ _ _ (by omega)])
  rw[<- hO1]
  obtain⟨G,hG⟩:∃G:List Int×Bool->Nat->aa,G=fun s=>aw (aw O1 (nx+1) (.row [.d (.bool s.2)])) mid (Lx s.1):=⟨_,rfl⟩
  have gm:∀s,G s mid=Lx s.1:=fun s=>by rw[hG];exact ab _ _ _
  have gc:∀s,G s (nx+1)= .row [.d (.bool s.2)]:=fun s=>by rw[hG];show aw _ mid _ _=_;rw[af _ _ _ _ (by omega),ab]
  have ge:∀s j,j≠mid->j≠nx+1->G s j=O1 j:=fun s j j1 j2=>by rw[hG];show aw _ mid _ _=_;rw[af _ _ _ _ j1,af _ _ _ _ j2]
  have gl:∀s j,j<nx->j≠mid->G s j=o j:=fun s j j1 j2=>by rw[ge s j j2 (by omega),hOl j j1]
  refine EU (σ:=List Int×Bool) t Z4 [.ai, .ptr nb 0, .ptr bb 0, .ptr mb 0, .ptr fb 0, .ai, .ptr (nx+1) 0] ?_ bF rfl Ss HH hO3
   G stJ (ly b n) (fun s=>yF b s.1<=N) (met,false) hN rfl (fun id ay=> ?_) (fun x hx s' h1 h2 h3=> ?_) ?_ ?_
  ·exact Me
  ·by_cases e1:id=mid
   ·subst e1;rw[gm,hOl id (by omega),o5]
   ·by_cases e2:id=nx+1
    ·subst e2;rw[gc,ahW]
    ·rw[ge _ _ e1 e2]
  ·obtain⟨m,fl⟩:=s'
   show yF b (ly b n (m,fl) x).1<=N
   have h1:yF b m<=N:=h1
   unfold ly
   by_cases e:x=n
   ·rw[if_pos e];exact h1
   ·rw[if_neg e]
    cases hl:bR b x with
    |none=>exact h1
    |some y=>
     dsimp only
     by_cases e2:x∈m
     ·rw[if_pos e2];exact h1
     ·rw[if_neg e2]
      have hle:yF b (eO m x)<=b.length:=Nat.le_trans (Nat.le_of_lt (v7 hl e2)) abW
      obtain⟨i1,m1,g1,g2,g3⟩:=Je hb n b.length y (eO m x) hle (hb _ (cm hl))
      have kC:ly b n (m,fl) x=(m1,i1):=by unfold ly;rw[if_neg e,hl];dsimp only;rw[if_neg e2,g1]
      rw[g1]
      rw[kC]at h3
      cases i1 with
      |true=>cases h3
      |false=>
       have:=EK (b:=b) (g3 rfl).1
       have:=v7 hl e2
       show yF b m1<=N
       omega
  ·intro L hL zg v hv s' ta Im O3 n3 hI hn Qo K' X' eZ
   obtain⟨m,fl⟩:=s'
   have re:fl=false:=by
    cases fl with
    |false=>rfl
    |true=>cases Im
   subst re
   have ta:yF b m<=N:=ta
   simp only[qH]
   have hg:=hI.cW
   have hle:=hI.le
   have q1:O3 nb= .row [.d (.i n)]:=by rw[hI.eq nb (by omega),gl _ _ (by omega) d1,o1]
   have q2:O3 bb= .row [.d (Ft b)]:=by rw[hI.eq bb (by omega),gl _ _ (by omega) d2,o2]
   have q3:O3 mb= .row [.mp mid]:=by rw[hI.eq mb (by omega),gl _ _ (by omega) d3,o3]
   have q4:O3 fb= .row [.func (.func 148) [] [.ptr nb 0, .ptr bb 0, .ptr mb 0, .ptr fb 0]]:=by rw[hI.eq fb (by omega),gl _ _ (by omega) d4,o4]
   have q5:O3 mid=Lx m:=by rw[hI.eq mid (by omega),gm]
   have q6:O3 (nx+1)= .row [.d (.bool false)]:=by rw[hI.eq (nx+1) (by omega),gc]
   have same:∀ (o':Nat->aa) (n':Nat) (s:List Int×Bool),Good o' n'->n3<=n'->(∀j,j<nx+7->o' j=aw (aw O3 (nx+1) (.row [.d (.bool s.2)])) mid (Lx s.1) j)->fw (nx+7) (G s) o' n':=fun o' n' s k1 k2 k3=>⟨k1,ad,fun j hj=>by
    rw[k3 j hj]
    by_cases e1:j=mid
    ·subst e1;rw[ab,gm]
    ·rw[af _ _ _ _ e1]
     by_cases e2:j=nx+1
     ·subst e2;rw[ab,gc]
     ·rw[af _ _ _ _ e2,hI.eq j hj,ge _ _ e1 e2,ge _ _ e1 e2]⟩
   have z1:∀k,nb≠n3+k:=fun k=>ad
   have z2:∀k,bb≠n3+k:=fun k=>ad
   have z3:∀k,mb≠n3+k:=fun k=>ad
   have z4:∀k,fb≠n3+k:=fun k=>ad
   have z5:∀k,mid≠n3+k:=fun k=>ad
   have z6:∀k,nx+1≠n3+k:=fun k=>ad
   refine cS ?_
   refine oO hL (pd:=none) ?_ ?_
   ·(repeat first|rfl|rw[ab]|rw[af _ _ _ _ (by omega)])
    exact Qo
   refine gC (ae q1 (ae q2 (ae q3 (ae q4 (ae q5 q6))))) ?_
   refine ak (fun h3=> ?_) (fun h3=> ?_)
   ·have j7:v=n:=by simpa using h3
    have kC:ly b n (m,false) v=(m,true):=by unfold ly;rw[if_pos j7]
    rw[kC]at eZ
    refine gC (ae q1 (ae q2 (ae q3 (ae q4 (ae q5 q6))))) ?_
    refine eZ _ _ _ .busy none ad (same _ _ _ dx ad fun j hj=> ?_) bp (fun id h3 h4=>bp)
    by_cases e1:j=mid
    ·exact W0
    ·by_cases e2:j=nx+1
     ·exact W2
     ·exact bp
   ·have j7:v≠n:=by simpa using h3
    cases hl:bR b v with
    |none=>
     have kC:ly b n (m,false) v=(m,false):=by unfold ly;rw[if_neg j7,hl]
     rw[kC]at eZ
     cases hc:m.contains v
     all_goals
      refine gC (ae q1 (ae q2 (ae q3 (ae q4 (ae q5 (ae q6 (ae (dS hl) (ae hc @pB)))))))) ?_
      refine eZ _ _ _ .busy none ad (same _ _ _ dx ad fun j hj=> ?_) bp (fun id h3 h4=>bp)
      by_cases e1:j=mid
      ·exact W0
      ·by_cases e2:j=nx+1
       ·exact ab6
       ·exact bp
    |some y=>
     obtain⟨jy,hj⟩:=gI hl
     have R3:=cm hl
     cases hc:m.contains v with
     |true=>
      have zT:v∈m:=List.contains_iff_mem.1 hc
      have kC:ly b n (m,false) v=(m,false):=by unfold ly;rw[if_neg j7,hl];dsimp only;rw[if_pos zT]
      rw[kC]at eZ
      refine gC (ae q1 (ae q2 (ae q3 (ae q4 (ae q5 (ae q6 (ae hj (ae hc @pB)))))))) ?_
      refine eZ _ _ _ .busy none ad (same _ _ _ dx ad fun j hj=> ?_) bp (fun id h3 h4=>bp)
      by_cases e1:j=mid
      ·exact W0
      ·by_cases e2:j=nx+1
       ·exact ab6
       ·exact bp
     |false=>
      have zT:v∉m:=fun h=>by rw[List.contains_iff_mem.2 h]at hc;cases hc
      have cD:=v7 hl zT
      have Np:yF b (eO m v)<=b.length:=Nat.le_trans (Nat.le_of_lt cD) abW
      obtain⟨i1,m1,g1,_,_⟩:=Je hb n b.length y (eO m v) Np (hb _ R3)
      have kC:ly b n (m,false) v=(m1,i1):=by unfold ly;rw[if_neg j7,hl];dsimp only;rw[if_neg zT,g1]
      rw[kC]at eZ
      refine gC (ae q1 (ae q2 (ae q3 (ae q4 (ae q5 (ae q6 (ae z1 (ae z2 (ae z3 (ae z4 (ae z5 (ae z6 (ae hj (ae hc @pB)))))))))))))) ?_
      refine aT (ihN _ ad y (eO m v) (Nat.le_refl _) (hb _ R3) (oZ _ R3) i1 m1 g1 _ _ nb bb mb fb mid ?_ ?_ ?_ ?_ ?_ ?_ _ _ fun o4' n4 w1 w2 w3 w4=> ?_)
      ·exact dx
      ·(repeat first|rfl|rw[ab]|rw[af _ _ _ _ (by omega)]);exact q1
      ·(repeat first|rfl|rw[ab]|rw[af _ _ _ _ (by omega)]);exact q2
      ·(repeat first|rfl|rw[ab]|rw[af _ _ _ _ (by omega)]);exact q3
      ·(repeat first|rfl|rw[ab]|rw[af _ _ _ _ (by omega)]);exact q4
      ·exact bp
      have p7:o4' (nx+7)=L .busy none:=by rw[w3 (nx+7) (by omega) (by omega)];(repeat first|rfl|rw[ab]|rw[af _ _ _ _ (by omega)])
      have p6:o4' (nx+1)= .row [.d (.bool false)]:=by rw[w3 (nx+1) (by omega) (by omega)];(repeat first|rfl|rw[ab]|rw[af _ _ _ _ (by omega)]);exact q6
      have pj:∀j,j<nx+7->j≠mid->o4' j=O3 j:=fun j j1 j2=>by rw[w3 j (by omega) j2];(repeat first|rfl|rw[ab]|rw[af _ _ _ _ (by omega)])
      have ph:∀j,nx+7<j->j<n3->o4' j=O3 j:=fun j j1 j2=>by rw[w3 j (by omega) (by omega)];(repeat first|rfl|rw[ab]|rw[af _ _ _ _ (by omega)])
      clear hg
      have hg:=w2
      cases i1 with
      |true=>
       refine gC p6 ?_
       refine eZ _ _ _ .busy none ad (same _ _ _ dx ad fun j hj=> ?_) (gW p7) (fun id h3 h4=>by(repeat first|rfl|rw[ab]|rw[af _ _ _ _ (by omega)])<;>exact ph id h3 h4)
       by_cases e1:j=mid
       ·exact ab7
       ·by_cases e2:j=nx+1
        ·exact W2
        ·exact Ts
      |false=>
       refine gC p6 ?_
       refine eZ _ _ _ .busy none ad (same _ _ _ dx ad fun j hj=> ?_) p7 (fun id h3 h4=>ph id h3 h4)
       by_cases e1:j=mid
       ·exact ab7
       ·by_cases e2:j=nx+1
        ·subst e2;(repeat first|rfl|rw[ab]|rw[af _ _ _ _ (by omega)]);exact p6
        ·exact Ts
  ·intro o' n' hI
   rw[sH (uf t) met is gz hld]at hI|-
   have p6:o' (nx+1)= .row [.d (.bool is)]:=by rw[hI.eq (nx+1) (by omega),gc]
   have hle:=hI.le
   have hg:=hI.cW
   cases is with
   |true=>
    rw[show stJ (gz,true)=some .ret from rfl]
    simp only[rS]
    refine gC p6 ?_
    exact hK _ _ ad dx (fun j j1 j2=>by rw[hI.eq j (by omega),gl _ _ j1 j2]) (by rw[hI.eq mid (by omega),gm])
   |false=>
    rw[show stJ (gz,false)=none from rfl]
    simp only[rS]
    refine gC p6 ?_
    refine hK _ _ ad dx (fun j j1 j2=> ?_) ?_
    ·(repeat first|rfl|rw[ab]|rw[af _ _ _ _ (by omega)]);rw[hI.eq j (by omega),gl _ _ j1 j2]
    ·(repeat first|rfl|rw[ab]|rw[af _ _ _ _ (by omega)]);rw[hI.eq mid (by omega),gm]
theorem Jl{s:az}{b:List (Int×Tm)}(hb:∀p∈b,Vs s p.2)(oZ:∀p∈b,p.2.fits)(n:Int)(t:Tm)(ht:Vs s t)(Z4:t.fits){is:Bool}(G5:is=true↔oY b n t):
 a7 Tryz.prog 120 [Ft b,t.d, .i n] (.ret [.bool is]):=by
 obtain⟨i1,m1,g1,g2⟩:=ZX hb n ht
 have:is=i1:=by rw[Bool.eq_iff_iff,G5,g2]
 subst this
 refine a7.aH mix VH aF ?_
 rw[Y2]
 refine cS ?_
 have hN:yF b []<=b.length:=by unfold yF;exact Nat.le_trans (List.length_filter_le _ _) abQ
 refine aT (OX hb oZ n b.length t [] hN ht Z4 is m1 g1 _ _ 2 0 5 7 4 dx rfl rfl rfl rfl rfl _ _ fun o' nx' w1 w2 w3 w4=> ?_)
 exact qo
structure BL (l:List TB):Prop where
 len:l.length<=100
 sz:∀x∈l,x.term.sz<=1000
def nG(l:List TB):Bool:=decide ((l.length:Int)<=25)&&l.all fun x=>dI x.term
theorem Cb(l:List TB)(hl:l.length<=9223372036854775807)(hx:∀x∈l,x.term.fits):a7 Tryz.prog 53 [.sl (l.map TB.d)] (.ret [.bool (nG l)]):=by
 refine a7.aH mix ahm aF ?_
 rw[c53]
 refine cS ?_
 refine aC (fun k:Nat=>⟨aY [.d (.sl (l.map TB.d)), .ai, .ai, .d (.i k)],fun _=> .no,0⟩)
  (fun k=>k<=l.length/\k<=26/\∀j x,j<k->l[j]? =some x->dI x.term=true) (fun k=>l.length - k) 0 ⟨Nat.zero_le _,ad,fun _ _ h=>absurd h ad⟩ (bM.d0 _ ?_) (fun k hk=> ?_)
 ·exact dU
 obtain⟨k1,k2,k3⟩:=hk
 have fin: ¬ (k<l.length/\k<=25)->nG l=decide ((l.length:Int)<=25):=by
  intro h
  unfold nG
  by_cases h5:(l.length:Int)<=25
  ·have:(l.all fun x=>dI x.term)=true:=by
    rw[List.all_eq_true]
    intro x hx
    obtain⟨j,hj,e⟩:=List.getElem_of_mem hx
    exact k3 j x ad MB
   rw[this,Bool.and_true]
  ·rw[decide_eq_false h5];rfl
 by_cases h2:k<l.length
 ·have l7:decide ((k:Int)<(l.length:Int))=true:=by simpa using h2
  by_cases h3:k<=25
  ·have j7:decide ((k:Int)<=25)=true:=by simp;omega
   obtain⟨x,L4⟩:=aA h2
   have cj:=List.mem_of_getElem? L4
   refine eC (ae l7 (ae j7 L4)) ?_
   refine ax (pw x.term (hx x cj)) rfl ?_
   cases h4:dI x.term with
   |false=>
    have:nG l=false:=by
     unfold nG
     have:(l.all fun x=>dI x.term)=false:=by
      rw[Bool.eq_false_iff];intro h;rw[List.all_eq_true]at h;have:=h x cj;rw[h4]at this;cases this
     rw[this,Bool.and_false]
    exact FK
   |true=>
    refine cS ?_
    refine aj (k+1) ⟨h2,ad,fun j y hj hy=> ?_⟩ ad (bM.d0 _ ?_)
    ·by_cases e:j=k
     ·subst e;rw[L4]at hy;injection hy with hy;rw[<- hy];exact h4
     ·exact k3 j y ad hy
    ·exact dU
  ·have j7:decide ((k:Int)<=25)=false:=by simp;omega
   rw[fin (by omega)]
   exact rk (ae l7 j7)
 ·have l7:decide ((k:Int)<(l.length:Int))=false:=by simp;omega
  rw[fin (by omega)]
  exact rk l7
theorem AF{b:List (Int×Tm)}(oZ:∀p∈b,p.2.fits)(hle:∀p∈b,∃f r,tc f b p.2 40 12=some r){ok:Bool}(a8:ok=true↔∀p∈b,AE b p.2):a7 Tryz.prog 121 [Ft b] (.ret [.bool ok]):=by
 refine a7.aH mix VI aF ?_
 rw[Y3]
 refine gC @pB ?_
 refine aC (fun i:List (Int×Tm)×Option (D×D)=>⟨aY [.d (Ft b), .ai, .ai, .ai, .ai, .ai, .ptr 2 0],aw (fun _=> .no) 2 (.s8 (enc (D.int .i64) (jR i.1)) i.2),3⟩)
  (fun i=>(∀p∈i.1,p∈b)/\(ok=true↔∀p∈i.1,AE b p.2)) (fun i=>i.1.length) (b,none) ⟨fun _ h=>h,a8⟩ ?_ ?_
 ·dsimp only
  refine bM.bQ _ ad ad dx (fun j hj=>rfl) ?_
  exact dU
 rintro⟨rest,last⟩ ⟨hr,ho⟩
 dsimp only at hr ho|-
 refine cS ?_
 refine tZ (fun h0=> ?_) fun i k x hm=> ?_
 ·subst h0
  have:ok=true:=ho.2 (fun p hp=>by cases hp)
  exact A0
 ·have jD:=List.mem_of_getElem? hm
  have Qi:=hr _ jD
  obtain⟨f,r,hf⟩:=hle _ Qi
  have hlen:(rest.eraseIdx i).length<rest.length:=by
   exact Xp
  have wx:=qU hm
  refine cS ?_
  refine ax (OR f x 40 12 r (oZ _ Qi) oZ ad ad hf) rfl ?_
  have dn:=Jf hf
  by_cases h0:r<0
  ·have Bd:decide (r<0)=true:=decide_eq_true h0
   have:ok=false:=by
    cases ok with
    |false=>rfl
    |true=>
     have:=dn.1 (ho.1 rfl _ jD)
     omega
   subst this
   exact qp Bd
  ·have Bd:decide (r<0)=false:=decide_eq_false h0
   refine gC Bd ?_
   refine aj (rest.eraseIdx i,some (.int .i64 k,x.d)) ⟨fun p hp=>hr p (wx.mem_iff.1 (List.mem_cons_of_mem _ hp)),ho.trans ⟨fun h p hp=>h p (wx.mem_iff.1 (List.mem_cons_of_mem _ hp)),fun h p hp=> ?_⟩⟩ hlen (bM.bQ _ (show 0<=3 from ad) ad dx (fun j hj=> ?_) ?_)
   ·rcases List.mem_cons.1 (wx.mem_iff.2 hp)with rfl|hp
    ·exact dn.2 ad
    ·exact h p hp
   ·by_cases e:j=2
    ·exact qq
    ·exact bp
   ·exact dU
structure Nt where
 a:Tm
 b:Tm
@[reducible] def Nt.d (n:Nt):D:= .agg [.i n.a.op, .i n.a.n, .sl (n.a.kids.map Tm.d), .i n.b.op, .i n.b.n, .sl (n.b.kids.map Tm.d)]
@[reducible] def uh (m:Int×Int):D:= .agg [.i m.1, .i m.2]
structure b9 where
 sig:az
 binds:List TB
 aD:List Nt
 marks:List (Int×Int)
@[reducible] def b9.d (s:b9):D:= .agg [.sl (s.sig.cons.map fj.d), .sl (s.sig.ct.map fj.d), .sl (s.binds.map TB.d), .sl (s.aD.map Nt.d), .sl (s.marks.map uh)]
@[reducible] def b9.row (s:b9):List V:=[.d (.sl (s.sig.cons.map fj.d)), .d (.sl (s.sig.ct.map fj.d)), .d (.sl (s.binds.map TB.d)), .d (.sl (s.aD.map Nt.d)), .d (.sl (s.marks.map uh))]
@[reducible] def b9.kd (s:b9) (b:List (Int×Tm)):D:= .agg [.sl (s.sig.cons.map fj.d), .sl (s.sig.ct.map fj.d), .sl (s.binds.map TB.d), .sl (s.aD.map Nt.d), .sl (s.marks.map uh),Ft b]
def bT(s:az)(t:Tm):Bool:=jQ s [t]&&oS t
theorem o6(s:b9)(hs:s.sig.Fits)(b:List (Int×Tm))(t:Tm)(ht:t.Fin):a7 Tryz.prog 99 [s.kd b,t.d] (.ret [.bool (bT s.sig t)]):=by
 refine a7.aH mix ael aF ?_
 rw[c99]
 refine cS ?_
 refine ax (GX s.sig hs t ht) rfl ?_
 unfold bT
 cases h:jQ s.sig [t]with
 |false=>
  exact abA
 |true=>
  exact abA
theorem AG(s:b9){b:List (Int×Tm)}(hb:∀p∈b,p.2.fits)(n:Nt)(ha:n.a.fits)(yK:n.b.fits){f:Nat}{x y:Tm}(hx:v8 f b n.a=some x)(hy:v8 f b n.b=some y)(fx:x.fits)(fy:y.fits)(zx:x.sz<=1000000)(zy:y.sz<=1000000):
 a7 Tryz.prog 66 [s.kd b,n.d] (.ret [.bool (iH x y)]):=by
 refine a7.aH mix aec aF ?_
 rw[c66]
 refine cS ?_
 refine aZ (nF hb f n.a x ha hx zx) ?_
 refine cS ?_
 refine aZ (nF hb f n.b y yK hy zy) ?_
 refine cS ?_
 refine bf (Sp x fx y fy) rfl ?_
 exact QM
def EV(b:List (Int×Tm))(n:Nt):Prop:=∃f x,v8 f b n.a=some x/\v8 f b n.b=some x
def ui(nb nn:Int):Int×Int->List (Int×Int)->Bool
 |_,[]=>true
 |l,m::ms=> !(decide (m.1<l.1)||decide (m.1>nb)||decide (m.2<l.2)||decide (m.2>nn))&&ui nb nn m ms
structure jG (s:az) (l:List TB):Prop where
 len:l.length<=20
 keys:((ag l).map (·.1)).Nodup
 ok:∀x∈l,(0<=x.var/\x.var<20)/\bT s x.term=true
 Fu:ZY (ag l)
 Su:∀x∈l,AE (ag l) x.term
structure bn (s:b9):Prop where
 sig:jP s.sig=true
 sI:s.aD.length<=12
 EW:s.marks.length<=8
 gA:jG s.sig s.binds
 aD:∀n∈s.aD,bT s.sig n.a=true/\bT s.sig n.b=true/\ ¬EV (ag s.binds) n
 marks:ui s.binds.length s.aD.length (0,0) s.marks=true
structure b9.Fin (s:b9):Prop where
 sig:s.sig.Fits
 bl:s.binds.length<=1000
 nl:s.aD.length<=1000
 ml:s.marks.length<=1000
 bt:∀x∈s.binds,x.term.Fin
 nt:∀n∈s.aD,n.a.Fin/\n.b.Fin
theorem bc{s:az}{t:Tm}(h:bT s t=true):Vs s t/\t.sz<=40/\t.lL<=12:=by
 unfold bT jQ at h
 simp only[Bool.and_eq_true,List.all_cons,List.all_nil,Bool.and_true]at h
 obtain⟨⟨_,h1⟩,h2⟩:=h
 rw[qS]at h1
 rw[pz h1]at h2
 have h3:=Jb h1
 unfold il at h1
 rw[Bool.and_eq_true]at h1
 exact⟨⟨h1.2,h2⟩,h3.2⟩
theorem cz{l:List TB}{p:Int×Tm}(h:p∈ag l):∃x∈l,p=(x.var,x.term):=by
 obtain⟨x,hx,rfl⟩:=List.mem_map.1 h
 exact⟨x,hx,rfl⟩
theorem fe{l:List TB}{x:TB}(h:x∈l):(x.var,x.term)∈ag l:=List.mem_map.2 ⟨x,h,rfl⟩
theorem xZ(l:List TB){k:Nat}{x:TB}(h:l[k]? =some x):ag (l.take (k+1))=ag (l.take k)++[(x.var,x.term)]:=by
 unfold ag
 rw[List.take_add_one,h,List.map_append];rfl
theorem jr{s:az}{l:List TB}(hk:((ag l).map (·.1)).Nodup)(ho:∀x∈l,(0<=x.var/\x.var<20)/\bT s x.term=true)(ha:ZY (ag l)):∃l' ρ R,kp s (ag l) l' ρ R/\dK s l':=
 OO hk (fun p hp=>by
  obtain⟨x,hx,rfl⟩:=cz hp
  exact⟨(ho x hx).1,(bc (ho x hx).2).1⟩) ha
theorem wb{s:az}{b:List (Int×Tm)}{l:List TB}{ρ:Int->Nat}{R:Nat}(h:kp s b l ρ R){n:Nt}(ha:Vs s n.a)(hb:Vs s n.b):EV b n↔aO (ag l) n.a=aO (ag l) n.b:=by
 have e1:=nP h _ n.a ha (Nat.le_refl _)
 have e2:=nP h _ n.b hb (Nat.le_refl _)
 constructor
 ·rintro⟨f,x,h1,h2⟩
  obtain⟨g,hg⟩:∃g,g=f+(R+3+((aO (ag l) n.a).sz+(aO (ag l) n.b).sz)):=⟨_,rfl⟩
  have k1:=iQ h1 (show f<=g from ad)
  have k2:=iQ h2 (show f<=g from ad)
  rw[iQ e1 (show _<=g by omega)]at k1
  rw[iQ e2 (show _<=g by omega)]at k2
  exact Option.some.inj (k1.trans k2.symm)
 ·intro h
  refine⟨R+3+((aO (ag l) n.a).sz+(aO (ag l) n.b).sz),aO (ag l) n.a,iQ e1 ad, ?_⟩
  rw[h]
  exact iQ e2 ad
theorem Jm{F:Tm->Int->Option Int}:∀ {ks:List Tm} {n r:Int},n<0->AD F ks n=some r->r=n
 |[],n,r,_,h=>by cases h;rfl
 |k::ks,n,r,hn,h=>by
  simp only[AD]at h
  rw[if_pos hn]at h
  cases h;rfl
theorem OY{F:Tm->Int->Option Int}{g:Tm->Nat}:∀ {ks:List Tm} {n r:Int},(∀k∈ks,∀m q,F k m=some q->0<=q->(g k:Int)=m - q)->AD F ks n=some r->0<=r->(((ks.map g).sum:Nat):Int)=n - r
 |[],n,r,_,h,_=>by cases h;simp
 |k::ks,n,r,hF,h,hr=>by
  have h0:=h
  simp only[AD]at h
  split at h
  ·cases h;omega
  ·cases e:F k n with
   |none=>rw[e]at h;cases h
   |some q=>
    rw[e]at h
    have hq:0<=q:=by
     rcases Int.lt_or_le q 0 with hq|hq
     ·have:=Jm hq h;omega
     ·exact hq
    have h1:=hF k aF n q e hq
    have h2:=OY (g:=g) (fun y hy=>hF y jX) h hr
    rw[List.map_cons,List.sum_cons]
    omega
theorem OZ{s:az}{b:List (Int×Tm)}{l:List TB}{ρ:Int->Nat}{R:Nat}(h:kp s b l ρ R):∀ (f:Nat) (t:Tm) (n:Int) (d:Nat) (r:Int),Vs s t->tc f b t n d=some r->0<=r->((aO (ag l) t).sz:Int)=n - r
 |0,_,_,_,_,_,h,_=>by cases h
 |f+1,t,n,d,r,ht,hl,hr=>by
  simp only[tc]at hl
  obtain⟨x,a1,a2,a3,a4,_⟩:=h.root ht
  cases ha:lU f b t with
  |none=>rw[ha]at hl;cases hl
  |some y=>
  have e1:=fO a1 (show R+2<=f+(R+2)from ad)
  rw[fO ha (show f<=f+(R+2) by omega)]at e1
  cases e1
  rw[ha]at hl
  cases d with
  |zero=>cases hl;omega
  |succ d=>
   dsimp only at hl
   have h1:=OY (g:=fun k=>(aO (ag l) k).sz) (fun k hk m q hq hq0=>OZ h f k m d q (a2.lu hk) hq hq0) hl hr
   rw[<- a3]
   by_cases hx:x.op=1
   ·have e:=a2.eta hx
    have hk:x.kids=[]:=by rw[e];rfl
    have hv:aO (ag l) x=x:=by rw[dW a2 hx,show Lv (ag l) x.n= .mk 1 x.n [] by simp[Lv,(h.vX _).1 (a4 hx)]];exact e.symm
    rw[hk]at h1
    rw[hv,Tm.iN,hk]
    simp[py]at h1|-
    omega
   ·rw[eo hx,Tm.iN]
    have:py (Tm.mk x.op x.n (x.kids.map (aO (ag l)))).kids=(x.kids.map fun k=>(aO (ag l) k).sz).sum:=by
     show py (x.kids.map (aO (ag l)))=_
     unfold py
     rw[List.map_map];rfl
    rw[this]
    omega
theorem G6{s:az}{b:List (Int×Tm)}{l:List TB}{ρ:Int->Nat}{R:Nat}(h:kp s b l ρ R){t:Tm}(ht:Vs s t)(hf:AE b t):(aO (ag l) t).sz<=40:=by
 obtain⟨f,r,h1,h2⟩:=hf
 have:=OZ h f t 40 12 r ht h1 h2
 omega
theorem afj{s:az}{b:List (Int×Tm)}(hb:∀v,(Lv b v).sz<=40):∀t:Tm,Vs s t->(aO b t).sz<=40*t.sz:=by
 refine Tm.eM fun t ih ht=> ?_
 by_cases h1:t.op=1
 ·rw[dW ht h1]
  have:=hb t.n
  have:=Tm.qR t
  omega
 ·rw[eo h1,Tm.iN,Tm.iN t]
  show 1+py (t.kids.map (aO b))<=40*(1+py t.kids)
  have key:∀ks:List Tm,(∀k∈ks,(aO b k).sz<=40*k.sz)->py (ks.map (aO b))<=40*py ks:=by
   intro ks
   induction ks with
   |nil=>intro _;simp[py]
   |cons k ks vC=>
    intro h
    have h1:=h k aF
    have h2:=vC fun y hy=>h y jX
    rw[List.map_cons,mJ,mJ]
    omega
  have:=key t.kids fun k hk=>ih k hk (ht.lu hk)
  omega
theorem lP{s:az}{b:List (Int×Tm)}{l:List TB}{ρ:Int->Nat}{R:Nat}(h:kp s b l ρ R)(hf:∀p∈b,AE b p.2){t:Tm}(ht:Vs s t):(aO (ag l) t).sz<=40*t.sz:=by
 refine afj (fun v=> ?_) t ht
 cases hx:bR b v with
 |none=>
  have:Lv (ag l) v= .mk 1 v []:=by simp[Lv,(h.vX v).1 hx]
  rw[this,Tm.iN]
  simp[Tm.kids,py]
 |some x=>
  obtain⟨g1,g2,_⟩:=h.ok v x hx
  rw[g2]
  exact G6 h g1 (hf _ (cm hx))
end Go.Proofs.YtlhemmpklhhgoaaGreat
section
namespace Go.Proofs.YtlhemmpklhhgoaaGreat
open Classical in
noncomputable def gV(lim:Bool)(b:List (Int×Tm))(n:Int)(t:Tm):Int×List (Int×Tm):=
 if oY b n t then(5,b)else if lim=true/\ ¬ (∀p∈b++[(n,t)],AE (b++[(n,t)]) p.2)then(3,b++[(n,t)])else(0,b++[(n,t)])
open Classical in
noncomputable def im(b:List (Int×Tm))(t:Tm):Option Tm:=if h:∃x g,lU g b t=some x then some h.choose else none
theorem c8{b:List (Int×Tm)}{g:Nat}{t x:Tm}(h:lU g b t=some x):im b t=some x:=by
 have hx:∃x g,lU g b t=some x:=⟨x,g,h⟩
 unfold im
 rw[dif_pos hx]
 obtain⟨g',h'⟩:=hx.choose_spec
 have e1:=fO h (Nat.le_max_left g g')
 rw[fO h' (Nat.le_max_right g g')]at e1
 exact e1
theorem sJ{b:List (Int×Tm)}{t x:Tm}(h:im b t=some x):∃g,lU g b t=some x:=by
 unfold im at h
 split at h
 ·rename_i hx
  injection h with h
  subst h
  exact hx.choose_spec
 ·cases h
def lX(F:Tm->Tm->List (Int×Tm)->Option (Int×List (Int×Tm))):List Tm->List Tm->List (Int×Tm)->Option (Int×List (Int×Tm))
 |k::ks,k'::cK,b=>match F k k' b with
  |some (e,b1)=>if e=0 then lX F ks cK b1 else some (e,b1)
  |none=>none
 |_,_,b=>some (0,b)
noncomputable def jJ(lim:Bool):Nat->Tm->Tm->List (Int×Tm)->Option (Int×List (Int×Tm))
 |0,_,_,_=>none
 |f+1,a,c,b=>match im b a,im b c with
  |some x,some y=>
   if x.op=1 then
    if y.op=1 then(if x.n=y.n then some (0,b)else some (gV lim b (max x.n y.n) (.mk 1 (min x.n y.n) [])))
    else some (gV lim b x.n y)
   else if y.op=1 then some (gV lim b y.n x)
   else if x.op=y.op/\x.n=y.n/\x.kids.length=y.kids.length then lX (jJ lim f) x.kids y.kids b
   else some (5,b)
  |_,_=>none
noncomputable def kX(lim:Bool)(top:Nat):Nat->List (Tm×Tm)->List (Int×Tm)->Option (Int×List (Int×Tm))
 |0,_,_=>none
 |f+1,[],b=>some (0,b)
 |f+1,(a,c)::st,b=>if st.length≥top then none else match im b a,im b c with
  |some x,some y=>
   if x.op=1 then
    if y.op=1 then(if x.n=y.n then kX lim top f st b else
     if(gV lim b (max x.n y.n) (.mk 1 (min x.n y.n) [])).1=0 then kX lim top f st (gV lim b (max x.n y.n) (.mk 1 (min x.n y.n) [])).2 else some (gV lim b (max x.n y.n) (.mk 1 (min x.n y.n) [])))
    else if(gV lim b x.n y).1=0 then kX lim top f st (gV lim b x.n y).2 else some (gV lim b x.n y)
   else if y.op=1 then(if(gV lim b y.n x).1=0 then kX lim top f st (gV lim b y.n x).2 else some (gV lim b y.n x))
   else if x.op=y.op/\x.n=y.n/\x.kids.length=y.kids.length then kX lim top f (x.kids.zip y.kids++st) b
   else some (5,b)
  |_,_=>none
theorem mo{F G:Tm->Tm->List (Int×Tm)->Option (Int×List (Int×Tm))}(EH:∀k k' b r,F k k' b=some r->G k k' b=some r):∀ {ks cK:List Tm} {b:List (Int×Tm)} {r:Int×List (Int×Tm)},lX F ks cK b=some r->lX G ks cK b=some r
 |[],_,_,_,h=>by simpa[lX]using h
 |_::_,[],_,_,h=>by simpa[lX]using h
 |k::ks,k'::cK,b,r,h=>by
  simp only[lX]at h|-
  cases e:F k k' b with
  |none=>rw[e]at h;cases h
  |some q=>
   rw[e]at h
   rw[EH _ _ _ _ e]
   dsimp only at h|-
   split at h
   ·rename_i e0;rw[if_pos e0];exact mo EH h
   ·rename_i e0;rw[if_neg e0];exact h
theorem eQ{lim:Bool}:∀ {f g:Nat} {t u:Tm} {b:List (Int×Tm)} {r:Int×List (Int×Tm)},jJ lim f t u b=some r->f<=g->jJ lim g t u b=some r
 |0,_,_,_,_,_,h,_=>by cases h
 |f+1,0,_,_,_,_,h,hg=>ad
 |f+1,g+1,t,u,b,r,h,hg=>by
  simp only[jJ]at h|-
  cases ha:im b t with
  |none=>rw[ha]at h;cases h
  |some x=>
  cases hc:im b u with
  |none=>rw[ha,hc]at h;cases h
  |some y=>
  rw[ha,hc]at h
  skip
  dsimp only at h|-
  split at h
  ·rename_i h1;rw[if_pos h1];exact h
  ·rename_i h1
   rw[if_neg h1]
   split at h
   ·rename_i h2;rw[if_pos h2];exact h
   ·rename_i h2
    rw[if_neg h2]
    split at h
    ·rename_i h3;rw[if_pos h3];exact mo (fun k k' b r hk=>eQ hk ad) h
    ·rename_i h3;rw[if_neg h3];exact h
theorem iq{lim:Bool}{top:Nat}:∀ {f g:Nat} {st:List (Tm×Tm)} {b:List (Int×Tm)} {r:Int×List (Int×Tm)},kX lim top f st b=some r->f<=g->kX lim top g st b=some r
 |0,_,_,_,_,h,_=>by cases h
 |f+1,0,_,_,_,h,hg=>ad
 |f+1,g+1,[],b,r,h,hg=>h
 |f+1,g+1,(t,u)::st,b,r,h,hg=>by
  simp only[kX]at h|-
  by_cases h0:st.length≥top
  ·rw[if_pos h0]at h;cases h
  rw[if_neg h0]at h|-
  cases ha:im b t with
  |none=>rw[ha]at h;cases h
  |some x=>
  cases hc:im b u with
  |none=>rw[ha,hc]at h;cases h
  |some y=>
  rw[ha,hc]at h
  skip
  dsimp only at h|-
  by_cases h1:x.op=1
  ·rw[if_pos h1]at h|-
   by_cases h2:y.op=1
   ·rw[if_pos h2]at h|-
    by_cases h3:x.n=y.n
    ·rw[if_pos h3]at h|-;exact iq h ad
    ·rw[if_neg h3]at h|-
     split at h
     ·rename_i h4;rw[if_pos h4];exact iq h ad
     ·rename_i h4;rw[if_neg h4];exact h
   ·rw[if_neg h2]at h|-
    split at h
    ·rename_i h4;rw[if_pos h4];exact iq h ad
    ·rename_i h4;rw[if_neg h4];exact h
  ·rw[if_neg h1]at h|-
   by_cases h2:y.op=1
   ·rw[if_pos h2]at h|-
    split at h
    ·rename_i h4;rw[if_pos h4];exact iq h ad
    ·rename_i h4;rw[if_neg h4];exact h
   ·rw[if_neg h2]at h|-
    split at h
    ·rename_i h4;rw[if_pos h4];exact iq h ad
    ·rename_i h4;rw[if_neg h4];exact h
theorem G7{lim:Bool}{top W:Nat}{P:Tm->Prop}{I:List (Int×Tm)->Prop}(hP:∀t,P t->t.kids.length<=W/\∀k∈t.kids,P k)(hR:∀b t x,I b->P t->im b t=some x->P x)
 (hI:∀f t u b b',jJ lim f t u b=some (0,b')->I b->P t->P u->I b'):∀ (f:Nat) (t u:Tm) (b:List (Int×Tm)) (e:Int) (b':List (Int×Tm)),jJ lim f t u b=some (e,b')->I b->P t->P u->∀ (st:List (Tm×Tm)) (n:Nat) (r:Int×List (Int×Tm)),st.length+f*W+1<=top->(if e=0 then kX lim top n st b'=some r else r=(e,b'))->∃m,kX lim top m ((t,u)::st) b=some r
 |0,_,_,_,_,_,h,_,_,_,_,_,_,_,_=>by cases h
 |f+1,t,u,b,e,b',h,Z5,hpt,hpu,st,n,r,aiv,hr=>by
  simp only[jJ]at h
  cases ha:im b t with
  |none=>rw[ha]at h;cases h
  |some x=>
  cases hc:im b u with
  |none=>rw[ha,hc]at h;cases h
  |some y=>
  rw[ha,hc]at h
  dsimp only at h
  have hpx:=hR b t x Z5 hpt ha
  have hpy:=hR b u y Z5 hpu hc
  have kC: ¬st.length≥top:=ad
  have bnd:∀q:Int×List (Int×Tm),q=(e,b')->∀m,n<=m->(if q.1=0 then kX lim top m st q.2 else some q)=some r:=by
   rintro q rfl m hm
   dsimp only
   split
   ·rename_i e0;rw[if_pos e0]at hr;exact iq hr hm
   ·rename_i e0;rw[if_neg e0]at hr;rw[hr]
  by_cases h1:x.op=1
  ·rw[if_pos h1]at h
   by_cases h2:y.op=1
   ·rw[if_pos h2]at h
    by_cases h3:x.n=y.n
    ·rw[if_pos h3]at h
     injection h with h
     injection h with h4 h5
     subst h4;subst h5
     rw[if_pos rfl]at hr
     refine⟨max f n+1, ?_⟩
     simp only[kX]
     rw[if_neg kC,ha,hc]
     dsimp only
     rw[if_pos h1,if_pos h2,if_pos h3]
     exact iq hr (Nat.le_max_right _ _)
    ·rw[if_neg h3]at h
     injection h with h
     refine⟨max f n+1, ?_⟩
     simp only[kX]
     rw[if_neg kC,ha,hc]
     dsimp only
     rw[if_pos h1,if_pos h2,if_neg h3]
     exact Mw
   ·rw[if_neg h2]at h
    injection h with h
    refine⟨max f n+1, ?_⟩
    simp only[kX]
    rw[if_neg kC,ha,hc]
    dsimp only
    rw[if_pos h1,if_neg h2]
    exact Mw
  ·rw[if_neg h1]at h
   by_cases h2:y.op=1
   ·rw[if_pos h2]at h
    injection h with h
    refine⟨max f n+1, ?_⟩
    simp only[kX]
    rw[if_neg kC,ha,hc]
    dsimp only
    rw[if_neg h1,if_pos h2]
    exact Mw
   ·rw[if_neg h2]at h
    by_cases h3:x.op=y.op/\x.n=y.n/\x.kids.length=y.kids.length
    ·rw[if_pos h3]at h
     have hW:(f+1)*W=f*W+W:=by rw[Nat.add_mul,Nat.one_mul]
     have key:∀ (ks cK:List Tm) (b:List (Int×Tm)),(∀k∈ks,P k)->(∀k∈cK,P k)->I b->ks.length<=W->lX (jJ lim f) ks cK b=some (e,b')->∃m,kX lim top m (ks.zip cK++st) b=some r:=by
      intro ks
      induction ks with
      |nil=>
       intro cK b _ _ _ _ h
       exact acF
      |cons k ks ih=>
       intro cK b m1 m2 Z5 hlk h
       cases cK with
       |nil=>
        exact acF
       |cons k' cK=>
        simp only[lX]at h
        cases he:jJ lim f k k' b with
        |none=>rw[he]at h;cases h
        |some q=>
         obtain⟨e1,b1⟩:=q
         rw[he]at h
         dsimp only at h
         have Qc:(ks.zip cK++st).length+f*W+1<=top:=by
          rw[List.length_append,List.length_zip]
          rw[List.length_cons]at hlk
          omega
         by_cases e0:e1=0
         ·rw[if_pos e0]at h
          obtain⟨m,hm⟩:=ih cK b1 (fun z hz=>m1 z pX) (fun z hz=>m2 z pX) (hI f k k' b b1 (e0 ▸ he) Z5 (m1 k aF) (m2 k' aF)) (by rw[List.length_cons]at hlk;omega) h
          exact G7 hP hR hI f k k' b e1 b1 he Z5 (m1 k aF) (m2 k' aF) (ks.zip cK++st) m r Qc (by rw[if_pos e0];exact hm)
         ·rw[if_neg e0]at h
          injection h with h
          injection h with h4 h5
          subst h4;subst h5
          rw[if_neg e0]at hr
          exact G7 hP hR hI f k k' b e1 b1 he Z5 (m1 k aF) (m2 k' aF) (ks.zip cK++st) n r Qc (by rw[if_neg e0];exact hr)
     obtain⟨m,hm⟩:=key x.kids y.kids b (hP x hpx).2 (hP y hpy).2 Z5 (hP x hpx).1 h
     refine⟨max f m+1, ?_⟩
     simp only[kX]
     rw[if_neg kC,ha,hc]
     dsimp only
     rw[if_neg h1,if_neg h2,if_pos h3]
     exact iq hm (Nat.le_max_right _ _)
    ·rw[if_neg h3]at h
     injection h with h
     injection h with h4 h5
     subst h4;subst h5
     rw[if_neg (by omega)]at hr
     subst hr
     refine⟨f+1, ?_⟩
     simp only[kX]
     rw[if_neg kC,ha,hc]
     dsimp only
     rw[if_neg h1,if_neg h2,if_neg h3]
end Go.Proofs.YtlhemmpklhhgoaaGreat
end
