/-
  A PART OF THE PROOF. Conditions: none.
-/
import Derived.Test.YtlhemmpklhhgoaaGreatQt16
set_option linter.unusedSimpArgs false
set_option linter.unusedVariables false
namespace Go.Proofs.YtlhemmpklhhgoaaGreat
theorem AV{s:aF}{b:List (Int×Tm)}{l:List TB}{ρ:Int->Nat}{R:Nat}(h:lM s b l ρ R)(hl:jh s l){n:Int}(hn:bR b n=none){t:Tm}(ht:Vs s t):gC n (bc (ah l) t)=true↔mH b n t:=by
 have hln:Lv (ah l) n= .mk 1 n []:=by simp[Lv,(h.AU n).1 hn]
 constructor
 ·have key:∀ (r:Nat) (t:Tm),Vs s t->(∀u,gC u t=true->ρ u<r)->gC n (bc (ah l) t)=true->mH b n t:=by
   intro r
   induction r with
   |zero=>
    intro t ht hr hf
    obtain⟨u,hu,_⟩:=(tJ hl.bd t ht n).1 hf
    exact absurd (hr u hu) (Nat.not_lt_zero _)
   |succ r ih=>
    intro t ht hr hf
    obtain⟨u,hu,hf⟩:=(tJ hl.bd t ht n).1 hf
    cases hx:bR b u with
    |none=>
     have:Lv (ah l) u= .mk 1 u []:=by simp[Lv,(h.AU u).1 hx]
     rw[this,nR]at hf
     have:u=n:=by simpa using hf
     exact .here (this ▸ hu)
    |some x=>
     obtain⟨g1,g2,g3⟩:=h.ok u x hx
     rw[g2]at hf
     have:=hr u hu
     exact .step hu hx (ih x g1 (fun w hw=>by have:=g3 w hw;omega) hf)
  exact key (R+1) t ht fun u _=>by have:=h.bd u;omega
 ·intro hr
  induction hr with
  |here h1=>exact(tJ hl.bd _ ht n).2 ⟨n,h1,by rw[hln,nR];simp⟩
  | @step t v x h1 h2 _ ih=>
    obtain⟨g1,g2,g3⟩:=h.ok v x h2
    exact(tJ hl.bd _ ht _).2 ⟨v,h1,by rw[g2];exact ih g1⟩
def Wn(b:List (Int×Tm)):Prop:=∀v x,bR b v=some x-> ¬mH b v x
theorem Ma{s:aF}{b:List (Int×Tm)}(zZ:(b.map (·.1)).Nodup)(aW:∀p∈b,(0<=p.1/\p.1<20)/\Vs s p.2)(ha:Wn b):∃l ρ R,lM s b l ρ R/\jh s l:=by
 have key:∀k,k<=b.length->∃l ρ R,lM s (b.take k) l ρ R/\jh s l:=by
  intro k
  induction k with
  |zero=>intro _;exact⟨[],fun _=>0,0,by rw[List.take_zero];exact lM.nil,jh.nil⟩
  |succ k ih=>
   intro hk
   obtain⟨l,ρ,R,h,hl⟩:=ih af
   obtain⟨⟨n,y⟩,hp⟩:∃p,b[k]? =some p:=⟨_,List.getElem?_eq_getElem (show k<b.length from af)⟩
   have hpm:=List.mem_of_getElem? hp
   have rL:b.take (k+1)=b.take k++[(n,y)]:=by rw[List.take_add_one,hp];rfl
   have Pa:((b.take (k+1)).map (·.1)).Nodup:=zZ.sublist ((List.take_sublist _ _).map _)
   have hn:bR (b.take k) n=none:=by
    rw[lJ]
    rw[rL,List.map_append,List.nodup_append]at Pa
    exact fun hm=>Pa.2.2 n hm n aH rfl
   obtain⟨hr,hy⟩:=aW _ hpm
   have tQ:∀v x,bR (b.take k) v=some x->bR b v=some x:=fun v x hx=>(lK zZ).2 (List.mem_of_mem_take (cK hx))
   have hny: ¬gC n (bc (ah l) y)=true:=fun hf=>ha n y ((lK zZ).2 hpm) (((AV h hl hn hy).1 hf).mono tQ)
   obtain⟨L5,R',h'⟩:=h.ext hl hn hy hny
   rw[rL]
   exact⟨_,L5,R',h',ri hl hr ((h.AU n).1 hn) (Vs.sub hl.bd y hy) (fun u hu=>hl.free hy hu) hny⟩
 have:=key b.length (Nat.le_refl _)
 rwa [List.take_length]at this
theorem lM.I2 {s:aF}{b:List (Int×Tm)}{l:List TB}{ρ:Int->Nat}{R:Nat}(h:lM s b l ρ R):Wn b:=by
 have key:∀t n,mH b n t->∀r,(∀u,gC u t=true->ρ u<r)->ρ n<r:=by
  intro t n hr
  induction hr with
  |here h1=>exact fun r hr=>hr _ h1
  |step h1 h2 _ ih=>
   intro r hr
   have h3:=ih _ (h.ok _ _ h2).2.2
   have:=hr _ h1
   omega
 intro v x hx hr
 have:=key x v hr _ (h.ok v x hx).2.2
 omega
def Br(F:Tm->Int->Option Int):List Tm->Int->Option Int
 |[],n=>some n
 |k::ks,n=>if n<0 then some n else match F k n with
  |some m=>Br F ks m
  |none=>none
def tK:Nat->List (Int×Tm)->Tm->Int->Nat->Option Int
 |0,_,_,_,_=>none
 |f+1,b,t,n,d=>match jY f b t with
  |some x=>(match d with
   |0=>some (-1)
   |d+1=>Br (fun k m=>tK f b k m d) x.kids (n - 1))
  |none=>none
theorem Dw{F:Tm->Int->Option Int}:∀ {ks:List Tm} (n:Int),(∀k∈ks,∀m,∃r,F k m=some r)->∃r,Br F ks n=some r
 |[],n,_=>⟨n,rfl⟩
 |k::ks,n,h=>by
  simp only[Br]
  split
  ·exact⟨n,rfl⟩
  ·obtain⟨r,hr⟩:=h k aH n
   rw[hr]
   exact Dw r fun y hy=>h y mK
theorem Dx{F G:Tm->Int->Option Int}(Dr:∀k m r,F k m=some r->G k m=some r):∀ {ks:List Tm} {n r:Int},Br F ks n=some r->Br G ks n=some r
 |[],_,_,h=>h
 |k::ks,n,r,h=>by
  simp only[Br]at h|-
  split at h
  ·rename_i e;rw[if_pos e];exact h
  ·rename_i e
   rw[if_neg e]
   cases hF:F k n with
   |none=>rw[hF]at h;cases h
   |some q=>rw[hF]at h;rw[Dr _ _ _ hF];exact Dx Dr h
theorem wK{b:List (Int×Tm)}:∀ {f g:Nat} {t:Tm} {n:Int} {d:Nat} {r:Int},tK f b t n d=some r->f<=g->tK g b t n d=some r
 |0,_,_,_,_,_,h,_=>by cases h
 |f+1,0,_,_,_,_,h,hg=>af
 |f+1,g+1,t,n,d,r,h,hg=>by
  simp only[tK]at h|-
  cases ha:jY f b t with
  |none=>rw[ha]at h;cases h
  |some x=>
   rw[ha]at h
   rw[gW ha (show f<=g by omega)]
   cases d with
   |zero=>exact h
   |succ d=>exact Dx (fun k m q hq=>wK hq af) h
theorem FU{s:aF}{b:List (Int×Tm)}{l:List TB}{ρ:Int->Nat}{R:Nat}(h:lM s b l ρ R):∀ (d:Nat) (t:Tm) (n:Int),Vs s t->∃r,tK (R+3+d) b t n d=some r
 |0,t,n,ht=>by
  obtain⟨x,a1,_⟩:=h.root ht
  exact⟨-1,by simp only[tK];rw[show R+2+0=R+2 from rfl,a1]⟩
 |d+1,t,n,ht=>by
  obtain⟨x,a1,a2,_⟩:=h.root ht
  show ∃r,tK ((R+3+d)+1) b t n (d+1)=some r
  simp only[tK]
  rw[gW a1 (show R+2<=R+3+d by omega)]
  exact Dw _ fun k hk m=>FU h d k m (a2.kY hk)
def ui(b:List (Int×Tm))(t:Tm):Prop:=∃f r,tK f b t 40 12=some r/\0<=r
theorem G6{b:List (Int×Tm)}{t:Tm}{f:Nat}{r:Int}(h:tK f b t 40 12=some r):ui b t↔0<=r:=by
 refine⟨fun⟨g,q,h1,h2⟩=> ?_,fun hr=>⟨f,r,h,hr⟩⟩
 have e1:=wK h (Nat.le_max_left f g)
 rw[wK h1 (Nat.le_max_right f g)]at e1
 cases e1
 exact h2
def Dy(F:Tm->Option Tm):List Tm->Option (List Tm)
 |[]=>some []
 |k::ks=>match F k,Dy F ks with
  |some x,some xs=>some (x::xs)
  |_,_=>none
def uI:Nat->List (Int×Tm)->Tm->Option Tm
 |0,_,_=>none
 |f+1,b,t=>match jY f b t with
  |some x=>(Dy (uI f b) x.kids).map fun ks=> .mk x.op x.n ks
  |none=>none
theorem uJ{F:Tm->Option Tm}{g:Tm->Tm}:∀ {ks:List Tm},(∀k∈ks,F k=some (g k))->Dy F ks=some (ks.map g)
 |[],_=>rfl
 |k::ks,h=>by simp only[Dy];rw[h k (by simp),uJ fun y hy=>h y (by simp[hy])];rfl
theorem Dz{F G:Tm->Option Tm}(Dr:∀k r,F k=some r->G k=some r):∀ {ks xs:List Tm},Dy F ks=some xs->Dy G ks=some xs
 |[],_,h=>h
 |k::ks,xs,h=>by
  simp only[Dy]at h|-
  cases h1:F k with
  |none=>rw[h1]at h;cases h
  |some x=>
   cases h2:Dy F ks with
   |none=>rw[h1,h2]at h;cases h
   |some ys=>rw[h1,h2]at h;rw[Dr _ _ h1,Dz Dr h2];exact h
theorem gX{b:List (Int×Tm)}:∀ {f g:Nat} {t x:Tm},uI f b t=some x->f<=g->uI g b t=some x
 |0,_,_,_,h,_=>by cases h
 |f+1,0,_,_,h,hg=>af
 |f+1,g+1,t,x,h,hg=>by
  simp only[uI]at h|-
  cases ha:jY f b t with
  |none=>rw[ha]at h;cases h
  |some y=>
   rw[ha]at h
   rw[gW ha (show f<=g by omega)]
   dsimp only at h|-
   cases h2:Dy (uI f b) y.kids with
   |none=>rw[h2]at h;cases h
   |some ys=>rw[h2]at h;rw[Dz (fun k r hr=>gX hr (by omega)) h2];exact h
theorem pg{s:aF}{b:List (Int×Tm)}{l:List TB}{ρ:Int->Nat}{R:Nat}(h:lM s b l ρ R):∀ (z:Nat) (t:Tm),Vs s t->(bc (ah l) t).sz<=z->uI (R+3+z) b t=some (bc (ah l) t)
 |0,t,_,hz=>by have:=Tm.sJ (bc (ah l) t);omega
 |z+1,t,ht,hz=>by
  obtain⟨x,a1,a2,a3,a4,_⟩:=h.root ht
  show uI ((R+3+z)+1) b t=_
  simp only[uI]
  rw[gW a1 (show R+2<=R+3+z by omega)]
  by_cases h1:x.op=1
  ·have e:=a2.eta h1
   have hk:x.kids=[]:=by rw[e];rfl
   have:bc (ah l) x=x:=by
    rw[je a2 h1,show Lv (ah l) x.n= .mk 1 x.n [] by simp[Lv,(h.AU _).1 (a4 h1)]];exact e.symm
   rw[<- a3,this]
   dsimp only
   rw[hk]
   show some (Tm.mk x.op x.n [])=some x
   rw[<- hk,Tm.eta]
  ·have hv:=jf (b:=ah l) h1
   have hk:∀k∈x.kids,uI (R+3+z) b k=some (bc (ah l) k):=fun k hk=>by
    refine pg h z k (a2.kY hk) ?_
    have h3:bc (ah l) k∈(bc (ah l) x).kids:=by rw[hv];exact List.mem_map.2 ⟨k,hk,rfl⟩
    have h4:=Tm.mU h3
    rw[a3]at h4
    omega
   dsimp only
   rw[uJ hk, <- a3,hv]
   rfl
def G7:Nat->List (Int×Tm)->Tm->Nat->Option Tm
 |0,_,_,_=>none
 |f+1,b,t,d=>if t.op=1 then(match bR b t.n with
   |some x=>(match d with
    |0=>none
    |d+1=>G7 f b x d)
   |none=>some t)
  else(Dy (fun k=>G7 f b k d) t.kids).map fun ks=> .mk t.op t.n ks
def sS(b:List (Int×Tm))(ρ:Int->Nat)(r:Nat):Nat:=((b.map (·.1)).filter fun u=>decide (ρ u<r)).length
theorem G8{b:List (Int×Tm)}{ρ:Int->Nat}{v:Int}{x:Tm}(hv:bR b v=some x){r:Nat}(hr:ρ v<r):sS b ρ (ρ v)<sS b ρ r:=by
 unfold sS
 have hm:v∈b.map (·.1):=List.mem_map.2 ⟨_,cK hv,rfl⟩
 generalize b.map (·.1)=ks at hm
 have hle:∀ks:List Int,(ks.filter fun u=>decide (ρ u<ρ v)).length<=(ks.filter fun u=>decide (ρ u<r)).length:=by
  intro ks
  induction ks with
  |nil=>exact Nat.le_refl _
  |cons u ks ih=>
   rw[List.filter_cons,List.filter_cons]
   by_cases e:ρ u<ρ v
   ·rw[if_pos (by simpa using e),if_pos (by simp;omega),List.length_cons,List.length_cons];omega
   ·rw[if_neg (by simpa using e)]
    split
    ·rw[List.length_cons];omega
    ·exact ih
 induction ks with
 |nil=>cases hm
 |cons u ks ih=>
  rw[List.filter_cons,List.filter_cons]
  by_cases e:u=v
  ·subst e
   rw[if_neg (by simp),if_pos (by simpa using hr),List.length_cons]
   have:=hle ks
   omega
  ·have:=ih ((List.mem_cons.1 hm).resolve_left fun h=>e h.symm)
   by_cases e2:ρ u<ρ v
   ·rw[if_pos (by simpa using e2),if_pos (by simp;omega),List.length_cons,List.length_cons];omega
   ·rw[if_neg (by simpa using e2)]
    split
    ·rw[List.length_cons];omega
    ·exact this
theorem ac1{s:aF}{b:List (Int×Tm)}{l:List TB}{ρ:Int->Nat}{R:Nat}(h:lM s b l ρ R):∀ (r:Nat) (t:Tm) (d:Nat),Vs s t->(∀u,gC u t=true->ρ u<r)->sS b ρ r<=d->∃f,∀g,f<=g->G7 g b t d=some (bc (ah l) t):=by
 intro r
 induction r using Nat.strongRecOn with
 |ind r ihr=>
  refine Tm.eY fun t ih d ht hr hd=> ?_
  by_cases h1:t.op=1
  ·have hv:gC t.n t=true:=(iF h1).2 rfl
   cases hx:bR b t.n with
   |none=>
    refine⟨1,fun g hg=> ?_⟩
    obtain⟨g,rfl⟩:∃k,g=k+1:=⟨g - 1,af⟩
    simp only[G7]
    rw[if_pos h1,hx,je ht h1,show Lv (ah l) t.n= .mk 1 t.n [] by simp[Lv,(h.AU _).1 hx]]
    exact congrArg some (ht.eta h1)
   |some x=>
    obtain⟨g1,g2,g3⟩:=h.ok _ _ hx
    have h3:=G8 hx (hr _ hv)
    obtain⟨d,rfl⟩:∃k,d=k+1:=⟨d - 1,af⟩
    obtain⟨f,hf⟩:=ihr _ (hr _ hv) x d g1 g3 af
    refine⟨f+1,fun g hg=> ?_⟩
    obtain⟨g,rfl⟩:∃k,g=k+1:=⟨g - 1,af⟩
    simp only[G7]
    rw[if_pos h1,hx]
    dsimp only
    rw[hf g (by omega), <- g2,je ht h1]
  ·have key:∀ks:List Tm,(∀k∈ks,k∈t.kids)->∃f,∀g,f<=g->∀k∈ks,G7 g b k d=some (bc (ah l) k):=by
    intro ks
    induction ks with
    |nil=>intro _;exact⟨0,fun _ _ _ h=>by cases h⟩
    |cons k ks Dp=>
     intro hks
     obtain⟨f1,db⟩:=Dp fun y hy=>hks y mK
     obtain⟨f2,eO⟩:=ih k (hks k aH) d (ht.kY (hks k aH)) (fun u hu=>hr u ((re ht h1).2 ⟨k,hks k aH,hu⟩)) hd
     refine⟨max f1 f2,fun g hg y hy=> ?_⟩
     rcases List.mem_cons.1 hy with rfl|hy
     ·exact eO g af
     ·exact db g af y hy
   obtain⟨f,hf⟩:=key t.kids fun _ h=>h
   refine⟨f+1,fun g hg=> ?_⟩
   obtain⟨g,rfl⟩:∃k,g=k+1:=⟨g - 1,af⟩
   simp only[G7]
   rw[if_neg h1,uJ (hf g (by omega)),jf h1]
   rfl
theorem sU{s:aF}{b:List (Int×Tm)}{l:List TB}{ρ:Int->Nat}{R:Nat}(h:lM s b l ρ R){t:Tm}(ht:Vs s t):∃f,G7 f b t b.length=some (bc (ah l) t):=by
 obtain⟨f,hf⟩:=ac1 h (R+1) t b.length ht (fun u _=>by have:=h.bd u;omega) (by
  unfold sS
  exact Nat.le_trans (List.length_filter_le _ _) YB)
 exact⟨f,hf f (Nat.le_refl _)⟩
def pnF(s:aF)(t:Tm):Bool:=
 let k:Int:=t.kids.length
 if t.op=16 then t.n==0&&k==0
 else if t.op=1 then dS t.n 0 199&&k==0
 else if t.op=2 then dS t.n (-1000000) 1000000&&k==0
 else if t.op=3 then dS t.n 0 (s.cons.length - 1)&&k==iw s.cons t.n
 else if t.op=5 then dS t.n 0 (s.bW.length - 1)&&decide (k<iw s.bW t.n)
 else false
mutual
def I3(s:aF):Tm->Bool
 | .mk op n kids=>G9 s kids&&pnF s (.mk op n kids)
def G9(s:aF):List Tm->Bool
 |[]=>true
 |k::l=>I3 s k&&G9 s l
end
theorem zc(s:aF):∀l:List Tm,G9 s l=l.all (I3 s)
 |[]=>rfl
 |k::l=>by rw[G9,zc s l];rfl
theorem Pb(s:aF)(t:Tm):I3 s t=(t.kids.all (I3 s)&&pnF s t):=by cases t;rw[I3,zc];rfl
def Pn(s:aF)(t:Tm):Prop:=I3 s t=true
theorem Wo{s:aF}{t:Tm}:Pn s t↔pnF s t=true/\∀k∈t.kids,Pn s k:=by
 unfold Pn;rw[Pb,Bool.and_eq_true,List.all_eq_true];exact and_comm
theorem Pn.kY {s:aF}{t k:Tm}(h:Pn s t)(hk:k∈t.kids):Pn s k:=(Wo.1 h).2 k hk
def xN{σ:Type}(step:σ->Tm->σ×Bool):σ->List Tm->Int->Int
 |_,[],_=> -1
 |s,x::l,k=>if(step s x).2=true then xN step (step s x).1 l (k+1)else k
theorem Ha{σ:Type}(step:σ->Tm->σ×Bool):∀ (l:List Tm) (s:σ) (k:Int),0<=k->(0<=xN step s l k↔(aQ step s l).2=false)
 |[],_,_,_=>by simp[xN,aQ]
 |x::l,s,k,hk=>by
  have ih:=Ha step l (step s x).1 (k+1) af
  by_cases h:(step s x).2=true
  ·simp only[xN,aQ,h,if_true];exact ih
  ·simp[xN,aQ,h,hk]
theorem Wp{σ:Type}(l:List Tm)(hl:l.length<=9223372036854775807)(g:Nat)(bP:List V)(base:Nat)(H:σ->Nat->ab)(step:σ->Tm->σ×Bool)(hc:∀r∈V.aO bP,r<base)(ok:σ->Prop)(aW:∀x∈l,∀s,ok s->(step s x).2=true->ok (step s x).1)
 (h:∀x∈l,∀s,ok s->wh Tryz.prog g (.d x.d::bP) base (H s) (H (step s x).1) (.d (.bool (!(step s x).2)))) (s:σ) (pE:ok s):
 wh Tryz.prog 186 [.d (.sl (l.map Tm.d)), .func (.func g) [] bP] base (H s) (H (aQ step s l).1) (.d (.i (xN step s l 0))):=by
 intro o nx hI K X hK
 have fE:∀r∈V.aO bP,r<nx:=fun r hr=>Nat.lt_of_lt_of_le (hc r hr) hI.le
 refine bZ.aG mix Sy aH ?_
 rw[VS]
 refine cM ?_
 refine aC (fun i:Nat×σ×(Nat->ab)×Nat=>⟨aY [.d (.sl (l.map Tm.d)), .func (.func g) [] bP, .ad, .ad, .ad, .ad, .ad, .d (.i l.length), .d (.i i.1)],i.2.2.1,i.2.2.2⟩)
  (fun i=>i.1<=l.length/\eP base (H i.2.1) i.2.2.1 i.2.2.2/\nx<=i.2.2.2/\(∀id,base<=id->id<nx->i.2.2.1 id=o id)/\aQ step s l=aQ step i.2.1 (l.drop i.1)/\ok i.2.1/\xN step s l 0=xN step i.2.1 (l.drop i.1) i.1) (fun i=>l.length - i.1) (0,s,o,nx)
  ⟨Nat.zero_le _,hI,Nat.le_refl _,fun _ _ _=>rfl,rfl,pE,rfl⟩ ?_ ?_
 ·exact TG
 rintro⟨k,s',o',nx'⟩ ⟨hk,M5,hn,cQ,hf,wq,Mb⟩
 simp only at hk M5 hn cQ hf wq Mb
 refine cM ?_
 refine ao (fun h1=> ?_) (fun h1=> ?_)
 ·simp at h1
  obtain⟨x,hx⟩:=aA h1
  have cy:=List.mem_of_getElem? hx
  have hd:l.drop k=x::l.drop (k+1):=by
   exact TA
  rw[hd]at hf Mb
  simp only[aQ,xN]at hf Mb
  refine Ti hx ?_
  refine gy (h x cy s' wq _ _ (M5.mono af) _ _ fun o2 n2 m1 m2 m3=> ?_)
  cases hb:(step s' x).2 with
  |true=>
   rw[hb]at hf Mb
   simp only[if_true]at hf Mb
   refine bI ?_
   have SI:∀r∈V.aO bP,r<n2+1+1:=fun r hr=>by have:=fE r hr;omega
   refine aj (k+1,(step s' x).1,o2,n2+1+1) ⟨h1,m2.mono (show n2<=n2+1+1 from af),(show nx<=n2+1+1 from af),fun id i1 i2=>(m3 id i1 af).trans (cQ id i1 i2),hf,aW x cy s' wq hb,by rw[Mb];rfl⟩ mQ (bH.bM _ (show nx<=n2+1+1 from af) (Nat.le_refl _) (m2.mono (show n2<=n2+1+1 from af)).cA (fun _ _=>rfl) ?_)
   exact dC
  |false=>
   rw[hb]at hf Mb
   simp only[Bool.false_eq_true,if_false]at hf Mb
   refine cM ?_
   rw[hf,Mb]at hK
   exact hK _ _ af (m2.mono af) fun id i1 i2=>(m3 id i1 af).trans (cQ id i1 i2)
 ·simp at h1
  refine cM ?_
  rw[List.drop_eq_nil_of_le h1]at hf Mb
  rw[hf,Mb]at hK
  exact Qf
theorem DA{σ:Type}(l:List Tm)(hl:l.length<=9223372036854775807)(g:Nat)(bP:List V)(base:Nat)(H:σ->Nat->ab)(step:σ->Tm->σ×Bool)(hc:∀r∈V.aO bP,r<base)(ok:σ->Prop)(aW:∀x∈l,∀s,ok s->(step s x).2=true->ok (step s x).1)
 (h:∀x∈l,∀s,ok s->wh Tryz.prog g (.d x.d::bP) base (H s) (H (step s x).1) (.d (.bool (!(step s x).2)))) (s:σ) (pE:ok s):
 wh Tryz.prog 166 [.d (.sl (l.map Tm.d)), .func (.func g) [] bP] base (H s) (H (aQ step s l).1) (.d (.bool (!(aQ step s l).2))):=by
 intro o nx hI K X hK
 have fE:∀r∈V.aO bP,r<nx:=fun r hr=>Nat.lt_of_lt_of_le (hc r hr) hI.le
 refine bZ.aG mix Sp aH ?_
 rw[VK]
 refine gH ?_
 refine aX (Wp l hl g bP base H step hc ok aW h s pE _ _ ?_ _ _ fun o2 n2 m1 m2 m3=> ?_)
 ·exact hI.mono af
 refine gH ?_
 have e:decide (0<=xN step s l 0)= !(aQ step s l).2:=by
  have:=Ha step l s 0 af
  rw[Bool.eq_iff_iff,decide_eq_true_eq,this]
  cases(aQ step s l).2<;>simp
 rw[e]
 exact hK _ _ af (m2.mono af) fun id i1 i2=>m3 id i1 af
theorem Mc{b:List (Int×Tm)}{f:Nat}{t x:Tm}(h:jY f b t=some x):aV Tryz.prog 112 [DX b,t.d] (.ret [x.d]):=by
 refine aV.aG mix Lz aH ?_
 rw[OI]
 refine bI ?_
 refine aC (fun i:Nat×Tm=>⟨aY [.d (DX b), .ad, .ad, .ptr 0 0, .ptr 1 0],ay (ay (fun _=> .no) 0 (.row i.2.row)) 1 (.row [.d (.i 0), .d (.i 0), .ax]),2⟩)
  (fun i=>jY i.1 b i.2=some x) (fun i=>i.1) (f,t) h ?_ ?_
 ·exact Zi
 rintro⟨f,t⟩ hf
 simp only at hf
 cases f with
 |zero=>cases hf
 |succ f=>
 simp only[jY]at hf
 by_cases h1:t.op=1
 ·have db:(t.op==1)=true:=by simpa using h1
  rw[if_pos h1]at hf
  cases hl:bR b t.n with
  |none=>
   rw[hl]at hf
   injection hf with hf
   subst hf
   simp+contextual (disch:=first|omega|simp only[go_sem,false_implies]) only[go_sem,wrap64,if_pos,db,oz,eE hl]
  |some z=>
   rw[hl]at hf
   obtain⟨j,hj⟩:=fP hl
   simp+contextual (disch:=first|omega|simp only[go_sem,false_implies]) only[go_sem,wrap64,if_pos,db,oz,hj]
   refine aj (f,z) hf mQ (bH.bM _ af af dB (fun j hj=> ?_) ?_)
   ·have Nb:j<2:=hj
    rcases(show j=0\/j=1 from af)with rfl|rfl
    ·exact cF
    ·exact cF
   ·exact dC
 ·have db:(t.op==1)=false:=by simpa using h1
  exact QP
theorem Pc:∀a:Tm,a.fits->∀b:Tm,b.fits->aV Tryz.prog 108 [a.d,b.d] (.ret [.bool (hO a b)]):=by
 refine Tm.eY fun a ih ha b hb=> ?_
 have Md:=(Tm.bT _).1 ha
 have ya:=(Tm.bT _).1 hb
 refine aV.aG mix RY aH ?_
 rw[Vk,qU]
 refine bI ?_
 refine CH (ao (fun h1=> ?_) (fun h1=> ?_))
 ·rw[h1]
  refine lT h1 ?_
  refine aX (LV a.kids b.kids Md.1 ya.1 108 (fun x hx y hy=>ih x hx (Md.2 x hx) y (ya.2 y hy)) _ _ dB _ _ fun o2 n2 m1 m2 m3=> ?_)
  exact xq h1
 ·rw[h1]
  exact xq h1
theorem rk{b:List (Int×Tm)}(hb:∀p∈b,p.2.fits):∀ (f:Nat) (t x:Tm),t.fits->jY f b t=some x->x.fits
 |0,_,_,_,h=>by cases h
 |f+1,t,x,ht,h=>by
  simp only[jY]at h
  split at h
  ·split at h
   ·rename_i y hy;exact rk hb f y x (hb _ (cK hy)) h
   ·exact Hx
  ·exact Hx
theorem Hb{F:Tm->Int->Option Int}(hF:∀k m r,0<=m->F k m=some r-> -1<=r/\r<=m):∀ (ks:List Tm) (n r:Int), -1<=n->Br F ks n=some r-> -1<=r/\r<=n
 |[],n,r,hn,h=>by cases h;omega
 |k::ks,n,r,hn,h=>by
  simp only[Br]at h
  split at h
  ·cases h;omega
  ·cases e:F k n with
   |none=>rw[e]at h;cases h
   |some q=>
    rw[e]at h
    have h1:=hF k n q af e
    have h2:=Hb hF ks q r af h
    omega
theorem AW{b:List (Int×Tm)}:∀ (f:Nat) (t:Tm) (n:Int) (d:Nat) (r:Int),0<=n->tK f b t n d=some r-> -1<=r/\r<=n
 |0,_,_,_,_,_,h=>by cases h
 |f+1,t,n,d,r,hn,h=>by
  simp only[tK]at h
  cases ha:jY f b t with
  |none=>rw[ha]at h;cases h
  |some x=>
   rw[ha]at h
   cases d with
   |zero=>cases h;omega
   |succ d=>
    have:=Hb (fun k m r hm h=>AW f k m d r hm h) x.kids (n - 1) r af h
    omega
theorem Me{b:List (Int×Tm)}:∀ (f:Nat) (t:Tm) (n:Int) (d:Nat) (r:Int),t.fits->(∀p∈b,p.2.fits)->0<=n/\n<=1000->d<=1000->tK f b t n d=some r->aV Tryz.prog 91 [DX b,t.d, .i n, .i d] (.ret [.i r])
 |0,_,_,_,_,_,_,_,_,h=>by cases h
 |f+1,t,n,d,r,ht,hb,hn,hd,h=>by
  simp only[tK]at h
  cases ha:jY f b t with
  |none=>rw[ha]at h;cases h
  |some x=>
  rw[ha]at h
  refine aV.aG mix abi aH ?_
  rw[c91]
  refine bI ?_
  refine bw (Mc ha) ?_
  cases d with
  |zero=>
   injection h with h
   subst h
   exact jW
  |succ d=>
   have N2:(((d+1:Nat):Int)==0)=false:=by rw[beq_eq_false_iff_ne];omega
   dsimp only at h
   have I4:=(Tm.bT x).1 (rk hb f t x ht ha)
   refine lT N2 ?_
   refine aC (fun i:Nat×Int=>⟨aY [.d (DX b), .ad, .d (.i i.2), .d (.i (d+1:Nat)), .ad, .ad, .ad, .ad, .ad, .ad, .ad, .ad, .ad, .ad, .ad, .ad, .ad, .ad, .ad, .d (.sl (x.kids.map Tm.d)), .d (.i x.kids.length), .d (.i i.1)],fun _=> .no,0⟩)
    (fun i=>i.1<=x.kids.length/\Br (fun k m=>tK f b k m d) (x.kids.drop i.1) i.2=some r/\ -1<=i.2/\i.2<=1000) (fun i=>x.kids.length - i.1) (0,n - 1) ⟨Nat.zero_le _,h,by dsimp only;omega,by dsimp only;omega⟩ (bH.d0 _ ?_) ?_
   ·exact dC
   rintro⟨k,m⟩ ⟨hk,hl,Jn,M9⟩
   simp only at hk hl Jn M9
   refine uj ?_
   refine ao (fun h2=> ?_) (fun h2=> ?_)
   ·replace h2:k<x.kids.length:=by simp at h2;omega
    obtain⟨y,hy⟩:=aA h2
    have OO:=List.mem_of_getElem? hy
    have I5:x.kids.drop k=y::x.kids.drop (k+1):=by
     obtain⟨i1,i2⟩:=List.getElem?_eq_some_iff.1 hy
     exact zu
    rw[I5]at hl
    simp only[Br]at hl
    by_cases h0:m<0
    ·have zS:decide (m<0)=true:=decide_eq_true h0
     rw[if_pos h0]at hl
     cases hl
     exact Jx hy zS
    ·have zS:decide (m<0)=false:=decide_eq_false h0
     rw[if_neg h0]at hl
     refine rN hy zS ?_
     cases e:tK f b y m d with
     |none=>rw[e]at hl;cases hl
     |some q=>
     rw[e]at hl
     have hq:=AW f y m d q af e
     rw[show(((d+1:Nat):Int) - 1)=((d:Nat):Int) by omega]
     refine ak (Me f y m d q (I4.2 y OO) hb af af e) rfl ?_
     refine bI ?_
     refine aj (k+1,q) ⟨h2,hl,by dsimp only;omega,by dsimp only;omega⟩ mQ (bH.d0 _ ?_)
     exact dC
   ·replace h2:k=x.kids.length:=by simp at h2;omega
    subst h2
    rw[List.drop_length]at hl
    cases hl
    exact jW
theorem AX{F:Tm->Option Tm}:∀ {ks xs:List Tm},Dy F ks=some xs->xs.length=ks.length/\∀ (i:Nat) (k:Tm),ks[i]? =some k->∃x,xs[i]? =some x/\F k=some x
 |[],xs,h=>by cases h;exact⟨rfl,fun i k hk=>by simp at hk⟩
 |k::ks,xs,h=>by
  simp only[Dy]at h
  cases h1:F k with
  |none=>rw[h1]at h;cases h
  |some x=>
   cases h2:Dy F ks with
   |none=>rw[h1,h2]at h;cases h
   |some ys=>
    rw[h1,h2]at h
    cases h
    obtain⟨g1,g2⟩:=AX h2
    refine⟨by rw[List.length_cons,List.length_cons,g1],fun i k' hk=> ?_⟩
    cases i with
    |zero=>simp at hk;subst hk;exact⟨x,rfl,h1⟩
    |succ i=>exact g2 i k' hk
def Fg(op n:Int)(ks:List Tm)(k:Nat):Nat->ab:=ay (ay (ay (fun _=> .no) 1 (.row [.d (.i 0), .d (.i 0), .ax])) 11 (.row [.d (.i op), .d (.i n), .osl 12 0])) 12 (.arr 0 33 3 ((ks.take k).map Tm.d))
theorem fuH_1(op n:Int)(ks:List Tm)(k:Nat):Fg op n ks k 1= .row [.d (.i 0), .d (.i 0), .ax]:=rfl
theorem fuH_11(op n:Int)(ks:List Tm)(k:Nat):Fg op n ks k 11= .row [.d (.i op), .d (.i n), .osl 12 0]:=rfl
theorem fuH_12(op n:Int)(ks:List Tm)(k:Nat):Fg op n ks k 12= .arr 0 33 3 ((ks.take k).map Tm.d):=rfl
theorem AY(op n:Int)(ks:List Tm)(k:Nat){j:Nat}(h1:j≠1)(h2:j≠11)(h3:j≠12):Fg op n ks k j= .no:=by unfold Fg;rw[ae _ _ _ _ h3,ae _ _ _ _ h2,ae _ _ _ _ h1]
theorem Mf(gone:Nat->Prop)(x:V)(L:List V)(uh:∀id,gone id->12<=id){op n:Int}{ks:List Tm}{k:Nat}{e:Nat->V}{so:Nat->ab}{m:Nat}(gx:fY so gone 33 3 ((ks.take k).map Tm.d) x)
 (s1:so 1= .row [.d (.i 0), .d (.i 0), .ax]) (s11:so 11= .row [.d (.i op), .d (.i n),x]) (he:iY 12 [⟨x,33,3,(ks.take k).map Tm.d⟩] so gone e L 0):bH 0 ⟨e,so,m⟩ ⟨aY L,Fg op n ks k,12+1⟩:=by
 refine bH.sG gone x 12 L af (fun j hj=> ?_) (fuH_12 op n ks k) gx (fun j hj=>AY _ _ _ _ af af af) (fun j h1 h2=>absurd (uh j h1) af) he
 by_cases e1:j=1
 ·subst e1
  rw[fuH_1]
  exact Qg
 ·by_cases e2:j=11
  ·subst e2
   rw[fuH_11]
   exact Qm
  ·rw[AY _ _ _ _ e1 e2 (by omega)]
   exact mo
theorem Hc{k:Tm}:∀ {l:List Tm},k∈l->k.sz<=rK l
 |x::l,h=>by
  rw[show rK (x::l)=x.sz+rK l from rfl]
  rcases List.mem_cons.1 h with rfl|h
  ·omega
  ·have:=Hc h;omega
mutual
def Tm.wid:Tm->Prop
 | .mk _ _ kids=>kids.length<=1000000/\Tm.Mg kids
def Tm.Mg:List Tm->Prop
 |[]=>True
 |k::l=>k.wid/\Tm.Mg l
end
theorem Tm.DB:∀l:List Tm,Tm.Mg l↔∀k∈l,k.wid
 |[]=>by simp[Tm.Mg]
 |k::l=>by simp[Tm.Mg,Tm.DB l]
theorem Tm.AZ (t:Tm):t.wid↔t.kids.length<=1000000/\∀k∈t.kids,k.wid:=by cases t;simp[Tm.wid,Tm.DB,Tm.kids]
theorem Tm.Wq:∀t:Tm,t.sz<=1000000->t.wid:=by
 refine Tm.eY fun t ih h=> ?_
 rw[Tm.AZ]
 have:=my t.kids
 have h2:=Tm.jR t
 exact Qk
theorem Fh{b:List (Int×Tm)}(hb:∀p∈b,p.2.fits):∀ (f:Nat) (t y:Tm),t.fits->uI f b t=some y->y.wid->aV Tryz.prog 68 [DX b,t.d] (.ret [y.d])
 |0,_,_,_,h,_=>by cases h
 |f+1,t,y,ht,h,hz=>by
  simp only[uI]at h
  cases ha:jY f b t with
  |none=>rw[ha]at h;cases h
  |some x=>
  rw[ha]at h
  dsimp only at h
  have I4:=(Tm.bT x).1 (rk hb f t x ht ha)
  cases hL:Dy (uI f b) x.kids with
  |none=>rw[hL]at h;cases h
  |some ks=>
  rw[hL]at h
  cases h
  obtain⟨HN,HC⟩:=AX hL
  have hkw:=(Tm.AZ _).1 hz
  have hle:ks.length<=1000000:=hkw.1
  refine aV.aG mix abb aH ?_
  rw[c68]
  refine bI ?_
  refine bw (Mc ha) ?_
  refine bI ?_
  refine aC (fun i:Nat=>⟨aY [.d (DX b), .ad, .ad, .ad, .ptr 1 0, .ptr 11 0, .ad, .ad, .ad, .ad, .ad, .ad, .ad, .ad, .ad, .ad, .ad, .d (.sl (x.kids.map Tm.d)), .d (.i x.kids.length), .d (.i i)],Fg x.op x.n ks i,12+1⟩)
   (fun i=>i<=x.kids.length) (fun i=>x.kids.length - i) 0 (Nat.zero_le _) (Mf (fun _=>False) .ax _ (fun _ h=>h.elim) (.inl ⟨rfl,rfl,bD⟩) cF cF ?_) (fun k hk=> ?_)
  ·exact rE
  replace hk:k<=x.kids.length:=hk
  have q1:=fuH_1 x.op x.n ks k
  have Pf:=fuH_11 x.op x.n ks k
  have Pg:=fuH_12 x.op x.n ks k
  refine Bu q1 Pf Pg ?_
  refine ao (fun h2=> ?_) (fun h2=> ?_)
  ·replace h2:k<x.kids.length:=by simp at h2;omega
   obtain⟨z,hz⟩:=aA h2
   obtain⟨z',NN,hF⟩:=HC k z hz
   have SS:=List.mem_of_getElem? hz
   have rL:ks.take (k+1)=ks.take k++[z']:=by rw[List.take_add_one,NN];rfl
   have e0:(ks.take k).length=k:=by rw[List.length_take];omega
   have hzs:z'.wid:=hkw.2 _ (List.mem_of_getElem? NN)
   have fE:k<=140737488355327/\(k+1)*24<=140737488355328:=af
   refine Jw q1 Pf Pg hz ?_
   refine aS (Fh hb f z z' (I4.2 z SS) hF hzs) ?_
   simp+contextual (disch:=first|omega|simp only[go_sem,false_implies]) only[go_sem,wrap64,if_pos,q1,Pf,Pg,hz,List.length_map,e0,if_pos fE]
   refine aE ai ?_
   refine bI ?_
   refine aj (k+1) h2 af (Mf (fun j=>12<=j) (.osl 12 1) _ (fun _ h=>h) (.inr ⟨12,1,Nat.le_refl _,rfl,by(repeat(first|rfl|rw[aa]|rw[ae _ _ _ _ (by omega)]));rw[rL,List.map_append];rfl⟩) YY cF ?_)
   exact rE
  ·replace h2:k=x.kids.length:=by simp at h2;omega
   subst h2
   have Wr:Fg x.op x.n ks x.kids.length 12= .arr 0 33 3 (ks.map Tm.d):=by rw[Pg, <- HN,List.take_length]
   refine D2 q1 Pf Wr ?_
   rw[Tm.K7]
theorem wL{b:List (Int×Tm)}(hb:∀p∈b,p.2.fits)(f:Nat)(t y:Tm)(ht:t.fits)(h:uI f b t=some y)(hz:y.sz<=1000000):aV Tryz.prog 68 [DX b,t.d] (.ret [y.d]):=Fh hb f t y ht h (Tm.Wq y hz)
section
section
variable {σ:Type}(base qW:Nat)(H:σ->Nat->ab)(step:σ->Tm->σ×Bool)(ok:σ->Prop)
end
end
section
theorem Ws{x:Tm}{yb vb base:Nat}{h h2:Nat->ab}{r:Bool}(hS:wh Tryz.prog 165 [.d x.d, .ptr yb 0, .ptr vb 0] base h h2 (.d (.bool r)))(hy:yb<base)(hv:vb<base)(ov:h vb= .row [.func (.func 165) [] [.ptr yb 0, .ptr vb 0]]):
 wh Tryz.prog 167 [.d x.d, .ptr vb 0] base h h2 (.d (.bool (!r))):=by
 intro o nx hI K X hK
 have hle:=hI.le
 have ho:o vb= .row [.func (.func 165) [] [.ptr yb 0, .ptr vb 0]]:=by rw[hI.eq vb hv,ov]
 have y1:∀k,vb≠nx+k:=fun k=>af
 have y2:vb≠nx:=af
 refine bZ.aG mix Sq aH ?_
 rw[VL]
 refine Tf ho y1 y2 ?_
 refine aX (hS _ _ ?_ _ _ fun o2 n2 m1 m2 m3=> ?_)
 ·exact hI.ay af af af rfl
 refine gH ?_
 exact hK _ _ af (m2.mono af) fun id i1 i2=>by rw[m3 id i1 (by omega),ae _ _ _ _ (by omega)]
section
variable {σ:Type}(base qW:Nat)(H:σ->Nat->ab)(step:σ->Int->σ×Bool)(ok:σ->Prop)
theorem Mh:∀t:Tm,t.fits->(∀x∈sR t,∀s,ok s->(step s x).2=true->ok (step s x).1)->(∀x∈sR t,∀s,ok s->RoC Tryz.prog qW [.d (.i x)] base (H s) (H (step s x).1) (.d (.bool (step s x).2)))->qW<base->
 ∀ (c:Nat) (o0:Nat->ab) (yb vb:Nat),base<=c->base<=yb->yb<c->base<=vb->vb<c->o0 yb= .row [.kn qW]->o0 vb= .row [.func (.func 165) [] [.ptr yb 0, .ptr vb 0]]->
 ∀s,ok s->wh Tryz.prog 165 [.d t.d, .ptr yb 0, .ptr vb 0] c (ext base (H s) o0) (ext base (H (aQ step s (sR t)).1) o0) (.d (.bool (aQ step s (sR t)).2)):=by
 refine Tm.eY fun t ih hf aW hR C8 c o0 yb vb hbc hy0 hy hv0 hv oy ov s pE=> ?_
 have xF:=(Tm.bT _).1 hf
 intro o nx hI K X hK
 have hle:=hI.le
 have XR:o yb= .row [.kn qW]:=by rw[hI.eq yb hy];unfold ext;rw[if_neg (by omega),oy]
 have V8:o vb= .row [.func (.func 165) [] [.ptr yb 0, .ptr vb 0]]:=by rw[hI.eq vb hv];unfold ext;rw[if_neg (by omega),ov]
 have y1:yb≠nx:=af
 have y2:∀k,yb≠nx+k:=fun k=>af
 have y3:vb≠nx:=af
 have y4:∀k,vb≠nx+k:=fun k=>af
 have pM:=L6 t
 have hb:∀id,id<base->o id=H s id:=fun id aw=>by rw[hI.eq id (by omega)];unfold ext;rw[if_pos aw]
 have hIb:eP base (H s) o nx:=⟨hI.cA,af,hb⟩
 have Jg:∀id,base<=id->id<c->o id=o0 id:=fun id h1 h2=>by rw[hI.eq id h2];unfold ext;rw[if_neg (by omega)]
 refine bZ.aG mix Sn aH ?_
 rw[VJ]
 by_cases h1:t.op=1
 ·have db:(t.op==1)=true:=by simpa using h1
  rw[if_pos h1]at pM
  have xn:aQ step s (sR t)=step s t.n:=by
   rw[pM]
   simp only[aQ]
   generalize step s t.n=q
   obtain⟨a,b⟩:=q
   cases b<;>rfl
  refine D0 db XR V8 y1 y2 y3 y4 ?_
  refine nJ (hR t.n (by rw[pM];simp) s pE _ _ ?_ _ _ fun o2 n2 m1 m2 m3=> ?_)
  ·exact hIb.ay af af af rfl
  refine gH ?_
  rw[xn]at hK
  have hold:∀id,base<=id->id<nx->o2 id=o id:=fun id h1 h2=>by rw[m3 id h1 (by omega),ae _ _ _ _ (by omega)]
  refine hK _ _ af ⟨m2.cA.mono af,af,fun id aw=> ?_⟩ (fun id h1 h2=>hold id af h2)
  unfold ext
  split
  ·exact m2.eq id (by assumption)
  ·exact Nu
 ·have db:(t.op==1)=false:=by simpa using h1
  rw[if_neg h1]at pM
  have xn:aQ step s (sR t)=aQ (fun s k=>aQ step s (sR k)) s t.kids:=by rw[pM,wu]
  have tQ:∀k∈t.kids,∀x∈sR k,x∈sR t:=fun k hk x hx=>by rw[pM];exact List.mem_flatMap.2 ⟨k,hk,hx⟩
  refine D0 db XR V8 y1 y2 y3 y4 ?_
  refine aX (DA t.kids xF.1 167 [.ptr vb 0] (nx+8) (fun s=>ext base (H s) (ay o nx (.row t.row))) (fun s k=>aQ step s (sR k)) ?_ ok ?_ ?_ s pE _ _ ?_ _ _ ?_)
  ·exact FI
  ·exact YZ
  ·intro k hk s' j7
   refine Ws (yb:=yb) (ih k hk (xF.2 k hk) (fun x hx=>aW x (tQ k hk x hx)) (fun x hx=>hR x (tQ k hk x hx)) C8 (nx+8) _ yb vb af hy0 af hv0 af ?_ ?_ s' j7) af af ?_
   ·(repeat(first|rfl|rw[aa]|rw[ae _ _ _ _ (by omega)]));exact XR
   ·(repeat(first|rfl|rw[aa]|rw[ae _ _ _ _ (by omega)]));exact V8
   ·unfold ext;rw[if_neg (by omega)];(repeat(first|rfl|rw[aa]|rw[ae _ _ _ _ (by omega)]));exact V8
  ·exact(hIb.ay af af af rfl).ext af af
  ·intro o5 n5 p1 p2 p3
   refine bI ?_
   rw[<- xn]
   have hold:∀id,base<=id->id<nx->o5 id=o id:=fun id h1 h2=>by
    rw[p2.eq id (by omega)];unfold ext;rw[if_neg (by omega),ae _ _ _ _ (by omega)]
   refine hK _ _ af ⟨p2.cA.mono af,af,fun id aw=> ?_⟩ (fun id h1 h2=>hold id af h2)
   rw[xn]
   unfold ext
   split
   ·rw[p2.eq id (by omega)];unfold ext;rw[if_pos (by assumption)]
   ·exact Nu
theorem Mi(t:Tm)(hf:t.fits)(aW:∀x∈sR t,∀s,ok s->(step s x).2=true->ok (step s x).1)(hR:∀x∈sR t,∀s,ok s->RoC Tryz.prog qW [.d (.i x)] base (H s) (H (step s x).1) (.d (.bool (step s x).2)))(C8:qW<base)(tb:Nat)(Js:tb<base)(s:σ)(pE:ok s)(cV:H s tb= .row t.row):
 wh Tryz.prog 164 [.kn qW, .ptr tb 0] base (H s) (H (aQ step s (sR t)).1) (.bS []):=by
 intro o nx hI K X hK
 have hle:=hI.le
 have ot:o tb= .row t.row:=by rw[hI.eq tb Js,cV]
 have y1:tb≠nx:=af
 have y2:∀k,tb≠nx+k:=fun k=>af
 refine bZ.aG mix Sm aH ?_
 rw[VI]
 simp+contextual only[go_sem,ot,y1,y2,Nat.add_assoc,Nat.left_eq_add,Nat.add_eq_left,Nat.add_left_cancel_iff]
 have hI1:eP base (H s) (ay (ay (ay o nx (.row [.kn qW])) (nx+1) (.row [.d .cz])) (nx+1) (.row [.func (.func 165) [] [.ptr nx 0, .ptr (nx+1) 0]])) (nx+6):=by
  refine((hI.ay (i:=nx) (m:=nx+6) af af af ?_).ay (i:=nx+1) (m:=nx+6) af af af rfl).ay (i:=nx+1) af af af ?_
  ·exact JF
  ·exact qb
 refine aX (Mh base qW H step ok t hf aW hR C8 (nx+6) _ nx (nx+1) af hle af af af ?_ ?_ s pE _ _ (hI1.ext (Nat.le_refl _) af) _ _ ?_)
 ·exact cF
 ·exact cF
 intro o2 n2 m1 m2 m3
 refine cM ?_
 refine hK _ _ af ⟨m2.cA,af,fun id aw=> ?_⟩ (fun id h1 h2=> ?_)
 ·rw[m2.eq id (by omega)];unfold ext;rw[if_pos aw]
 ·exact QN
end
theorem Mj(t:Tm)(o:Nat->ab)(nx:Nat)(K X:V->(Nat->ab)->Nat->Prop)(h:K (.func (.func 164) [] [.ptr nx 0]) (ay o nx (.row t.row)) (nx+4)):bZ Tryz.prog 149 [.d t.d] o nx K X:=by
 refine bZ.aG mix Sh aH ?_
 rw[VD]
 refine cM ?_
 exact h
def Fi{σ:Type}(J:σ->Option jX)(step:σ->Int->σ)(s:σ)(x:Int):σ×Bool:=(step s x,(J (step s x)).isNone)
theorem DC{σ:Type}(t:Tm)(hf:t.fits){n bq:Nat}{gq:Operand}{ps:List Nat}{jE fh:IC}{Q:fL->S->Prop}{e:Nat->V}{o:Nat->ab}{nx tb:Nat}(env:List V)(he:nI e env 0)
 (EO:ps.all (fun t=>decide (t<n))=true) (hl:ps.length=1) (hg:Good o nx) (hrefs:∀r∈V.aO env,r<nx) (ht:o tb= .row t.row)
 (G:σ->Nat->ab) (J:σ->Option jX) (step:σ->Int->σ) (ok:σ->Prop) (s0:σ) (pE:ok s0) (hJ0:J s0=none) (h0:∀id,id<nx->o id=G s0 id) (aW:∀x∈sR t,∀s,ok s->J s=none->J (step s x)=none->ok (step s x))
 (vw:∀L,iZ Tryz.prog n env ps jE fh L->(∀st pd m,nx<=m->(L st pd).refs.all (fun r=>decide (r<m))=true)->∀x∈sR t,∀s,ok s->J s=none->∀o3 n3,eP nx (G s) o3 n3->nx<n3->o3 nx=L .ready none->∀K X,
  (∀e' o' n' st pd,n3<=n'->eP nx (G (step s x)) o' n'->o' nx=L st pd->(∀id,nx<id->id<n3->o' id=o3 id)->kV nx K X (SJ (J (step s x))) ⟨e',o',n'⟩)->
  kT Tryz.prog n n3 true jE (sF Tryz.prog n n3 nx fh K X) ⟨pH (aY env) ps [.d (.i x)],o3,n3⟩)
 (jl:∀o' n',eP nx (G (aQ (Fi J step) s0 (sR t)).1) o' n'->qF Q (J (aQ (Fi J step) s0 (sR t)).1) ⟨e,o',n'⟩):
 ug Tryz.prog n bq false gq ps jE fh Q ⟨e,o,nx⟩ (.func (.func 164) [] [.ptr tb 0]):=by
 refine EY env he (fun L hL=> ?_)
 have Js:tb<nx:=hg.lt (by rw[ht];exact ab.noConfusion)
 let H:σ->Nat->ab:=fun s id=>if id<nx then G s id else if id=nx then(match J s with|none=>L .ready none|some j=>L .done (some j))else .no
 have rQ:∀s id,id<nx->H s id=G s id:=fun s id h=>if_pos h
 have E1:∀s,J s=none->H s nx=L .ready none:=fun s h=>by show(if nx<nx then _ else _)=_;rw[if_neg (by omega),if_pos rfl,h]
 have SK:∀s j,J s=some j->H s nx=L .done (some j):=fun s j h=>by show(if nx<nx then _ else _)=_;rw[if_neg (by omega),if_pos rfl,h]
 have xP:∀st pd m,nx<=m->(L st pd).refs.all (fun r=>decide (r<m))=true:=fun st pd m hm=>by
  exact Qx
 refine Mi (nx+1) nx H (Fi J step) (fun s=>ok s/\J s=none) t hf (fun x hx s h1 h2=> ?_) (fun x hx s h1=> ?_) af tb af s0 ⟨pE,hJ0⟩ (by rw[rQ _ _ Js, <- h0 _ Js,ht]) _ _ ⟨?_,Nat.le_refl _,fun id aw=> ?_⟩ _ _ ?_
 ·have hj:J (step s x)=none:=by simpa[Fi]using h2
  exact⟨aW x hx s h1.1 h1.2 hj,hj⟩
 ·intro o3 n3 hI K X hK
  have hle:=hI.le
  have Ni:o3 nx=L .ready none:=by rw[hI.eq nx (by omega),E1 s h1.2]
  refine wk hL mix Ni af EO (by simp[hl]) ?_
  refine vw L hL xP x hx s h1.1 h1.2 o3 n3 ⟨hI.cA,af,fun id aw=>by rw[hI.eq id (by omega),rQ _ _ aw]⟩ af Ni K X (fun e' o' n' st pd k1 k2 k3 k4=> ?_)
  have key:∀st' pd' b,(J (step s x)).isNone=b->H (step s x) nx=L st' pd'->K (.d (.bool b)) (ay o' nx (L st' pd')) n':=fun st' pd' b hb hh=>by
   subst hb
   refine hK _ _ k1 ⟨k2.cA.ay af (xP _ _ _ af),af,fun id aw=> ?_⟩ (fun id g1 g2=> ?_)
   ·by_cases xz:id=nx
    ·subst xz;rw[aa];exact hh.symm
    ·rw[ae _ _ _ _ xz]
     show o' id=H (step s x) id
     rw[rQ _ _ (by omega)];exact k2.eq id af
   ·rw[ae _ _ _ _ (by omega)];exact k4 id af g2
  cases hj:J (step s x)with
  |none=>exact sH hL k3 (key _ _ _ xZ (E1 _ hj))
  |some j=>
   cases j with
   |ret=>exact wm hL k3 (key _ _ _ xZ (SK _ _ hj))
   |exit j=>exact tF hL k3 (key _ _ _ xZ (SK _ _ hj))
 ·exact(hg.mono af).ay af (xP _ _ _ af)
 ·by_cases xz:id=nx
  ·subst xz;rw[aa,E1 _ hJ0]
  ·exact Ql
 ·intro o' n' k1 k2 k3
  have hle:=k2.le
  generalize hsf:(aQ (Fi J step) s0 (sR t)).1=sf at*
  have kk:∀st pd,eP nx (G sf) (ay o' nx (L st pd)) n':=fun st pd=>⟨k2.cA.ay af (xP _ _ _ af),af,fun id aw=>by rw[ae _ _ _ _ (by omega),k2.eq id (by omega),rQ _ _ aw]⟩
  cases hj:J sf with
  |none=>
   refine⟨.ready,none,by rw[k2.eq nx (by omega),E1 _ hj],(fun h=>by cases h), ?_⟩
   have:=jl _ _ (kk .exhausted none)
   rwa [hj]at this
  |some j=>
   refine⟨.done,some j,by rw[k2.eq nx (by omega),SK _ _ hj],(fun h=>by cases h), ?_⟩
   have:=jl _ _ (kk .exhausted (some j))
   rwa [hj]at this
end
def ke(b:List (Int×Tm))(n:Int)(s:List Int×Bool)(v:Int):List Int×Bool:=if v=n then(s.1,true)else match bR b v with
 |none=>(s.1,false)
 |some x=>if v∈s.1 then(s.1,false)else match Nj (b.length+1) b n x (ei s.1 v)with
  |some (is,m)=>(m,is)
  |none=>(s.1,false)
def stJ(s:List Int×Bool):Option jX:=if s.2=true then some .ret else none
theorem rl{b:List (Int×Tm)}{n:Int}:∀ (vs met:List Int) (is:Bool) (m':List Int),L7 (Nj b.length b n) b n vs met=some (is,m')->(aQ (Fi stJ (ke b n)) (met,false) vs).1=(m',is)
 |[],met,is,m',h=>by cases h;rfl
 |v::vs,met,is,m',h=>by
  simp only[L7]at h
  simp only[aQ,Fi]
  by_cases e:v=n
  ·rw[if_pos e]at h
   cases h
   have:ke b n (met,false) v=(met,true):=by unfold ke;rw[if_pos e]
   simp only[this];rfl
  ·rw[if_neg e]at h
   cases hl:bR b v with
   |none=>
    rw[hl]at h
    have:ke b n (met,false) v=(met,false):=by unfold ke;rw[if_neg e,hl]
    simp only[this]
    exact rl vs met is m' h
   |some x=>
    rw[hl]at h
    dsimp only at h
    by_cases e2:v∈met
    ·rw[if_pos e2]at h
     have:ke b n (met,false) v=(met,false):=by unfold ke;rw[if_neg e,hl];dsimp only;rw[if_pos e2]
     simp only[this]
     exact rl vs met is m' h
    ·rw[if_neg e2]at h
     cases hF:Nj b.length b n x (ei met v)with
     |none=>rw[hF]at h;cases h
     |some q=>
      obtain⟨i,m⟩:=q
      rw[hF]at h
      have:ke b n (met,false) v=(m,i):=by unfold ke;rw[if_neg e,hl];dsimp only;rw[if_neg e2,Dt hF (Nat.le_succ _)]
      simp only[this]
      cases i with
      |true=>cases h;rfl
      |false=>exact rl vs m is m' h
theorem Mk{s:aF}{b:List (Int×Tm)}(hb:∀p∈b,Vs s p.2)(nU:∀p∈b,p.2.fits)(n:Int):∀ (N:Nat) (t:Tm) (met:List Int),xw b met<=N->Vs s t->t.fits->∀ (is:Bool) (fH:List Int),Nj (b.length+1) b n t met=some (is,fH)->
 ∀ (o:Nat->ab) (nx nb bb mb fb mid:Nat),Good o nx->o nb= .row [.d (.i n)]->o bb= .row [.d (DX b)]->o mb= .row [.mp mid]->o fb= .row [.func (.func 148) [] [.ptr nb 0, .ptr bb 0, .ptr mb 0, .ptr fb 0]]->o mid=IU met->
 ∀ (K X:V->(Nat->ab)->Nat->Prop),(∀o' nx',nx<=nx'->Good o' nx'->(∀j,j<nx->j≠mid->o' j=o j)->o' mid=IU fH->K (.d (.bool is)) o' nx')->
 bZ Tryz.prog 148 [.d t.d, .ptr nb 0, .ptr bb 0, .ptr mb 0, .ptr fb 0] o nx K X:=by
 intro N
 induction N using Nat.strongRecOn with
 |ind N ihN=>
  intro t met hN ht Wt is fH hld o nx nb bb mb fb mid hg o1 o2 o3 o4 o5 K X hK
  have l1:nb<nx:=hg.lt (by rw[o1];exact ab.noConfusion)
  have l2:bb<nx:=hg.lt (by rw[o2];exact ab.noConfusion)
  have l3:mb<nx:=hg.lt (by rw[o3];exact ab.noConfusion)
  have l4:fb<nx:=hg.lt (by rw[o4];exact ab.noConfusion)
  have l5:mid<nx:=hg.lt (by rw[o5];exact ab.noConfusion)
  have d1:nb≠mid:=fun e=>by rw[e,o5]at o1;cases o1
  have d2:bb≠mid:=fun e=>by rw[e,o5]at o2;cases o2
  have d3:mb≠mid:=fun e=>by rw[e,o5]at o3;cases o3
  have d4:fb≠mid:=fun e=>by rw[e,o5]at o4;cases o4
  refine bZ.aG mix Sg aH ?_
  rw[VC]
  refine gH ?_
  refine bX (Mj t _ _ _ _ ?_)
  refine gH ?_
  obtain⟨O1,hO1⟩:∃O1:Nat->ab,O1=ay (ay (ay o nx (ab.row [V.d (D.i t.op),V.d (D.i t.n),V.d (D.sl (List.map Tm.d t.kids))])) (nx+1) (ab.row [V.d (D.bool false)])) (nx+3) (ab.row t.row):=⟨_,rfl⟩
  have hgO:Good O1 (nx+7):=by rw[hO1];exact dB
  have hOl:∀j,j<nx->O1 j=o j:=fun j hj=>by rw[hO1];(repeat(first|rfl|rw[aa]|rw[ae _ _ _ _ (by omega)]))
  have afe:O1 (nx+1)= .row [.d (.bool false)]:=by rw[hO1];(repeat(first|rfl|rw[aa]|rw[ae _ _ _ _ (by omega)]))
  have hO3:O1 (nx+3)= .row t.row:=by rw[hO1];(repeat(first|rfl|rw[aa]|rw[ae _ _ _ _ (by omega)]))
  rw[<- hO1]
  obtain⟨G,hG⟩:∃G:List Int×Bool->Nat->ab,G=fun s=>ay (ay O1 (nx+1) (.row [.d (.bool s.2)])) mid (IU s.1):=⟨_,rfl⟩
  have gm:∀s,G s mid=IU s.1:=fun s=>by rw[hG];exact aa _ _ _
  have gc:∀s,G s (nx+1)= .row [.d (.bool s.2)]:=fun s=>by rw[hG];show ay _ mid _ _=_;rw[ae _ _ _ _ (by omega),aa]
  have ge:∀s j,j≠mid->j≠nx+1->G s j=O1 j:=fun s j j1 j2=>by rw[hG];show ay _ mid _ _=_;rw[ae _ _ _ _ j1,ae _ _ _ _ j2]
  have gl:∀s j,j<nx->j≠mid->G s j=o j:=fun s j j1 j2=>by rw[ge s j j2 (by omega),hOl j j1]
  refine DC (σ:=List Int×Bool) t Wt [.ad, .ptr nb 0, .ptr bb 0, .ptr mb 0, .ptr fb 0, .ad, .ptr (nx+1) 0] ?_ bD rfl hgO FI hO3
   G stJ (ke b n) (fun s=>xw b s.1<=N) (met,false) hN rfl (fun id aw=> ?_) (fun x hx s' h1 h2 h3=> ?_) ?_ ?_
  ·exact JC
  ·by_cases e1:id=mid
   ·subst e1;rw[gm,hOl id (by omega),o5]
   ·by_cases e2:id=nx+1
    ·subst e2;rw[gc,afe]
    ·rw[ge _ _ e1 e2]
  ·obtain⟨m,fl⟩:=s'
   show xw b (ke b n (m,fl) x).1<=N
   have h1:xw b m<=N:=h1
   unfold ke
   by_cases e:x=n
   ·rw[if_pos e];exact h1
   ·rw[if_neg e]
    cases hl:bR b x with
    |none=>exact h1
    |some y=>
     dsimp only
     by_cases e2:x∈m
     ·rw[if_pos e2];exact h1
     ·rw[if_neg e2]
      have hle:xw b (ei m x)<=b.length:=Nat.le_trans (Nat.le_of_lt (uH hl e2)) YG
      obtain⟨i1,m1,g1,g2,g3⟩:=G5 hb n b.length y (ei m x) hle (hb _ (cK hl))
      have jZ:ke b n (m,fl) x=(m1,i1):=by unfold ke;rw[if_neg e,hl];dsimp only;rw[if_neg e2,g1]
      rw[g1]
      rw[jZ]at h3
      cases i1 with
      |true=>cases h3
      |false=>
       have:=Du (b:=b) (g3 rfl).1
       have:=uH hl e2
       show xw b m1<=N
       omega
  ·intro L hL xP v hv s' oJ DV O3 n3 hI hn Ni K' X' eG
   obtain⟨m,fl⟩:=s'
   have mV:fl=false:=by
    cases fl with
    |false=>rfl
    |true=>cases DV
   subst mV
   have oJ:xw b m<=N:=oJ
   simp only[pH]
   have hg:=hI.cA
   have hle:=hI.le
   have q1:O3 nb= .row [.d (.i n)]:=by rw[hI.eq nb (by omega),gl _ _ (by omega) d1,o1]
   have q2:O3 bb= .row [.d (DX b)]:=by rw[hI.eq bb (by omega),gl _ _ (by omega) d2,o2]
   have q3:O3 mb= .row [.mp mid]:=by rw[hI.eq mb (by omega),gl _ _ (by omega) d3,o3]
   have q4:O3 fb= .row [.func (.func 148) [] [.ptr nb 0, .ptr bb 0, .ptr mb 0, .ptr fb 0]]:=by rw[hI.eq fb (by omega),gl _ _ (by omega) d4,o4]
   have q5:O3 mid=IU m:=by rw[hI.eq mid (by omega),gm]
   have q6:O3 (nx+1)= .row [.d (.bool false)]:=by rw[hI.eq (nx+1) (by omega),gc]
   have same:∀ (o':Nat->ab) (n':Nat) (s:List Int×Bool),Good o' n'->n3<=n'->(∀j,j<nx+7->o' j=ay (ay O3 (nx+1) (.row [.d (.bool s.2)])) mid (IU s.1) j)->eP (nx+7) (G s) o' n':=fun o' n' s k1 k2 k3=>⟨k1,af,fun j hj=>by
    rw[k3 j hj]
    by_cases e1:j=mid
    ·subst e1;rw[aa,gm]
    ·rw[ae _ _ _ _ e1]
     by_cases e2:j=nx+1
     ·subst e2;rw[aa,gc]
     ·rw[ae _ _ _ _ e2,hI.eq j hj,ge _ _ e1 e2,ge _ _ e1 e2]⟩
   have z1:∀k,nb≠n3+k:=fun k=>af
   have z2:∀k,bb≠n3+k:=fun k=>af
   have z3:∀k,mb≠n3+k:=fun k=>af
   have z4:∀k,fb≠n3+k:=fun k=>af
   have z5:∀k,mid≠n3+k:=fun k=>af
   have z6:∀k,nx+1≠n3+k:=fun k=>af
   refine bI ?_
   refine nK hL (pd:=none) ?_ ?_
   ·(repeat(first|rfl|rw[aa]|rw[ae _ _ _ _ (by omega)]))
    exact Ni
   refine Hq q1 q2 q3 q4 q5 q6 ?_
   refine ao (fun h3=> ?_) (fun h3=> ?_)
   ·have j6:v=n:=by simpa using h3
    have jZ:ke b n (m,false) v=(m,true):=by unfold ke;rw[if_pos j6]
    rw[jZ]at eG
    refine Hq q1 q2 q3 q4 q5 q6 ?_
    refine eG _ _ _ .busy none af (same _ _ _ dB af fun j hj=> ?_) cF (fun id h3 h4=>by(repeat(first|rfl|rw[aa]|rw[ae _ _ _ _ (by omega)])))
    by_cases e1:j=mid
    ·exact Tn
    ·by_cases e2:j=nx+1
     ·exact To
     ·exact cF
   ·have j6:v≠n:=by simpa using h3
    cases hl:bR b v with
    |none=>
     have jZ:ke b n (m,false) v=(m,false):=by unfold ke;rw[if_neg j6,hl]
     rw[jZ]at eG
     cases hc:m.contains v
     all_goals
      simp+contextual (disch:=first|omega|simp only[go_sem,false_implies]) only[go_sem,wrap64,if_pos,q1,q2,q3,q4,q5,q6,oz,eE hl,hc]
      refine eG _ _ _ .busy none af (same _ _ _ dB af fun j hj=> ?_) cF (fun id h3 h4=>by(repeat(first|rfl|rw[aa]|rw[ae _ _ _ _ (by omega)])))
      by_cases e1:j=mid
      ·exact Tn
      ·by_cases e2:j=nx+1
       ·exact YQ
       ·exact cF
    |some y=>
     obtain⟨jy,hj⟩:=fP hl
     have OO:=cK hl
     cases hc:m.contains v with
     |true=>
      have vr:v∈m:=List.contains_iff_mem.1 hc
      have jZ:ke b n (m,false) v=(m,false):=by unfold ke;rw[if_neg j6,hl];dsimp only;rw[if_pos vr]
      rw[jZ]at eG
      simp+contextual (disch:=first|omega|simp only[go_sem,false_implies]) only[go_sem,wrap64,if_pos,q1,q2,q3,q4,q5,q6,oz,hj,hc]
      refine eG _ _ _ .busy none af (same _ _ _ dB af fun j hj=> ?_) cF (fun id h3 h4=>by(repeat(first|rfl|rw[aa]|rw[ae _ _ _ _ (by omega)])))
      by_cases e1:j=mid
      ·exact Tn
      ·by_cases e2:j=nx+1
       ·exact YQ
       ·exact cF
     |false=>
      have vr:v∉m:=fun h=>by rw[List.contains_iff_mem.2 h]at hc;cases hc
      have ck:=uH hl vr
      have KG:xw b (ei m v)<=b.length:=Nat.le_trans (Nat.le_of_lt ck) YG
      obtain⟨i1,m1,g1,_,_⟩:=G5 hb n b.length y (ei m v) KG (hb _ OO)
      have jZ:ke b n (m,false) v=(m1,i1):=by unfold ke;rw[if_neg j6,hl];dsimp only;rw[if_neg vr,g1]
      rw[jZ]at eG
      simp+contextual (disch:=first|omega|simp only[go_sem,false_implies]) only[go_sem,wrap64,if_pos,q1,q2,q3,q4,q5,q6,z1,z2,z3,z4,z5,z6,oz,hj,hc]
      refine aX (ihN _ af y (ei m v) (Nat.le_refl _) (hb _ OO) (nU _ OO) i1 m1 g1 _ _ nb bb mb fb mid ?_ ?_ ?_ ?_ ?_ ?_ _ _ fun o4' n4 w1 w2 w3 w4=> ?_)
      ·exact dB
      ·(repeat(first|rfl|rw[aa]|rw[ae _ _ _ _ (by omega)]));exact q1
      ·(repeat(first|rfl|rw[aa]|rw[ae _ _ _ _ (by omega)]));exact q2
      ·exact Tp
      ·exact Y1
      ·exact cF
      have p7:o4' (nx+7)=L .busy none:=by rw[w3 (nx+7) (by omega) (by omega)];(repeat(first|rfl|rw[aa]|rw[ae _ _ _ _ (by omega)]))
      have p6:o4' (nx+1)= .row [.d (.bool false)]:=by rw[w3 (nx+1) (by omega) (by omega)];(repeat(first|rfl|rw[aa]|rw[ae _ _ _ _ (by omega)]));exact q6
      have pj:∀j,j<nx+7->j≠mid->o4' j=O3 j:=fun j j1 j2=>by rw[w3 j (by omega) j2];(repeat(first|rfl|rw[aa]|rw[ae _ _ _ _ (by omega)]))
      have ph:∀j,nx+7<j->j<n3->o4' j=O3 j:=fun j j1 j2=>by rw[w3 j (by omega) (by omega)];(repeat(first|rfl|rw[aa]|rw[ae _ _ _ _ (by omega)]))
      clear hg
      have hg:=w2
      cases i1 with
      |true=>
       refine lT p6 ?_
       refine eG _ _ _ .busy none af (same _ _ _ dB af fun j hj=> ?_) (by(repeat(first|rfl|rw[aa]|rw[ae _ _ _ _ (by omega)]))<;>exact p7) (fun id h3 h4=>by(repeat(first|rfl|rw[aa]|rw[ae _ _ _ _ (by omega)]))<;>exact ph id h3 h4)
       by_cases e1:j=mid
       ·exact YR
       ·by_cases e2:j=nx+1
        ·exact To
        ·exact YU
      |false=>
       refine lT p6 ?_
       refine eG _ _ _ .busy none af (same _ _ _ dB af fun j hj=> ?_) p7 (fun id h3 h4=>ph id h3 h4)
       by_cases e1:j=mid
       ·exact YR
       ·by_cases e2:j=nx+1
        ·subst e2;(repeat(first|rfl|rw[aa]|rw[ae _ _ _ _ (by omega)]));exact p6
        ·exact YU
  ·intro o' n' hI
   rw[rl (sR t) met is fH hld]at hI|-
   have p6:o' (nx+1)= .row [.d (.bool is)]:=by rw[hI.eq (nx+1) (by omega),gc]
   have hle:=hI.le
   have hg:=hI.cA
   cases is with
   |true=>
    rw[show stJ (fH,true)=some .ret from rfl]
    simp only[qF]
    refine lT p6 ?_
    exact hK _ _ af dB (fun j j1 j2=>by rw[hI.eq j (by omega),gl _ _ j1 j2]) (by rw[hI.eq mid (by omega),gm])
   |false=>
    rw[show stJ (fH,false)=none from rfl]
    simp only[qF]
    refine lT p6 ?_
    refine hK _ _ af dB (fun j j1 j2=> ?_) ?_
    ·(repeat(first|rfl|rw[aa]|rw[ae _ _ _ _ (by omega)]));rw[hI.eq j (by omega),gl _ _ j1 j2]
    ·(repeat(first|rfl|rw[aa]|rw[ae _ _ _ _ (by omega)]));rw[hI.eq mid (by omega),gm]
theorem Hd{s:aF}{b:List (Int×Tm)}(hb:∀p∈b,Vs s p.2)(nU:∀p∈b,p.2.fits)(n:Int)(t:Tm)(ht:Vs s t)(Wt:t.fits){is:Bool}(A0:is=true↔mH b n t):
 aV Tryz.prog 120 [DX b,t.d, .i n] (.ret [.bool is]):=by
 obtain⟨i1,m1,g1,g2⟩:=Wm hb n ht
 have:is=i1:=by rw[Bool.eq_iff_iff,A0,g2]
 subst this
 refine aV.aG mix R4 aH ?_
 rw[Vp]
 refine bI ?_
 have hN:xw b []<=b.length:=by unfold xw;exact Nat.le_trans (List.length_filter_le _ _) YB
 refine aX (Mk hb nU n b.length t [] hN ht Wt is m1 g1 _ _ 2 0 5 7 4 dB rfl rfl rfl rfl rfl _ _ fun o' nx' w1 w2 w3 w4=> ?_)
 exact jW
structure BL (l:List TB):Prop where
 len:l.length<=100
 sz:∀x∈l,x.term.sz<=1000
theorem zd{b:List (Int×Tm)}(nU:∀p∈b,p.2.fits)(hle:∀p∈b,∃f r,tK f b p.2 40 12=some r){ok:Bool}(aW:ok=true↔∀p∈b,ui b p.2):aV Tryz.prog 121 [DX b] (.ret [.bool ok]):=by
 refine aV.aG mix R5 aH ?_
 rw[Vq]
 simp+contextual (disch:=first|omega|simp only[go_sem,false_implies]) only[go_sem,wrap64,if_pos,oz]
 refine aC (fun i:List (Int×Tm)×Option (D×D)=>⟨aY [.d (DX b), .ad, .ad, .ad, .ad, .ad, .ptr 2 0],ay (fun _=> .no) 2 (.rG (enc (D.int .i64) (j8 i.1)) i.2),3⟩)
  (fun i=>(∀p∈i.1,p∈b)/\(ok=true↔∀p∈i.1,ui b p.2)) (fun i=>i.1.length) (b,none) ⟨fun _ h=>h,aW⟩ ?_ ?_
 ·dsimp only
  exact NA
 rintro⟨rest,last⟩ ⟨hr,ho⟩
 dsimp only at hr ho|-
 refine bI ?_
 refine sM (fun h0=> ?_) fun i k x hm=> ?_
 ·subst h0
  have:ok=true:=ho.2 (fun p hp=>by cases hp)
  exact zA
 ·have oI:=List.mem_of_getElem? hm
  have Nc:=hr _ oI
  obtain⟨f,r,hf⟩:=hle _ Nc
  have hlen:(rest.eraseIdx i).length<rest.length:=by
   exact TM
  have uU:=pT hm
  refine bI ?_
  refine ak (Me f x 40 12 r (nU _ Nc) nU af af hf) rfl ?_
  have cQ:=G6 hf
  by_cases h0:r<0
  ·have zS:decide (r<0)=true:=decide_eq_true h0
   have:ok=false:=by
    cases ok with
    |false=>rfl
    |true=>
     have:=cQ.1 (ho.1 rfl _ oI)
     omega
   subst this
   exact xq zS
  ·have zS:decide (r<0)=false:=decide_eq_false h0
   refine lT zS ?_
   refine aj (rest.eraseIdx i,some (.int .i64 k,x.d)) ⟨fun p hp=>hr p (uU.mem_iff.1 (List.mem_cons_of_mem _ hp)),ho.trans ⟨fun h p hp=>h p (uU.mem_iff.1 (List.mem_cons_of_mem _ hp)),fun h p hp=> ?_⟩⟩ hlen (bH.bM _ (show 0<=3 from af) af dB (fun j hj=> ?_) ?_)
   ·rcases List.mem_cons.1 (uU.mem_iff.2 hp)with rfl|hp
    ·exact cQ.2 af
    ·exact h p hp
   ·by_cases e:j=2
    ·exact uQ
    ·exact cF
   ·exact dC
structure Nt where
 a:Tm
 b:Tm
@[reducible] def Nt.d (n:Nt):D:= .agg [.i n.a.op, .i n.a.n, .sl (n.a.kids.map Tm.d), .i n.b.op, .i n.b.n, .sl (n.b.kids.map Tm.d)]
@[reducible] def Nt.row (n:Nt):List V:=[.d (.i n.a.op), .d (.i n.a.n), .d (.sl (n.a.kids.map Tm.d)), .d (.i n.b.op), .d (.i n.b.n), .d (.sl (n.b.kids.map Tm.d))]
@[reducible] def rM (m:Int×Int):D:= .agg [.i m.1, .i m.2]
structure c6 where
 sig:aF
 binds:List TB
 aJ:List Nt
 marks:List (Int×Int)
@[reducible] def c6.d (s:c6):D:= .agg [.sl (s.sig.cons.map ef.d), .sl (s.sig.bW.map ef.d), .sl (s.binds.map TB.d), .sl (s.aJ.map Nt.d), .sl (s.marks.map rM)]
@[reducible] def c6.row (s:c6):List V:=[.d (.sl (s.sig.cons.map ef.d)), .d (.sl (s.sig.bW.map ef.d)), .d (.sl (s.binds.map TB.d)), .d (.sl (s.aJ.map Nt.d)), .d (.sl (s.marks.map rM))]
@[reducible] def c6.kd (s:c6) (b:List (Int×Tm)):D:= .agg [.sl (s.sig.cons.map ef.d), .sl (s.sig.bW.map ef.d), .sl (s.binds.map TB.d), .sl (s.aJ.map Nt.d), .sl (s.marks.map rM),DX b]
def bn(s:aF)(t:Tm):Bool:=ja s [t]&&nP t
theorem nV(s:c6)(hs:s.sig.Fits)(b:List (Int×Tm))(t:Tm)(ht:t.Fin):aV Tryz.prog 99 [s.kd b,t.d] (.ret [.bool (bn s.sig t)]):=by
 refine aV.aG mix abj aH ?_
 rw[c99]
 refine bI ?_
 refine ak (Fa s.sig hs t ht) rfl ?_
 unfold bn
 cases h:ja s.sig [t]with
 |false=>
  exact Ym
 |true=>
  exact Ym
theorem ze(s:c6){b:List (Int×Tm)}(hb:∀p∈b,p.2.fits)(n:Nt)(ha:n.a.fits)(ya:n.b.fits){f:Nat}{x y:Tm}(hx:uI f b n.a=some x)(hy:uI f b n.b=some y)(fx:x.fits)(fy:y.fits)(zx:x.sz<=1000000)(zy:y.sz<=1000000):
 aV Tryz.prog 66 [s.kd b,n.d] (.ret [.bool (hO x y)]):=by
 refine aV.aG mix aa9 aH ?_
 rw[c66]
 refine bI ?_
 refine aS (wL hb f n.a x ha hx zx) ?_
 refine bI ?_
 refine aS (wL hb f n.b y ya hy zy) ?_
 refine bI ?_
 refine aZ (Pc x fx y fy) rfl ?_
 exact J2
def A1(b:List (Int×Tm))(n:Nt):Prop:=∃f x,uI f b n.a=some x/\uI f b n.b=some x
def sV(nb nn:Int):Int×Int->List (Int×Int)->Bool
 |_,[]=>true
 |l,m::ms=> !(decide (m.1<l.1)||decide (m.1>nb)||decide (m.2<l.2)||decide (m.2>nn))&&sV nb nn m ms
structure ji (s:aF) (l:List TB):Prop where
 len:l.length<=20
 keys:((ah l).map (·.1)).Nodup
 ok:∀x∈l,(0<=x.var/\x.var<20)/\bn s x.term=true
 I2:Wn (ah l)
 SU:∀x∈l,ui (ah l) x.term
structure bO (s:c6):Prop where
 sig:kU s.sig=true
 wM:s.aJ.length<=12
 I6:s.marks.length<=8
 kZ:ji s.sig s.binds
 aJ:∀n∈s.aJ,bn s.sig n.a=true/\bn s.sig n.b=true/\ ¬A1 (ah s.binds) n
 marks:sV s.binds.length s.aJ.length (0,0) s.marks=true
structure c6.Fin (s:c6):Prop where
 sig:s.sig.Fits
 bl:s.binds.length<=1000
 nl:s.aJ.length<=1000
 ml:s.marks.length<=1000
 bt:∀x∈s.binds,x.term.Fin
 nt:∀n∈s.aJ,n.a.Fin/\n.b.Fin
theorem b9{s:aF}{t:Tm}(h:bn s t=true):Vs s t/\t.sz<=40/\t.mm<=12:=by
 unfold bn ja at h
 simp only[Bool.and_eq_true,List.all_cons,List.all_nil,Bool.and_true]at h
 obtain⟨⟨_,h1⟩,h2⟩:=h
 rw[pQ]at h1
 rw[ow h1]at h2
 have h3:=G2 h1
 unfold gA at h1
 rw[Bool.and_eq_true]at h1
 exact⟨⟨h1.2,h2⟩,h3.2⟩
theorem dz{l:List TB}{p:Int×Tm}(h:p∈ah l):∃x∈l,p=(x.var,x.term):=by
 obtain⟨x,hx,rfl⟩:=List.mem_map.1 h
 exact⟨x,hx,rfl⟩
theorem gY{l:List TB}{x:TB}(h:x∈l):(x.var,x.term)∈ah l:=List.mem_map.2 ⟨x,h,rfl⟩
theorem DD(l:List TB){k:Nat}{x:TB}(h:l[k]? =some x):ah (l.take (k+1))=ah (l.take k)++[(x.var,x.term)]:=by
 unfold ah
 rw[List.take_add_one,h,List.map_append];rfl
theorem oA{s:aF}{l:List TB}(hk:((ah l).map (·.1)).Nodup)(ho:∀x∈l,(0<=x.var/\x.var<20)/\bn s x.term=true)(ha:Wn (ah l)):∃l' ρ R,lM s (ah l) l' ρ R/\jh s l':=
 Ma hk (fun p hp=>by
  obtain⟨x,hx,rfl⟩:=dz hp
  exact⟨(ho x hx).1,(b9 (ho x hx).2).1⟩) ha
theorem A2{s:aF}{b:List (Int×Tm)}{l:List TB}{ρ:Int->Nat}{R:Nat}(h:lM s b l ρ R){n:Nt}(ha:Vs s n.a)(hb:Vs s n.b):A1 b n↔bc (ah l) n.a=bc (ah l) n.b:=by
 have e1:=pg h _ n.a ha (Nat.le_refl _)
 have e2:=pg h _ n.b hb (Nat.le_refl _)
 constructor
 ·rintro⟨f,x,h1,h2⟩
  obtain⟨g,hg⟩:∃g,g=f+(R+3+((bc (ah l) n.a).sz+(bc (ah l) n.b).sz)):=⟨_,rfl⟩
  have k1:=gX h1 (show f<=g from af)
  have k2:=gX h2 (show f<=g from af)
  rw[gX e1 (show _<=g by omega)]at k1
  rw[gX e2 (show _<=g by omega)]at k2
  exact Option.some.inj (k1.trans k2.symm)
 ·intro h
  refine⟨R+3+((bc (ah l) n.a).sz+(bc (ah l) n.b).sz),bc (ah l) n.a,gX e1 af, ?_⟩
  rw[h]
  exact gX e2 af
theorem Ph{F:Tm->Int->Option Int}:∀ {ks:List Tm} {n r:Int},n<0->Br F ks n=some r->r=n
 |[],n,r,_,h=>by cases h;rfl
 |k::ks,n,r,hn,h=>by
  simp only[Br]at h
  rw[if_pos hn]at h
  cases h;rfl
theorem Ml{F:Tm->Int->Option Int}{g:Tm->Nat}:∀ {ks:List Tm} {n r:Int},(∀k∈ks,∀m q,F k m=some q->0<=q->(g k:Int)=m - q)->Br F ks n=some r->0<=r->(((ks.map g).sum:Nat):Int)=n - r
 |[],n,r,_,h,_=>by cases h;simp
 |k::ks,n,r,hF,h,hr=>by
  have h0:=h
  simp only[Br]at h
  split at h
  ·cases h;omega
  ·cases e:F k n with
   |none=>rw[e]at h;cases h
   |some q=>
    rw[e]at h
    have hq:0<=q:=by
     rcases Int.lt_or_le q 0 with hq|hq
     ·have:=Ph hq h;omega
     ·exact hq
    have h1:=hF k aH n q e hq
    have h2:=Ml (g:=g) (fun y hy=>hF y mK) h hr
    rw[List.map_cons,List.sum_cons]
    omega
theorem Mm{s:aF}{b:List (Int×Tm)}{l:List TB}{ρ:Int->Nat}{R:Nat}(h:lM s b l ρ R):∀ (f:Nat) (t:Tm) (n:Int) (d:Nat) (r:Int),Vs s t->tK f b t n d=some r->0<=r->((bc (ah l) t).sz:Int)=n - r
 |0,_,_,_,_,_,h,_=>by cases h
 |f+1,t,n,d,r,ht,hl,hr=>by
  simp only[tK]at hl
  obtain⟨x,a1,a2,a3,a4,_⟩:=h.root ht
  cases ha:jY f b t with
  |none=>rw[ha]at hl;cases hl
  |some y=>
  have e1:=gW a1 (show R+2<=f+(R+2)from af)
  rw[gW ha (show f<=f+(R+2) by omega)]at e1
  cases e1
  rw[ha]at hl
  cases d with
  |zero=>cases hl;omega
  |succ d=>
   dsimp only at hl
   have h1:=Ml (g:=fun k=>(bc (ah l) k).sz) (fun k hk m q hq hq0=>Mm h f k m d q (a2.kY hk) hq hq0) hl hr
   rw[<- a3]
   by_cases hx:x.op=1
   ·have e:=a2.eta hx
    have hk:x.kids=[]:=by rw[e];rfl
    have hv:bc (ah l) x=x:=by rw[je a2 hx,show Lv (ah l) x.n= .mk 1 x.n [] by simp[Lv,(h.AU _).1 (a4 hx)]];exact e.symm
    rw[hk]at h1
    rw[hv,Tm.jR,hk]
    simp[rK]at h1|-
    omega
   ·rw[jf hx,Tm.jR]
    have:rK (Tm.mk x.op x.n (x.kids.map (bc (ah l)))).kids=(x.kids.map fun k=>(bc (ah l) k).sz).sum:=by
     show rK (x.kids.map (bc (ah l)))=_
     unfold rK
     rw[List.map_map];rfl
    rw[this]
    omega
theorem Mn{s:aF}{b:List (Int×Tm)}{l:List TB}{ρ:Int->Nat}{R:Nat}(h:lM s b l ρ R){t:Tm}(ht:Vs s t)(hf:ui b t):(bc (ah l) t).sz<=40:=by
 obtain⟨f,r,h1,h2⟩:=hf
 have:=Mm h f t 40 12 r ht h1 h2
 omega
theorem ac2{s:aF}{b:List (Int×Tm)}(hb:∀v,(Lv b v).sz<=40):∀t:Tm,Vs s t->(bc b t).sz<=40*t.sz:=by
 refine Tm.eY fun t ih ht=> ?_
 by_cases h1:t.op=1
 ·rw[je ht h1]
  have:=hb t.n
  have:=Tm.sJ t
  omega
 ·rw[jf h1,Tm.jR,Tm.jR t]
  show 1+rK (t.kids.map (bc b))<=40*(1+rK t.kids)
  have key:∀ks:List Tm,(∀k∈ks,(bc b k).sz<=40*k.sz)->rK (ks.map (bc b))<=40*rK ks:=by
   intro ks
   induction ks with
   |nil=>intro _;simp[rK]
   |cons k ks Dp=>
    intro h
    have h1:=h k aH
    have h2:=Dp fun y hy=>h y mK
    rw[List.map_cons,qZ,qZ]
    omega
  have:=key t.kids fun k hk=>ih k hk (ht.kY hk)
  omega
theorem mz{s:aF}{b:List (Int×Tm)}{l:List TB}{ρ:Int->Nat}{R:Nat}(h:lM s b l ρ R)(hf:∀p∈b,ui b p.2){t:Tm}(ht:Vs s t):(bc (ah l) t).sz<=40*t.sz:=by
 refine ac2 (fun v=> ?_) t ht
 cases hx:bR b v with
 |none=>
  have:Lv (ah l) v= .mk 1 v []:=by simp[Lv,(h.AU v).1 hx]
  rw[this,Tm.jR]
  simp[Tm.kids,rK]
 |some x=>
  obtain⟨g1,g2,_⟩:=h.ok v x hx
  rw[g2]
  exact Mn h g1 (hf _ (cK hx))
end Go.Proofs.YtlhemmpklhhgoaaGreat
section
namespace Go.Proofs.YtlhemmpklhhgoaaGreat
open Classical in
noncomputable def eB(lim:Bool)(b:List (Int×Tm))(n:Int)(t:Tm):Int×List (Int×Tm):=
 if mH b n t then(5,b)else if lim=true/\ ¬ (∀p∈b++[(n,t)],ui (b++[(n,t)]) p.2)then(3,b++[(n,t)])else(0,b++[(n,t)])
open Classical in
noncomputable def gD(b:List (Int×Tm))(t:Tm):Option Tm:=if h:∃x g,jY g b t=some x then some h.choose else none
theorem cP{b:List (Int×Tm)}{g:Nat}{t x:Tm}(h:jY g b t=some x):gD b t=some x:=by
 have hx:∃x g,jY g b t=some x:=⟨x,g,h⟩
 unfold gD
 rw[dif_pos hx]
 obtain⟨g',h'⟩:=hx.choose_spec
 have e1:=gW h (Nat.le_max_left g g')
 rw[gW h' (Nat.le_max_right g g')]at e1
 exact e1
theorem lN{b:List (Int×Tm)}{t x:Tm}(h:gD b t=some x):∃g,jY g b t=some x:=by
 unfold gD at h
 split at h
 ·rename_i hx
  injection h with h
  subst h
  exact hx.choose_spec
 ·cases h
def lg(F:Tm->Tm->List (Int×Tm)->Option (Int×List (Int×Tm))):List Tm->List Tm->List (Int×Tm)->Option (Int×List (Int×Tm))
 |k::ks,k'::dD,b=>match F k k' b with
  |some (e,b1)=>if e=0 then lg F ks dD b1 else some (e,b1)
  |none=>none
 |_,_,b=>some (0,b)
noncomputable def iC(lim:Bool):Nat->Tm->Tm->List (Int×Tm)->Option (Int×List (Int×Tm))
 |0,_,_,_=>none
 |f+1,a,c,b=>match gD b a,gD b c with
  |some x,some y=>
   if x.op=1 then
    if y.op=1 then(if x.n=y.n then some (0,b)else some (eB lim b (max x.n y.n) (.mk 1 (min x.n y.n) [])))
    else some (eB lim b x.n y)
   else if y.op=1 then some (eB lim b y.n x)
   else if x.op=y.op/\x.n=y.n/\x.kids.length=y.kids.length then lg (iC lim f) x.kids y.kids b
   else some (5,b)
  |_,_=>none
noncomputable def jT(lim:Bool)(top:Nat):Nat->List (Tm×Tm)->List (Int×Tm)->Option (Int×List (Int×Tm))
 |0,_,_=>none
 |f+1,[],b=>some (0,b)
 |f+1,(a,c)::st,b=>if st.length≥top then none else match gD b a,gD b c with
  |some x,some y=>
   if x.op=1 then
    if y.op=1 then(if x.n=y.n then jT lim top f st b else
     if(eB lim b (max x.n y.n) (.mk 1 (min x.n y.n) [])).1=0 then jT lim top f st (eB lim b (max x.n y.n) (.mk 1 (min x.n y.n) [])).2 else some (eB lim b (max x.n y.n) (.mk 1 (min x.n y.n) [])))
    else if(eB lim b x.n y).1=0 then jT lim top f st (eB lim b x.n y).2 else some (eB lim b x.n y)
   else if y.op=1 then(if(eB lim b y.n x).1=0 then jT lim top f st (eB lim b y.n x).2 else some (eB lim b y.n x))
   else if x.op=y.op/\x.n=y.n/\x.kids.length=y.kids.length then jT lim top f (x.kids.zip y.kids++st) b
   else some (5,b)
  |_,_=>none
theorem lO{F G:Tm->Tm->List (Int×Tm)->Option (Int×List (Int×Tm))}(Dr:∀k k' b r,F k k' b=some r->G k k' b=some r):∀ {ks dD:List Tm} {b:List (Int×Tm)} {r:Int×List (Int×Tm)},lg F ks dD b=some r->lg G ks dD b=some r
 |[],_,_,_,h=>by simpa[lg]using h
 |_::_,[],_,_,h=>by simpa[lg]using h
 |k::ks,k'::dD,b,r,h=>by
  simp only[lg]at h|-
  cases e:F k k' b with
  |none=>rw[e]at h;cases h
  |some q=>
   rw[e]at h
   rw[Dr _ _ _ _ e]
   dsimp only at h|-
   split at h
   ·rename_i e0;rw[if_pos e0];exact lO Dr h
   ·rename_i e0;rw[if_neg e0];exact h
theorem gZ{lim:Bool}:∀ {f g:Nat} {t u:Tm} {b:List (Int×Tm)} {r:Int×List (Int×Tm)},iC lim f t u b=some r->f<=g->iC lim g t u b=some r
 |0,_,_,_,_,_,h,_=>by cases h
 |f+1,0,_,_,_,_,h,hg=>af
 |f+1,g+1,t,u,b,r,h,hg=>by
  simp only[iC]at h|-
  cases ha:gD b t with
  |none=>rw[ha]at h;cases h
  |some x=>
  cases hc:gD b u with
  |none=>rw[ha,hc]at h;cases h
  |some y=>
  rw[ha,hc]at h
  skip
  dsimp only at h|-
  split at h
  ·rename_i h1;rw[if_pos h1];exact h
  ·rename_i h1
   rw[if_neg h1]
   split at h
   ·rename_i h2;rw[if_pos h2];exact h
   ·rename_i h2
    rw[if_neg h2]
    split at h
    ·rename_i h3;rw[if_pos h3];exact lO (fun k k' b r hk=>gZ hk af) h
    ·rename_i h3;rw[if_neg h3];exact h
theorem gE{lim:Bool}{top:Nat}:∀ {f g:Nat} {st:List (Tm×Tm)} {b:List (Int×Tm)} {r:Int×List (Int×Tm)},jT lim top f st b=some r->f<=g->jT lim top g st b=some r
 |0,_,_,_,_,h,_=>by cases h
 |f+1,0,_,_,_,h,hg=>af
 |f+1,g+1,[],b,r,h,hg=>h
 |f+1,g+1,(t,u)::st,b,r,h,hg=>by
  simp only[jT]at h|-
  by_cases h0:st.length≥top
  ·rw[if_pos h0]at h;cases h
  rw[if_neg h0]at h|-
  cases ha:gD b t with
  |none=>rw[ha]at h;cases h
  |some x=>
  cases hc:gD b u with
  |none=>rw[ha,hc]at h;cases h
  |some y=>
  rw[ha,hc]at h
  skip
  dsimp only at h|-
  by_cases h1:x.op=1
  ·rw[if_pos h1]at h|-
   by_cases h2:y.op=1
   ·rw[if_pos h2]at h|-
    by_cases h3:x.n=y.n
    ·rw[if_pos h3]at h|-;exact gE h af
    ·rw[if_neg h3]at h|-
     split at h
     ·rename_i h4;rw[if_pos h4];exact gE h af
     ·rename_i h4;rw[if_neg h4];exact h
   ·rw[if_neg h2]at h|-
    split at h
    ·rename_i h4;rw[if_pos h4];exact gE h af
    ·rename_i h4;rw[if_neg h4];exact h
  ·rw[if_neg h1]at h|-
   by_cases h2:y.op=1
   ·rw[if_pos h2]at h|-
    split at h
    ·rename_i h4;rw[if_pos h4];exact gE h af
    ·rename_i h4;rw[if_neg h4];exact h
   ·rw[if_neg h2]at h|-
    split at h
    ·rename_i h4;rw[if_pos h4];exact gE h af
    ·rename_i h4;rw[if_neg h4];exact h
theorem Fj{lim:Bool}{top W:Nat}{P:Tm->Prop}{I:List (Int×Tm)->Prop}(hP:∀t,P t->t.kids.length<=W/\∀k∈t.kids,P k)(hR:∀b t x,I b->P t->gD b t=some x->P x)
 (hI:∀f t u b b',iC lim f t u b=some (0,b')->I b->P t->P u->I b'):∀ (f:Nat) (t u:Tm) (b:List (Int×Tm)) (e:Int) (b':List (Int×Tm)),iC lim f t u b=some (e,b')->I b->P t->P u->∀ (st:List (Tm×Tm)) (n:Nat) (r:Int×List (Int×Tm)),st.length+f*W+1<=top->(if e=0 then jT lim top n st b'=some r else r=(e,b'))->∃m,jT lim top m ((t,u)::st) b=some r
 |0,_,_,_,_,_,h,_,_,_,_,_,_,_,_=>by cases h
 |f+1,t,u,b,e,b',h,Wu,hpt,hpu,st,n,r,afE,hr=>by
  simp only[iC]at h
  cases ha:gD b t with
  |none=>rw[ha]at h;cases h
  |some x=>
  cases hc:gD b u with
  |none=>rw[ha,hc]at h;cases h
  |some y=>
  rw[ha,hc]at h
  dsimp only at h
  have hpx:=hR b t x Wu hpt ha
  have hpy:=hR b u y Wu hpu hc
  have jZ: ¬st.length≥top:=af
  have bnd:∀q:Int×List (Int×Tm),q=(e,b')->∀m,n<=m->(if q.1=0 then jT lim top m st q.2 else some q)=some r:=by
   rintro q rfl m hm
   dsimp only
   split
   ·rename_i e0;rw[if_pos e0]at hr;exact gE hr hm
   ·rename_i e0;rw[if_neg e0]at hr;rw[hr]
  by_cases h1:x.op=1
  ·rw[if_pos h1]at h
   by_cases h2:y.op=1
   ·rw[if_pos h2]at h
    by_cases h3:x.n=y.n
    ·rw[if_pos h3]at h
     injection h with h
     injection h with h4 h5
     subst h4;subst h5
     rw[if_pos rfl]at hr
     refine⟨max f n+1, ?_⟩
     simp only[jT]
     rw[if_neg jZ,ha,hc]
     dsimp only
     rw[if_pos h1,if_pos h2,if_pos h3]
     exact gE hr (Nat.le_max_right _ _)
    ·rw[if_neg h3]at h
     injection h with h
     refine⟨max f n+1, ?_⟩
     simp only[jT]
     rw[if_neg jZ,ha,hc]
     dsimp only
     rw[if_pos h1,if_pos h2,if_neg h3]
     exact JR
   ·rw[if_neg h2]at h
    injection h with h
    refine⟨max f n+1, ?_⟩
    simp only[jT]
    rw[if_neg jZ,ha,hc]
    dsimp only
    rw[if_pos h1,if_neg h2]
    exact JR
  ·rw[if_neg h1]at h
   by_cases h2:y.op=1
   ·rw[if_pos h2]at h
    injection h with h
    refine⟨max f n+1, ?_⟩
    simp only[jT]
    rw[if_neg jZ,ha,hc]
    dsimp only
    rw[if_neg h1,if_pos h2]
    exact JR
   ·rw[if_neg h2]at h
    by_cases h3:x.op=y.op/\x.n=y.n/\x.kids.length=y.kids.length
    ·rw[if_pos h3]at h
     have hW:(f+1)*W=f*W+W:=by rw[Nat.add_mul,Nat.one_mul]
     have key:∀ (ks dD:List Tm) (b:List (Int×Tm)),(∀k∈ks,P k)->(∀k∈dD,P k)->I b->ks.length<=W->lg (iC lim f) ks dD b=some (e,b')->∃m,jT lim top m (ks.zip dD++st) b=some r:=by
      intro ks
      induction ks with
      |nil=>
       intro dD b _ _ _ _ h
       exact Zu
      |cons k ks ih=>
       intro dD b m1 m2 Wu hlk h
       cases dD with
       |nil=>
        exact Zu
       |cons k' dD=>
        simp only[lg]at h
        cases he:iC lim f k k' b with
        |none=>rw[he]at h;cases h
        |some q=>
         obtain⟨e1,b1⟩:=q
         rw[he]at h
         dsimp only at h
         have Y8:(ks.zip dD++st).length+f*W+1<=top:=by
          rw[List.length_append,List.length_zip]
          rw[List.length_cons]at hlk
          omega
         by_cases e0:e1=0
         ·rw[if_pos e0]at h
          obtain⟨m,hm⟩:=ih dD b1 (fun z hz=>m1 z tc) (fun z hz=>m2 z tc) (hI f k k' b b1 (e0 ▸ he) Wu (m1 k aH) (m2 k' aH)) (by rw[List.length_cons]at hlk;omega) h
          exact Fj hP hR hI f k k' b e1 b1 he Wu (m1 k aH) (m2 k' aH) (ks.zip dD++st) m r Y8 (by rw[if_pos e0];exact hm)
         ·rw[if_neg e0]at h
          injection h with h
          injection h with h4 h5
          subst h4;subst h5
          rw[if_neg e0]at hr
          exact Fj hP hR hI f k k' b e1 b1 he Wu (m1 k aH) (m2 k' aH) (ks.zip dD++st) n r Y8 (by rw[if_neg e0];exact hr)
     obtain⟨m,hm⟩:=key x.kids y.kids b (hP x hpx).2 (hP y hpy).2 Wu (hP x hpx).1 h
     refine⟨max f m+1, ?_⟩
     simp only[jT]
     rw[if_neg jZ,ha,hc]
     dsimp only
     rw[if_neg h1,if_neg h2,if_pos h3]
     exact gE hm (Nat.le_max_right _ _)
    ·rw[if_neg h3]at h
     injection h with h
     injection h with h4 h5
     subst h4;subst h5
     rw[if_neg (by omega)]at hr
     subst hr
     refine⟨f+1, ?_⟩
     simp only[jT]
     rw[if_neg jZ,ha,hc]
     dsimp only
     rw[if_neg h1,if_neg h2,if_neg h3]
end Go.Proofs.YtlhemmpklhhgoaaGreat
end
