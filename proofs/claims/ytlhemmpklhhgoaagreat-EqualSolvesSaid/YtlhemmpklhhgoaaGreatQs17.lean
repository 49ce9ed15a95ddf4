/-
  A PART OF THE PROOF. Conditions: none.
-/
import Derived.Test.YtlhemmpklhhgoaaGreatQs16
set_option linter.unusedSimpArgs false
set_option linter.unusedVariables false
namespace Go.Proofs.YtlhemmpklhhgoaaGreat
theorem zX{s:aD}{b:List (Int×Tm)}{l:List TB}{ρ:Int->Nat}{R:Nat}(h:lD s b l ρ R)(hl:gf s l){n:Int}(hn:bN b n=none){t:Tm}(ht:Vs s t):fO n (aV (ai l) t)=true↔nK b n t:=by
 have Ru:Lv (ai l) n= .mk 1 n []:=by simp[Lv,(h.Av n).1 hn]
 constructor
 ·have key:∀ (r:Nat) (t:Tm),Vs s t->(∀u,fO u t=true->ρ u<r)->fO n (aV (ai l) t)=true->nK b n t:=by
   intro r
   induction r with
   |zero=>
    intro t ht hr hf
    obtain⟨u,hu,_⟩:=(tj hl.bd t ht n).1 hf
    exact absurd (hr u hu) (Nat.not_lt_zero _)
   |succ r ih=>
    intro t ht hr hf
    obtain⟨u,hu,hf⟩:=(tj hl.bd t ht n).1 hf
    cases hx:bN b u with
    |none=>
     have:Lv (ai l) u= .mk 1 u []:=by simp[Lv,(h.Av u).1 hx]
     rw[this,nH]at hf
     have:u=n:=by simpa using hf
     exact .here (this ▸ hu)
    |some x=>
     obtain⟨g1,g2,g3⟩:=h.ok u x hx
     rw[g2]at hf
     have:=hr u hu
     exact .step hu hx (ih x g1 (fun w hw=>by have:=g3 w hw;omega) hf)
  exact key (R+1) t ht fun u _=>by have:=h.bd u;omega
 ·intro hr
  induction hr with
  |here h1=>exact(tj hl.bd _ ht n).2 ⟨n,h1,by rw[Ru,nH];simp⟩
  | @step t v x h1 h2 _ ih=>
    obtain⟨g1,g2,g3⟩:=h.ok v x h2
    exact(tj hl.bd _ ht _).2 ⟨v,h1,by rw[g2];exact ih g1⟩
def U9(b:List (Int×Tm)):Prop:=∀v x,bN b v=some x-> ¬nK b v x
theorem Lh{s:aD}{b:List (Int×Tm)}(wQ:(b.map (·.1)).Nodup)(aW:∀p∈b,(0<=p.1/\p.1<20)/\Vs s p.2)(ha:U9 b):∃l ρ R,lD s b l ρ R/\gf s l:=by
 have key:∀k,k<=b.length->∃l ρ R,lD s (b.take k) l ρ R/\gf s l:=by
  intro k
  induction k with
  |zero=>intro _;exact⟨[],fun _=>0,0,by rw[List.take_zero];exact lD.nil,gf.nil⟩
  |succ k ih=>
   intro hk
   obtain⟨l,ρ,R,h,hl⟩:=ih af
   obtain⟨⟨n,y⟩,hp⟩:∃p,b[k]? =some p:=⟨_,List.getElem?_eq_getElem (show k<b.length from af)⟩
   have hpm:=List.mem_of_getElem? hp
   have q8:b.take (k+1)=b.take k++[(n,y)]:=by rw[List.take_add_one,hp];rfl
   have N8:((b.take (k+1)).map (·.1)).Nodup:=wQ.sublist ((List.take_sublist _ _).map _)
   have hn:bN (b.take k) n=none:=by
    rw[jJ]
    rw[q8,List.map_append,List.nodup_append]at N8
    exact fun hm=>N8.2.2 n hm n aF rfl
   obtain⟨hr,hy⟩:=aW _ hpm
   have tv:∀v x,bN (b.take k) v=some x->bN b v=some x:=fun v x hx=>(jK wQ).2 (List.mem_of_mem_take (cJ hx))
   have hny: ¬fO n (aV (ai l) y)=true:=fun hf=>ha n y ((jK wQ).2 hpm) (((zX h hl hn hy).1 hf).mono tv)
   obtain⟨H9,R',h'⟩:=h.ext hl hn hy hny
   rw[q8]
   exact⟨_,H9,R',h',qK hl hr ((h.Av n).1 hn) (Vs.sub hl.bd y hy) (fun u hu=>hl.free hy hu) hny⟩
 have:=key b.length (Nat.le_refl _)
 rwa [List.take_length]at this
theorem lD.N9 {s:aD}{b:List (Int×Tm)}{l:List TB}{ρ:Int->Nat}{R:Nat}(h:lD s b l ρ R):U9 b:=by
 have key:∀t n,nK b n t->∀r,(∀u,fO u t=true->ρ u<r)->ρ n<r:=by
  intro t n hr
  induction hr with
  |here h1=>exact fun r hr=>hr _ h1
  |step h1 h2 _ ih=>
   intro r hr
   have h3:=ih _ (h.ok _ _ h2).2.2
   have:=hr _ h1
   omega
 intro v x hx hr
 have:=key x v hr _ (h.ok v x hx).2.2
 omega
def Aw(F:Tm->Int->Option Int):List Tm->Int->Option Int
 |[],n=>some n
 |k::ks,n=>if n<0 then some n else match F k n with
  |some m=>Aw F ks m
  |none=>none
def tl:Nat->List (Int×Tm)->Tm->Int->Nat->Option Int
 |0,_,_,_,_=>none
 |f+1,b,t,n,d=>match mj f b t with
  |some x=>(match d with
   |0=>some (-1)
   |d+1=>Aw (fun k m=>tl f b k m d) x.kids (n - 1))
  |none=>none
theorem CC{F:Tm->Int->Option Int}:∀ {ks:List Tm} (n:Int),(∀k∈ks,∀m,∃r,F k m=some r)->∃r,Aw F ks n=some r
 |[],n,_=>⟨n,rfl⟩
 |k::ks,n,h=>by
  simp only[Aw]
  split
  ·exact⟨n,rfl⟩
  ·obtain⟨r,hr⟩:=h k aF n
   rw[hr]
   exact CC r fun y hy=>h y lJ
theorem CD{F G:Tm->Int->Option Int}(Cy:∀k m r,F k m=some r->G k m=some r):∀ {ks:List Tm} {n r:Int},Aw F ks n=some r->Aw G ks n=some r
 |[],_,_,h=>h
 |k::ks,n,r,h=>by
  simp only[Aw]at h|-
  split at h
  ·rename_i e;rw[if_pos e];exact h
  ·rename_i e
   rw[if_neg e]
   cases hF:F k n with
   |none=>rw[hF]at h;cases h
   |some q=>rw[hF]at h;rw[Cy _ _ _ hF];exact CD Cy h
theorem wb{b:List (Int×Tm)}:∀ {f g:Nat} {t:Tm} {n:Int} {d:Nat} {r:Int},tl f b t n d=some r->f<=g->tl g b t n d=some r
 |0,_,_,_,_,_,h,_=>by cases h
 |f+1,0,_,_,_,_,h,hg=>af
 |f+1,g+1,t,n,d,r,h,hg=>by
  simp only[tl]at h|-
  cases ha:mj f b t with
  |none=>rw[ha]at h;cases h
  |some x=>
   rw[ha]at h
   rw[gK ha (show f<=g by omega)]
   cases d with
   |zero=>exact h
   |succ d=>exact CD (fun k m q hq=>wb hq af) h
theorem Jm{s:aD}{b:List (Int×Tm)}{l:List TB}{ρ:Int->Nat}{R:Nat}(h:lD s b l ρ R):∀ (d:Nat) (t:Tm) (n:Int),Vs s t->∃r,tl (R+3+d) b t n d=some r
 |0,t,n,ht=>by
  obtain⟨x,a1,_⟩:=h.root ht
  exact⟨-1,by simp only[tl];rw[show R+2+0=R+2 from rfl,a1]⟩
 |d+1,t,n,ht=>by
  obtain⟨x,a1,a2,_⟩:=h.root ht
  show ∃r,tl ((R+3+d)+1) b t n (d+1)=some r
  simp only[tl]
  rw[gK a1 (show R+2<=R+3+d by omega)]
  exact CC _ fun k hk m=>Jm h d k m (a2.jV hk)
def CE(b:List (Int×Tm))(t:Tm):Prop:=∃f r,tl f b t 40 12=some r/\0<=r
theorem Gh{b:List (Int×Tm)}{t:Tm}{f:Nat}{r:Int}(h:tl f b t 40 12=some r):CE b t↔0<=r:=by
 refine⟨fun⟨g,q,h1,h2⟩=> ?_,fun hr=>⟨f,r,h,hr⟩⟩
 have e1:=wb h (Nat.le_max_left f g)
 rw[wb h1 (Nat.le_max_right f g)]at e1
 cases e1
 exact h2
def Et(F:Tm->Option Tm):List Tm->Option (List Tm)
 |[]=>some []
 |k::ks=>match F k,Et F ks with
  |some x,some xs=>some (x::xs)
  |_,_=>none
def yp:Nat->List (Int×Tm)->Tm->Option Tm
 |0,_,_=>none
 |f+1,b,t=>match mj f b t with
  |some x=>(Et (yp f b) x.kids).map fun ks=> .mk x.op x.n ks
  |none=>none
theorem zY{F:Tm->Option Tm}{g:Tm->Tm}:∀ {ks:List Tm},(∀k∈ks,F k=some (g k))->Et F ks=some (ks.map g)
 |[],_=>rfl
 |k::ks,h=>by simp only[Et];rw[h k (by simp),zY fun y hy=>h y (by simp[hy])];rfl
theorem CF{F G:Tm->Option Tm}(Cy:∀k r,F k=some r->G k=some r):∀ {ks xs:List Tm},Et F ks=some xs->Et G ks=some xs
 |[],_,h=>h
 |k::ks,xs,h=>by
  simp only[Et]at h|-
  cases h1:F k with
  |none=>rw[h1]at h;cases h
  |some x=>
   cases h2:Et F ks with
   |none=>rw[h1,h2]at h;cases h
   |some ys=>rw[h1,h2]at h;rw[Cy _ _ h1,CF Cy h2];exact h
theorem jN{b:List (Int×Tm)}:∀ {f g:Nat} {t x:Tm},yp f b t=some x->f<=g->yp g b t=some x
 |0,_,_,_,h,_=>by cases h
 |f+1,0,_,_,h,hg=>af
 |f+1,g+1,t,x,h,hg=>by
  simp only[yp]at h|-
  cases ha:mj f b t with
  |none=>rw[ha]at h;cases h
  |some y=>
   rw[ha]at h
   rw[gK ha (show f<=g by omega)]
   dsimp only at h|-
   cases h2:Et (yp f b) y.kids with
   |none=>rw[h2]at h;cases h
   |some ys=>rw[h2]at h;rw[CF (fun k r hr=>jN hr (by omega)) h2];exact h
theorem tn{s:aD}{b:List (Int×Tm)}{l:List TB}{ρ:Int->Nat}{R:Nat}(h:lD s b l ρ R):∀ (z:Nat) (t:Tm),Vs s t->(aV (ai l) t).sz<=z->yp (R+3+z) b t=some (aV (ai l) t)
 |0,t,_,hz=>by have:=Tm.pC (aV (ai l) t);omega
 |z+1,t,ht,hz=>by
  obtain⟨x,a1,a2,a3,a4,_⟩:=h.root ht
  show yp ((R+3+z)+1) b t=_
  simp only[yp]
  rw[gK a1 (show R+2<=R+3+z by omega)]
  by_cases h1:x.op=1
  ·have e:=a2.eta h1
   have hk:x.kids=[]:=by rw[e];rfl
   have:aV (ai l) x=x:=by
    rw[e8 a2 h1,show Lv (ai l) x.n= .mk 1 x.n [] by simp[Lv,(h.Av _).1 (a4 h1)]];exact e.symm
   rw[<- a3,this]
   dsimp only
   rw[hk]
   show some (Tm.mk x.op x.n [])=some x
   rw[<- hk,Tm.eta]
  ·have hv:=fZ (b:=ai l) h1
   have hk:∀k∈x.kids,yp (R+3+z) b k=some (aV (ai l) k):=fun k hk=>by
    refine tn h z k (a2.jV hk) ?_
    have h3:aV (ai l) k∈(aV (ai l) x).kids:=by rw[hv];exact List.mem_map.2 ⟨k,hk,rfl⟩
    have h4:=Tm.mI h3
    rw[a3]at h4
    omega
   dsimp only
   rw[zY hk, <- a3,hv]
   rfl
def Gi:Nat->List (Int×Tm)->Tm->Nat->Option Tm
 |0,_,_,_=>none
 |f+1,b,t,d=>if t.op=1 then(match bN b t.n with
   |some x=>(match d with
    |0=>none
    |d+1=>Gi f b x d)
   |none=>some t)
  else(Et (fun k=>Gi f b k d) t.kids).map fun ks=> .mk t.op t.n ks
def ss(b:List (Int×Tm))(ρ:Int->Nat)(r:Nat):Nat:=((b.map (·.1)).filter fun u=>decide (ρ u<r)).length
theorem Gj{b:List (Int×Tm)}{ρ:Int->Nat}{v:Int}{x:Tm}(hv:bN b v=some x){r:Nat}(hr:ρ v<r):ss b ρ (ρ v)<ss b ρ r:=by
 unfold ss
 have hm:v∈b.map (·.1):=List.mem_map.2 ⟨_,cJ hv,rfl⟩
 generalize b.map (·.1)=ks at hm
 have hle:∀ks:List Int,(ks.filter fun u=>decide (ρ u<ρ v)).length<=(ks.filter fun u=>decide (ρ u<r)).length:=by
  intro ks
  induction ks with
  |nil=>exact Nat.le_refl _
  |cons u ks ih=>
   rw[List.filter_cons,List.filter_cons]
   by_cases e:ρ u<ρ v
   ·rw[if_pos (by simpa using e),if_pos (by simp;omega),List.length_cons,List.length_cons];omega
   ·rw[if_neg (by simpa using e)]
    split
    ·rw[List.length_cons];omega
    ·exact ih
 induction ks with
 |nil=>cases hm
 |cons u ks ih=>
  rw[List.filter_cons,List.filter_cons]
  by_cases e:u=v
  ·subst e
   rw[if_neg (by simp),if_pos (by simpa using hr),List.length_cons]
   have:=hle ks
   omega
  ·have:=ih ((List.mem_cons.1 hm).resolve_left fun h=>e h.symm)
   by_cases e2:ρ u<ρ v
   ·rw[if_pos (by simpa using e2),if_pos (by simp;omega),List.length_cons,List.length_cons];omega
   ·rw[if_neg (by simpa using e2)]
    split
    ·rw[List.length_cons];omega
    ·exact this
theorem aca{s:aD}{b:List (Int×Tm)}{l:List TB}{ρ:Int->Nat}{R:Nat}(h:lD s b l ρ R):∀ (r:Nat) (t:Tm) (d:Nat),Vs s t->(∀u,fO u t=true->ρ u<r)->ss b ρ r<=d->∃f,∀g,f<=g->Gi g b t d=some (aV (ai l) t):=by
 intro r
 induction r using Nat.strongRecOn with
 |ind r ihr=>
  refine Tm.ei fun t ih d ht hr hd=> ?_
  by_cases h1:t.op=1
  ·have hv:fO t.n t=true:=(gN h1).2 rfl
   cases hx:bN b t.n with
   |none=>
    refine⟨1,fun g hg=> ?_⟩
    obtain⟨g,rfl⟩:∃k,g=k+1:=⟨g - 1,af⟩
    simp only[Gi]
    rw[if_pos h1,hx,e8 ht h1,show Lv (ai l) t.n= .mk 1 t.n [] by simp[Lv,(h.Av _).1 hx]]
    exact congrArg some (ht.eta h1)
   |some x=>
    obtain⟨g1,g2,g3⟩:=h.ok _ _ hx
    have h3:=Gj hx (hr _ hv)
    obtain⟨d,rfl⟩:∃k,d=k+1:=⟨d - 1,af⟩
    obtain⟨f,hf⟩:=ihr _ (hr _ hv) x d g1 g3 af
    refine⟨f+1,fun g hg=> ?_⟩
    obtain⟨g,rfl⟩:∃k,g=k+1:=⟨g - 1,af⟩
    simp only[Gi]
    rw[if_pos h1,hx]
    dsimp only
    rw[hf g (by omega), <- g2,e8 ht h1]
  ·have key:∀ks:List Tm,(∀k∈ks,k∈t.kids)->∃f,∀g,f<=g->∀k∈ks,Gi g b k d=some (aV (ai l) k):=by
    intro ks
    induction ks with
    |nil=>intro _;exact⟨0,fun _ _ _ h=>by cases h⟩
    |cons k ks wY=>
     intro Va
     obtain⟨f1,eg⟩:=wY fun y hy=>Va y lJ
     obtain⟨f2,iy⟩:=ih k (Va k aF) d (ht.jV (Va k aF)) (fun u hu=>hr u ((oT ht h1).2 ⟨k,Va k aF,hu⟩)) hd
     refine⟨max f1 f2,fun g hg y hy=> ?_⟩
     rcases List.mem_cons.1 hy with rfl|hy
     ·exact iy g af
     ·exact eg g af y hy
   obtain⟨f,hf⟩:=key t.kids fun _ h=>h
   refine⟨f+1,fun g hg=> ?_⟩
   obtain⟨g,rfl⟩:∃k,g=k+1:=⟨g - 1,af⟩
   simp only[Gi]
   rw[if_neg h1,zY (hf g (by omega)),fZ h1]
   rfl
theorem Li{s:aD}{b:List (Int×Tm)}{l:List TB}{ρ:Int->Nat}{R:Nat}(h:lD s b l ρ R){t:Tm}(ht:Vs s t):∃f,Gi f b t b.length=some (aV (ai l) t):=by
 obtain⟨f,hf⟩:=aca h (R+1) t b.length ht (fun u _=>by have:=h.bd u;omega) (by
  unfold ss
  exact Nat.le_trans (List.length_filter_le _ _) Xv)
 exact⟨f,hf f (Nat.le_refl _)⟩
def pnF(s:aD)(t:Tm):Bool:=
 let k:Int:=t.kids.length
 if t.op=16 then t.n==0&&k==0
 else if t.op=1 then dJ t.n 0 199&&k==0
 else if t.op=2 then dJ t.n (-1000000) 1000000&&k==0
 else if t.op=3 then dJ t.n 0 (s.cons.length - 1)&&k==hZ s.cons t.n
 else if t.op=5 then dJ t.n 0 (s.cL.length - 1)&&decide (k<hZ s.cL t.n)
 else false
mutual
def Ic(s:aD):Tm->Bool
 | .mk op n kids=>Gk s kids&&pnF s (.mk op n kids)
def Gk(s:aD):List Tm->Bool
 |[]=>true
 |k::l=>Ic s k&&Gk s l
end
theorem yq(s:aD):∀l:List Tm,Gk s l=l.all (Ic s)
 |[]=>rfl
 |k::l=>by rw[Gk,yq s l];rfl
theorem Oa(s:aD)(t:Tm):Ic s t=(t.kids.all (Ic s)&&pnF s t):=by cases t;rw[Ic,yq];rfl
def Pn(s:aD)(t:Tm):Prop:=Ic s t=true
theorem Vb{s:aD}{t:Tm}:Pn s t↔pnF s t=true/\∀k∈t.kids,Pn s k:=by
 unfold Pn;rw[Oa,Bool.and_eq_true,List.all_eq_true];exact and_comm
theorem Pn.jV {s:aD}{t k:Tm}(h:Pn s t)(hk:k∈t.kids):Pn s k:=(Vb.1 h).2 k hk
def wZ{σ:Type}(step:σ->Tm->σ×Bool):σ->List Tm->Int->Int
 |_,[],_=> -1
 |s,x::l,k=>if(step s x).2=true then wZ step (step s x).1 l (k+1)else k
theorem Gl{σ:Type}(step:σ->Tm->σ×Bool):∀ (l:List Tm) (s:σ) (k:Int),0<=k->(0<=wZ step s l k↔(aK step s l).2=false)
 |[],_,_,_=>by simp[wZ,aK]
 |x::l,s,k,hk=>by
  have ih:=Gl step l (step s x).1 (k+1) af
  by_cases h:(step s x).2=true
  ·simp only[wZ,aK,h,if_true];exact ih
  ·simp[wZ,aK,h,hk]
theorem Vc{σ:Type}(l:List Tm)(hl:l.length<=9223372036854775807)(g:Nat)(bI:List V)(base:Nat)(H:σ->Nat->ad)(step:σ->Tm->σ×Bool)(hc:∀r∈V.aQ bI,r<base)(ok:σ->Prop)(aW:∀x∈l,∀s,ok s->(step s x).2=true->ok (step s x).1)
 (h:∀x∈l,∀s,ok s->vG Tryz.prog g (.d x.d::bI) base (H s) (H (step s x).1) (.d (.bool (!(step s x).2)))) (s:σ) (pg:ok s):
 vG Tryz.prog 186 [.d (.sl (l.map Tm.d)), .func (.func g) [] bI] base (H s) (H (aK step s l).1) (.d (.i (wZ step s l 0))):=by
 intro o nx hI K X hK
 have fL:∀r∈V.aQ bI,r<nx:=fun r hr=>Nat.lt_of_lt_of_le (hc r hr) hI.le
 refine cI.aI mix Ra aF ?_
 rw[UB]
 refine cB ?_
 refine aB (fun i:Nat×σ×(Nat->ad)×Nat=>⟨aX [.d (.sl (l.map Tm.d)), .func (.func g) [] bI, .aa, .aa, .aa, .aa, .aa, .d (.i l.length), .d (.i i.1)],i.2.2.1,i.2.2.2⟩)
  (fun i=>i.1<=l.length/\eA base (H i.2.1) i.2.2.1 i.2.2.2/\nx<=i.2.2.2/\(∀id,base<=id->id<nx->i.2.2.1 id=o id)/\aK step s l=aK step i.2.1 (l.drop i.1)/\ok i.2.1/\wZ step s l 0=wZ step i.2.1 (l.drop i.1) i.1) (fun i=>l.length - i.1) (0,s,o,nx)
  ⟨Nat.zero_le _,hI,Nat.le_refl _,fun _ _ _=>rfl,rfl,pg,rfl⟩ ?_ ?_
 ·exact Sm
 rintro⟨k,s',o',nx'⟩ ⟨hk,Md,hn,c8,hf,vK,Lj⟩
 simp only at hk Md hn c8 hf vK Lj
 refine cB ?_
 refine ak (fun h1=> ?_) (fun h1=> ?_)
 ·simp at h1
  obtain⟨x,hx⟩:=ay h1
  have bY:=List.mem_of_getElem? hx
  have hd:l.drop k=x::l.drop (k+1):=by
   exact Sh
  rw[hd]at hf Lj
  simp only[aK,wZ]at hf Lj
  refine RW hx ?_
  refine ku (h x bY s' vK _ _ (Md.mono af) _ _ fun o2 n2 m1 m2 m3=> ?_)
  cases hb:(step s' x).2 with
  |true=>
   rw[hb]at hf Lj
   simp only[if_true]at hf Lj
   refine bW ?_
   have Rl:∀r∈V.aQ bI,r<n2+1+1:=fun r hr=>by have:=fL r hr;omega
   refine aj (k+1,(step s' x).1,o2,n2+1+1) ⟨h1,m2.mono (show n2<=n2+1+1 from af),(show nx<=n2+1+1 from af),fun id i1 i2=>(m3 id i1 af).trans (c8 id i1 i2),hf,aW x bY s' vK hb,by rw[Lj];rfl⟩ kC (bA.bJ _ (show nx<=n2+1+1 from af) (Nat.le_refl _) (m2.mono (show n2<=n2+1+1 from af)).cm (fun _ _=>rfl) ?_)
   exact dp
  |false=>
   rw[hb]at hf Lj
   simp only[Bool.false_eq_true,if_false]at hf Lj
   refine cB ?_
   rw[hf,Lj]at hK
   exact hK _ _ af (m2.mono af) fun id i1 i2=>(m3 id i1 af).trans (c8 id i1 i2)
 ·simp at h1
  refine cB ?_
  rw[List.drop_eq_nil_of_le h1]at hf Lj
  rw[hf,Lj]at hK
  exact OM
theorem CG{σ:Type}(l:List Tm)(hl:l.length<=9223372036854775807)(g:Nat)(bI:List V)(base:Nat)(H:σ->Nat->ad)(step:σ->Tm->σ×Bool)(hc:∀r∈V.aQ bI,r<base)(ok:σ->Prop)(aW:∀x∈l,∀s,ok s->(step s x).2=true->ok (step s x).1)
 (h:∀x∈l,∀s,ok s->vG Tryz.prog g (.d x.d::bI) base (H s) (H (step s x).1) (.d (.bool (!(step s x).2)))) (s:σ) (pg:ok s):
 vG Tryz.prog 166 [.d (.sl (l.map Tm.d)), .func (.func g) [] bI] base (H s) (H (aK step s l).1) (.d (.bool (!(aK step s l).2))):=by
 intro o nx hI K X hK
 have fL:∀r∈V.aQ bI,r<nx:=fun r hr=>Nat.lt_of_lt_of_le (hc r hr) hI.le
 refine cI.aI mix Q2 aF ?_
 rw[Ut]
 refine kR ?_
 refine bz (Vc l hl g bI base H step hc ok aW h s pg _ _ ?_ _ _ fun o2 n2 m1 m2 m3=> ?_)
 ·exact hI.mono af
 refine kR ?_
 have e:decide (0<=wZ step s l 0)= !(aK step s l).2:=by
  have:=Gl step l s 0 af
  rw[Bool.eq_iff_iff,decide_eq_true_eq,this]
  cases(aK step s l).2<;>simp
 rw[e]
 exact hK _ _ af (m2.mono af) fun id i1 i2=>m3 id i1 af
theorem Lk{b:List (Int×Tm)}{f:Nat}{t x:Tm}(h:mj f b t=some x):a8 Tryz.prog 112 [H6 b,t.d] (.ret [x.d]):=by
 refine a8.aI mix KG aF ?_
 rw[NJ]
 refine bW ?_
 refine aB (fun i:Nat×Tm=>⟨aX [.d (H6 b), .aa, .aa, .ptr 0 0, .ptr 1 0],az (az (fun _=> .no) 0 (.row i.2.row)) 1 (.row [.d (.i 0), .d (.i 0), .aJ]),2⟩)
  (fun i=>mj i.1 b i.2=some x) (fun i=>i.1) (f,t) h ?_ ?_
 ·exact Yi
 rintro⟨f,t⟩ hf
 simp only at hf
 cases f with
 |zero=>cases hf
 |succ f=>
 simp only[mj]at hf
 by_cases h1:t.op=1
 ·have eg:(t.op==1)=true:=by simpa using h1
  rw[if_pos h1]at hf
  cases hl:bN b t.n with
  |none=>
   rw[hl]at hf
   injection hf with hf
   subst hf
   simp+contextual (disch:=first|omega|simp only[go_sem,false_implies]) only[go_sem,wrap64,if_pos,eg,oe,dn hl]
  |some z=>
   rw[hl]at hf
   obtain⟨j,hj⟩:=fw hl
   simp+contextual (disch:=first|omega|simp only[go_sem,false_implies]) only[go_sem,wrap64,if_pos,eg,oe,hj]
   refine aj (f,z) hf kC (bA.bJ _ af af dI (fun j hj=> ?_) ?_)
   ·have PE:j<2:=hj
    rcases(show j=0\/j=1 from af)with rfl|rfl
    ·exact c6
    ·exact c6
   ·exact dp
 ·have eg:(t.op==1)=false:=by simpa using h1
  rw[if_neg h1]at hf
  injection hf with hf
  subst hf
  exact Db eg
theorem Ob:∀a:Tm,a.fits->∀b:Tm,b.fits->a8 Tryz.prog 108 [a.d,b.d] (.ret [.bool (fX a b)]):=by
 refine Tm.ei fun a ih ha b hb=> ?_
 have WT:=(Tm.bK _).1 ha
 have Dk:=(Tm.bK _).1 hb
 refine a8.aI mix QC aF ?_
 rw[T4,qF]
 refine bW ?_
 refine BN (ak (fun h1=> ?_) (fun h1=> ?_))
 ·rw[h1]
  refine pP h1 ?_
  refine bz (K4 a.kids b.kids WT.1 Dk.1 108 (fun x hx y hy=>ih x hx (WT.2 x hx) y (Dk.2 y hy)) _ _ dI _ _ fun o2 n2 m1 m2 m3=> ?_)
  exact Db h1
 ·rw[h1]
  exact Db h1
theorem qM{b:List (Int×Tm)}(hb:∀p∈b,p.2.fits):∀ (f:Nat) (t x:Tm),t.fits->mj f b t=some x->x.fits
 |0,_,_,_,h=>by cases h
 |f+1,t,x,ht,h=>by
  simp only[mj]at h
  split at h
  ·split at h
   ·rename_i y hy;exact qM hb f y x (hb _ (cJ hy)) h
   ·exact ET
  ·exact ET
theorem Gm{F:Tm->Int->Option Int}(hF:∀k m r,0<=m->F k m=some r-> -1<=r/\r<=m):∀ (ks:List Tm) (n r:Int), -1<=n->Aw F ks n=some r-> -1<=r/\r<=n
 |[],n,r,hn,h=>by cases h;omega
 |k::ks,n,r,hn,h=>by
  simp only[Aw]at h
  split at h
  ·cases h;omega
  ·cases e:F k n with
   |none=>rw[e]at h;cases h
   |some q=>
    rw[e]at h
    have h1:=hF k n q af e
    have h2:=Gm hF ks q r af h
    omega
theorem zZ{b:List (Int×Tm)}:∀ (f:Nat) (t:Tm) (n:Int) (d:Nat) (r:Int),0<=n->tl f b t n d=some r-> -1<=r/\r<=n
 |0,_,_,_,_,_,h=>by cases h
 |f+1,t,n,d,r,hn,h=>by
  simp only[tl]at h
  cases ha:mj f b t with
  |none=>rw[ha]at h;cases h
  |some x=>
   rw[ha]at h
   cases d with
   |zero=>cases h;omega
   |succ d=>
    have:=Gm (fun k m r hm h=>zZ f k m d r hm h) x.kids (n - 1) r af h
    omega
theorem Ll{b:List (Int×Tm)}:∀ (f:Nat) (t:Tm) (n:Int) (d:Nat) (r:Int),t.fits->(∀p∈b,p.2.fits)->0<=n/\n<=1000->d<=1000->tl f b t n d=some r->a8 Tryz.prog 91 [H6 b,t.d, .i n, .i d] (.ret [.i r])
 |0,_,_,_,_,_,_,_,_,h=>by cases h
 |f+1,t,n,d,r,ht,hb,hn,hd,h=>by
  simp only[tl]at h
  cases ha:mj f b t with
  |none=>rw[ha]at h;cases h
  |some x=>
  rw[ha]at h
  refine a8.aI mix aar aF ?_
  rw[c91]
  refine bW ?_
  refine bD (Lk ha) ?_
  cases d with
  |zero=>
   exact Jl
  |succ d=>
   have M0:(((d+1:Nat):Int)==0)=false:=by rw[beq_eq_false_iff_ne];omega
   dsimp only at h
   have IK:=(Tm.bK x).1 (qM hb f t x ht ha)
   refine pP M0 ?_
   refine aB (fun i:Nat×Int=>⟨aX [.d (H6 b), .aa, .d (.i i.2), .d (.i (d+1:Nat)), .aa, .aa, .aa, .aa, .aa, .aa, .aa, .aa, .aa, .aa, .aa, .aa, .aa, .aa, .aa, .d (.sl (x.kids.map Tm.d)), .d (.i x.kids.length), .d (.i i.1)],fun _=> .no,0⟩)
    (fun i=>i.1<=x.kids.length/\Aw (fun k m=>tl f b k m d) (x.kids.drop i.1) i.2=some r/\ -1<=i.2/\i.2<=1000) (fun i=>x.kids.length - i.1) (0,n - 1) ⟨Nat.zero_le _,h,by dsimp only;omega,by dsimp only;omega⟩ (bA.d0 _ ?_) ?_
   ·exact dp
   rintro⟨k,m⟩ ⟨hk,hl,Iy,Mf⟩
   simp only at hk hl Iy Mf
   refine sG ?_
   refine ak (fun h2=> ?_) (fun h2=> ?_)
   ·replace h2:k<x.kids.length:=by simp at h2;omega
    obtain⟨y,hy⟩:=ay h2
    have NP:=List.mem_of_getElem? hy
    have Lm:x.kids.drop k=y::x.kids.drop (k+1):=by
     obtain⟨i1,i2⟩:=List.getElem?_eq_some_iff.1 hy
     exact I0
    rw[Lm]at hl
    simp only[Aw]at hl
    by_cases h0:m<0
    ·have yR:decide (m<0)=true:=decide_eq_true h0
     rw[if_pos h0]at hl
     cases hl
     exact RV hy yR
    ·have yR:decide (m<0)=false:=decide_eq_false h0
     rw[if_neg h0]at hl
     refine GH hy yR ?_
     cases e:tl f b y m d with
     |none=>rw[e]at hl;cases hl
     |some q=>
     rw[e]at hl
     have hq:=zZ f y m d q af e
     rw[show(((d+1:Nat):Int) - 1)=((d:Nat):Int) by omega]
     refine aw (Ll f y m d q (IK.2 y NP) hb af af e) rfl ?_
     refine bW ?_
     refine aj (k+1,q) ⟨h2,hl,by dsimp only;omega,by dsimp only;omega⟩ kC (bA.d0 _ ?_)
     exact dp
   ·replace h2:k=x.kids.length:=by simp at h2;omega
    subst h2
    rw[List.drop_length]at hl
    cases hl
    exact pK
theorem z7{F:Tm->Option Tm}:∀ {ks xs:List Tm},Et F ks=some xs->xs.length=ks.length/\∀ (i:Nat) (k:Tm),ks[i]? =some k->∃x,xs[i]? =some x/\F k=some x
 |[],xs,h=>by cases h;exact⟨rfl,fun i k hk=>by simp at hk⟩
 |k::ks,xs,h=>by
  simp only[Et]at h
  cases h1:F k with
  |none=>rw[h1]at h;cases h
  |some x=>
   cases h2:Et F ks with
   |none=>rw[h1,h2]at h;cases h
   |some ys=>
    rw[h1,h2]at h
    cases h
    obtain⟨g1,g2⟩:=z7 h2
    refine⟨by rw[List.length_cons,List.length_cons,g1],fun i k' hk=> ?_⟩
    cases i with
    |zero=>simp at hk;subst hk;exact⟨x,rfl,h1⟩
    |succ i=>exact g2 i k' hk
def Eu(op n:Int)(ks:List Tm)(k:Nat):Nat->ad:=az (az (az (fun _=> .no) 1 (.row [.d (.i 0), .d (.i 0), .aJ])) 11 (.row [.d (.i op), .d (.i n), .osl 12 0])) 12 (.arr 0 33 3 ((ks.take k).map Tm.d))
theorem fuH_1(op n:Int)(ks:List Tm)(k:Nat):Eu op n ks k 1= .row [.d (.i 0), .d (.i 0), .aJ]:=rfl
theorem fuH_11(op n:Int)(ks:List Tm)(k:Nat):Eu op n ks k 11= .row [.d (.i op), .d (.i n), .osl 12 0]:=rfl
theorem fuH_12(op n:Int)(ks:List Tm)(k:Nat):Eu op n ks k 12= .arr 0 33 3 ((ks.take k).map Tm.d):=rfl
theorem z8(op n:Int)(ks:List Tm)(k:Nat){j:Nat}(h1:j≠1)(h2:j≠11)(h3:j≠12):Eu op n ks k j= .no:=by unfold Eu;rw[ae _ _ _ _ h3,ae _ _ _ _ h2,ae _ _ _ _ h1]
theorem Ln(gone:Nat->Prop)(x:V)(L:List V)(rV:∀id,gone id->12<=id){op n:Int}{ks:List Tm}{k:Nat}{e:Nat->V}{so:Nat->ad}{m:Nat}(gx:eL so gone 33 3 ((ks.take k).map Tm.d) x)
 (s1:so 1= .row [.d (.i 0), .d (.i 0), .aJ]) (s11:so 11= .row [.d (.i op), .d (.i n),x]) (he:gM 12 [⟨x,33,3,(ks.take k).map Tm.d⟩] so gone e L 0):bA 0 ⟨e,so,m⟩ ⟨aX L,Eu op n ks k,12+1⟩:=by
 refine bA.ou gone x 12 L af (fun j hj=> ?_) (fuH_12 op n ks k) gx (fun j hj=>z8 _ _ _ _ af af af) (fun j h1 h2=>absurd (rV j h1) af) he
 by_cases e1:j=1
 ·subst e1
  rw[fuH_1]
  exact ON
 ·by_cases e2:j=11
  ·subst e2
   rw[fuH_11]
   exact OV
  ·rw[z8 _ _ _ _ e1 e2 (by omega)]
   exact kx
theorem Gn{k:Tm}:∀ {l:List Tm},k∈l->k.sz<=oB l
 |x::l,h=>by
  rw[show oB (x::l)=x.sz+oB l from rfl]
  rcases List.mem_cons.1 h with rfl|h
  ·omega
  ·have:=Gn h;omega
mutual
def Tm.wid:Tm->Prop
 | .mk _ _ kids=>kids.length<=1000000/\Tm.Lo kids
def Tm.Lo:List Tm->Prop
 |[]=>True
 |k::l=>k.wid/\Tm.Lo l
end
theorem Tm.CH:∀l:List Tm,Tm.Lo l↔∀k∈l,k.wid
 |[]=>by simp[Tm.Lo]
 |k::l=>by simp[Tm.Lo,Tm.CH l]
theorem Tm.Aa (t:Tm):t.wid↔t.kids.length<=1000000/\∀k∈t.kids,k.wid:=by cases t;simp[Tm.wid,Tm.CH,Tm.kids]
theorem Tm.Vd:∀t:Tm,t.sz<=1000000->t.wid:=by
 refine Tm.ei fun t ih h=> ?_
 rw[Tm.Aa]
 have:=mc t.kids
 have h2:=Tm.iH t
 exact OT
theorem Ev{b:List (Int×Tm)}(hb:∀p∈b,p.2.fits):∀ (f:Nat) (t y:Tm),t.fits->yp f b t=some y->y.wid->a8 Tryz.prog 68 [H6 b,t.d] (.ret [y.d])
 |0,_,_,_,h,_=>by cases h
 |f+1,t,y,ht,h,hz=>by
  simp only[yp]at h
  cases ha:mj f b t with
  |none=>rw[ha]at h;cases h
  |some x=>
  rw[ha]at h
  dsimp only at h
  have IK:=(Tm.bK x).1 (qM hb f t x ht ha)
  cases hL:Et (yp f b) x.kids with
  |none=>rw[hL]at h;cases h
  |some ks=>
  rw[hL]at h
  cases h
  obtain⟨C5,GS⟩:=z7 hL
  have hkw:=(Tm.Aa _).1 hz
  have hle:ks.length<=1000000:=hkw.1
  refine a8.aI mix aak aF ?_
  rw[c68]
  refine bW ?_
  refine bD (Lk ha) ?_
  refine bW ?_
  refine aB (fun i:Nat=>⟨aX [.d (H6 b), .aa, .aa, .aa, .ptr 1 0, .ptr 11 0, .aa, .aa, .aa, .aa, .aa, .aa, .aa, .aa, .aa, .aa, .aa, .d (.sl (x.kids.map Tm.d)), .d (.i x.kids.length), .d (.i i)],Eu x.op x.n ks i,12+1⟩)
   (fun i=>i<=x.kids.length) (fun i=>x.kids.length - i) 0 (Nat.zero_le _) (Ln (fun _=>False) .aJ _ (fun _ h=>h.elim) (.inl ⟨rfl,rfl,bV⟩) c6 c6 ?_) (fun k hk=> ?_)
  ·exact mE
  replace hk:k<=x.kids.length:=hk
  have q1:=fuH_1 x.op x.n ks k
  have Oc:=fuH_11 x.op x.n ks k
  have Od:=fuH_12 x.op x.n ks k
  refine uu q1 Oc Od ?_
  refine ak (fun h2=> ?_) (fun h2=> ?_)
  ·replace h2:k<x.kids.length:=by simp at h2;omega
   obtain⟨z,hz⟩:=ay h2
   obtain⟨z',MM,hF⟩:=GS k z hz
   have Ie:=List.mem_of_getElem? hz
   have q8:ks.take (k+1)=ks.take k++[z']:=by rw[List.take_add_one,MM];rfl
   have e0:(ks.take k).length=k:=by rw[List.length_take];omega
   have hzs:z'.wid:=hkw.2 _ (List.mem_of_getElem? MM)
   have fL:k<=140737488355327/\(k+1)*24<=140737488355328:=af
   refine Ax q1 Oc Od hz ?_
   refine aU (Ev hb f z z' (IK.2 z Ie) hF hzs) ?_
   simp+contextual (disch:=first|omega|simp only[go_sem,false_implies]) only[go_sem,wrap64,if_pos,q1,Oc,Od,hz,List.length_map,e0,if_pos fL]
   refine aN ah ?_
   refine bW ?_
   refine aj (k+1) h2 af (Ln (fun j=>12<=j) (.osl 12 1) _ (fun _ h=>h) (.inr ⟨12,1,Nat.le_refl _,rfl,by(repeat(first|rfl|rw[ab]|rw[ae _ _ _ _ (by omega)]));rw[q8,List.map_append];rfl⟩) XW c6 ?_)
   exact mE
  ·replace h2:k=x.kids.length:=by simp at h2;omega
   subst h2
   have Ve:Eu x.op x.n ks x.kids.length 12= .arr 0 33 3 (ks.map Tm.d):=by rw[Od, <- C5,List.take_length]
   refine IQ q1 Oc Ve ?_
   rw[Tm.DY]
theorem su{b:List (Int×Tm)}(hb:∀p∈b,p.2.fits)(f:Nat)(t y:Tm)(ht:t.fits)(h:yp f b t=some y)(hz:y.sz<=1000000):a8 Tryz.prog 68 [H6 b,t.d] (.ret [y.d]):=Ev hb f t y ht h (Tm.Vd y hz)
section
section
variable {σ:Type}(base ri:Nat)(H:σ->Nat->ad)(step:σ->Tm->σ×Bool)(ok:σ->Prop)
end
end
section
theorem Vf{x:Tm}{yb vb base:Nat}{h h2:Nat->ad}{r:Bool}(hS:vG Tryz.prog 165 [.d x.d, .ptr yb 0, .ptr vb 0] base h h2 (.d (.bool r)))(hy:yb<base)(hv:vb<base)(ov:h vb= .row [.func (.func 165) [] [.ptr yb 0, .ptr vb 0]]):
 vG Tryz.prog 167 [.d x.d, .ptr vb 0] base h h2 (.d (.bool (!r))):=by
 intro o nx hI K X hK
 have hle:=hI.le
 have ho:o vb= .row [.func (.func 165) [] [.ptr yb 0, .ptr vb 0]]:=by rw[hI.eq vb hv,ov]
 have y1:∀k,vb≠nx+k:=fun k=>af
 have y2:vb≠nx:=af
 refine cI.aI mix Q3 aF ?_
 rw[Uu]
 refine RS ho y1 y2 ?_
 refine bz (hS _ _ ?_ _ _ fun o2 n2 m1 m2 m3=> ?_)
 ·exact hI.az af af af rfl
 refine kR ?_
 exact hK _ _ af (m2.mono af) fun id i1 i2=>by rw[m3 id i1 (by omega),ae _ _ _ _ (by omega)]
section
variable {σ:Type}(base ri:Nat)(H:σ->Nat->ad)(step:σ->Int->σ×Bool)(ok:σ->Prop)
theorem Lp:∀t:Tm,t.fits->(∀x∈sq t,∀s,ok s->(step s x).2=true->ok (step s x).1)->(∀x∈sq t,∀s,ok s->RoC Tryz.prog ri [.d (.i x)] base (H s) (H (step s x).1) (.d (.bool (step s x).2)))->ri<base->
 ∀ (c:Nat) (o0:Nat->ad) (yb vb:Nat),base<=c->base<=yb->yb<c->base<=vb->vb<c->o0 yb= .row [.j7 ri]->o0 vb= .row [.func (.func 165) [] [.ptr yb 0, .ptr vb 0]]->
 ∀s,ok s->vG Tryz.prog 165 [.d t.d, .ptr yb 0, .ptr vb 0] c (ext base (H s) o0) (ext base (H (aK step s (sq t)).1) o0) (.d (.bool (aK step s (sq t)).2)):=by
 refine Tm.ei fun t ih hf aW hR Cg c o0 yb vb hbc hy0 hy hv0 hv oy ov s pg=> ?_
 have wP:=(Tm.bK _).1 hf
 intro o nx hI K X hK
 have hle:=hI.le
 have WJ:o yb= .row [.j7 ri]:=by rw[hI.eq yb hy];unfold ext;rw[if_neg (by omega),oy]
 have UT:o vb= .row [.func (.func 165) [] [.ptr yb 0, .ptr vb 0]]:=by rw[hI.eq vb hv];unfold ext;rw[if_neg (by omega),ov]
 have y1:yb≠nx:=af
 have y2:∀k,yb≠nx+k:=fun k=>af
 have y3:vb≠nx:=af
 have y4:∀k,vb≠nx+k:=fun k=>af
 have pz:=Ld t
 have hb:∀id,id<base->o id=H s id:=fun id au=>by rw[hI.eq id (by omega)];unfold ext;rw[if_pos au]
 have hIb:eA base (H s) o nx:=⟨hI.cm,af,hb⟩
 have Is:∀id,base<=id->id<c->o id=o0 id:=fun id h1 h2=>by rw[hI.eq id h2];unfold ext;rw[if_neg (by omega)]
 refine cI.aI mix Q1 aF ?_
 rw[Us]
 by_cases h1:t.op=1
 ·have eg:(t.op==1)=true:=by simpa using h1
  rw[if_pos h1]at pz
  have Au:aK step s (sq t)=step s t.n:=by
   rw[pz]
   simp only[aK]
   generalize step s t.n=q
   obtain⟨a,b⟩:=q
   cases b<;>rfl
  simp+contextual (disch:=first|omega|simp only[go_sem,false_implies]) only[go_sem,wrap64,if_pos,eg,WJ,UT,y1,y2,y3,y4,Nat.add_assoc,Nat.left_eq_add,Nat.add_eq_left,Nat.add_left_cancel_iff]
  refine nz (hR t.n (by rw[pz];simp) s pg _ _ ?_ _ _ fun o2 n2 m1 m2 m3=> ?_)
  ·exact hIb.az af af af rfl
  refine kR ?_
  rw[Au]at hK
  have hold:∀id,base<=id->id<nx->o2 id=o id:=fun id h1 h2=>by rw[m3 id h1 (by omega),ae _ _ _ _ (by omega)]
  refine hK _ _ af ⟨m2.cm.mono af,af,fun id au=> ?_⟩ (fun id h1 h2=>hold id af h2)
  unfold ext
  split
  ·exact m2.eq id (by assumption)
  ·exact Mt
 ·have eg:(t.op==1)=false:=by simpa using h1
  rw[if_neg h1]at pz
  have Au:aK step s (sq t)=aK (fun s k=>aK step s (sq k)) s t.kids:=by rw[pz,vL]
  have tv:∀k∈t.kids,∀x∈sq k,x∈sq t:=fun k hk x hx=>by rw[pz];exact List.mem_flatMap.2 ⟨k,hk,hx⟩
  simp+contextual (disch:=first|omega|simp only[go_sem,false_implies]) only[go_sem,wrap64,if_pos,eg,WJ,UT,y1,y2,y3,y4,Nat.add_assoc,Nat.left_eq_add,Nat.add_eq_left,Nat.add_left_cancel_iff]
  refine bz (CG t.kids wP.1 167 [.ptr vb 0] (nx+8) (fun s=>ext base (H s) (az o nx (.row t.row))) (fun s k=>aK step s (sq k)) ?_ ok ?_ ?_ s pg _ _ ?_ _ _ ?_)
  ·exact EX
  ·exact XX
  ·intro k hk s' jT
   refine Vf (yb:=yb) (ih k hk (wP.2 k hk) (fun x hx=>aW x (tv k hk x hx)) (fun x hx=>hR x (tv k hk x hx)) Cg (nx+8) _ yb vb af hy0 af hv0 af ?_ ?_ s' jT) af af ?_
   ·(repeat(first|rfl|rw[ab]|rw[ae _ _ _ _ (by omega)]));exact WJ
   ·(repeat(first|rfl|rw[ab]|rw[ae _ _ _ _ (by omega)]));exact UT
   ·unfold ext;rw[if_neg (by omega)];(repeat(first|rfl|rw[ab]|rw[ae _ _ _ _ (by omega)]));exact UT
  ·exact(hIb.az af af af rfl).ext af af
  ·intro o5 n5 p1 p2 p3
   refine bW ?_
   rw[<- Au]
   have hold:∀id,base<=id->id<nx->o5 id=o id:=fun id h1 h2=>by
    rw[p2.eq id (by omega)];unfold ext;rw[if_neg (by omega),ae _ _ _ _ (by omega)]
   refine hK _ _ af ⟨p2.cm.mono af,af,fun id au=> ?_⟩ (fun id h1 h2=>hold id af h2)
   rw[Au]
   unfold ext
   split
   ·rw[p2.eq id (by omega)];unfold ext;rw[if_pos (by assumption)]
   ·exact Mt
theorem Lq(t:Tm)(hf:t.fits)(aW:∀x∈sq t,∀s,ok s->(step s x).2=true->ok (step s x).1)(hR:∀x∈sq t,∀s,ok s->RoC Tryz.prog ri [.d (.i x)] base (H s) (H (step s x).1) (.d (.bool (step s x).2)))(Cg:ri<base)(tb:Nat)(IJ:tb<base)(s:σ)(pg:ok s)(cz:H s tb= .row t.row):
 vG Tryz.prog 164 [.j7 ri, .ptr tb 0] base (H s) (H (aK step s (sq t)).1) (.bT []):=by
 intro o nx hI K X hK
 have hle:=hI.le
 have ot:o tb= .row t.row:=by rw[hI.eq tb IJ,cz]
 have y1:tb≠nx:=af
 have y2:∀k,tb≠nx+k:=fun k=>af
 refine cI.aI mix Q0 aF ?_
 rw[Ur]
 simp+contextual only[go_sem,ot,y1,y2,Nat.add_assoc,Nat.left_eq_add,Nat.add_eq_left,Nat.add_left_cancel_iff]
 have hI1:eA base (H s) (az (az (az o nx (.row [.j7 ri])) (nx+1) (.row [.d .ck])) (nx+1) (.row [.func (.func 165) [] [.ptr nx 0, .ptr (nx+1) 0]])) (nx+6):=by
  refine((hI.az (i:=nx) (m:=nx+6) af af af ?_).az (i:=nx+1) (m:=nx+6) af af af rfl).az (i:=nx+1) af af af ?_
  ·simp[ad.refs,V.aQ,V.refs];omega
  ·exact pQ
 refine bz (Lp base ri H step ok t hf aW hR Cg (nx+6) _ nx (nx+1) af hle af af af ?_ ?_ s pg _ _ (hI1.ext (Nat.le_refl _) af) _ _ ?_)
 ·exact c6
 ·exact c6
 intro o2 n2 m1 m2 m3
 refine cB ?_
 refine hK _ _ af ⟨m2.cm,af,fun id au=> ?_⟩ (fun id h1 h2=> ?_)
 ·rw[m2.eq id (by omega)];unfold ext;rw[if_pos au]
 ·exact Ps
end
theorem Lr(t:Tm)(o:Nat->ad)(nx:Nat)(K X:V->(Nat->ad)->Nat->Prop)(h:K (.func (.func 164) [] [.ptr nx 0]) (az o nx (.row t.row)) (nx+4)):cI Tryz.prog 149 [.d t.d] o nx K X:=by
 refine cI.aI mix QV aF ?_
 rw[Um]
 refine cB ?_
 exact h
def Ew{σ:Type}(J:σ->Option jR)(step:σ->Int->σ)(s:σ)(x:Int):σ×Bool:=(step s x,(J (step s x)).isNone)
theorem CI{σ:Type}(t:Tm)(hf:t.fits){n bq:Nat}{gq:Operand}{ps:List Nat}{jr eR:IC}{Q:fk->S->Prop}{e:Nat->V}{o:Nat->ad}{nx tb:Nat}(env:List V)(he:ny e env 0)
 (DZ:ps.all (fun t=>decide (t<n))=true) (hl:ps.length=1) (hg:Good o nx) (hrefs:∀r∈V.aQ env,r<nx) (ht:o tb= .row t.row)
 (G:σ->Nat->ad) (J:σ->Option jR) (step:σ->Int->σ) (ok:σ->Prop) (s0:σ) (pg:ok s0) (hJ0:J s0=none) (h0:∀id,id<nx->o id=G s0 id) (aW:∀x∈sq t,∀s,ok s->J s=none->J (step s x)=none->ok (step s x))
 (uU:∀L,iT Tryz.prog n env ps jr eR L->(∀st pd m,nx<=m->(L st pd).refs.all (fun r=>decide (r<m))=true)->∀x∈sq t,∀s,ok s->J s=none->∀o3 n3,eA nx (G s) o3 n3->nx<n3->o3 nx=L .ready none->∀K X,
  (∀e' o' n' st pd,n3<=n'->eA nx (G (step s x)) o' n'->o' nx=L st pd->(∀id,nx<id->id<n3->o' id=o3 id)->kP nx K X (Rm (J (step s x))) ⟨e',o',n'⟩)->
  kN Tryz.prog n n3 true jr (rW Tryz.prog n n3 nx eR K X) ⟨pq (aX env) ps [.d (.i x)],o3,n3⟩)
 (jU:∀o' n',eA nx (G (aK (Ew J step) s0 (sq t)).1) o' n'->qp Q (J (aK (Ew J step) s0 (sq t)).1) ⟨e,o',n'⟩):
 tM Tryz.prog n bq false gq ps jr eR Q ⟨e,o,nx⟩ (.func (.func 164) [] [.ptr tb 0]):=by
 refine D8 env he (fun L hL=> ?_)
 have IJ:tb<nx:=hg.lt (by rw[ht];exact ad.noConfusion)
 let H:σ->Nat->ad:=fun s id=>if id<nx then G s id else if id=nx then(match J s with|none=>L .ready none|some j=>L .done (some j))else .no
 have rn:∀s id,id<nx->H s id=G s id:=fun s id h=>if_pos h
 have Eb:∀s,J s=none->H s nx=L .ready none:=fun s h=>by show(if nx<nx then _ else _)=_;rw[if_neg (by omega),if_pos rfl,h]
 have Rn:∀s j,J s=some j->H s nx=L .done (some j):=fun s j h=>by show(if nx<nx then _ else _)=_;rw[if_neg (by omega),if_pos rfl,h]
 have xa:∀st pd m,nx<=m->(L st pd).refs.all (fun r=>decide (r<m))=true:=fun st pd m hm=>by
  exact Pa
 refine Lq (nx+1) nx H (Ew J step) (fun s=>ok s/\J s=none) t hf (fun x hx s h1 h2=> ?_) (fun x hx s h1=> ?_) af tb af s0 ⟨pg,hJ0⟩ (by rw[rn _ _ IJ, <- h0 _ IJ,ht]) _ _ ⟨?_,Nat.le_refl _,fun id au=> ?_⟩ _ _ ?_
 ·have hj:J (step s x)=none:=by simpa[Ew]using h2
  exact⟨aW x hx s h1.1 h1.2 hj,hj⟩
 ·intro o3 n3 hI K X hK
  have hle:=hI.le
  have Mk:o3 nx=L .ready none:=by rw[hI.eq nx (by omega),Eb s h1.2]
  refine vH hL mix Mk af DZ (by simp[hl]) ?_
  refine uU L hL xa x hx s h1.1 h1.2 o3 n3 ⟨hI.cm,af,fun id au=>by rw[hI.eq id (by omega),rn _ _ au]⟩ af Mk K X (fun e' o' n' st pd k1 k2 k3 k4=> ?_)
  have key:∀st' pd' b,(J (step s x)).isNone=b->H (step s x) nx=L st' pd'->K (.d (.bool b)) (az o' nx (L st' pd')) n':=fun st' pd' b hb hh=>by
   subst hb
   refine hK _ _ k1 ⟨k2.cm.az af (xa _ _ _ af),af,fun id au=> ?_⟩ (fun id g1 g2=> ?_)
   ·by_cases wJ:id=nx
    ·subst wJ;rw[ab];exact hh.symm
    ·rw[ae _ _ _ _ wJ]
     show o' id=H (step s x) id
     rw[rn _ _ (by omega)];exact k2.eq id af
   ·rw[ae _ _ _ _ (by omega)];exact k4 id af g2
  cases hj:J (step s x)with
  |none=>exact rY hL k3 (key _ _ _ xm (Eb _ hj))
  |some j=>
   cases j with
   |ret=>exact vI hL k3 (key _ _ _ xm (Rn _ _ hj))
   |exit j=>exact te hL k3 (key _ _ _ xm (Rn _ _ hj))
 ·exact(hg.mono af).az af (xa _ _ _ af)
 ·by_cases wJ:id=nx
  ·subst wJ;rw[ab,Eb _ hJ0]
  ·exact OU
 ·intro o' n' k1 k2 k3
  have hle:=k2.le
  generalize hsf:(aK (Ew J step) s0 (sq t)).1=sf at*
  have kk:∀st pd,eA nx (G sf) (az o' nx (L st pd)) n':=fun st pd=>⟨k2.cm.az af (xa _ _ _ af),af,fun id au=>by rw[ae _ _ _ _ (by omega),k2.eq id (by omega),rn _ _ au]⟩
  cases hj:J sf with
  |none=>
   refine⟨.ready,none,by rw[k2.eq nx (by omega),Eb _ hj],(fun h=>by cases h), ?_⟩
   have:=jU _ _ (kk .exhausted none)
   rwa [hj]at this
  |some j=>
   refine⟨.done,some j,by rw[k2.eq nx (by omega),Rn _ _ hj],(fun h=>by cases h), ?_⟩
   have:=jU _ _ (kk .exhausted (some j))
   rwa [hj]at this
end
def jY(b:List (Int×Tm))(n:Int)(s:List Int×Bool)(v:Int):List Int×Bool:=if v=n then(s.1,true)else match bN b v with
 |none=>(s.1,false)
 |some x=>if v∈s.1 then(s.1,false)else match Ml (b.length+1) b n x (dS s.1 v)with
  |some (is,m)=>(m,is)
  |none=>(s.1,false)
def stJ(s:List Int×Bool):Option jR:=if s.2=true then some .ret else none
theorem qN{b:List (Int×Tm)}{n:Int}:∀ (vs met:List Int) (is:Bool) (m':List Int),Le (Ml b.length b n) b n vs met=some (is,m')->(aK (Ew stJ (jY b n)) (met,false) vs).1=(m',is)
 |[],met,is,m',h=>by cases h;rfl
 |v::vs,met,is,m',h=>by
  simp only[Le]at h
  simp only[aK,Ew]
  by_cases e:v=n
  ·rw[if_pos e]at h
   cases h
   have:jY b n (met,false) v=(met,true):=by unfold jY;rw[if_pos e]
   simp only[this];rfl
  ·rw[if_neg e]at h
   cases hl:bN b v with
   |none=>
    rw[hl]at h
    have:jY b n (met,false) v=(met,false):=by unfold jY;rw[if_neg e,hl]
    simp only[this]
    exact qN vs met is m' h
   |some x=>
    rw[hl]at h
    dsimp only at h
    by_cases e2:v∈met
    ·rw[if_pos e2]at h
     have:jY b n (met,false) v=(met,false):=by unfold jY;rw[if_neg e,hl];dsimp only;rw[if_pos e2]
     simp only[this]
     exact qN vs met is m' h
    ·rw[if_neg e2]at h
     cases hF:Ml b.length b n x (dS met v)with
     |none=>rw[hF]at h;cases h
     |some q=>
      obtain⟨i,m⟩:=q
      rw[hF]at h
      have:jY b n (met,false) v=(m,i):=by unfold jY;rw[if_neg e,hl];dsimp only;rw[if_neg e2,CA hF (Nat.le_succ _)]
      simp only[this]
      cases i with
      |true=>cases h;rfl
      |false=>exact qN vs m is m' h
theorem Ls{s:aD}{b:List (Int×Tm)}(hb:∀p∈b,Vs s p.2)(nL:∀p∈b,p.2.fits)(n:Int):∀ (N:Nat) (t:Tm) (met:List Int),wH b met<=N->Vs s t->t.fits->∀ (is:Bool) (fh:List Int),Ml (b.length+1) b n t met=some (is,fh)->
 ∀ (o:Nat->ad) (nx nb bb mb fb mid:Nat),Good o nx->o nb= .row [.d (.i n)]->o bb= .row [.d (H6 b)]->o mb= .row [.mp mid]->o fb= .row [.func (.func 148) [] [.ptr nb 0, .ptr bb 0, .ptr mb 0, .ptr fb 0]]->o mid=HX met->
 ∀ (K X:V->(Nat->ad)->Nat->Prop),(∀o' nx',nx<=nx'->Good o' nx'->(∀j,j<nx->j≠mid->o' j=o j)->o' mid=HX fh->K (.d (.bool is)) o' nx')->
 cI Tryz.prog 148 [.d t.d, .ptr nb 0, .ptr bb 0, .ptr mb 0, .ptr fb 0] o nx K X:=by
 intro N
 induction N using Nat.strongRecOn with
 |ind N ihN=>
  intro t met hN ht Vg is fh hld o nx nb bb mb fb mid hg o1 o2 o3 o4 o5 K X hK
  have l1:nb<nx:=hg.lt (by rw[o1];exact ad.noConfusion)
  have l2:bb<nx:=hg.lt (by rw[o2];exact ad.noConfusion)
  have l3:mb<nx:=hg.lt (by rw[o3];exact ad.noConfusion)
  have l4:fb<nx:=hg.lt (by rw[o4];exact ad.noConfusion)
  have l5:mid<nx:=hg.lt (by rw[o5];exact ad.noConfusion)
  have d1:nb≠mid:=fun e=>by rw[e,o5]at o1;cases o1
  have d2:bb≠mid:=fun e=>by rw[e,o5]at o2;cases o2
  have d3:mb≠mid:=fun e=>by rw[e,o5]at o3;cases o3
  have d4:fb≠mid:=fun e=>by rw[e,o5]at o4;cases o4
  refine cI.aI mix QU aF ?_
  rw[Ul]
  refine kR ?_
  refine dD (Lr t _ _ _ _ ?_)
  refine kR ?_
  obtain⟨O1,hO1⟩:∃O1:Nat->ad,O1=az (az (az o nx (ad.row [V.d (D.i t.op),V.d (D.i t.n),V.d (D.sl (List.map Tm.d t.kids))])) (nx+1) (ad.row [V.d (D.bool false)])) (nx+3) (ad.row t.row):=⟨_,rfl⟩
  have hgO:Good O1 (nx+7):=by rw[hO1];exact dI
  have hOl:∀j,j<nx->O1 j=o j:=fun j hj=>by rw[hO1];(repeat(first|rfl|rw[ab]|rw[ae _ _ _ _ (by omega)]))
  have aeq:O1 (nx+1)= .row [.d (.bool false)]:=by rw[hO1];(repeat(first|rfl|rw[ab]|rw[ae _ _ _ _ (by omega)]))
  have hO3:O1 (nx+3)= .row t.row:=by rw[hO1];(repeat(first|rfl|rw[ab]|rw[ae _ _ _ _ (by omega)]))
  rw[<- hO1]
  obtain⟨G,hG⟩:∃G:List Int×Bool->Nat->ad,G=fun s=>az (az O1 (nx+1) (.row [.d (.bool s.2)])) mid (HX s.1):=⟨_,rfl⟩
  have gm:∀s,G s mid=HX s.1:=fun s=>by rw[hG];exact ab _ _ _
  have gc:∀s,G s (nx+1)= .row [.d (.bool s.2)]:=fun s=>by rw[hG];show az _ mid _ _=_;rw[ae _ _ _ _ (by omega),ab]
  have ge:∀s j,j≠mid->j≠nx+1->G s j=O1 j:=fun s j j1 j2=>by rw[hG];show az _ mid _ _=_;rw[ae _ _ _ _ j1,ae _ _ _ _ j2]
  have gl:∀s j,j<nx->j≠mid->G s j=o j:=fun s j j1 j2=>by rw[ge s j j2 (by omega),hOl j j1]
  refine CI (σ:=List Int×Bool) t Vg [.aa, .ptr nb 0, .ptr bb 0, .ptr mb 0, .ptr fb 0, .aa, .ptr (nx+1) 0] ?_ bV rfl hgO EX hO3
   G stJ (jY b n) (fun s=>wH b s.1<=N) (met,false) hN rfl (fun id au=> ?_) (fun x hx s' h1 h2 h3=> ?_) ?_ ?_
  ·exact IW
  ·by_cases e1:id=mid
   ·subst e1;rw[gm,hOl id (by omega),o5]
   ·by_cases e2:id=nx+1
    ·subst e2;rw[gc,aeq]
    ·rw[ge _ _ e1 e2]
  ·obtain⟨m,fl⟩:=s'
   show wH b (jY b n (m,fl) x).1<=N
   have h1:wH b m<=N:=h1
   unfold jY
   by_cases e:x=n
   ·rw[if_pos e];exact h1
   ·rw[if_neg e]
    cases hl:bN b x with
    |none=>exact h1
    |some y=>
     dsimp only
     by_cases e2:x∈m
     ·rw[if_pos e2];exact h1
     ·rw[if_neg e2]
      have hle:wH b (dS m x)<=b.length:=Nat.le_trans (Nat.le_of_lt (um hl e2)) XB
      obtain⟨i1,m1,g1,g2,g3⟩:=Gg hb n b.length y (dS m x) hle (hb _ (cJ hl))
      have jS:jY b n (m,fl) x=(m1,i1):=by unfold jY;rw[if_neg e,hl];dsimp only;rw[if_neg e2,g1]
      rw[g1]
      rw[jS]at h3
      cases i1 with
      |true=>cases h3
      |false=>
       have:=CB (b:=b) (g3 rfl).1
       have:=um hl e2
       show wH b m1<=N
       omega
  ·intro L hL xa v hv s' nU Ft O3 n3 hI hn Mk K' X' ef
   obtain⟨m,fl⟩:=s'
   have mJ:fl=false:=by
    cases fl with
    |false=>rfl
    |true=>cases Ft
   subst mJ
   have nU:wH b m<=N:=nU
   simp only[pq]
   have hg:=hI.cm
   have hle:=hI.le
   have q1:O3 nb= .row [.d (.i n)]:=by rw[hI.eq nb (by omega),gl _ _ (by omega) d1,o1]
   have q2:O3 bb= .row [.d (H6 b)]:=by rw[hI.eq bb (by omega),gl _ _ (by omega) d2,o2]
   have q3:O3 mb= .row [.mp mid]:=by rw[hI.eq mb (by omega),gl _ _ (by omega) d3,o3]
   have q4:O3 fb= .row [.func (.func 148) [] [.ptr nb 0, .ptr bb 0, .ptr mb 0, .ptr fb 0]]:=by rw[hI.eq fb (by omega),gl _ _ (by omega) d4,o4]
   have q5:O3 mid=HX m:=by rw[hI.eq mid (by omega),gm]
   have q6:O3 (nx+1)= .row [.d (.bool false)]:=by rw[hI.eq (nx+1) (by omega),gc]
   have same:∀ (o':Nat->ad) (n':Nat) (s:List Int×Bool),Good o' n'->n3<=n'->(∀j,j<nx+7->o' j=az (az O3 (nx+1) (.row [.d (.bool s.2)])) mid (HX s.1) j)->eA (nx+7) (G s) o' n':=fun o' n' s k1 k2 k3=>⟨k1,af,fun j hj=>by
    rw[k3 j hj]
    by_cases e1:j=mid
    ·subst e1;rw[ab,gm]
    ·rw[ae _ _ _ _ e1]
     by_cases e2:j=nx+1
     ·subst e2;rw[ab,gc]
     ·rw[ae _ _ _ _ e2,hI.eq j hj,ge _ _ e1 e2,ge _ _ e1 e2]⟩
   have z1:∀k,nb≠n3+k:=fun k=>af
   have z2:∀k,bb≠n3+k:=fun k=>af
   have z3:∀k,mb≠n3+k:=fun k=>af
   have z4:∀k,fb≠n3+k:=fun k=>af
   have z5:∀k,mid≠n3+k:=fun k=>af
   have z6:∀k,nx+1≠n3+k:=fun k=>af
   refine bW ?_
   refine nA hL (pd:=none) ?_ ?_
   ·(repeat(first|rfl|rw[ab]|rw[ae _ _ _ _ (by omega)]))
    exact Mk
   refine GK q1 q2 q3 q4 q5 q6 ?_
   refine ak (fun h3=> ?_) (fun h3=> ?_)
   ·have kW:v=n:=by simpa using h3
    have jS:jY b n (m,false) v=(m,true):=by unfold jY;rw[if_pos kW]
    rw[jS]at ef
    refine GK q1 q2 q3 q4 q5 q6 ?_
    refine ef _ _ _ .busy none af (same _ _ _ dI af fun j hj=> ?_) c6 (fun id h3 h4=>by(repeat(first|rfl|rw[ab]|rw[ae _ _ _ _ (by omega)])))
    by_cases e1:j=mid
    ·exact R0
    ·by_cases e2:j=nx+1
     ·exact R1
     ·exact c6
   ·have kW:v≠n:=by simpa using h3
    cases hl:bN b v with
    |none=>
     have jS:jY b n (m,false) v=(m,false):=by unfold jY;rw[if_neg kW,hl]
     rw[jS]at ef
     cases hc:m.contains v
     all_goals
      simp+contextual (disch:=first|omega|simp only[go_sem,false_implies]) only[go_sem,wrap64,if_pos,q1,q2,q3,q4,q5,q6,oe,dn hl,hc]
      refine ef _ _ _ .busy none af (same _ _ _ dI af fun j hj=> ?_) c6 (fun id h3 h4=>by(repeat(first|rfl|rw[ab]|rw[ae _ _ _ _ (by omega)])))
      by_cases e1:j=mid
      ·exact R0
      ·by_cases e2:j=nx+1
       ·exact XN
       ·exact c6
    |some y=>
     obtain⟨jy,hj⟩:=fw hl
     have NP:=cJ hl
     cases hc:m.contains v with
     |true=>
      have Ap:v∈m:=List.contains_iff_mem.1 hc
      have jS:jY b n (m,false) v=(m,false):=by unfold jY;rw[if_neg kW,hl];dsimp only;rw[if_pos Ap]
      rw[jS]at ef
      simp+contextual (disch:=first|omega|simp only[go_sem,false_implies]) only[go_sem,wrap64,if_pos,q1,q2,q3,q4,q5,q6,oe,hj,hc]
      refine ef _ _ _ .busy none af (same _ _ _ dI af fun j hj=> ?_) c6 (fun id h3 h4=>by(repeat(first|rfl|rw[ab]|rw[ae _ _ _ _ (by omega)])))
      by_cases e1:j=mid
      ·exact R0
      ·by_cases e2:j=nx+1
       ·exact XN
       ·exact c6
     |false=>
      have Ap:v∉m:=fun h=>by rw[List.contains_iff_mem.2 h]at hc;cases hc
      have b8:=um hl Ap
      have JQ:wH b (dS m v)<=b.length:=Nat.le_trans (Nat.le_of_lt b8) XB
      obtain⟨i1,m1,g1,_,_⟩:=Gg hb n b.length y (dS m v) JQ (hb _ NP)
      have jS:jY b n (m,false) v=(m1,i1):=by unfold jY;rw[if_neg kW,hl];dsimp only;rw[if_neg Ap,g1]
      rw[jS]at ef
      simp+contextual (disch:=first|omega|simp only[go_sem,false_implies]) only[go_sem,wrap64,if_pos,q1,q2,q3,q4,q5,q6,z1,z2,z3,z4,z5,z6,oe,hj,hc]
      refine bz (ihN _ af y (dS m v) (Nat.le_refl _) (hb _ NP) (nL _ NP) i1 m1 g1 _ _ nb bb mb fb mid ?_ ?_ ?_ ?_ ?_ ?_ _ _ fun o4' n4 w1 w2 w3 w4=> ?_)
      ·exact dI
      ·(repeat(first|rfl|rw[ab]|rw[ae _ _ _ _ (by omega)]));exact q1
      ·(repeat(first|rfl|rw[ab]|rw[ae _ _ _ _ (by omega)]));exact q2
      ·exact R3
      ·exact X0
      ·exact c6
      have p7:o4' (nx+7)=L .busy none:=by rw[w3 (nx+7) (by omega) (by omega)];(repeat(first|rfl|rw[ab]|rw[ae _ _ _ _ (by omega)]))
      have p6:o4' (nx+1)= .row [.d (.bool false)]:=by rw[w3 (nx+1) (by omega) (by omega)];(repeat(first|rfl|rw[ab]|rw[ae _ _ _ _ (by omega)]));exact q6
      have pj:∀j,j<nx+7->j≠mid->o4' j=O3 j:=fun j j1 j2=>by rw[w3 j (by omega) j2];(repeat(first|rfl|rw[ab]|rw[ae _ _ _ _ (by omega)]))
      have ph:∀j,nx+7<j->j<n3->o4' j=O3 j:=fun j j1 j2=>by rw[w3 j (by omega) (by omega)];(repeat(first|rfl|rw[ab]|rw[ae _ _ _ _ (by omega)]))
      clear hg
      have hg:=w2
      cases i1 with
      |true=>
       refine pP p6 ?_
       refine ef _ _ _ .busy none af (same _ _ _ dI af fun j hj=> ?_) (by(repeat(first|rfl|rw[ab]|rw[ae _ _ _ _ (by omega)]))<;>exact p7) (fun id h3 h4=>by(repeat(first|rfl|rw[ab]|rw[ae _ _ _ _ (by omega)]))<;>exact ph id h3 h4)
       by_cases e1:j=mid
       ·exact XO
       ·by_cases e2:j=nx+1
        ·exact R1
        ·exact XR
      |false=>
       refine pP p6 ?_
       refine ef _ _ _ .busy none af (same _ _ _ dI af fun j hj=> ?_) p7 (fun id h3 h4=>ph id h3 h4)
       by_cases e1:j=mid
       ·exact XO
       ·by_cases e2:j=nx+1
        ·subst e2;(repeat(first|rfl|rw[ab]|rw[ae _ _ _ _ (by omega)]));exact p6
        ·exact XR
  ·intro o' n' hI
   rw[qN (sq t) met is fh hld]at hI|-
   have p6:o' (nx+1)= .row [.d (.bool is)]:=by rw[hI.eq (nx+1) (by omega),gc]
   have hle:=hI.le
   have hg:=hI.cm
   cases is with
   |true=>
    rw[show stJ (fh,true)=some .ret from rfl]
    simp only[qp]
    refine pP p6 ?_
    exact hK _ _ af dI (fun j j1 j2=>by rw[hI.eq j (by omega),gl _ _ j1 j2]) (by rw[hI.eq mid (by omega),gm])
   |false=>
    rw[show stJ (fh,false)=none from rfl]
    simp only[qp]
    refine pP p6 ?_
    refine hK _ _ af dI (fun j j1 j2=> ?_) ?_
    ·(repeat(first|rfl|rw[ab]|rw[ae _ _ _ _ (by omega)]));rw[hI.eq j (by omega),gl _ _ j1 j2]
    ·(repeat(first|rfl|rw[ab]|rw[ae _ _ _ _ (by omega)]));rw[hI.eq mid (by omega),gm]
theorem Gp{s:aD}{b:List (Int×Tm)}(hb:∀p∈b,Vs s p.2)(nL:∀p∈b,p.2.fits)(n:Int)(t:Tm)(ht:Vs s t)(Vg:t.fits){is:Bool}(Ex:is=true↔nK b n t):
 a8 Tryz.prog 120 [H6 b,t.d, .i n] (.ret [.bool is]):=by
 obtain⟨i1,m1,g1,g2⟩:=U8 hb n ht
 have:is=i1:=by rw[Bool.eq_iff_iff,Ex,g2]
 subst this
 refine a8.aI mix QH aF ?_
 rw[T9]
 refine bW ?_
 have hN:wH b []<=b.length:=by unfold wH;exact Nat.le_trans (List.length_filter_le _ _) Xv
 refine bz (Ls hb nL n b.length t [] hN ht Vg is m1 g1 _ _ 2 0 5 7 4 dI rfl rfl rfl rfl rfl _ _ fun o' nx' w1 w2 w3 w4=> ?_)
 exact pK
structure BL (l:List TB):Prop where
 len:l.length<=100
 sz:∀x∈l,x.term.sz<=1000
theorem yr{b:List (Int×Tm)}(nL:∀p∈b,p.2.fits)(hle:∀p∈b,∃f r,tl f b p.2 40 12=some r){ok:Bool}(aW:ok=true↔∀p∈b,CE b p.2):a8 Tryz.prog 121 [H6 b] (.ret [.bool ok]):=by
 refine a8.aI mix QI aF ?_
 rw[Ua]
 simp+contextual (disch:=first|omega|simp only[go_sem,false_implies]) only[go_sem,wrap64,if_pos,oe]
 refine aB (fun i:List (Int×Tm)×Option (D×D)=>⟨aX [.d (H6 b), .aa, .aa, .aa, .aa, .aa, .ptr 2 0],az (fun _=> .no) 2 (.ra (enc (D.int .i64) (jW i.1)) i.2),3⟩)
  (fun i=>(∀p∈i.1,p∈b)/\(ok=true↔∀p∈i.1,CE b p.2)) (fun i=>i.1.length) (b,none) ⟨fun _ h=>h,aW⟩ ?_ ?_
 ·dsimp only
  exact Sf
 rintro⟨rest,last⟩ ⟨hr,ho⟩
 dsimp only at hr ho|-
 refine bW ?_
 refine se (fun h0=> ?_) fun i k x hm=> ?_
 ·subst h0
  have:ok=true:=ho.2 (fun p hp=>by cases hp)
  exact yC
 ·have ox:=List.mem_of_getElem? hm
  have Mh:=hr _ ox
  obtain⟨f,r,hf⟩:=hle _ Mh
  have hlen:(rest.eraseIdx i).length<rest.length:=by
   exact Su
  have uy:=pF hm
  refine bW ?_
  refine aw (Ll f x 40 12 r (nL _ Mh) nL af af hf) rfl ?_
  have c8:=Gh hf
  by_cases h0:r<0
  ·have yR:decide (r<0)=true:=decide_eq_true h0
   have:ok=false:=by
    cases ok with
    |false=>rfl
    |true=>
     have:=c8.1 (ho.1 rfl _ ox)
     omega
   subst this
   exact Db yR
  ·have yR:decide (r<0)=false:=decide_eq_false h0
   refine pP yR ?_
   refine aj (rest.eraseIdx i,some (.int .i64 k,x.d)) ⟨fun p hp=>hr p (uy.mem_iff.1 (List.mem_cons_of_mem _ hp)),ho.trans ⟨fun h p hp=>h p (uy.mem_iff.1 (List.mem_cons_of_mem _ hp)),fun h p hp=> ?_⟩⟩ hlen (bA.bJ _ (show 0<=3 from af) af dI (fun j hj=> ?_) ?_)
   ·rcases List.mem_cons.1 (uy.mem_iff.2 hp)with rfl|hp
    ·exact c8.2 af
    ·exact h p hp
   ·by_cases e:j=2
    ·exact oV
    ·exact c6
   ·exact dp
structure Nt where
 a:Tm
 b:Tm
@[reducible] def Nt.d (n:Nt):D:= .agg [.i n.a.op, .i n.a.n, .sl (n.a.kids.map Tm.d), .i n.b.op, .i n.b.n, .sl (n.b.kids.map Tm.d)]
@[reducible] def Nt.row (n:Nt):List V:=[.d (.i n.a.op), .d (.i n.a.n), .d (.sl (n.a.kids.map Tm.d)), .d (.i n.b.op), .d (.i n.b.n), .d (.sl (n.b.kids.map Tm.d))]
@[reducible] def mkD (m:Int×Int):D:= .agg [.i m.1, .i m.2]
structure iU where
 sig:aD
 binds:List TB
 aR:List Nt
 marks:List (Int×Int)
@[reducible] def iU.d (s:iU):D:= .agg [.sl (s.sig.cons.map kO.d), .sl (s.sig.cL.map kO.d), .sl (s.binds.map TB.d), .sl (s.aR.map Nt.d), .sl (s.marks.map mkD)]
@[reducible] def iU.row (s:iU):List V:=[.d (.sl (s.sig.cons.map kO.d)), .d (.sl (s.sig.cL.map kO.d)), .d (.sl (s.binds.map TB.d)), .d (.sl (s.aR.map Nt.d)), .d (.sl (s.marks.map mkD))]
@[reducible] def iU.kd (s:iU) (b:List (Int×Tm)):D:= .agg [.sl (s.sig.cons.map kO.d), .sl (s.sig.cL.map kO.d), .sl (s.binds.map TB.d), .sl (s.aR.map Nt.d), .sl (s.marks.map mkD),H6 b]
def jc(s:aD)(t:Tm):Bool:=jH s [t]&&nF t
theorem wc(s:iU)(hs:s.sig.Fits)(b:List (Int×Tm))(t:Tm)(ht:t.Fin):a8 Tryz.prog 99 [s.kd b,t.d] (.ret [.bool (jc s.sig t)]):=by
 refine a8.aI mix aas aF ?_
 rw[c99]
 refine bW ?_
 refine aw (En s.sig hs t ht) rfl ?_
 unfold jc
 cases h:jH s.sig [t]with
 |false=>
  exact Xf
 |true=>
  exact Xf
theorem Ig(s:iU){b:List (Int×Tm)}(hb:∀p∈b,p.2.fits)(n:Nt)(ha:n.a.fits)(Dk:n.b.fits){f:Nat}{x y:Tm}(hx:yp f b n.a=some x)(hy:yp f b n.b=some y)(fx:x.fits)(fy:y.fits)(zx:x.sz<=1000000)(zy:y.sz<=1000000):
 a8 Tryz.prog 66 [s.kd b,n.d] (.ret [.bool (fX x y)]):=by
 refine a8.aI mix aai aF ?_
 rw[c66]
 refine bW ?_
 refine aU (su hb f n.a x ha hx zx) ?_
 refine bW ?_
 refine aU (su hb f n.b y Dk hy zy) ?_
 refine bW ?_
 refine aZ (Ob x fx y fy) rfl ?_
 exact MA
def Brk(b:List (Int×Tm))(n:Nt):Prop:=∃f x,yp f b n.a=some x/\yp f b n.b=some x
def w6(nb nn:Int):Int×Int->List (Int×Int)->Bool
 |_,[]=>true
 |l,m::ms=> !(decide (m.1<l.1)||decide (m.1>nb)||decide (m.2<l.2)||decide (m.2>nn))&&w6 nb nn m ms
structure qO (s:aD) (l:List TB):Prop where
 len:l.length<=20
 keys:((ai l).map (·.1)).Nodup
 ok:∀x∈l,(0<=x.var/\x.var<20)/\jc s x.term=true
 N9:U9 (ai l)
 WU:∀x∈l,CE (ai l) x.term
structure gO (s:iU):Prop where
 sig:np s.sig=true
 Ih:s.aR.length<=12
 Vh:s.marks.length<=8
 tp:qO s.sig s.binds
 aR:∀n∈s.aR,jc s.sig n.a=true/\jc s.sig n.b=true/\ ¬Brk (ai s.binds) n
 marks:w6 s.binds.length s.aR.length (0,0) s.marks=true
structure iU.Fin (s:iU):Prop where
 sig:s.sig.Fits
 bl:s.binds.length<=1000
 nl:s.aR.length<=1000
 ml:s.marks.length<=1000
 bt:∀x∈s.binds,x.term.Fin
 nt:∀n∈s.aR,n.a.Fin/\n.b.Fin
theorem dF{s:aD}{t:Tm}(h:jc s t=true):Vs s t/\t.sz<=40/\t.mC<=12:=by
 unfold jc jH at h
 simp only[Bool.and_eq_true,List.all_cons,List.all_nil,Bool.and_true]at h
 obtain⟨⟨_,h1⟩,h2⟩:=h
 rw[vU]at h1
 rw[yl h1]at h2
 have h3:=NZ h1
 unfold jF at h1
 rw[Bool.and_eq_true]at h1
 exact⟨⟨h1.2,h2⟩,h3.2⟩
theorem eY{l:List TB}{p:Int×Tm}(h:p∈ai l):∃x∈l,p=(x.var,x.term):=by
 obtain⟨x,hx,rfl⟩:=List.mem_map.1 h
 exact⟨x,hx,rfl⟩
theorem iV{l:List TB}{x:TB}(h:x∈l):(x.var,x.term)∈ai l:=List.mem_map.2 ⟨x,h,rfl⟩
theorem we(l:List TB){k:Nat}{x:TB}(h:l[k]? =some x):ai (l.take (k+1))=ai (l.take k)++[(x.var,x.term)]:=by
 unfold ai
 rw[List.take_add_one,h,List.map_append];rfl
theorem uo{s:aD}{l:List TB}(hk:((ai l).map (·.1)).Nodup)(ho:∀x∈l,(0<=x.var/\x.var<20)/\jc s x.term=true)(ha:U9 (ai l)):∃l' ρ R,lD s (ai l) l' ρ R/\gf s l':=
 Lh hk (fun p hp=>by
  obtain⟨x,hx,rfl⟩:=eY hp
  exact⟨(ho x hx).1,(dF (ho x hx).2).1⟩) ha
theorem Gq{s:aD}{b:List (Int×Tm)}{l:List TB}{ρ:Int->Nat}{R:Nat}(h:lD s b l ρ R){n:Nt}(ha:Vs s n.a)(hb:Vs s n.b):Brk b n↔aV (ai l) n.a=aV (ai l) n.b:=by
 have e1:=tn h _ n.a ha (Nat.le_refl _)
 have e2:=tn h _ n.b hb (Nat.le_refl _)
 constructor
 ·rintro⟨f,x,h1,h2⟩
  obtain⟨g,hg⟩:∃g,g=f+(R+3+((aV (ai l) n.a).sz+(aV (ai l) n.b).sz)):=⟨_,rfl⟩
  have k1:=jN h1 (show f<=g from af)
  have k2:=jN h2 (show f<=g from af)
  rw[jN e1 (show _<=g by omega)]at k1
  rw[jN e2 (show _<=g by omega)]at k2
  exact Option.some.inj (k1.trans k2.symm)
 ·intro h
  refine⟨R+3+((aV (ai l) n.a).sz+(aV (ai l) n.b).sz),aV (ai l) n.a,jN e1 af, ?_⟩
  rw[h]
  exact jN e2 af
theorem Oe{F:Tm->Int->Option Int}:∀ {ks:List Tm} {n r:Int},n<0->Aw F ks n=some r->r=n
 |[],n,r,_,h=>by cases h;rfl
 |k::ks,n,r,hn,h=>by
  simp only[Aw]at h
  rw[if_pos hn]at h
  cases h;rfl
theorem Lt{F:Tm->Int->Option Int}{g:Tm->Nat}:∀ {ks:List Tm} {n r:Int},(∀k∈ks,∀m q,F k m=some q->0<=q->(g k:Int)=m - q)->Aw F ks n=some r->0<=r->(((ks.map g).sum:Nat):Int)=n - r
 |[],n,r,_,h,_=>by cases h;simp
 |k::ks,n,r,hF,h,hr=>by
  have h0:=h
  simp only[Aw]at h
  split at h
  ·cases h;omega
  ·cases e:F k n with
   |none=>rw[e]at h;cases h
   |some q=>
    rw[e]at h
    have hq:0<=q:=by
     rcases Int.lt_or_le q 0 with hq|hq
     ·have:=Oe hq h;omega
     ·exact hq
    have h1:=hF k aF n q e hq
    have h2:=Lt (g:=g) (fun y hy=>hF y lJ) h hr
    rw[List.map_cons,List.sum_cons]
    omega
theorem Lu{s:aD}{b:List (Int×Tm)}{l:List TB}{ρ:Int->Nat}{R:Nat}(h:lD s b l ρ R):∀ (f:Nat) (t:Tm) (n:Int) (d:Nat) (r:Int),Vs s t->tl f b t n d=some r->0<=r->((aV (ai l) t).sz:Int)=n - r
 |0,_,_,_,_,_,h,_=>by cases h
 |f+1,t,n,d,r,ht,hl,hr=>by
  simp only[tl]at hl
  obtain⟨x,a1,a2,a3,a4,_⟩:=h.root ht
  cases ha:mj f b t with
  |none=>rw[ha]at hl;cases hl
  |some y=>
  have e1:=gK a1 (show R+2<=f+(R+2)from af)
  rw[gK ha (show f<=f+(R+2) by omega)]at e1
  cases e1
  rw[ha]at hl
  cases d with
  |zero=>cases hl;omega
  |succ d=>
   dsimp only at hl
   have h1:=Lt (g:=fun k=>(aV (ai l) k).sz) (fun k hk m q hq hq0=>Lu h f k m d q (a2.jV hk) hq hq0) hl hr
   rw[<- a3]
   by_cases hx:x.op=1
   ·have e:=a2.eta hx
    have hk:x.kids=[]:=by rw[e];rfl
    have hv:aV (ai l) x=x:=by rw[e8 a2 hx,show Lv (ai l) x.n= .mk 1 x.n [] by simp[Lv,(h.Av _).1 (a4 hx)]];exact e.symm
    rw[hk]at h1
    rw[hv,Tm.iH,hk]
    simp[oB]at h1|-
    omega
   ·rw[fZ hx,Tm.iH]
    have:oB (Tm.mk x.op x.n (x.kids.map (aV (ai l)))).kids=(x.kids.map fun k=>(aV (ai l) k).sz).sum:=by
     show oB (x.kids.map (aV (ai l)))=_
     unfold oB
     rw[List.map_map];rfl
    rw[this]
    omega
theorem Vi{s:aD}{b:List (Int×Tm)}{l:List TB}{ρ:Int->Nat}{R:Nat}(h:lD s b l ρ R){t:Tm}(ht:Vs s t)(hf:CE b t):(aV (ai l) t).sz<=40:=by
 obtain⟨f,r,h1,h2⟩:=hf
 have:=Lu h f t 40 12 r ht h1 h2
 omega
theorem acb{s:aD}{b:List (Int×Tm)}(hb:∀v,(Lv b v).sz<=40):∀t:Tm,Vs s t->(aV b t).sz<=40*t.sz:=by
 refine Tm.ei fun t ih ht=> ?_
 by_cases h1:t.op=1
 ·rw[e8 ht h1]
  have:=hb t.n
  have:=Tm.pC t
  omega
 ·rw[fZ h1,Tm.iH,Tm.iH t]
  show 1+oB (t.kids.map (aV b))<=40*(1+oB t.kids)
  have key:∀ks:List Tm,(∀k∈ks,(aV b k).sz<=40*k.sz)->oB (ks.map (aV b))<=40*oB ks:=by
   intro ks
   induction ks with
   |nil=>intro _;simp[oB]
   |cons k ks wY=>
    intro h
    have h1:=h k aF
    have h2:=wY fun y hy=>h y lJ
    rw[List.map_cons,lB,lB]
    omega
  have:=key t.kids fun k hk=>ih k hk (ht.jV hk)
  omega
theorem qP{s:aD}{b:List (Int×Tm)}{l:List TB}{ρ:Int->Nat}{R:Nat}(h:lD s b l ρ R)(hf:∀p∈b,CE b p.2){t:Tm}(ht:Vs s t):(aV (ai l) t).sz<=40*t.sz:=by
 refine acb (fun v=> ?_) t ht
 cases hx:bN b v with
 |none=>
  have:Lv (ai l) v= .mk 1 v []:=by simp[Lv,(h.Av v).1 hx]
  rw[this,Tm.iH]
  simp[Tm.kids,oB]
 |some x=>
  obtain⟨g1,g2,_⟩:=h.ok v x hx
  rw[g2]
  exact Vi h g1 (hf _ (cJ hx))
end Go.Proofs.YtlhemmpklhhgoaaGreat
section
namespace Go.Proofs.YtlhemmpklhhgoaaGreat
open Classical in
noncomputable def iq(lim:Bool)(b:List (Int×Tm))(n:Int)(t:Tm):Int×List (Int×Tm):=
 if nK b n t then(5,b)else if lim=true/\ ¬ (∀p∈b++[(n,t)],CE (b++[(n,t)]) p.2)then(3,b++[(n,t)])else(0,b++[(n,t)])
open Classical in
noncomputable def gP(b:List (Int×Tm))(t:Tm):Option Tm:=if h:∃x g,mj g b t=some x then some h.choose else none
theorem cE{b:List (Int×Tm)}{g:Nat}{t x:Tm}(h:mj g b t=some x):gP b t=some x:=by
 have hx:∃x g,mj g b t=some x:=⟨x,g,h⟩
 unfold gP
 rw[dif_pos hx]
 obtain⟨g',h'⟩:=hx.choose_spec
 have e1:=gK h (Nat.le_max_left g g')
 rw[gK h' (Nat.le_max_right g g')]at e1
 exact e1
theorem CJ{b:List (Int×Tm)}{t x:Tm}(h:gP b t=some x):∃g,mj g b t=some x:=by
 unfold gP at h
 split at h
 ·rename_i hx
  injection h with h
  subst h
  exact hx.choose_spec
 ·cases h
def lH(F:Tm->Tm->List (Int×Tm)->Option (Int×List (Int×Tm))):List Tm->List Tm->List (Int×Tm)->Option (Int×List (Int×Tm))
 |k::ks,k'::c9,b=>match F k k' b with
  |some (e,b1)=>if e=0 then lH F ks c9 b1 else some (e,b1)
  |none=>none
 |_,_,b=>some (0,b)
noncomputable def mf(lim:Bool):Nat->Tm->Tm->List (Int×Tm)->Option (Int×List (Int×Tm))
 |0,_,_,_=>none
 |f+1,a,c,b=>match gP b a,gP b c with
  |some x,some y=>
   if x.op=1 then
    if y.op=1 then(if x.n=y.n then some (0,b)else some (iq lim b (max x.n y.n) (.mk 1 (min x.n y.n) [])))
    else some (iq lim b x.n y)
   else if y.op=1 then some (iq lim b y.n x)
   else if x.op=y.op/\x.n=y.n/\x.kids.length=y.kids.length then lH (mf lim f) x.kids y.kids b
   else some (5,b)
  |_,_=>none
noncomputable def jO(lim:Bool)(top:Nat):Nat->List (Tm×Tm)->List (Int×Tm)->Option (Int×List (Int×Tm))
 |0,_,_=>none
 |f+1,[],b=>some (0,b)
 |f+1,(a,c)::st,b=>if st.length≥top then none else match gP b a,gP b c with
  |some x,some y=>
   if x.op=1 then
    if y.op=1 then(if x.n=y.n then jO lim top f st b else
     if(iq lim b (max x.n y.n) (.mk 1 (min x.n y.n) [])).1=0 then jO lim top f st (iq lim b (max x.n y.n) (.mk 1 (min x.n y.n) [])).2 else some (iq lim b (max x.n y.n) (.mk 1 (min x.n y.n) [])))
    else if(iq lim b x.n y).1=0 then jO lim top f st (iq lim b x.n y).2 else some (iq lim b x.n y)
   else if y.op=1 then(if(iq lim b y.n x).1=0 then jO lim top f st (iq lim b y.n x).2 else some (iq lim b y.n x))
   else if x.op=y.op/\x.n=y.n/\x.kids.length=y.kids.length then jO lim top f (x.kids.zip y.kids++st) b
   else some (5,b)
  |_,_=>none
theorem kU{F G:Tm->Tm->List (Int×Tm)->Option (Int×List (Int×Tm))}(Cy:∀k k' b r,F k k' b=some r->G k k' b=some r):∀ {ks c9:List Tm} {b:List (Int×Tm)} {r:Int×List (Int×Tm)},lH F ks c9 b=some r->lH G ks c9 b=some r
 |[],_,_,_,h=>by simpa[lH]using h
 |_::_,[],_,_,h=>by simpa[lH]using h
 |k::ks,k'::c9,b,r,h=>by
  simp only[lH]at h|-
  cases e:F k k' b with
  |none=>rw[e]at h;cases h
  |some q=>
   rw[e]at h
   rw[Cy _ _ _ _ e]
   dsimp only at h|-
   split at h
   ·rename_i e0;rw[if_pos e0];exact kU Cy h
   ·rename_i e0;rw[if_neg e0];exact h
theorem iw{lim:Bool}:∀ {f g:Nat} {t u:Tm} {b:List (Int×Tm)} {r:Int×List (Int×Tm)},mf lim f t u b=some r->f<=g->mf lim g t u b=some r
 |0,_,_,_,_,_,h,_=>by cases h
 |f+1,0,_,_,_,_,h,hg=>af
 |f+1,g+1,t,u,b,r,h,hg=>by
  simp only[mf]at h|-
  cases ha:gP b t with
  |none=>rw[ha]at h;cases h
  |some x=>
  cases hc:gP b u with
  |none=>rw[ha,hc]at h;cases h
  |some y=>
  rw[ha,hc]at h
  skip
  dsimp only at h|-
  split at h
  ·rename_i h1;rw[if_pos h1];exact h
  ·rename_i h1
   rw[if_neg h1]
   split at h
   ·rename_i h2;rw[if_pos h2];exact h
   ·rename_i h2
    rw[if_neg h2]
    split at h
    ·rename_i h3;rw[if_pos h3];exact kU (fun k k' b r hk=>iw hk af) h
    ·rename_i h3;rw[if_neg h3];exact h
theorem gh{lim:Bool}{top:Nat}:∀ {f g:Nat} {st:List (Tm×Tm)} {b:List (Int×Tm)} {r:Int×List (Int×Tm)},jO lim top f st b=some r->f<=g->jO lim top g st b=some r
 |0,_,_,_,_,h,_=>by cases h
 |f+1,0,_,_,_,h,hg=>af
 |f+1,g+1,[],b,r,h,hg=>h
 |f+1,g+1,(t,u)::st,b,r,h,hg=>by
  simp only[jO]at h|-
  by_cases h0:st.length≥top
  ·rw[if_pos h0]at h;cases h
  rw[if_neg h0]at h|-
  cases ha:gP b t with
  |none=>rw[ha]at h;cases h
  |some x=>
  cases hc:gP b u with
  |none=>rw[ha,hc]at h;cases h
  |some y=>
  rw[ha,hc]at h
  skip
  dsimp only at h|-
  by_cases h1:x.op=1
  ·rw[if_pos h1]at h|-
   by_cases h2:y.op=1
   ·rw[if_pos h2]at h|-
    by_cases h3:x.n=y.n
    ·rw[if_pos h3]at h|-;exact gh h af
    ·rw[if_neg h3]at h|-
     split at h
     ·rename_i h4;rw[if_pos h4];exact gh h af
     ·rename_i h4;rw[if_neg h4];exact h
   ·rw[if_neg h2]at h|-
    split at h
    ·rename_i h4;rw[if_pos h4];exact gh h af
    ·rename_i h4;rw[if_neg h4];exact h
  ·rw[if_neg h1]at h|-
   by_cases h2:y.op=1
   ·rw[if_pos h2]at h|-
    split at h
    ·rename_i h4;rw[if_pos h4];exact gh h af
    ·rename_i h4;rw[if_neg h4];exact h
   ·rw[if_neg h2]at h|-
    split at h
    ·rename_i h4;rw[if_pos h4];exact gh h af
    ·rename_i h4;rw[if_neg h4];exact h
theorem Ey{lim:Bool}{top W:Nat}{P:Tm->Prop}{I:List (Int×Tm)->Prop}(hP:∀t,P t->t.kids.length<=W/\∀k∈t.kids,P k)(hR:∀b t x,I b->P t->gP b t=some x->P x)
 (hI:∀f t u b b',mf lim f t u b=some (0,b')->I b->P t->P u->I b'):∀ (f:Nat) (t u:Tm) (b:List (Int×Tm)) (e:Int) (b':List (Int×Tm)),mf lim f t u b=some (e,b')->I b->P t->P u->∀ (st:List (Tm×Tm)) (n:Nat) (r:Int×List (Int×Tm)),st.length+f*W+1<=top->(if e=0 then jO lim top n st b'=some r else r=(e,b'))->∃m,jO lim top m ((t,u)::st) b=some r
 |0,_,_,_,_,_,h,_,_,_,_,_,_,_,_=>by cases h
 |f+1,t,u,b,e,b',h,Vj,hpt,hpu,st,n,r,aeR,hr=>by
  simp only[mf]at h
  cases ha:gP b t with
  |none=>rw[ha]at h;cases h
  |some x=>
  cases hc:gP b u with
  |none=>rw[ha,hc]at h;cases h
  |some y=>
  rw[ha,hc]at h
  dsimp only at h
  have hpx:=hR b t x Vj hpt ha
  have hpy:=hR b u y Vj hpu hc
  have jS: ¬st.length≥top:=af
  have bnd:∀q:Int×List (Int×Tm),q=(e,b')->∀m,n<=m->(if q.1=0 then jO lim top m st q.2 else some q)=some r:=by
   rintro q rfl m hm
   dsimp only
   split
   ·rename_i e0;rw[if_pos e0]at hr;exact gh hr hm
   ·rename_i e0;rw[if_neg e0]at hr;rw[hr]
  by_cases h1:x.op=1
  ·rw[if_pos h1]at h
   by_cases h2:y.op=1
   ·rw[if_pos h2]at h
    by_cases h3:x.n=y.n
    ·rw[if_pos h3]at h
     injection h with h
     injection h with h4 h5
     subst h4;subst h5
     rw[if_pos rfl]at hr
     refine⟨max f n+1, ?_⟩
     simp only[jO]
     rw[if_neg jS,ha,hc]
     dsimp only
     rw[if_pos h1,if_pos h2,if_pos h3]
     exact gh hr (Nat.le_max_right _ _)
    ·rw[if_neg h3]at h
     injection h with h
     refine⟨max f n+1, ?_⟩
     simp only[jO]
     rw[if_neg jS,ha,hc]
     dsimp only
     rw[if_pos h1,if_pos h2,if_neg h3]
     exact Ja
   ·rw[if_neg h2]at h
    injection h with h
    refine⟨max f n+1, ?_⟩
    simp only[jO]
    rw[if_neg jS,ha,hc]
    dsimp only
    rw[if_pos h1,if_neg h2]
    exact Ja
  ·rw[if_neg h1]at h
   by_cases h2:y.op=1
   ·rw[if_pos h2]at h
    injection h with h
    refine⟨max f n+1, ?_⟩
    simp only[jO]
    rw[if_neg jS,ha,hc]
    dsimp only
    rw[if_neg h1,if_pos h2]
    exact Ja
   ·rw[if_neg h2]at h
    by_cases h3:x.op=y.op/\x.n=y.n/\x.kids.length=y.kids.length
    ·rw[if_pos h3]at h
     have hW:(f+1)*W=f*W+W:=by rw[Nat.add_mul,Nat.one_mul]
     have key:∀ (ks c9:List Tm) (b:List (Int×Tm)),(∀k∈ks,P k)->(∀k∈c9,P k)->I b->ks.length<=W->lH (mf lim f) ks c9 b=some (e,b')->∃m,jO lim top m (ks.zip c9++st) b=some r:=by
      intro ks
      induction ks with
      |nil=>
       intro c9 b _ _ _ _ h
       exact Yu
      |cons k ks ih=>
       intro c9 b m1 m2 Vj hlk h
       cases c9 with
       |nil=>
        exact Yu
       |cons k' c9=>
        simp only[lH]at h
        cases he:mf lim f k k' b with
        |none=>rw[he]at h;cases h
        |some q=>
         obtain⟨e1,b1⟩:=q
         rw[he]at h
         dsimp only at h
         have Ya:(ks.zip c9++st).length+f*W+1<=top:=by
          rw[List.length_append,List.length_zip]
          rw[List.length_cons]at hlk
          omega
         by_cases e0:e1=0
         ·rw[if_pos e0]at h
          obtain⟨m,hm⟩:=ih c9 b1 (fun z hz=>m1 z sJ) (fun z hz=>m2 z sJ) (hI f k k' b b1 (e0 ▸ he) Vj (m1 k aF) (m2 k' aF)) (by rw[List.length_cons]at hlk;omega) h
          exact Ey hP hR hI f k k' b e1 b1 he Vj (m1 k aF) (m2 k' aF) (ks.zip c9++st) m r Ya (by rw[if_pos e0];exact hm)
         ·rw[if_neg e0]at h
          injection h with h
          injection h with h4 h5
          subst h4;subst h5
          rw[if_neg e0]at hr
          exact Ey hP hR hI f k k' b e1 b1 he Vj (m1 k aF) (m2 k' aF) (ks.zip c9++st) n r Ya (by rw[if_neg e0];exact hr)
     obtain⟨m,hm⟩:=key x.kids y.kids b (hP x hpx).2 (hP y hpy).2 Vj (hP x hpx).1 h
     refine⟨max f m+1, ?_⟩
     simp only[jO]
     rw[if_neg jS,ha,hc]
     dsimp only
     rw[if_neg h1,if_neg h2,if_pos h3]
     exact gh hm (Nat.le_max_right _ _)
    ·rw[if_neg h3]at h
     injection h with h
     injection h with h4 h5
     subst h4;subst h5
     rw[if_neg (by omega)]at hr
     subst hr
     refine⟨f+1, ?_⟩
     simp only[jO]
     rw[if_neg jS,ha,hc]
     dsimp only
     rw[if_neg h1,if_neg h2,if_neg h3]
end Go.Proofs.YtlhemmpklhhgoaaGreat
end
