/-
  A PART OF THE PROOF. Conditions: none.
-/
import Derived.Test.YtlhemmpklhhgoaaGreatQn16
set_option linter.unusedSimpArgs false
set_option linter.unusedVariables false
namespace Go.Proofs.YtlhemmpklhhgoaaGreat
theorem Bo{s:aA}{b:List (Int×Tm)}{l:List TB}{ρ:Int->Nat}{R:Nat}(h:kq s b l ρ R)(hl:iE s l){n:Int}(hn:bS b n=none){t:Tm}(ht:Vs s t):fX n (aS (ah l) t)=true↔ox b n t:=by
 have hln:Lv (ah l) n= .mk 1 n []:=by simp[Lv,(h.x5 n).1 hn]
 constructor
 ·have key:∀ (r:Nat) (t:Tm),Vs s t->(∀u,fX u t=true->ρ u<r)->fX n (aS (ah l) t)=true->ox b n t:=by
   intro r
   induction r with
   |zero=>
    intro t ht hr hf
    obtain⟨u,hu,_⟩:=(uh hl.bd t ht n).1 hf
    exact absurd (hr u hu) (Nat.not_lt_zero _)
   |succ r ih=>
    intro t ht hr hf
    obtain⟨u,hu,hf⟩:=(uh hl.bd t ht n).1 hf
    cases hx:bS b u with
    |none=>
     have:Lv (ah l) u= .mk 1 u []:=by simp[Lv,(h.x5 u).1 hx]
     rw[this,oj]at hf
     have:u=n:=by simpa using hf
     exact .here (this ▸ hu)
    |some x=>
     obtain⟨g1,g2,g3⟩:=h.ok u x hx
     rw[g2]at hf
     have:=hr u hu
     exact .step hu hx (ih x g1 (fun w hw=>by have:=g3 w hw;omega) hf)
  exact key (R+1) t ht fun u _=>by have:=h.bd u;omega
 ·intro hr
  induction hr with
  |here h1=>exact(uh hl.bd _ ht n).2 ⟨n,h1,by rw[hln,oj];simp⟩
  | @step t v x h1 h2 _ ih=>
    obtain⟨g1,g2,g3⟩:=h.ok v x h2
    exact(uh hl.bd _ ht _).2 ⟨v,h1,by rw[g2];exact ih g1⟩
def YC(b:List (Int×Tm)):Prop:=∀v x,bS b v=some x-> ¬ox b v x
theorem NQ{s:aA}{b:List (Int×Tm)}(AF:(b.map (·.1)).Nodup)(aY:∀p∈b,(0<=p.1/\p.1<20)/\Vs s p.2)(ha:YC b):∃l ρ R,kq s b l ρ R/\iE s l:=by
 have key:∀k,k<=b.length->∃l ρ R,kq s (b.take k) l ρ R/\iE s l:=by
  intro k
  induction k with
  |zero=>intro _;exact⟨[],fun _=>0,0,by rw[List.take_zero];exact kq.nil,iE.nil⟩
  |succ k ih=>
   intro hk
   obtain⟨l,ρ,R,h,hl⟩:=ih af
   obtain⟨⟨n,y⟩,hp⟩:∃p,b[k]? =some p:=⟨_,List.getElem?_eq_getElem (show k<b.length from af)⟩
   have hpm:=List.mem_of_getElem? hp
   have oz:b.take (k+1)=b.take k++[(n,y)]:=by rw[List.take_add_one,hp];rfl
   have Q9:((b.take (k+1)).map (·.1)).Nodup:=AF.sublist ((List.take_sublist _ _).map _)
   have hn:bS (b.take k) n=none:=by
    rw[l6]
    rw[oz,List.map_append,List.nodup_append]at Q9
    exact fun hm=>Q9.2.2 n hm n aE rfl
   obtain⟨hr,hy⟩:=aY _ hpm
   have uu:∀v x,bS (b.take k) v=some x->bS b v=some x:=fun v x hx=>(jj AF).2 (List.mem_of_mem_take (cK hx))
   have hny: ¬fX n (aS (ah l) y)=true:=fun hf=>ha n y ((jj AF).2 hpm) (((Bo h hl hn hy).1 hf).mono uu)
   obtain⟨K4,R',h'⟩:=h.ext hl hn hy hny
   rw[oz]
   exact⟨_,K4,R',h',rS hl hr ((h.x5 n).1 hn) (Vs.sub hl.bd y hy) (fun u hu=>hl.free hy hu) hny⟩
 have:=key b.length (Nat.le_refl _)
 rwa [List.take_length]at this
theorem kq.DZ {s:aA}{b:List (Int×Tm)}{l:List TB}{ρ:Int->Nat}{R:Nat}(h:kq s b l ρ R):YC b:=by
 have key:∀t n,ox b n t->∀r,(∀u,fX u t=true->ρ u<r)->ρ n<r:=by
  intro t n hr
  induction hr with
  |here h1=>exact fun r hr=>hr _ h1
  |step h1 h2 _ ih=>
   intro r hr
   have h3:=ih _ (h.ok _ _ h2).2.2
   have:=hr _ h1
   omega
 intro v x hx hr
 have:=key x v hr _ (h.ok v x hx).2.2
 omega
def BU(F:Tm->Int->Option Int):List Tm->Int->Option Int
 |[],n=>some n
 |k::ks,n=>if n<0 then some n else match F k n with
  |some m=>BU F ks m
  |none=>none
def ui:Nat->List (Int×Tm)->Tm->Int->Nat->Option Int
 |0,_,_,_,_=>none
 |f+1,b,t,n,d=>match lI f b t with
  |some x=>(match d with
   |0=>some (-1)
   |d+1=>BU (fun k m=>ui f b k m d) x.kids (n - 1))
  |none=>none
theorem D0{F:Tm->Int->Option Int}:∀ {ks:List Tm} (n:Int),(∀k∈ks,∀m,∃r,F k m=some r)->∃r,BU F ks n=some r
 |[],n,_=>⟨n,rfl⟩
 |k::ks,n,h=>by
  simp only[BU]
  split
  ·exact⟨n,rfl⟩
  ·obtain⟨r,hr⟩:=h k aE n
   rw[hr]
   exact D0 r fun y hy=>h y lh
theorem D1{F G:Tm->Int->Option Int}(DU:∀k m r,F k m=some r->G k m=some r):∀ {ks:List Tm} {n r:Int},BU F ks n=some r->BU G ks n=some r
 |[],_,_,h=>h
 |k::ks,n,r,h=>by
  simp only[BU]at h|-
  split at h
  ·rename_i e;rw[if_pos e];exact h
  ·rename_i e
   rw[if_neg e]
   cases hF:F k n with
   |none=>rw[hF]at h;cases h
   |some q=>rw[hF]at h;rw[DU _ _ _ hF];exact D1 DU h
theorem w8{b:List (Int×Tm)}:∀ {f g:Nat} {t:Tm} {n:Int} {d:Nat} {r:Int},ui f b t n d=some r->f<=g->ui g b t n d=some r
 |0,_,_,_,_,_,h,_=>by cases h
 |f+1,0,_,_,_,_,h,hg=>af
 |f+1,g+1,t,n,d,r,h,hg=>by
  simp only[ui]at h|-
  cases ha:lI f b t with
  |none=>rw[ha]at h;cases h
  |some x=>
   rw[ha]at h
   rw[im ha (show f<=g by omega)]
   cases d with
   |zero=>exact h
   |succ d=>exact D1 (fun k m q hq=>w8 hq af) h
theorem LQ{s:aA}{b:List (Int×Tm)}{l:List TB}{ρ:Int->Nat}{R:Nat}(h:kq s b l ρ R):∀ (d:Nat) (t:Tm) (n:Int),Vs s t->∃r,ui (R+3+d) b t n d=some r
 |0,t,n,ht=>by
  obtain⟨x,a1,_⟩:=h.root ht
  exact⟨-1,by simp only[ui];rw[show R+2+0=R+2 from rfl,a1]⟩
 |d+1,t,n,ht=>by
  obtain⟨x,a1,a2,_⟩:=h.root ht
  show ∃r,ui ((R+3+d)+1) b t n (d+1)=some r
  simp only[ui]
  rw[im a1 (show R+2<=R+3+d by omega)]
  exact D0 _ fun k hk m=>LQ h d k m (a2.kA hk)
def zQ(b:List (Int×Tm))(t:Tm):Prop:=∃f r,ui f b t 40 12=some r/\0<=r
theorem H9{b:List (Int×Tm)}{t:Tm}{f:Nat}{r:Int}(h:ui f b t 40 12=some r):zQ b t↔0<=r:=by
 refine⟨fun⟨g,q,h1,h2⟩=> ?_,fun hr=>⟨f,r,h,hr⟩⟩
 have e1:=w8 h (Nat.le_max_left f g)
 rw[w8 h1 (Nat.le_max_right f g)]at e1
 cases e1
 exact h2
def D2(F:Tm->Option Tm):List Tm->Option (List Tm)
 |[]=>some []
 |k::ks=>match F k,D2 F ks with
  |some x,some xs=>some (x::xs)
  |_,_=>none
def ve:Nat->List (Int×Tm)->Tm->Option Tm
 |0,_,_=>none
 |f+1,b,t=>match lI f b t with
  |some x=>(D2 (ve f b) x.kids).map fun ks=> .mk x.op x.n ks
  |none=>none
theorem vf{F:Tm->Option Tm}{g:Tm->Tm}:∀ {ks:List Tm},(∀k∈ks,F k=some (g k))->D2 F ks=some (ks.map g)
 |[],_=>rfl
 |k::ks,h=>by simp only[D2];rw[h k (by simp),vf fun y hy=>h y (by simp[hy])];rfl
theorem D3{F G:Tm->Option Tm}(DU:∀k r,F k=some r->G k=some r):∀ {ks xs:List Tm},D2 F ks=some xs->D2 G ks=some xs
 |[],_,h=>h
 |k::ks,xs,h=>by
  simp only[D2]at h|-
  cases h1:F k with
  |none=>rw[h1]at h;cases h
  |some x=>
   cases h2:D2 F ks with
   |none=>rw[h1,h2]at h;cases h
   |some ys=>rw[h1,h2]at h;rw[DU _ _ h1,D3 DU h2];exact h
theorem iq{b:List (Int×Tm)}:∀ {f g:Nat} {t x:Tm},ve f b t=some x->f<=g->ve g b t=some x
 |0,_,_,_,h,_=>by cases h
 |f+1,0,_,_,h,hg=>af
 |f+1,g+1,t,x,h,hg=>by
  simp only[ve]at h|-
  cases ha:lI f b t with
  |none=>rw[ha]at h;cases h
  |some y=>
   rw[ha]at h
   rw[im ha (show f<=g by omega)]
   dsimp only at h|-
   cases h2:D2 (ve f b) y.kids with
   |none=>rw[h2]at h;cases h
   |some ys=>rw[h2]at h;rw[D3 (fun k r hr=>iq hr (by omega)) h2];exact h
theorem pU{s:aA}{b:List (Int×Tm)}{l:List TB}{ρ:Int->Nat}{R:Nat}(h:kq s b l ρ R):∀ (z:Nat) (t:Tm),Vs s t->(aS (ah l) t).sz<=z->ve (R+3+z) b t=some (aS (ah l) t)
 |0,t,_,hz=>by have:=Tm.th (aS (ah l) t);omega
 |z+1,t,ht,hz=>by
  obtain⟨x,a1,a2,a3,a4,_⟩:=h.root ht
  show ve ((R+3+z)+1) b t=_
  simp only[ve]
  rw[im a1 (show R+2<=R+3+z by omega)]
  by_cases h1:x.op=1
  ·have e:=a2.eta h1
   have hk:x.kids=[]:=by rw[e];rfl
   have:aS (ah l) x=x:=by
    rw[dV a2 h1,show Lv (ah l) x.n= .mk 1 x.n [] by simp[Lv,(h.x5 _).1 (a4 h1)]];exact e.symm
   rw[<- a3,this]
   dsimp only
   rw[hk]
   show some (Tm.mk x.op x.n [])=some x
   rw[<- hk,Tm.eta]
  ·have hv:=fQ (b:=ah l) h1
   have hk:∀k∈x.kids,ve (R+3+z) b k=some (aS (ah l) k):=fun k hk=>by
    refine pU h z k (a2.kA hk) ?_
    have h3:aS (ah l) k∈(aS (ah l) x).kids:=by rw[hv];exact List.mem_map.2 ⟨k,hk,rfl⟩
    have h4:=Tm.mm h3
    rw[a3]at h4
    omega
   dsimp only
   rw[vf hk, <- a3,hv]
   rfl
def Ia:Nat->List (Int×Tm)->Tm->Nat->Option Tm
 |0,_,_,_=>none
 |f+1,b,t,d=>if t.op=1 then(match bS b t.n with
   |some x=>(match d with
    |0=>none
    |d+1=>Ia f b x d)
   |none=>some t)
  else(D2 (fun k=>Ia f b k d) t.kids).map fun ks=> .mk t.op t.n ks
def tw(b:List (Int×Tm))(ρ:Int->Nat)(r:Nat):Nat:=((b.map (·.1)).filter fun u=>decide (ρ u<r)).length
theorem Ib{b:List (Int×Tm)}{ρ:Int->Nat}{v:Int}{x:Tm}(hv:bS b v=some x){r:Nat}(hr:ρ v<r):tw b ρ (ρ v)<tw b ρ r:=by
 unfold tw
 have hm:v∈b.map (·.1):=List.mem_map.2 ⟨_,cK hv,rfl⟩
 generalize b.map (·.1)=ks at hm
 have hle:∀ks:List Int,(ks.filter fun u=>decide (ρ u<ρ v)).length<=(ks.filter fun u=>decide (ρ u<r)).length:=by
  intro ks
  induction ks with
  |nil=>exact Nat.le_refl _
  |cons u ks ih=>
   rw[List.filter_cons,List.filter_cons]
   by_cases e:ρ u<ρ v
   ·rw[if_pos (by simpa using e),if_pos (by simp;omega),List.length_cons,List.length_cons];omega
   ·rw[if_neg (by simpa using e)]
    split
    ·rw[List.length_cons];omega
    ·exact ih
 induction ks with
 |nil=>cases hm
 |cons u ks ih=>
  rw[List.filter_cons,List.filter_cons]
  by_cases e:u=v
  ·subst e
   rw[if_neg (by simp),if_pos (by simpa using hr),List.length_cons]
   have:=hle ks
   omega
  ·have:=ih ((List.mem_cons.1 hm).resolve_left fun h=>e h.symm)
   by_cases e2:ρ u<ρ v
   ·rw[if_pos (by simpa using e2),if_pos (by simp;omega),List.length_cons,List.length_cons];omega
   ·rw[if_neg (by simpa using e2)]
    split
    ·rw[List.length_cons];omega
    ·exact this
theorem aeQ{s:aA}{b:List (Int×Tm)}{l:List TB}{ρ:Int->Nat}{R:Nat}(h:kq s b l ρ R):∀ (r:Nat) (t:Tm) (d:Nat),Vs s t->(∀u,fX u t=true->ρ u<r)->tw b ρ r<=d->∃f,∀g,f<=g->Ia g b t d=some (aS (ah l) t):=by
 intro r
 induction r using Nat.strongRecOn with
 |ind r ihr=>
  refine Tm.eN fun t ih d ht hr hd=> ?_
  by_cases h1:t.op=1
  ·have hv:fX t.n t=true:=(iC h1).2 rfl
   cases hx:bS b t.n with
   |none=>
    refine⟨1,fun g hg=> ?_⟩
    obtain⟨g,rfl⟩:∃k,g=k+1:=⟨g - 1,af⟩
    simp only[Ia]
    rw[if_pos h1,hx,dV ht h1,show Lv (ah l) t.n= .mk 1 t.n [] by simp[Lv,(h.x5 _).1 hx]]
    exact congrArg some (ht.eta h1)
   |some x=>
    obtain⟨g1,g2,g3⟩:=h.ok _ _ hx
    have h3:=Ib hx (hr _ hv)
    obtain⟨d,rfl⟩:∃k,d=k+1:=⟨d - 1,af⟩
    obtain⟨f,hf⟩:=ihr _ (hr _ hv) x d g1 g3 af
    refine⟨f+1,fun g hg=> ?_⟩
    obtain⟨g,rfl⟩:∃k,g=k+1:=⟨g - 1,af⟩
    simp only[Ia]
    rw[if_pos h1,hx]
    dsimp only
    rw[hf g (by omega), <- g2,dV ht h1]
  ·have key:∀ks:List Tm,(∀k∈ks,k∈t.kids)->∃f,∀g,f<=g->∀k∈ks,Ia g b k d=some (aS (ah l) k):=by
    intro ks
    induction ks with
    |nil=>intro _;exact⟨0,fun _ _ _ h=>by cases h⟩
    |cons k ks x7=>
     intro hks
     obtain⟨f1,eW⟩:=x7 fun y hy=>hks y lh
     obtain⟨f2,mY⟩:=ih k (hks k aE) d (ht.kA (hks k aE)) (fun u hu=>hr u ((pT ht h1).2 ⟨k,hks k aE,hu⟩)) hd
     refine⟨max f1 f2,fun g hg y hy=> ?_⟩
     rcases List.mem_cons.1 hy with rfl|hy
     ·exact mY g af
     ·exact eW g af y hy
   obtain⟨f,hf⟩:=key t.kids fun _ h=>h
   refine⟨f+1,fun g hg=> ?_⟩
   obtain⟨g,rfl⟩:∃k,g=k+1:=⟨g - 1,af⟩
   simp only[Ia]
   rw[if_neg h1,vf (hf g (by omega)),fQ h1]
   rfl
theorem Bp{s:aA}{b:List (Int×Tm)}{l:List TB}{ρ:Int->Nat}{R:Nat}(h:kq s b l ρ R){t:Tm}(ht:Vs s t):∃f,Ia f b t b.length=some (aS (ah l) t):=by
 obtain⟨f,hf⟩:=aeQ h (R+1) t b.length ht (fun u _=>by have:=h.bd u;omega) (by
  unfold tw
  exact Nat.le_trans (List.length_filter_le _ _) aaM)
 exact⟨f,hf f (Nat.le_refl _)⟩
def pnF(s:aA)(t:Tm):Bool:=
 let k:Int:=t.kids.length
 if t.op=16 then t.n==0&&k==0
 else if t.op=1 then dU t.n 0 199&&k==0
 else if t.op=2 then dU t.n (-1000000) 1000000&&k==0
 else if t.op=3 then dU t.n 0 (s.cons.length - 1)&&k==iS s.cons t.n
 else if t.op=5 then dU t.n 0 (s.b9.length - 1)&&decide (k<iS s.b9 t.n)
 else false
mutual
def Ku(s:aA):Tm->Bool
 | .mk op n kids=>Ic s kids&&pnF s (.mk op n kids)
def Ic(s:aA):List Tm->Bool
 |[]=>true
 |k::l=>Ku s k&&Ic s l
end
theorem zR(s:aA):∀l:List Tm,Ic s l=l.all (Ku s)
 |[]=>rfl
 |k::l=>by rw[Ic,zR s l];rfl
theorem Ra(s:aA)(t:Tm):Ku s t=(t.kids.all (Ku s)&&pnF s t):=by cases t;rw[Ku,zR];rfl
def Pn(s:aA)(t:Tm):Prop:=Ku s t=true
theorem YD{s:aA}{t:Tm}:Pn s t↔pnF s t=true/\∀k∈t.kids,Pn s k:=by
 unfold Pn;rw[Ra,Bool.and_eq_true,List.all_eq_true];exact and_comm
theorem Pn.kA {s:aA}{t k:Tm}(h:Pn s t)(hk:k∈t.kids):Pn s k:=(YD.1 h).2 k hk
def x8{σ:Type}(step:σ->Tm->σ×Bool):σ->List Tm->Int->Int
 |_,[],_=> -1
 |s,x::l,k=>if(step s x).2=true then x8 step (step s x).1 l (k+1)else k
theorem Ie{σ:Type}(step:σ->Tm->σ×Bool):∀ (l:List Tm) (s:σ) (k:Int),0<=k->(0<=x8 step s l k↔(aQ step s l).2=false)
 |[],_,_,_=>by simp[x8,aQ]
 |x::l,s,k,hk=>by
  have ih:=Ie step l (step s x).1 (k+1) af
  by_cases h:(step s x).2=true
  ·simp only[x8,aQ,h,if_true];exact ih
  ·simp[x8,aQ,h,hk]
theorem YE{σ:Type}(l:List Tm)(hl:l.length<=9223372036854775807)(g:Nat)(bR:List V)(base:Nat)(H:σ->Nat->ab)(step:σ->Tm->σ×Bool)(hc:∀r∈V.aL bR,r<base)(ok:σ->Prop)(aY:∀x∈l,∀s,ok s->(step s x).2=true->ok (step s x).1)
 (h:∀x∈l,∀s,ok s->wJ Tryz.prog g (.d x.d::bR) base (H s) (H (step s x).1) (.d (.bool (!(step s x).2)))) (s:σ) (nm:ok s):
 wJ Tryz.prog 186 [.d (.sl (l.map Tm.d)), .func (.func g) [] bR] base (H s) (H (aQ step s l).1) (.d (.i (x8 step s l 0))):=by
 intro o nx hI K X hK
 have eE:∀r∈V.aL bR,r<nx:=fun r hr=>Nat.lt_of_lt_of_le (hc r hr) hI.le
 refine bQ.aG mix UN aE ?_
 rw[X7]
 refine cT ?_
 refine aD (fun i:Nat×σ×(Nat->ab)×Nat=>⟨aZ [.d (.sl (l.map Tm.d)), .func (.func g) [] bR, .ad, .ad, .ad, .ad, .ad, .d (.i l.length), .d (.i i.1)],i.2.2.1,i.2.2.2⟩)
  (fun i=>i.1<=l.length/\eX base (H i.2.1) i.2.2.1 i.2.2.2/\nx<=i.2.2.2/\(∀id,base<=id->id<nx->i.2.2.1 id=o id)/\aQ step s l=aQ step i.2.1 (l.drop i.1)/\ok i.2.1/\x8 step s l 0=x8 step i.2.1 (l.drop i.1) i.1) (fun i=>l.length - i.1) (0,s,o,nx)
  ⟨Nat.zero_le _,hI,Nat.le_refl _,fun _ _ _=>rfl,rfl,nm,rfl⟩ ?_ ?_
 ·exact VX
 rintro⟨k,s',o',nx'⟩ ⟨hk,OV,hn,c9,hf,wO,NR⟩
 simp only at hk OV hn c9 hf wO NR
 refine cT ?_
 refine ao (fun h1=> ?_) (fun h1=> ?_)
 ·simp at h1
  obtain⟨x,hx⟩:=aB h1
  have ck:=List.mem_of_getElem? hx
  have hd:l.drop k=x::l.drop (k+1):=by
   exact VS
  rw[hd]at hf NR
  simp only[aQ,x8]at hf NR
  refine Vz hx ?_
  refine gK (h x ck s' wO _ _ (OV.mono af) _ _ fun o2 n2 m1 m2 m3=> ?_)
  cases hb:(step s' x).2 with
  |true=>
   rw[hb]at hf NR
   simp only[if_true]at hf NR
   refine bY ?_
   have UZ:∀r∈V.aL bR,r<n2+1+1:=fun r hr=>by have:=eE r hr;omega
   refine aj (k+1,(step s' x).1,o2,n2+1+1) ⟨h1,m2.mono (show n2<=n2+1+1 from af),(show nx<=n2+1+1 from af),fun id i1 i2=>(m3 id i1 af).trans (c9 id i1 i2),hf,aY x ck s' wO hb,by rw[NR];rfl⟩ lK (bO.cc _ (show nx<=n2+1+1 from af) (Nat.le_refl _) (m2.mono (show n2<=n2+1+1 from af)).cH (fun _ _=>rfl) ?_)
   exact dW
  |false=>
   rw[hb]at hf NR
   simp only[Bool.false_eq_true,if_false]at hf NR
   refine cT ?_
   rw[hf,NR]at hK
   exact hK _ _ af (m2.mono af) fun id i1 i2=>(m3 id i1 af).trans (c9 id i1 i2)
 ·simp at h1
  refine cT ?_
  rw[List.drop_eq_nil_of_le h1]at hf NR
  rw[hf,NR]at hK
  exact Sq
theorem D4{σ:Type}(l:List Tm)(hl:l.length<=9223372036854775807)(g:Nat)(bR:List V)(base:Nat)(H:σ->Nat->ab)(step:σ->Tm->σ×Bool)(hc:∀r∈V.aL bR,r<base)(ok:σ->Prop)(aY:∀x∈l,∀s,ok s->(step s x).2=true->ok (step s x).1)
 (h:∀x∈l,∀s,ok s->wJ Tryz.prog g (.d x.d::bR) base (H s) (H (step s x).1) (.d (.bool (!(step s x).2)))) (s:σ) (nm:ok s):
 wJ Tryz.prog 166 [.d (.sl (l.map Tm.d)), .func (.func g) [] bR] base (H s) (H (aQ step s l).1) (.d (.bool (!(aQ step s l).2))):=by
 intro o nx hI K X hK
 have eE:∀r∈V.aL bR,r<nx:=fun r hr=>Nat.lt_of_lt_of_le (hc r hr) hI.le
 refine bQ.aG mix UF aE ?_
 rw[XY]
 refine fZ ?_
 refine aU (YE l hl g bR base H step hc ok aY h s nm _ _ ?_ _ _ fun o2 n2 m1 m2 m3=> ?_)
 ·exact hI.mono af
 refine fZ ?_
 have e:decide (0<=x8 step s l 0)= !(aQ step s l).2:=by
  have:=Ie step l s 0 af
  rw[Bool.eq_iff_iff,decide_eq_true_eq,this]
  cases(aQ step s l).2<;>simp
 rw[e]
 exact hK _ _ af (m2.mono af) fun id i1 i2=>m3 id i1 af
theorem NS{b:List (Int×Tm)}{f:Nat}{t x:Tm}(h:lI f b t=some x):aX Tryz.prog 112 [EG b,t.d] (.ret [x.d]):=by
 refine aX.aG mix Nc aE ?_
 rw[QI]
 refine bY ?_
 refine aD (fun i:Nat×Tm=>⟨aZ [.d (EG b), .ad, .ad, .ptr 0 0, .ptr 1 0],ay (ay (fun _=> .no) 0 (.row i.2.row)) 1 (.row [.d (.i 0), .d (.i 0), .aw]),2⟩)
  (fun i=>lI i.1 b i.2=some x) (fun i=>i.1) (f,t) h ?_ ?_
 ·exact abo
 rintro⟨f,t⟩ hf
 simp only at hf
 cases f with
 |zero=>cases hf
 |succ f=>
 simp only[lI]at hf
 by_cases h1:t.op=1
 ·have eW:(t.op==1)=true:=by simpa using h1
  rw[if_pos h1]at hf
  cases hl:bS b t.n with
  |none=>
   rw[hl]at hf
   injection hf with hf
   subst hf
   simp+contextual (disch:=first|omega|simp only[go_sem,false_implies]) only[go_sem,wrap64,if_pos,eW,oW,eJ hl]
  |some z=>
   rw[hl]at hf
   obtain⟨j,hj⟩:=gk hl
   simp+contextual (disch:=first|omega|simp only[go_sem,false_implies]) only[go_sem,wrap64,if_pos,eW,oW,hj]
   refine aj (f,z) hf lK (bO.cc _ af af dt (fun j hj=> ?_) ?_)
   ·have Tk:j<2:=hj
    rcases(show j=0\/j=1 from af)with rfl|rfl
    ·exact cg
    ·exact cg
   ·exact dW
 ·have eW:(t.op==1)=false:=by simpa using h1
  rw[if_neg h1]at hf
  injection hf with hf
  subst hf
  exact Ad eW
theorem Rb:∀a:Tm,a.fits->∀b:Tm,b.fits->aX Tryz.prog 108 [a.d,b.d] (.ret [.bool (hY a b)]):=by
 refine Tm.eN fun a ih ha b hb=> ?_
 have U8:=(Tm.cm _).1 ha
 have EY:=(Tm.cm _).1 hb
 refine aX.aG mix Uh aE ?_
 rw[Xy,rH]
 refine bY ?_
 refine Db (ao (fun h1=> ?_) (fun h1=> ?_))
 ·rw[h1]
  refine oF h1 ?_
  refine aU (NC a.kids b.kids U8.1 EY.1 108 (fun x hx y hy=>ih x hx (U8.2 x hx) y (EY.2 y hy)) _ _ dt _ _ fun o2 n2 m1 m2 m3=> ?_)
  exact Ad h1
 ·rw[h1]
  exact Ad h1
theorem rU{b:List (Int×Tm)}(hb:∀p∈b,p.2.fits):∀ (f:Nat) (t x:Tm),t.fits->lI f b t=some x->x.fits
 |0,_,_,_,h=>by cases h
 |f+1,t,x,ht,h=>by
  simp only[lI]at h
  split at h
  ·split at h
   ·rename_i y hy;exact rU hb f y x (hb _ (cK hy)) h
   ·exact Jb
  ·exact Jb
theorem Ig{F:Tm->Int->Option Int}(hF:∀k m r,0<=m->F k m=some r-> -1<=r/\r<=m):∀ (ks:List Tm) (n r:Int), -1<=n->BU F ks n=some r-> -1<=r/\r<=n
 |[],n,r,hn,h=>by cases h;omega
 |k::ks,n,r,hn,h=>by
  simp only[BU]at h
  split at h
  ·cases h;omega
  ·cases e:F k n with
   |none=>rw[e]at h;cases h
   |some q=>
    rw[e]at h
    have h1:=hF k n q af e
    have h2:=Ig hF ks q r af h
    omega
theorem Bq{b:List (Int×Tm)}:∀ (f:Nat) (t:Tm) (n:Int) (d:Nat) (r:Int),0<=n->ui f b t n d=some r-> -1<=r/\r<=n
 |0,_,_,_,_,_,h=>by cases h
 |f+1,t,n,d,r,hn,h=>by
  simp only[ui]at h
  cases ha:lI f b t with
  |none=>rw[ha]at h;cases h
  |some x=>
   rw[ha]at h
   cases d with
   |zero=>cases h;omega
   |succ d=>
    have:=Ig (fun k m r hm h=>Bq f k m d r hm h) x.kids (n - 1) r af h
    omega
theorem NT{b:List (Int×Tm)}:∀ (f:Nat) (t:Tm) (n:Int) (d:Nat) (r:Int),t.fits->(∀p∈b,p.2.fits)->0<=n/\n<=1000->d<=1000->ui f b t n d=some r->aX Tryz.prog 91 [EG b,t.d, .i n, .i d] (.ret [.i r])
 |0,_,_,_,_,_,_,_,_,h=>by cases h
 |f+1,t,n,d,r,ht,hb,hn,hd,h=>by
  simp only[ui]at h
  cases ha:lI f b t with
  |none=>rw[ha]at h;cases h
  |some x=>
  rw[ha]at h
  refine aX.aG mix adq aE ?_
  rw[c91]
  refine bY ?_
  refine bc (NS ha) ?_
  cases d with
  |zero=>
   injection h with h
   subst h
   exact pX
  |succ d=>
   have PZ:(((d+1:Nat):Int)==0)=false:=by rw[beq_eq_false_iff_ne];omega
   dsimp only at h
   have K5:=(Tm.cm x).1 (rU hb f t x ht ha)
   refine oF PZ ?_
   refine aD (fun i:Nat×Int=>⟨aZ [.d (EG b), .ad, .d (.i i.2), .d (.i (d+1:Nat)), .ad, .ad, .ad, .ad, .ad, .ad, .ad, .ad, .ad, .ad, .ad, .ad, .ad, .ad, .ad, .d (.sl (x.kids.map Tm.d)), .d (.i x.kids.length), .d (.i i.1)],fun _=> .no,0⟩)
    (fun i=>i.1<=x.kids.length/\BU (fun k m=>ui f b k m d) (x.kids.drop i.1) i.2=some r/\ -1<=i.2/\i.2<=1000) (fun i=>x.kids.length - i.1) (0,n - 1) ⟨Nat.zero_le _,h,by dsimp only;omega,by dsimp only;omega⟩ (bO.d0 _ ?_) ?_
   ·exact dW
   rintro⟨k,m⟩ ⟨hk,hl,KQ,OZ⟩
   simp only at hk hl KQ OZ
   refine uL ?_
   refine ao (fun h2=> ?_) (fun h2=> ?_)
   ·replace h2:k<x.kids.length:=by simp at h2;omega
    obtain⟨y,hy⟩:=aB h2
    have QP:=List.mem_of_getElem? hy
    have D5:x.kids.drop k=y::x.kids.drop (k+1):=by
     obtain⟨i1,i2⟩:=List.getElem?_eq_some_iff.1 hy
     exact EM
    rw[D5]at hl
    simp only[BU]at hl
    by_cases h0:m<0
    ·have Ax:decide (m<0)=true:=decide_eq_true h0
     rw[if_pos h0]at hl
     cases hl
     exact Lf hy Ax
    ·have Ax:decide (m<0)=false:=decide_eq_false h0
     rw[if_neg h0]at hl
     refine pf hy Ax ?_
     cases e:ui f b y m d with
     |none=>rw[e]at hl;cases hl
     |some q=>
     rw[e]at hl
     have hq:=Bq f y m d q af e
     rw[show(((d+1:Nat):Int) - 1)=((d:Nat):Int) by omega]
     refine ak (NT f y m d q (K5.2 y QP) hb af af e) rfl ?_
     refine bY ?_
     refine aj (k+1,q) ⟨h2,hl,by dsimp only;omega,by dsimp only;omega⟩ lK (bO.d0 _ ?_)
     exact dW
   ·replace h2:k=x.kids.length:=by simp at h2;omega
    subst h2
    rw[List.drop_length]at hl
    cases hl
    exact pX
theorem Br{F:Tm->Option Tm}:∀ {ks xs:List Tm},D2 F ks=some xs->xs.length=ks.length/\∀ (i:Nat) (k:Tm),ks[i]? =some k->∃x,xs[i]? =some x/\F k=some x
 |[],xs,h=>by cases h;exact⟨rfl,fun i k hk=>by simp at hk⟩
 |k::ks,xs,h=>by
  simp only[D2]at h
  cases h1:F k with
  |none=>rw[h1]at h;cases h
  |some x=>
   cases h2:D2 F ks with
   |none=>rw[h1,h2]at h;cases h
   |some ys=>
    rw[h1,h2]at h
    cases h
    obtain⟨g1,g2⟩:=Br h2
    refine⟨by rw[List.length_cons,List.length_cons,g1],fun i k' hk=> ?_⟩
    cases i with
    |zero=>simp at hk;subst hk;exact⟨x,rfl,h1⟩
    |succ i=>exact g2 i k' hk
def Gc(op n:Int)(ks:List Tm)(k:Nat):Nat->ab:=ay (ay (ay (fun _=> .no) 1 (.row [.d (.i 0), .d (.i 0), .aw])) 11 (.row [.d (.i op), .d (.i n), .osl 12 0])) 12 (.arr 0 33 3 ((ks.take k).map Tm.d))
theorem fuH_1(op n:Int)(ks:List Tm)(k:Nat):Gc op n ks k 1= .row [.d (.i 0), .d (.i 0), .aw]:=rfl
theorem fuH_11(op n:Int)(ks:List Tm)(k:Nat):Gc op n ks k 11= .row [.d (.i op), .d (.i n), .osl 12 0]:=rfl
theorem fuH_12(op n:Int)(ks:List Tm)(k:Nat):Gc op n ks k 12= .arr 0 33 3 ((ks.take k).map Tm.d):=rfl
theorem Bs(op n:Int)(ks:List Tm)(k:Nat){j:Nat}(h1:j≠1)(h2:j≠11)(h3:j≠12):Gc op n ks k j= .no:=by unfold Gc;rw[ae _ _ _ _ h3,ae _ _ _ _ h2,ae _ _ _ _ h1]
theorem NU(gone:Nat->Prop)(x:V)(L:List V)(ta:∀id,gone id->12<=id){op n:Int}{ks:List Tm}{k:Nat}{e:Nat->V}{so:Nat->ab}{m:Nat}(gx:fW so gone 33 3 ((ks.take k).map Tm.d) x)
 (s1:so 1= .row [.d (.i 0), .d (.i 0), .aw]) (s11:so 11= .row [.d (.i op), .d (.i n),x]) (he:iV 12 [⟨x,33,3,(ks.take k).map Tm.d⟩] so gone e L 0):bO 0 ⟨e,so,m⟩ ⟨aZ L,Gc op n ks k,12+1⟩:=by
 refine bO.uK gone x 12 L af (fun j hj=> ?_) (fuH_12 op n ks k) gx (fun j hj=>Bs _ _ _ _ af af af) (fun j h1 h2=>absurd (ta j h1) af) he
 by_cases e1:j=1
 ·subst e1
  rw[fuH_1]
  exact Sr
 ·by_cases e2:j=11
  ·subst e2
   rw[fuH_11]
   exact Sx
  ·rw[Bs _ _ _ _ e1 e2 (by omega)]
   exact kW
theorem Ih{k:Tm}:∀ {l:List Tm},k∈l->k.sz<=sy l
 |x::l,h=>by
  rw[show sy (x::l)=x.sz+sy l from rfl]
  rcases List.mem_cons.1 h with rfl|h
  ·omega
  ·have:=Ih h;omega
mutual
def Tm.wid:Tm->Prop
 | .mk _ _ kids=>kids.length<=1000000/\Tm.NV kids
def Tm.NV:List Tm->Prop
 |[]=>True
 |k::l=>k.wid/\Tm.NV l
end
theorem Tm.D6:∀l:List Tm,Tm.NV l↔∀k∈l,k.wid
 |[]=>by simp[Tm.NV]
 |k::l=>by simp[Tm.NV,Tm.D6 l]
theorem Tm.Bt (t:Tm):t.wid↔t.kids.length<=1000000/\∀k∈t.kids,k.wid:=by cases t;simp[Tm.wid,Tm.D6,Tm.kids]
theorem Tm.YF:∀t:Tm,t.sz<=1000000->t.wid:=by
 refine Tm.eN fun t ih h=> ?_
 rw[Tm.Bt]
 have:=mQ t.kids
 have h2:=Tm.ko t
 exact Sv
theorem Gd{b:List (Int×Tm)}(hb:∀p∈b,p.2.fits):∀ (f:Nat) (t y:Tm),t.fits->ve f b t=some y->y.wid->aX Tryz.prog 68 [EG b,t.d] (.ret [y.d])
 |0,_,_,_,h,_=>by cases h
 |f+1,t,y,ht,h,hz=>by
  simp only[ve]at h
  cases ha:lI f b t with
  |none=>rw[ha]at h;cases h
  |some x=>
  rw[ha]at h
  dsimp only at h
  have K5:=(Tm.cm x).1 (rU hb f t x ht ha)
  cases hL:D2 (ve f b) x.kids with
  |none=>rw[hL]at h;cases h
  |some ks=>
  rw[hL]at h
  cases h
  obtain⟨Cu,Jg⟩:=Br hL
  have hkw:=(Tm.Bt _).1 hz
  have hle:ks.length<=1000000:=hkw.1
  refine aX.aG mix adi aE ?_
  rw[c68]
  refine bY ?_
  refine bc (NS ha) ?_
  refine bY ?_
  refine aD (fun i:Nat=>⟨aZ [.d (EG b), .ad, .ad, .ad, .ptr 1 0, .ptr 11 0, .ad, .ad, .ad, .ad, .ad, .ad, .ad, .ad, .ad, .ad, .ad, .d (.sl (x.kids.map Tm.d)), .d (.i x.kids.length), .d (.i i)],Gc x.op x.n ks i,12+1⟩)
   (fun i=>i<=x.kids.length) (fun i=>x.kids.length - i) 0 (Nat.zero_le _) (NU (fun _=>False) .aw _ (fun _ h=>h.elim) (.inl ⟨rfl,rfl,bC⟩) cg cg ?_) (fun k hk=> ?_)
  ·exact kG
  replace hk:k<=x.kids.length:=hk
  have q1:=fuH_1 x.op x.n ks k
  have Rc:=fuH_11 x.op x.n ks k
  have Re:=fuH_12 x.op x.n ks k
  refine Le q1 Rc Re ?_
  refine ao (fun h2=> ?_) (fun h2=> ?_)
  ·replace h2:k<x.kids.length:=by simp at h2;omega
   obtain⟨z,hz⟩:=aB h2
   obtain⟨z',Jn,hF⟩:=Jg k z hz
   have hzm:=List.mem_of_getElem? hz
   have oz:ks.take (k+1)=ks.take k++[z']:=by rw[List.take_add_one,Jn];rfl
   have e0:(ks.take k).length=k:=by rw[List.length_take];omega
   have hzs:z'.wid:=hkw.2 _ (List.mem_of_getElem? Jn)
   have eE:k<=140737488355327/\(k+1)*24<=140737488355328:=af
   refine Pm q1 Rc Re hz ?_
   refine aV (Gd hb f z z' (K5.2 z hzm) hF hzs) ?_
   simp+contextual (disch:=first|omega|simp only[go_sem,false_implies]) only[go_sem,wrap64,if_pos,q1,Rc,Re,hz,List.length_map,e0,if_pos eE]
   refine aI ai ?_
   refine bY ?_
   refine aj (k+1) h2 af (NU (fun j=>12<=j) (.osl 12 1) _ (fun _ h=>h) (.inr ⟨12,1,Nat.le_refl _,rfl,by(repeat(first|rfl|rw[aa]|rw[ae _ _ _ _ (by omega)]));rw[oz,List.map_append];rfl⟩) R9 cg ?_)
   exact kG
  ·replace h2:k=x.kids.length:=by simp at h2;omega
   subst h2
   have YG:Gc x.op x.n ks x.kids.length 12= .arr 0 33 3 (ks.map Tm.d):=by rw[Re, <- Cu,List.take_length]
   refine Lh q1 Rc YG ?_
   rw[Tm.Df]
theorem w9{b:List (Int×Tm)}(hb:∀p∈b,p.2.fits)(f:Nat)(t y:Tm)(ht:t.fits)(h:ve f b t=some y)(hz:y.sz<=1000000):aX Tryz.prog 68 [EG b,t.d] (.ret [y.d]):=Gd hb f t y ht h (Tm.YF y hz)
section
section
variable {σ:Type}(base rJ:Nat)(H:σ->Nat->ab)(step:σ->Tm->σ×Bool)(ok:σ->Prop)
end
end
section
theorem YH{x:Tm}{yb vb base:Nat}{h h2:Nat->ab}{r:Bool}(hS:wJ Tryz.prog 165 [.d x.d, .ptr yb 0, .ptr vb 0] base h h2 (.d (.bool r)))(hy:yb<base)(hv:vb<base)(ov:h vb= .row [.func (.func 165) [] [.ptr yb 0, .ptr vb 0]]):
 wJ Tryz.prog 167 [.d x.d, .ptr vb 0] base h h2 (.d (.bool (!r))):=by
 intro o nx hI K X hK
 have hle:=hI.le
 have ho:o vb= .row [.func (.func 165) [] [.ptr yb 0, .ptr vb 0]]:=by rw[hI.eq vb hv,ov]
 have y1:∀k,vb≠nx+k:=fun k=>af
 have y2:vb≠nx:=af
 refine bQ.aG mix UG aE ?_
 rw[XZ]
 refine Vv ho y1 y2 ?_
 refine aU (hS _ _ ?_ _ _ fun o2 n2 m1 m2 m3=> ?_)
 ·exact hI.ay af af af rfl
 refine fZ ?_
 exact hK _ _ af (m2.mono af) fun id i1 i2=>by rw[m3 id i1 (by omega),ae _ _ _ _ (by omega)]
section
variable {σ:Type}(base rJ:Nat)(H:σ->Nat->ab)(step:σ->Int->σ×Bool)(ok:σ->Prop)
theorem NW:∀t:Tm,t.fits->(∀x∈tv t,∀s,ok s->(step s x).2=true->ok (step s x).1)->(∀x∈tv t,∀s,ok s->RoC Tryz.prog rJ [.d (.i x)] base (H s) (H (step s x).1) (.d (.bool (step s x).2)))->rJ<base->
 ∀ (c:Nat) (o0:Nat->ab) (yb vb:Nat),base<=c->base<=yb->yb<c->base<=vb->vb<c->o0 yb= .row [.kM rJ]->o0 vb= .row [.func (.func 165) [] [.ptr yb 0, .ptr vb 0]]->
 ∀s,ok s->wJ Tryz.prog 165 [.d t.d, .ptr yb 0, .ptr vb 0] c (ext base (H s) o0) (ext base (H (aQ step s (tv t)).1) o0) (.d (.bool (aQ step s (tv t)).2)):=by
 refine Tm.eN fun t ih hf aY hR DC c o0 yb vb hbc hy0 hy hv0 hv oy ov s nm=> ?_
 have xT:=(Tm.cm _).1 hf
 intro o nx hI K X hK
 have hle:=hI.le
 have oy':o yb= .row [.kM rJ]:=by rw[hI.eq yb hy];unfold ext;rw[if_neg (by omega),oy]
 have Yn:o vb= .row [.func (.func 165) [] [.ptr yb 0, .ptr vb 0]]:=by rw[hI.eq vb hv];unfold ext;rw[if_neg (by omega),ov]
 have y1:yb≠nx:=af
 have y2:∀k,yb≠nx+k:=fun k=>af
 have y3:vb≠nx:=af
 have y4:∀k,vb≠nx+k:=fun k=>af
 have qs:=NM t
 have hb:∀id,id<base->o id=H s id:=fun id ax=>by rw[hI.eq id (by omega)];unfold ext;rw[if_pos ax]
 have hIb:eX base (H s) o nx:=⟨hI.cH,af,hb⟩
 have KG:∀id,base<=id->id<c->o id=o0 id:=fun id h1 h2=>by rw[hI.eq id h2];unfold ext;rw[if_neg (by omega)]
 refine bQ.aG mix UE aE ?_
 rw[XX]
 by_cases h1:t.op=1
 ·have eW:(t.op==1)=true:=by simpa using h1
  rw[if_pos h1]at qs
  have BT:aQ step s (tv t)=step s t.n:=by
   rw[qs]
   simp only[aQ]
   generalize step s t.n=q
   obtain⟨a,b⟩:=q
   cases b<;>rfl
  refine EK eW oy' Yn y1 y2 y3 y4 ?_
  refine n6 (hR t.n (by rw[qs];simp) s nm _ _ ?_ _ _ fun o2 n2 m1 m2 m3=> ?_)
  ·exact hIb.ay af af af rfl
  refine fZ ?_
  rw[BT]at hK
  have hold:∀id,base<=id->id<nx->o2 id=o id:=fun id h1 h2=>by rw[m3 id h1 (by omega),ae _ _ _ _ (by omega)]
  refine hK _ _ af ⟨m2.cH.mono af,af,fun id ax=> ?_⟩ (fun id h1 h2=>hold id af h2)
  unfold ext
  split
  ·exact m2.eq id (by assumption)
  ·exact Pv
 ·have eW:(t.op==1)=false:=by simpa using h1
  rw[if_neg h1]at qs
  have BT:aQ step s (tv t)=aQ (fun s k=>aQ step s (tv k)) s t.kids:=by rw[qs,wP]
  have uu:∀k∈t.kids,∀x∈tv k,x∈tv t:=fun k hk x hx=>by rw[qs];exact List.mem_flatMap.2 ⟨k,hk,hx⟩
  refine EK eW oy' Yn y1 y2 y3 y4 ?_
  refine aU (D4 t.kids xT.1 167 [.ptr vb 0] (nx+8) (fun s=>ext base (H s) (ay o nx (.row t.row))) (fun s k=>aQ step s (tv k)) ?_ ok ?_ ?_ s nm _ _ ?_ _ _ ?_)
  ·exact GM
  ·exact Sa
  ·intro k hk s' jU
   refine YH (yb:=yb) (ih k hk (xT.2 k hk) (fun x hx=>aY x (uu k hk x hx)) (fun x hx=>hR x (uu k hk x hx)) DC (nx+8) _ yb vb af hy0 af hv0 af ?_ ?_ s' jU) af af ?_
   ·(repeat(first|rfl|rw[aa]|rw[ae _ _ _ _ (by omega)]));exact oy'
   ·(repeat(first|rfl|rw[aa]|rw[ae _ _ _ _ (by omega)]));exact Yn
   ·unfold ext;rw[if_neg (by omega)];(repeat(first|rfl|rw[aa]|rw[ae _ _ _ _ (by omega)]));exact Yn
  ·exact(hIb.ay af af af rfl).ext af af
  ·intro o5 n5 p1 p2 p3
   refine bY ?_
   rw[<- BT]
   have hold:∀id,base<=id->id<nx->o5 id=o id:=fun id h1 h2=>by
    rw[p2.eq id (by omega)];unfold ext;rw[if_neg (by omega),ae _ _ _ _ (by omega)]
   refine hK _ _ af ⟨p2.cH.mono af,af,fun id ax=> ?_⟩ (fun id h1 h2=>hold id af h2)
   rw[BT]
   unfold ext
   split
   ·rw[p2.eq id (by omega)];unfold ext;rw[if_pos (by assumption)]
   ·exact Pv
theorem NX(t:Tm)(hf:t.fits)(aY:∀x∈tv t,∀s,ok s->(step s x).2=true->ok (step s x).1)(hR:∀x∈tv t,∀s,ok s->RoC Tryz.prog rJ [.d (.i x)] base (H s) (H (step s x).1) (.d (.bool (step s x).2)))(DC:rJ<base)(tb:Nat)(K2:tb<base)(s:σ)(nm:ok s)(da:H s tb= .row t.row):
 wJ Tryz.prog 164 [.kM rJ, .ptr tb 0] base (H s) (H (aQ step s (tv t)).1) (.bW []):=by
 intro o nx hI K X hK
 have hle:=hI.le
 have ot:o tb= .row t.row:=by rw[hI.eq tb K2,da]
 have y1:tb≠nx:=af
 have y2:∀k,tb≠nx+k:=fun k=>af
 refine bQ.aG mix UD aE ?_
 rw[XW]
 simp+contextual only[go_sem,ot,y1,y2,Nat.add_assoc,Nat.left_eq_add,Nat.add_eq_left,Nat.add_left_cancel_iff]
 have hI1:eX base (H s) (ay (ay (ay o nx (.row [.kM rJ])) (nx+1) (.row [.d .cF])) (nx+1) (.row [.func (.func 165) [] [.ptr nx 0, .ptr (nx+1) 0]])) (nx+6):=by
  refine((hI.ay (i:=nx) (m:=nx+6) af af af ?_).ay (i:=nx+1) (m:=nx+6) af af af rfl).ay (i:=nx+1) af af af ?_
  ·exact Ln
  ·exact ur
 refine aU (NW base rJ H step ok t hf aY hR DC (nx+6) _ nx (nx+1) af hle af af af ?_ ?_ s nm _ _ (hI1.ext (Nat.le_refl _) af) _ _ ?_)
 ·exact cg
 ·exact cg
 intro o2 n2 m1 m2 m3
 refine cT ?_
 refine hK _ _ af ⟨m2.cH,af,fun id ax=> ?_⟩ (fun id h1 h2=> ?_)
 ·rw[m2.eq id (by omega)];unfold ext;rw[if_pos ax]
 ·exact Ta
end
theorem NY(t:Tm)(o:Nat->ab)(nx:Nat)(K X:V->(Nat->ab)->Nat->Prop)(h:K (.func (.func 164) [] [.ptr nx 0]) (ay o nx (.row t.row)) (nx+4)):bQ Tryz.prog 149 [.d t.d] o nx K X:=by
 refine bQ.aG mix Uy aE ?_
 rw[XQ]
 refine cT ?_
 exact h
def Ge{σ:Type}(J:σ->Option ky)(step:σ->Int->σ)(s:σ)(x:Int):σ×Bool:=(step s x,(J (step s x)).isNone)
theorem D7{σ:Type}(t:Tm)(hf:t.fits){n bq:Nat}{gq:Operand}{ps:List Nat}{jV fG:IC}{Q:fS->S->Prop}{e:Nat->V}{o:Nat->ab}{nx tb:Nat}(env:List V)(he:nZ e env 0)
 (FG:ps.all (fun t=>decide (t<n))=true) (hl:ps.length=1) (hg:Good o nx) (hrefs:∀r∈V.aL env,r<nx) (ht:o tb= .row t.row)
 (G:σ->Nat->ab) (J:σ->Option ky) (step:σ->Int->σ) (ok:σ->Prop) (s0:σ) (nm:ok s0) (hJ0:J s0=none) (h0:∀id,id<nx->o id=G s0 id) (aY:∀x∈tv t,∀s,ok s->J s=none->J (step s x)=none->ok (step s x))
 (vS:∀L,jv Tryz.prog n env ps jV fG L->(∀st pd m,nx<=m->(L st pd).refs.all (fun r=>decide (r<m))=true)->∀x∈tv t,∀s,ok s->J s=none->∀o3 n3,eX nx (G s) o3 n3->nx<n3->o3 nx=L .ready none->∀K X,
  (∀e' o' n' st pd,n3<=n'->eX nx (G (step s x)) o' n'->o' nx=L st pd->(∀id,nx<id->id<n3->o' id=o3 id)->lH nx K X (U0 (J (step s x))) ⟨e',o',n'⟩)->
  ke Tryz.prog n n3 true jV (tc Tryz.prog n n3 nx fG K X) ⟨qk (aZ env) ps [.d (.i x)],o3,n3⟩)
 (jt:∀o' n',eX nx (G (aQ (Ge J step) s0 (tv t)).1) o' n'->rk Q (J (aQ (Ge J step) s0 (tv t)).1) ⟨e,o',n'⟩):
 uJ Tryz.prog n bq false gq ps jV fG Q ⟨e,o,nx⟩ (.func (.func 164) [] [.ptr tb 0]):=by
 refine FR env he (fun L hL=> ?_)
 have K2:tb<nx:=hg.lt (by rw[ht];exact ab.noConfusion)
 let H:σ->Nat->ab:=fun s id=>if id<nx then G s id else if id=nx then(match J s with|none=>L .ready none|some j=>L .done (some j))else .no
 have sB:∀s id,id<nx->H s id=G s id:=fun s id h=>if_pos h
 have FU:∀s,J s=none->H s nx=L .ready none:=fun s h=>by show(if nx<nx then _ else _)=_;rw[if_neg (by omega),if_pos rfl,h]
 have U1:∀s j,J s=some j->H s nx=L .done (some j):=fun s j h=>by show(if nx<nx then _ else _)=_;rw[if_neg (by omega),if_pos rfl,h]
 have yg:∀st pd m,nx<=m->(L st pd).refs.all (fun r=>decide (r<m))=true:=fun st pd m hm=>by
  exact SU
 refine NX (nx+1) nx H (Ge J step) (fun s=>ok s/\J s=none) t hf (fun x hx s h1 h2=> ?_) (fun x hx s h1=> ?_) af tb af s0 ⟨nm,hJ0⟩ (by rw[sB _ _ K2, <- h0 _ K2,ht]) _ _ ⟨?_,Nat.le_refl _,fun id ax=> ?_⟩ _ _ ?_
 ·have hj:J (step s x)=none:=by simpa[Ge]using h2
  exact⟨aY x hx s h1.1 h1.2 hj,hj⟩
 ·intro o3 n3 hI K X hK
  have hle:=hI.le
  have O8:o3 nx=L .ready none:=by rw[hI.eq nx (by omega),FU s h1.2]
  refine wK hL mix O8 af FG (by simp[hl]) ?_
  refine vS L hL yg x hx s h1.1 h1.2 o3 n3 ⟨hI.cH,af,fun id ax=>by rw[hI.eq id (by omega),sB _ _ ax]⟩ af O8 K X (fun e' o' n' st pd k1 k2 k3 k4=> ?_)
  have key:∀st' pd' b,(J (step s x)).isNone=b->H (step s x) nx=L st' pd'->K (.d (.bool b)) (ay o' nx (L st' pd')) n':=fun st' pd' b hb hh=>by
   subst hb
   refine hK _ _ k1 ⟨k2.cH.ay af (yg _ _ _ af),af,fun id ax=> ?_⟩ (fun id g1 g2=> ?_)
   ·by_cases xM:id=nx
    ·subst xM;rw[aa];exact hh.symm
    ·rw[ae _ _ _ _ xM]
     show o' id=H (step s x) id
     rw[sB _ _ (by omega)];exact k2.eq id af
   ·rw[ae _ _ _ _ (by omega)];exact k4 id af g2
  cases hj:J (step s x)with
  |none=>exact tf hL k3 (key _ _ _ yx (FU _ hj))
  |some j=>
   cases j with
   |ret=>exact wL hL k3 (key _ _ _ yx (U1 _ _ hj))
   |exit j=>exact ud hL k3 (key _ _ _ yx (U1 _ _ hj))
 ·exact(hg.mono af).ay af (yg _ _ _ af)
 ·by_cases xM:id=nx
  ·subst xM;rw[aa,FU _ hJ0]
  ·exact Sw
 ·intro o' n' k1 k2 k3
  have hle:=k2.le
  generalize hsf:(aQ (Ge J step) s0 (tv t)).1=sf at*
  have kk:∀st pd,eX nx (G sf) (ay o' nx (L st pd)) n':=fun st pd=>⟨k2.cH.ay af (yg _ _ _ af),af,fun id ax=>by rw[ae _ _ _ _ (by omega),k2.eq id (by omega),sB _ _ ax]⟩
  cases hj:J sf with
  |none=>
   refine⟨.ready,none,by rw[k2.eq nx (by omega),FU _ hj],(fun h=>by cases h), ?_⟩
   have:=jt _ _ (kk .exhausted none)
   rwa [hj]at this
  |some j=>
   refine⟨.done,some j,by rw[k2.eq nx (by omega),U1 _ _ hj],(fun h=>by cases h), ?_⟩
   have:=jt _ _ (kk .exhausted (some j))
   rwa [hj]at this
end
def kF(b:List (Int×Tm))(n:Int)(s:List Int×Bool)(v:Int):List Int×Bool:=if v=n then(s.1,true)else match bS b v with
 |none=>(s.1,false)
 |some x=>if v∈s.1 then(s.1,false)else match O9 (b.length+1) b n x (ew s.1 v)with
  |some (is,m)=>(m,is)
  |none=>(s.1,false)
def stJ(s:List Int×Bool):Option ky:=if s.2=true then some .ret else none
theorem rV{b:List (Int×Tm)}{n:Int}:∀ (vs met:List Int) (is:Bool) (m':List Int),NN (O9 b.length b n) b n vs met=some (is,m')->(aQ (Ge stJ (kF b n)) (met,false) vs).1=(m',is)
 |[],met,is,m',h=>by cases h;rfl
 |v::vs,met,is,m',h=>by
  simp only[NN]at h
  simp only[aQ,Ge]
  by_cases e:v=n
  ·rw[if_pos e]at h
   cases h
   have:kF b n (met,false) v=(met,true):=by unfold kF;rw[if_pos e]
   simp only[this];rfl
  ·rw[if_neg e]at h
   cases hl:bS b v with
   |none=>
    rw[hl]at h
    have:kF b n (met,false) v=(met,false):=by unfold kF;rw[if_neg e,hl]
    simp only[this]
    exact rV vs met is m' h
   |some x=>
    rw[hl]at h
    dsimp only at h
    by_cases e2:v∈met
    ·rw[if_pos e2]at h
     have:kF b n (met,false) v=(met,false):=by unfold kF;rw[if_neg e,hl];dsimp only;rw[if_pos e2]
     simp only[this]
     exact rV vs met is m' h
    ·rw[if_neg e2]at h
     cases hF:O9 b.length b n x (ew met v)with
     |none=>rw[hF]at h;cases h
     |some q=>
      obtain⟨i,m⟩:=q
      rw[hF]at h
      have:kF b n (met,false) v=(m,i):=by unfold kF;rw[if_neg e,hl];dsimp only;rw[if_neg e2,DW hF (Nat.le_succ _)]
      simp only[this]
      cases i with
      |true=>cases h;rfl
      |false=>exact rV vs m is m' h
theorem NZ{s:aA}{b:List (Int×Tm)}(hb:∀p∈b,Vs s p.2)(oA:∀p∈b,p.2.fits)(n:Int):∀ (N:Nat) (t:Tm) (met:List Int),xK b met<=N->Vs s t->t.fits->∀ (is:Bool) (fY:List Int),O9 (b.length+1) b n t met=some (is,fY)->
 ∀ (o:Nat->ab) (nx nb bb mb fb mid:Nat),Good o nx->o nb= .row [.d (.i n)]->o bb= .row [.d (EG b)]->o mb= .row [.mp mid]->o fb= .row [.func (.func 148) [] [.ptr nb 0, .ptr bb 0, .ptr mb 0, .ptr fb 0]]->o mid=Kk met->
 ∀ (K X:V->(Nat->ab)->Nat->Prop),(∀o' nx',nx<=nx'->Good o' nx'->(∀j,j<nx->j≠mid->o' j=o j)->o' mid=Kk fY->K (.d (.bool is)) o' nx')->
 bQ Tryz.prog 148 [.d t.d, .ptr nb 0, .ptr bb 0, .ptr mb 0, .ptr fb 0] o nx K X:=by
 intro N
 induction N using Nat.strongRecOn with
 |ind N ihN=>
  intro t met hN ht YI is fY hld o nx nb bb mb fb mid hg o1 o2 o3 o4 o5 K X hK
  have l1:nb<nx:=hg.lt (by rw[o1];exact ab.noConfusion)
  have l2:bb<nx:=hg.lt (by rw[o2];exact ab.noConfusion)
  have l3:mb<nx:=hg.lt (by rw[o3];exact ab.noConfusion)
  have l4:fb<nx:=hg.lt (by rw[o4];exact ab.noConfusion)
  have l5:mid<nx:=hg.lt (by rw[o5];exact ab.noConfusion)
  have d1:nb≠mid:=fun e=>by rw[e,o5]at o1;cases o1
  have d2:bb≠mid:=fun e=>by rw[e,o5]at o2;cases o2
  have d3:mb≠mid:=fun e=>by rw[e,o5]at o3;cases o3
  have d4:fb≠mid:=fun e=>by rw[e,o5]at o4;cases o4
  refine bQ.aG mix Ux aE ?_
  rw[XP]
  refine fZ ?_
  refine bM (NY t _ _ _ _ ?_)
  refine fZ ?_
  obtain⟨O1,hO1⟩:∃O1:Nat->ab,O1=ay (ay (ay o nx (ab.row [V.d (D.i t.op),V.d (D.i t.n),V.d (D.sl (List.map Tm.d t.kids))])) (nx+1) (ab.row [V.d (D.bool false)])) (nx+3) (ab.row t.row):=⟨_,rfl⟩
  have hgO:Good O1 (nx+7):=by rw[hO1];exact dt
  have hOl:∀j,j<nx->O1 j=o j:=fun j hj=>by rw[hO1];(repeat(first|rfl|rw[aa]|rw[ae _ _ _ _ (by omega)]))
  have aha:O1 (nx+1)= .row [.d (.bool false)]:=by rw[hO1];(repeat(first|rfl|rw[aa]|rw[ae _ _ _ _ (by omega)]))
  have hO3:O1 (nx+3)= .row t.row:=by rw[hO1];(repeat(first|rfl|rw[aa]|rw[ae _ _ _ _ (by omega)]))
  rw[<- hO1]
  obtain⟨G,hG⟩:∃G:List Int×Bool->Nat->ab,G=fun s=>ay (ay O1 (nx+1) (.row [.d (.bool s.2)])) mid (Kk s.1):=⟨_,rfl⟩
  have gm:∀s,G s mid=Kk s.1:=fun s=>by rw[hG];exact aa _ _ _
  have gc:∀s,G s (nx+1)= .row [.d (.bool s.2)]:=fun s=>by rw[hG];show ay _ mid _ _=_;rw[ae _ _ _ _ (by omega),aa]
  have ge:∀s j,j≠mid->j≠nx+1->G s j=O1 j:=fun s j j1 j2=>by rw[hG];show ay _ mid _ _=_;rw[ae _ _ _ _ j1,ae _ _ _ _ j2]
  have gl:∀s j,j<nx->j≠mid->G s j=o j:=fun s j j1 j2=>by rw[ge s j j2 (by omega),hOl j j1]
  refine D7 (σ:=List Int×Bool) t YI [.ad, .ptr nb 0, .ptr bb 0, .ptr mb 0, .ptr fb 0, .ad, .ptr (nx+1) 0] ?_ bC rfl hgO GM hO3
   G stJ (kF b n) (fun s=>xK b s.1<=N) (met,false) hN rfl (fun id ax=> ?_) (fun x hx s' h1 h2 h3=> ?_) ?_ ?_
  ·exact Lk
  ·by_cases e1:id=mid
   ·subst e1;rw[gm,hOl id (by omega),o5]
   ·by_cases e2:id=nx+1
    ·subst e2;rw[gc,aha]
    ·rw[ge _ _ e1 e2]
  ·obtain⟨m,fl⟩:=s'
   show xK b (kF b n (m,fl) x).1<=N
   have h1:xK b m<=N:=h1
   unfold kF
   by_cases e:x=n
   ·rw[if_pos e];exact h1
   ·rw[if_neg e]
    cases hl:bS b x with
    |none=>exact h1
    |some y=>
     dsimp only
     by_cases e2:x∈m
     ·rw[if_pos e2];exact h1
     ·rw[if_neg e2]
      have hle:xK b (ew m x)<=b.length:=Nat.le_trans (Nat.le_of_lt (u9 hl e2)) aaR
      obtain⟨i1,m1,g1,g2,g3⟩:=H8 hb n b.length y (ew m x) hle (hb _ (cK hl))
      have kB:kF b n (m,fl) x=(m1,i1):=by unfold kF;rw[if_neg e,hl];dsimp only;rw[if_neg e2,g1]
      rw[g1]
      rw[kB]at h3
      cases i1 with
      |true=>cases h3
      |false=>
       have:=DX (b:=b) (g3 rfl).1
       have:=u9 hl e2
       show xK b m1<=N
       omega
  ·intro L hL yg v hv s' sw Hi O3 n3 hI hn O8 K' X' eL
   obtain⟨m,fl⟩:=s'
   have qG:fl=false:=by
    cases fl with
    |false=>rfl
    |true=>cases Hi
   subst qG
   have sw:xK b m<=N:=sw
   simp only[qk]
   have hg:=hI.cH
   have hle:=hI.le
   have q1:O3 nb= .row [.d (.i n)]:=by rw[hI.eq nb (by omega),gl _ _ (by omega) d1,o1]
   have q2:O3 bb= .row [.d (EG b)]:=by rw[hI.eq bb (by omega),gl _ _ (by omega) d2,o2]
   have q3:O3 mb= .row [.mp mid]:=by rw[hI.eq mb (by omega),gl _ _ (by omega) d3,o3]
   have q4:O3 fb= .row [.func (.func 148) [] [.ptr nb 0, .ptr bb 0, .ptr mb 0, .ptr fb 0]]:=by rw[hI.eq fb (by omega),gl _ _ (by omega) d4,o4]
   have q5:O3 mid=Kk m:=by rw[hI.eq mid (by omega),gm]
   have q6:O3 (nx+1)= .row [.d (.bool false)]:=by rw[hI.eq (nx+1) (by omega),gc]
   have same:∀ (o':Nat->ab) (n':Nat) (s:List Int×Bool),Good o' n'->n3<=n'->(∀j,j<nx+7->o' j=ay (ay O3 (nx+1) (.row [.d (.bool s.2)])) mid (Kk s.1) j)->eX (nx+7) (G s) o' n':=fun o' n' s k1 k2 k3=>⟨k1,af,fun j hj=>by
    rw[k3 j hj]
    by_cases e1:j=mid
    ·subst e1;rw[aa,gm]
    ·rw[ae _ _ _ _ e1]
     by_cases e2:j=nx+1
     ·subst e2;rw[aa,gc]
     ·rw[ae _ _ _ _ e2,hI.eq j hj,ge _ _ e1 e2,ge _ _ e1 e2]⟩
   have z1:∀k,nb≠n3+k:=fun k=>af
   have z2:∀k,bb≠n3+k:=fun k=>af
   have z3:∀k,mb≠n3+k:=fun k=>af
   have z4:∀k,fb≠n3+k:=fun k=>af
   have z5:∀k,mid≠n3+k:=fun k=>af
   have z6:∀k,nx+1≠n3+k:=fun k=>af
   refine bY ?_
   refine n9 hL (pd:=none) ?_ ?_
   ·(repeat(first|rfl|rw[aa]|rw[ae _ _ _ _ (by omega)]))
    exact O8
   refine BX q1 q2 q3 q4 q5 q6 ?_
   refine ao (fun h3=> ?_) (fun h3=> ?_)
   ·have kK:v=n:=by simpa using h3
    have kB:kF b n (m,false) v=(m,true):=by unfold kF;rw[if_pos kK]
    rw[kB]at eL
    refine BX q1 q2 q3 q4 q5 q6 ?_
    refine eL _ _ _ .busy none af (same _ _ _ dt af fun j hj=> ?_) cg (fun id h3 h4=>by(repeat(first|rfl|rw[aa]|rw[ae _ _ _ _ (by omega)])))
    by_cases e1:j=mid
    ·exact VE
    ·by_cases e2:j=nx+1
     ·exact VF
     ·exact cg
   ·have kK:v≠n:=by simpa using h3
    cases hl:bS b v with
    |none=>
     have kB:kF b n (m,false) v=(m,false):=by unfold kF;rw[if_neg kK,hl]
     rw[kB]at eL
     cases hc:m.contains v
     all_goals
      simp+contextual (disch:=first|omega|simp only[go_sem,false_implies]) only[go_sem,wrap64,if_pos,q1,q2,q3,q4,q5,q6,oW,eJ hl,hc]
      refine eL _ _ _ .busy none af (same _ _ _ dt af fun j hj=> ?_) cg (fun id h3 h4=>by(repeat(first|rfl|rw[aa]|rw[ae _ _ _ _ (by omega)])))
      by_cases e1:j=mid
      ·exact VE
      ·by_cases e2:j=nx+1
       ·exact aa2
       ·exact cg
    |some y=>
     obtain⟨jy,hj⟩:=gk hl
     have QP:=cK hl
     cases hc:m.contains v with
     |true=>
      have yW:v∈m:=List.contains_iff_mem.1 hc
      have kB:kF b n (m,false) v=(m,false):=by unfold kF;rw[if_neg kK,hl];dsimp only;rw[if_pos yW]
      rw[kB]at eL
      simp+contextual (disch:=first|omega|simp only[go_sem,false_implies]) only[go_sem,wrap64,if_pos,q1,q2,q3,q4,q5,q6,oW,hj,hc]
      refine eL _ _ _ .busy none af (same _ _ _ dt af fun j hj=> ?_) cg (fun id h3 h4=>by(repeat(first|rfl|rw[aa]|rw[ae _ _ _ _ (by omega)])))
      by_cases e1:j=mid
      ·exact VE
      ·by_cases e2:j=nx+1
       ·exact aa2
       ·exact cg
     |false=>
      have yW:v∉m:=fun h=>by rw[List.contains_iff_mem.2 h]at hc;cases hc
      have cu:=u9 hl yW
      have Mo:xK b (ew m v)<=b.length:=Nat.le_trans (Nat.le_of_lt cu) aaR
      obtain⟨i1,m1,g1,_,_⟩:=H8 hb n b.length y (ew m v) Mo (hb _ QP)
      have kB:kF b n (m,false) v=(m1,i1):=by unfold kF;rw[if_neg kK,hl];dsimp only;rw[if_neg yW,g1]
      rw[kB]at eL
      simp+contextual (disch:=first|omega|simp only[go_sem,false_implies]) only[go_sem,wrap64,if_pos,q1,q2,q3,q4,q5,q6,z1,z2,z3,z4,z5,z6,oW,hj,hc]
      refine aU (ihN _ af y (ew m v) (Nat.le_refl _) (hb _ QP) (oA _ QP) i1 m1 g1 _ _ nb bb mb fb mid ?_ ?_ ?_ ?_ ?_ ?_ _ _ fun o4' n4 w1 w2 w3 w4=> ?_)
      ·exact dt
      ·(repeat(first|rfl|rw[aa]|rw[ae _ _ _ _ (by omega)]));exact q1
      ·(repeat(first|rfl|rw[aa]|rw[ae _ _ _ _ (by omega)]));exact q2
      ·exact VG
      ·exact Sc
      ·exact cg
      have p7:o4' (nx+7)=L .busy none:=by rw[w3 (nx+7) (by omega) (by omega)];(repeat(first|rfl|rw[aa]|rw[ae _ _ _ _ (by omega)]))
      have p6:o4' (nx+1)= .row [.d (.bool false)]:=by rw[w3 (nx+1) (by omega) (by omega)];(repeat(first|rfl|rw[aa]|rw[ae _ _ _ _ (by omega)]));exact q6
      have pj:∀j,j<nx+7->j≠mid->o4' j=O3 j:=fun j j1 j2=>by rw[w3 j (by omega) j2];(repeat(first|rfl|rw[aa]|rw[ae _ _ _ _ (by omega)]))
      have ph:∀j,nx+7<j->j<n3->o4' j=O3 j:=fun j j1 j2=>by rw[w3 j (by omega) (by omega)];(repeat(first|rfl|rw[aa]|rw[ae _ _ _ _ (by omega)]))
      clear hg
      have hg:=w2
      cases i1 with
      |true=>
       refine oF p6 ?_
       refine eL _ _ _ .busy none af (same _ _ _ dt af fun j hj=> ?_) (by(repeat(first|rfl|rw[aa]|rw[ae _ _ _ _ (by omega)]))<;>exact p7) (fun id h3 h4=>by(repeat(first|rfl|rw[aa]|rw[ae _ _ _ _ (by omega)]))<;>exact ph id h3 h4)
       by_cases e1:j=mid
       ·exact aa3
       ·by_cases e2:j=nx+1
        ·exact VF
        ·exact R6
      |false=>
       refine oF p6 ?_
       refine eL _ _ _ .busy none af (same _ _ _ dt af fun j hj=> ?_) p7 (fun id h3 h4=>ph id h3 h4)
       by_cases e1:j=mid
       ·exact aa3
       ·by_cases e2:j=nx+1
        ·subst e2;(repeat(first|rfl|rw[aa]|rw[ae _ _ _ _ (by omega)]));exact p6
        ·exact R6
  ·intro o' n' hI
   rw[rV (tv t) met is fY hld]at hI|-
   have p6:o' (nx+1)= .row [.d (.bool is)]:=by rw[hI.eq (nx+1) (by omega),gc]
   have hle:=hI.le
   have hg:=hI.cH
   cases is with
   |true=>
    rw[show stJ (fY,true)=some .ret from rfl]
    simp only[rk]
    refine oF p6 ?_
    exact hK _ _ af dt (fun j j1 j2=>by rw[hI.eq j (by omega),gl _ _ j1 j2]) (by rw[hI.eq mid (by omega),gm])
   |false=>
    rw[show stJ (fY,false)=none from rfl]
    simp only[rk]
    refine oF p6 ?_
    refine hK _ _ af dt (fun j j1 j2=> ?_) ?_
    ·(repeat(first|rfl|rw[aa]|rw[ae _ _ _ _ (by omega)]));rw[hI.eq j (by omega),gl _ _ j1 j2]
    ·(repeat(first|rfl|rw[aa]|rw[ae _ _ _ _ (by omega)]));rw[hI.eq mid (by omega),gm]
theorem Ii{s:aA}{b:List (Int×Tm)}(hb:∀p∈b,Vs s p.2)(oA:∀p∈b,p.2.fits)(n:Int)(t:Tm)(ht:Vs s t)(YI:t.fits){is:Bool}(Gf:is=true↔ox b n t):
 aX Tryz.prog 120 [EG b,t.d, .i n] (.ret [.bool is]):=by
 obtain⟨i1,m1,g1,g2⟩:=YB hb n ht
 have:is=i1:=by rw[Bool.eq_iff_iff,Gf,g2]
 subst this
 refine aX.aG mix Um aE ?_
 rw[XE]
 refine bY ?_
 have hN:xK b []<=b.length:=by unfold xK;exact Nat.le_trans (List.length_filter_le _ _) aaM
 refine aU (NZ hb oA n b.length t [] hN ht YI is m1 g1 _ _ 2 0 5 7 4 dt rfl rfl rfl rfl rfl _ _ fun o' nx' w1 w2 w3 w4=> ?_)
 exact pX
structure BL (l:List TB):Prop where
 len:l.length<=100
 sz:∀x∈l,x.term.sz<=1000
theorem zS{b:List (Int×Tm)}(oA:∀p∈b,p.2.fits)(hle:∀p∈b,∃f r,ui f b p.2 40 12=some r){ok:Bool}(aY:ok=true↔∀p∈b,zQ b p.2):aX Tryz.prog 121 [EG b] (.ret [.bool ok]):=by
 refine aX.aG mix Un aE ?_
 rw[XF]
 simp+contextual (disch:=first|omega|simp only[go_sem,false_implies]) only[go_sem,wrap64,if_pos,oW]
 refine aD (fun i:List (Int×Tm)×Option (D×D)=>⟨aZ [.d (EG b), .ad, .ad, .ad, .ad, .ad, .ptr 2 0],ay (fun _=> .no) 2 (.sn (enc (D.int .i64) (kD i.1)) i.2),3⟩)
  (fun i=>(∀p∈i.1,p∈b)/\(ok=true↔∀p∈i.1,zQ b p.2)) (fun i=>i.1.length) (b,none) ⟨fun _ h=>h,aY⟩ ?_ ?_
 ·dsimp only
  exact PB
 rintro⟨rest,last⟩ ⟨hr,ho⟩
 dsimp only at hr ho|-
 refine bY ?_
 refine tn (fun h0=> ?_) fun i k x hm=> ?_
 ·subst h0
  have:ok=true:=ho.2 (fun p hp=>by cases hp)
  exact Ah
 ·have ng:=List.mem_of_getElem? hm
  have O2:=hr _ ng
  obtain⟨f,r,hf⟩:=hle _ O2
  have hlen:(rest.eraseIdx i).length<rest.length:=by
   exact V2
  have vr:=qA hm
  refine bY ?_
  refine ak (NT f x 40 12 r (oA _ O2) oA af af hf) rfl ?_
  have c9:=H9 hf
  by_cases h0:r<0
  ·have Ax:decide (r<0)=true:=decide_eq_true h0
   have:ok=false:=by
    cases ok with
    |false=>rfl
    |true=>
     have:=c9.1 (ho.1 rfl _ ng)
     omega
   subst this
   exact Ad Ax
  ·have Ax:decide (r<0)=false:=decide_eq_false h0
   refine oF Ax ?_
   refine aj (rest.eraseIdx i,some (.int .i64 k,x.d)) ⟨fun p hp=>hr p (vr.mem_iff.1 (List.mem_cons_of_mem _ hp)),ho.trans ⟨fun h p hp=>h p (vr.mem_iff.1 (List.mem_cons_of_mem _ hp)),fun h p hp=> ?_⟩⟩ hlen (bO.cc _ (show 0<=3 from af) af dt (fun j hj=> ?_) ?_)
   ·rcases List.mem_cons.1 (vr.mem_iff.2 hp)with rfl|hp
    ·exact c9.2 af
    ·exact h p hp
   ·by_cases e:j=2
    ·exact vl
    ·exact cg
   ·exact dW
structure Nt where
 a:Tm
 b:Tm
@[reducible] def Nt.d (n:Nt):D:= .agg [.i n.a.op, .i n.a.n, .sl (n.a.kids.map Tm.d), .i n.b.op, .i n.b.n, .sl (n.b.kids.map Tm.d)]
@[reducible] def Nt.row (n:Nt):List V:=[.d (.i n.a.op), .d (.i n.a.n), .d (.sl (n.a.kids.map Tm.d)), .d (.i n.b.op), .d (.i n.b.n), .d (.sl (n.b.kids.map Tm.d))]
@[reducible] def tx (m:Int×Int):D:= .agg [.i m.1, .i m.2]
structure bU where
 sig:aA
 binds:List TB
 aH:List Nt
 marks:List (Int×Int)
@[reducible] def bU.d (s:bU):D:= .agg [.sl (s.sig.cons.map ei.d), .sl (s.sig.b9.map ei.d), .sl (s.binds.map TB.d), .sl (s.aH.map Nt.d), .sl (s.marks.map tx)]
@[reducible] def bU.row (s:bU):List V:=[.d (.sl (s.sig.cons.map ei.d)), .d (.sl (s.sig.b9.map ei.d)), .d (.sl (s.binds.map TB.d)), .d (.sl (s.aH.map Nt.d)), .d (.sl (s.marks.map tx))]
@[reducible] def bU.kd (s:bU) (b:List (Int×Tm)):D:= .agg [.sl (s.sig.cons.map ei.d), .sl (s.sig.b9.map ei.d), .sl (s.binds.map TB.d), .sl (s.aH.map Nt.d), .sl (s.marks.map tx),EG b]
def bB(s:aA)(t:Tm):Bool:=jw s [t]&&oh t
theorem oB(s:bU)(hs:s.sig.Fits)(b:List (Int×Tm))(t:Tm)(ht:t.Fin):aX Tryz.prog 99 [s.kd b,t.d] (.ret [.bool (bB s.sig t)]):=by
 refine aX.aG mix adr aE ?_
 rw[c99]
 refine bY ?_
 refine ak (F7 s.sig hs t ht) rfl ?_
 unfold bB
 cases h:jw s.sig [t]with
 |false=>
  exact aaw
 |true=>
  exact aaw
theorem zT(s:bU){b:List (Int×Tm)}(hb:∀p∈b,p.2.fits)(n:Nt)(ha:n.a.fits)(EY:n.b.fits){f:Nat}{x y:Tm}(hx:ve f b n.a=some x)(hy:ve f b n.b=some y)(fx:x.fits)(fy:y.fits)(zx:x.sz<=1000000)(zy:y.sz<=1000000):
 aX Tryz.prog 66 [s.kd b,n.d] (.ret [.bool (hY x y)]):=by
 refine aX.aG mix adg aE ?_
 rw[c66]
 refine bY ?_
 refine aV (w9 hb f n.a x ha hx zx) ?_
 refine bY ?_
 refine aV (w9 hb f n.b y EY hy zy) ?_
 refine bY ?_
 refine a7 (Rb x fx y fy) rfl ?_
 exact PA
def oZ(b:List (Int×Tm))(n:Nt):Prop:=∃f x,ve f b n.a=some x/\ve f b n.b=some x
def mR(nb nn:Int):Int×Int->List (Int×Int)->Bool
 |_,[]=>true
 |l,m::ms=> !(decide (m.1<l.1)||decide (m.1>nb)||decide (m.2<l.2)||decide (m.2>nn))&&mR nb nn m ms
structure iF (s:aA) (l:List TB):Prop where
 len:l.length<=20
 keys:((ah l).map (·.1)).Nodup
 ok:∀x∈l,(0<=x.var/\x.var<20)/\bB s x.term=true
 DZ:YC (ah l)
 YJ:∀x∈l,zQ (ah l) x.term
structure bw (s:bU):Prop where
 sig:ju s.sig=true
 rW:s.aH.length<=12
 D8:s.marks.length<=8
 jk:iF s.sig s.binds
 aH:∀n∈s.aH,bB s.sig n.a=true/\bB s.sig n.b=true/\ ¬oZ (ah s.binds) n
 marks:mR s.binds.length s.aH.length (0,0) s.marks=true
structure bU.Fin (s:bU):Prop where
 sig:s.sig.Fits
 bl:s.binds.length<=1000
 nl:s.aH.length<=1000
 ml:s.marks.length<=1000
 bt:∀x∈s.binds,x.term.Fin
 nt:∀n∈s.aH,n.a.Fin/\n.b.Fin
theorem bz{s:aA}{t:Tm}(h:bB s t=true):Vs s t/\t.sz<=40/\t.mK<=12:=by
 unfold bB jw at h
 simp only[Bool.and_eq_true,List.all_cons,List.all_nil,Bool.and_true]at h
 obtain⟨⟨_,h1⟩,h2⟩:=h
 rw[qx]at h1
 rw[oS h1]at h2
 have h3:=H5 h1
 unfold gM at h1
 rw[Bool.and_eq_true]at h1
 exact⟨⟨h1.2,h2⟩,h3.2⟩
theorem ez{l:List TB}{p:Int×Tm}(h:p∈ah l):∃x∈l,p=(x.var,x.term):=by
 obtain⟨x,hx,rfl⟩:=List.mem_map.1 h
 exact⟨x,hx,rfl⟩
theorem ir{l:List TB}{x:TB}(h:x∈l):(x.var,x.term)∈ah l:=List.mem_map.2 ⟨x,h,rfl⟩
theorem D9(l:List TB){k:Nat}{x:TB}(h:l[k]? =some x):ah (l.take (k+1))=ah (l.take k)++[(x.var,x.term)]:=by
 unfold ah
 rw[List.take_add_one,h,List.map_append];rfl
theorem iu{s:aA}{l:List TB}(hk:((ah l).map (·.1)).Nodup)(ho:∀x∈l,(0<=x.var/\x.var<20)/\bB s x.term=true)(ha:YC (ah l)):∃l' ρ R,kq s (ah l) l' ρ R/\iE s l':=
 NQ hk (fun p hp=>by
  obtain⟨x,hx,rfl⟩:=ez hp
  exact⟨(ho x hx).1,(bz (ho x hx).2).1⟩) ha
theorem o6{s:aA}{b:List (Int×Tm)}{l:List TB}{ρ:Int->Nat}{R:Nat}(h:kq s b l ρ R){n:Nt}(ha:Vs s n.a)(hb:Vs s n.b):oZ b n↔aS (ah l) n.a=aS (ah l) n.b:=by
 have e1:=pU h _ n.a ha (Nat.le_refl _)
 have e2:=pU h _ n.b hb (Nat.le_refl _)
 constructor
 ·rintro⟨f,x,h1,h2⟩
  obtain⟨g,hg⟩:∃g,g=f+(R+3+((aS (ah l) n.a).sz+(aS (ah l) n.b).sz)):=⟨_,rfl⟩
  have k1:=iq h1 (show f<=g from af)
  have k2:=iq h2 (show f<=g from af)
  rw[iq e1 (show _<=g by omega)]at k1
  rw[iq e2 (show _<=g by omega)]at k2
  exact Option.some.inj (k1.trans k2.symm)
 ·intro h
  refine⟨R+3+((aS (ah l) n.a).sz+(aS (ah l) n.b).sz),aS (ah l) n.a,iq e1 af, ?_⟩
  rw[h]
  exact iq e2 af
theorem Rf{F:Tm->Int->Option Int}:∀ {ks:List Tm} {n r:Int},n<0->BU F ks n=some r->r=n
 |[],n,r,_,h=>by cases h;rfl
 |k::ks,n,r,hn,h=>by
  simp only[BU]at h
  rw[if_pos hn]at h
  cases h;rfl
theorem N0{F:Tm->Int->Option Int}{g:Tm->Nat}:∀ {ks:List Tm} {n r:Int},(∀k∈ks,∀m q,F k m=some q->0<=q->(g k:Int)=m - q)->BU F ks n=some r->0<=r->(((ks.map g).sum:Nat):Int)=n - r
 |[],n,r,_,h,_=>by cases h;simp
 |k::ks,n,r,hF,h,hr=>by
  have h0:=h
  simp only[BU]at h
  split at h
  ·cases h;omega
  ·cases e:F k n with
   |none=>rw[e]at h;cases h
   |some q=>
    rw[e]at h
    have hq:0<=q:=by
     rcases Int.lt_or_le q 0 with hq|hq
     ·have:=Rf hq h;omega
     ·exact hq
    have h1:=hF k aE n q e hq
    have h2:=N0 (g:=g) (fun y hy=>hF y lh) h hr
    rw[List.map_cons,List.sum_cons]
    omega
theorem N1{s:aA}{b:List (Int×Tm)}{l:List TB}{ρ:Int->Nat}{R:Nat}(h:kq s b l ρ R):∀ (f:Nat) (t:Tm) (n:Int) (d:Nat) (r:Int),Vs s t->ui f b t n d=some r->0<=r->((aS (ah l) t).sz:Int)=n - r
 |0,_,_,_,_,_,h,_=>by cases h
 |f+1,t,n,d,r,ht,hl,hr=>by
  simp only[ui]at hl
  obtain⟨x,a1,a2,a3,a4,_⟩:=h.root ht
  cases ha:lI f b t with
  |none=>rw[ha]at hl;cases hl
  |some y=>
  have e1:=im a1 (show R+2<=f+(R+2)from af)
  rw[im ha (show f<=f+(R+2) by omega)]at e1
  cases e1
  rw[ha]at hl
  cases d with
  |zero=>cases hl;omega
  |succ d=>
   dsimp only at hl
   have h1:=N0 (g:=fun k=>(aS (ah l) k).sz) (fun k hk m q hq hq0=>N1 h f k m d q (a2.kA hk) hq hq0) hl hr
   rw[<- a3]
   by_cases hx:x.op=1
   ·have e:=a2.eta hx
    have hk:x.kids=[]:=by rw[e];rfl
    have hv:aS (ah l) x=x:=by rw[dV a2 hx,show Lv (ah l) x.n= .mk 1 x.n [] by simp[Lv,(h.x5 _).1 (a4 hx)]];exact e.symm
    rw[hk]at h1
    rw[hv,Tm.ko,hk]
    simp[sy]at h1|-
    omega
   ·rw[fQ hx,Tm.ko]
    have:sy (Tm.mk x.op x.n (x.kids.map (aS (ah l)))).kids=(x.kids.map fun k=>(aS (ah l) k).sz).sum:=by
     show sy (x.kids.map (aS (ah l)))=_
     unfold sy
     rw[List.map_map];rfl
    rw[this]
    omega
theorem N2{s:aA}{b:List (Int×Tm)}{l:List TB}{ρ:Int->Nat}{R:Nat}(h:kq s b l ρ R){t:Tm}(ht:Vs s t)(hf:zQ b t):(aS (ah l) t).sz<=40:=by
 obtain⟨f,r,h1,h2⟩:=hf
 have:=N1 h f t 40 12 r ht h1 h2
 omega
theorem aeR{s:aA}{b:List (Int×Tm)}(hb:∀v,(Lv b v).sz<=40):∀t:Tm,Vs s t->(aS b t).sz<=40*t.sz:=by
 refine Tm.eN fun t ih ht=> ?_
 by_cases h1:t.op=1
 ·rw[dV ht h1]
  have:=hb t.n
  have:=Tm.th t
  omega
 ·rw[fQ h1,Tm.ko,Tm.ko t]
  show 1+sy (t.kids.map (aS b))<=40*(1+sy t.kids)
  have key:∀ks:List Tm,(∀k∈ks,(aS b k).sz<=40*k.sz)->sy (ks.map (aS b))<=40*sy ks:=by
   intro ks
   induction ks with
   |nil=>intro _;simp[sy]
   |cons k ks x7=>
    intro h
    have h1:=h k aE
    have h2:=x7 fun y hy=>h y lh
    rw[List.map_cons,rM,rM]
    omega
  have:=key t.kids fun k hk=>ih k hk (ht.kA hk)
  omega
theorem mS{s:aA}{b:List (Int×Tm)}{l:List TB}{ρ:Int->Nat}{R:Nat}(h:kq s b l ρ R)(hf:∀p∈b,zQ b p.2){t:Tm}(ht:Vs s t):(aS (ah l) t).sz<=40*t.sz:=by
 refine aeR (fun v=> ?_) t ht
 cases hx:bS b v with
 |none=>
  have:Lv (ah l) v= .mk 1 v []:=by simp[Lv,(h.x5 v).1 hx]
  rw[this,Tm.ko]
  simp[Tm.kids,sy]
 |some x=>
  obtain⟨g1,g2,_⟩:=h.ok v x hx
  rw[g2]
  exact N2 h g1 (hf _ (cK hx))
end Go.Proofs.YtlhemmpklhhgoaaGreat
section
namespace Go.Proofs.YtlhemmpklhhgoaaGreat
open Classical in
noncomputable def gB(lim:Bool)(b:List (Int×Tm))(n:Int)(t:Tm):Int×List (Int×Tm):=
 if ox b n t then(5,b)else if lim=true/\ ¬ (∀p∈b++[(n,t)],zQ (b++[(n,t)]) p.2)then(3,b++[(n,t)])else(0,b++[(n,t)])
open Classical in
noncomputable def gN(b:List (Int×Tm))(t:Tm):Option Tm:=if h:∃x g,lI g b t=some x then some h.choose else none
theorem cC{b:List (Int×Tm)}{g:Nat}{t x:Tm}(h:lI g b t=some x):gN b t=some x:=by
 have hx:∃x g,lI g b t=some x:=⟨x,g,h⟩
 unfold gN
 rw[dif_pos hx]
 obtain⟨g',h'⟩:=hx.choose_spec
 have e1:=im h (Nat.le_max_left g g')
 rw[im h' (Nat.le_max_right g g')]at e1
 exact e1
theorem rX{b:List (Int×Tm)}{t x:Tm}(h:gN b t=some x):∃g,lI g b t=some x:=by
 unfold gN at h
 split at h
 ·rename_i hx
  injection h with h
  subst h
  exact hx.choose_spec
 ·cases h
def lJ(F:Tm->Tm->List (Int×Tm)->Option (Int×List (Int×Tm))):List Tm->List Tm->List (Int×Tm)->Option (Int×List (Int×Tm))
 |k::ks,k'::cE,b=>match F k k' b with
  |some (e,b1)=>if e=0 then lJ F ks cE b1 else some (e,b1)
  |none=>none
 |_,_,b=>some (0,b)
noncomputable def iw(lim:Bool):Nat->Tm->Tm->List (Int×Tm)->Option (Int×List (Int×Tm))
 |0,_,_,_=>none
 |f+1,a,c,b=>match gN b a,gN b c with
  |some x,some y=>
   if x.op=1 then
    if y.op=1 then(if x.n=y.n then some (0,b)else some (gB lim b (max x.n y.n) (.mk 1 (min x.n y.n) [])))
    else some (gB lim b x.n y)
   else if y.op=1 then some (gB lim b y.n x)
   else if x.op=y.op/\x.n=y.n/\x.kids.length=y.kids.length then lJ (iw lim f) x.kids y.kids b
   else some (5,b)
  |_,_=>none
noncomputable def ku(lim:Bool)(top:Nat):Nat->List (Tm×Tm)->List (Int×Tm)->Option (Int×List (Int×Tm))
 |0,_,_=>none
 |f+1,[],b=>some (0,b)
 |f+1,(a,c)::st,b=>if st.length≥top then none else match gN b a,gN b c with
  |some x,some y=>
   if x.op=1 then
    if y.op=1 then(if x.n=y.n then ku lim top f st b else
     if(gB lim b (max x.n y.n) (.mk 1 (min x.n y.n) [])).1=0 then ku lim top f st (gB lim b (max x.n y.n) (.mk 1 (min x.n y.n) [])).2 else some (gB lim b (max x.n y.n) (.mk 1 (min x.n y.n) [])))
    else if(gB lim b x.n y).1=0 then ku lim top f st (gB lim b x.n y).2 else some (gB lim b x.n y)
   else if y.op=1 then(if(gB lim b y.n x).1=0 then ku lim top f st (gB lim b y.n x).2 else some (gB lim b y.n x))
   else if x.op=y.op/\x.n=y.n/\x.kids.length=y.kids.length then ku lim top f (x.kids.zip y.kids++st) b
   else some (5,b)
  |_,_=>none
theorem l8{F G:Tm->Tm->List (Int×Tm)->Option (Int×List (Int×Tm))}(DU:∀k k' b r,F k k' b=some r->G k k' b=some r):∀ {ks cE:List Tm} {b:List (Int×Tm)} {r:Int×List (Int×Tm)},lJ F ks cE b=some r->lJ G ks cE b=some r
 |[],_,_,_,h=>by simpa[lJ]using h
 |_::_,[],_,_,h=>by simpa[lJ]using h
 |k::ks,k'::cE,b,r,h=>by
  simp only[lJ]at h|-
  cases e:F k k' b with
  |none=>rw[e]at h;cases h
  |some q=>
   rw[e]at h
   rw[DU _ _ _ _ e]
   dsimp only at h|-
   split at h
   ·rename_i e0;rw[if_pos e0];exact l8 DU h
   ·rename_i e0;rw[if_neg e0];exact h
theorem fw{lim:Bool}:∀ {f g:Nat} {t u:Tm} {b:List (Int×Tm)} {r:Int×List (Int×Tm)},iw lim f t u b=some r->f<=g->iw lim g t u b=some r
 |0,_,_,_,_,_,h,_=>by cases h
 |f+1,0,_,_,_,_,h,hg=>af
 |f+1,g+1,t,u,b,r,h,hg=>by
  simp only[iw]at h|-
  cases ha:gN b t with
  |none=>rw[ha]at h;cases h
  |some x=>
  cases hc:gN b u with
  |none=>rw[ha,hc]at h;cases h
  |some y=>
  rw[ha,hc]at h
  skip
  dsimp only at h|-
  split at h
  ·rename_i h1;rw[if_pos h1];exact h
  ·rename_i h1
   rw[if_neg h1]
   split at h
   ·rename_i h2;rw[if_pos h2];exact h
   ·rename_i h2
    rw[if_neg h2]
    split at h
    ·rename_i h3;rw[if_pos h3];exact l8 (fun k k' b r hk=>fw hk af) h
    ·rename_i h3;rw[if_neg h3];exact h
theorem gO{lim:Bool}{top:Nat}:∀ {f g:Nat} {st:List (Tm×Tm)} {b:List (Int×Tm)} {r:Int×List (Int×Tm)},ku lim top f st b=some r->f<=g->ku lim top g st b=some r
 |0,_,_,_,_,h,_=>by cases h
 |f+1,0,_,_,_,h,hg=>af
 |f+1,g+1,[],b,r,h,hg=>h
 |f+1,g+1,(t,u)::st,b,r,h,hg=>by
  simp only[ku]at h|-
  by_cases h0:st.length≥top
  ·rw[if_pos h0]at h;cases h
  rw[if_neg h0]at h|-
  cases ha:gN b t with
  |none=>rw[ha]at h;cases h
  |some x=>
  cases hc:gN b u with
  |none=>rw[ha,hc]at h;cases h
  |some y=>
  rw[ha,hc]at h
  skip
  dsimp only at h|-
  by_cases h1:x.op=1
  ·rw[if_pos h1]at h|-
   by_cases h2:y.op=1
   ·rw[if_pos h2]at h|-
    by_cases h3:x.n=y.n
    ·rw[if_pos h3]at h|-;exact gO h af
    ·rw[if_neg h3]at h|-
     split at h
     ·rename_i h4;rw[if_pos h4];exact gO h af
     ·rename_i h4;rw[if_neg h4];exact h
   ·rw[if_neg h2]at h|-
    split at h
    ·rename_i h4;rw[if_pos h4];exact gO h af
    ·rename_i h4;rw[if_neg h4];exact h
  ·rw[if_neg h1]at h|-
   by_cases h2:y.op=1
   ·rw[if_pos h2]at h|-
    split at h
    ·rename_i h4;rw[if_pos h4];exact gO h af
    ·rename_i h4;rw[if_neg h4];exact h
   ·rw[if_neg h2]at h|-
    split at h
    ·rename_i h4;rw[if_pos h4];exact gO h af
    ·rename_i h4;rw[if_neg h4];exact h
theorem Gg{lim:Bool}{top W:Nat}{P:Tm->Prop}{I:List (Int×Tm)->Prop}(hP:∀t,P t->t.kids.length<=W/\∀k∈t.kids,P k)(hR:∀b t x,I b->P t->gN b t=some x->P x)
 (hI:∀f t u b b',iw lim f t u b=some (0,b')->I b->P t->P u->I b'):∀ (f:Nat) (t u:Tm) (b:List (Int×Tm)) (e:Int) (b':List (Int×Tm)),iw lim f t u b=some (e,b')->I b->P t->P u->∀ (st:List (Tm×Tm)) (n:Nat) (r:Int×List (Int×Tm)),st.length+f*W+1<=top->(if e=0 then ku lim top n st b'=some r else r=(e,b'))->∃m,ku lim top m ((t,u)::st) b=some r
 |0,_,_,_,_,_,h,_,_,_,_,_,_,_,_=>by cases h
 |f+1,t,u,b,e,b',h,YK,hpt,hpu,st,n,r,ahy,hr=>by
  simp only[iw]at h
  cases ha:gN b t with
  |none=>rw[ha]at h;cases h
  |some x=>
  cases hc:gN b u with
  |none=>rw[ha,hc]at h;cases h
  |some y=>
  rw[ha,hc]at h
  dsimp only at h
  have hpx:=hR b t x YK hpt ha
  have hpy:=hR b u y YK hpu hc
  have kB: ¬st.length≥top:=af
  have bnd:∀q:Int×List (Int×Tm),q=(e,b')->∀m,n<=m->(if q.1=0 then ku lim top m st q.2 else some q)=some r:=by
   rintro q rfl m hm
   dsimp only
   split
   ·rename_i e0;rw[if_pos e0]at hr;exact gO hr hm
   ·rename_i e0;rw[if_neg e0]at hr;rw[hr]
  by_cases h1:x.op=1
  ·rw[if_pos h1]at h
   by_cases h2:y.op=1
   ·rw[if_pos h2]at h
    by_cases h3:x.n=y.n
    ·rw[if_pos h3]at h
     injection h with h
     injection h with h4 h5
     subst h4;subst h5
     rw[if_pos rfl]at hr
     refine⟨max f n+1, ?_⟩
     simp only[ku]
     rw[if_neg kB,ha,hc]
     dsimp only
     rw[if_pos h1,if_pos h2,if_pos h3]
     exact gO hr (Nat.le_max_right _ _)
    ·rw[if_neg h3]at h
     injection h with h
     refine⟨max f n+1, ?_⟩
     simp only[ku]
     rw[if_neg kB,ha,hc]
     dsimp only
     rw[if_pos h1,if_pos h2,if_neg h3]
     exact LC
   ·rw[if_neg h2]at h
    injection h with h
    refine⟨max f n+1, ?_⟩
    simp only[ku]
    rw[if_neg kB,ha,hc]
    dsimp only
    rw[if_pos h1,if_neg h2]
    exact LC
  ·rw[if_neg h1]at h
   by_cases h2:y.op=1
   ·rw[if_pos h2]at h
    injection h with h
    refine⟨max f n+1, ?_⟩
    simp only[ku]
    rw[if_neg kB,ha,hc]
    dsimp only
    rw[if_neg h1,if_pos h2]
    exact LC
   ·rw[if_neg h2]at h
    by_cases h3:x.op=y.op/\x.n=y.n/\x.kids.length=y.kids.length
    ·rw[if_pos h3]at h
     have hW:(f+1)*W=f*W+W:=by rw[Nat.add_mul,Nat.one_mul]
     have key:∀ (ks cE:List Tm) (b:List (Int×Tm)),(∀k∈ks,P k)->(∀k∈cE,P k)->I b->ks.length<=W->lJ (iw lim f) ks cE b=some (e,b')->∃m,ku lim top m (ks.zip cE++st) b=some r:=by
      intro ks
      induction ks with
      |nil=>
       intro cE b _ _ _ _ h
       exact abD
      |cons k ks ih=>
       intro cE b m1 m2 YK hlk h
       cases cE with
       |nil=>
        exact abD
       |cons k' cE=>
        simp only[lJ]at h
        cases he:iw lim f k k' b with
        |none=>rw[he]at h;cases h
        |some q=>
         obtain⟨e1,b1⟩:=q
         rw[he]at h
         dsimp only at h
         have SG:(ks.zip cE++st).length+f*W+1<=top:=by
          rw[List.length_append,List.length_zip]
          rw[List.length_cons]at hlk
          omega
         by_cases e0:e1=0
         ·rw[if_pos e0]at h
          obtain⟨m,hm⟩:=ih cE b1 (fun z hz=>m1 z pE) (fun z hz=>m2 z pE) (hI f k k' b b1 (e0 ▸ he) YK (m1 k aE) (m2 k' aE)) (by rw[List.length_cons]at hlk;omega) h
          exact Gg hP hR hI f k k' b e1 b1 he YK (m1 k aE) (m2 k' aE) (ks.zip cE++st) m r SG (by rw[if_pos e0];exact hm)
         ·rw[if_neg e0]at h
          injection h with h
          injection h with h4 h5
          subst h4;subst h5
          rw[if_neg e0]at hr
          exact Gg hP hR hI f k k' b e1 b1 he YK (m1 k aE) (m2 k' aE) (ks.zip cE++st) n r SG (by rw[if_neg e0];exact hr)
     obtain⟨m,hm⟩:=key x.kids y.kids b (hP x hpx).2 (hP y hpy).2 YK (hP x hpx).1 h
     refine⟨max f m+1, ?_⟩
     simp only[ku]
     rw[if_neg kB,ha,hc]
     dsimp only
     rw[if_neg h1,if_neg h2,if_pos h3]
     exact gO hm (Nat.le_max_right _ _)
    ·rw[if_neg h3]at h
     injection h with h
     injection h with h4 h5
     subst h4;subst h5
     rw[if_neg (by omega)]at hr
     subst hr
     refine⟨f+1, ?_⟩
     simp only[ku]
     rw[if_neg kB,ha,hc]
     dsimp only
     rw[if_neg h1,if_neg h2,if_neg h3]
end Go.Proofs.YtlhemmpklhhgoaaGreat
end
