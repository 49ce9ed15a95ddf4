/-
  A PART OF THE PROOF. Conditions: none.
-/
import Derived.Test.YtlhemmpklhhgoaaGreatQu16
set_option linter.unusedSimpArgs false
set_option linter.unusedVariables false
namespace Go.Proofs.YtlhemmpklhhgoaaGreat
theorem Au{s:aB}{b:List (Int×Tm)}{l:List TB}{ρ:Int->Nat}{R:Nat}(h:lC s b l ρ R)(hl:jP s l){n:Int}(hn:bS b n=none){t:Tm}(ht:Vs s t):gv n (aZ (ai l) t)=true↔nO b n t:=by
 have hln:Lv (ai l) n= .mk 1 n []:=by simp[Lv,(h.Ar n).1 hn]
 constructor
 ·have key:∀ (r:Nat) (t:Tm),Vs s t->(∀u,gv u t=true->ρ u<r)->gv n (aZ (ai l) t)=true->nO b n t:=by
   intro r
   induction r with
   |zero=>
    intro t ht hr hf
    obtain⟨u,hu,_⟩:=(tp hl.bd t ht n).1 hf
    exact absurd (hr u hu) (Nat.not_lt_zero _)
   |succ r ih=>
    intro t ht hr hf
    obtain⟨u,hu,hf⟩:=(tp hl.bd t ht n).1 hf
    cases hx:bS b u with
    |none=>
     have:Lv (ai l) u= .mk 1 u []:=by simp[Lv,(h.Ar u).1 hx]
     rw[this,nK]at hf
     have:u=n:=by simpa using hf
     exact .here (this ▸ hu)
    |some x=>
     obtain⟨g1,g2,g3⟩:=h.ok u x hx
     rw[g2]at hf
     have:=hr u hu
     exact .step hu hx (ih x g1 (fun w hw=>by have:=g3 w hw;omega) hf)
  exact key (R+1) t ht fun u _=>by have:=h.bd u;omega
 ·intro hr
  induction hr with
  |here h1=>exact(tp hl.bd _ ht n).2 ⟨n,h1,by rw[hln,nK];simp⟩
  | @step t v x h1 h2 _ ih=>
    obtain⟨g1,g2,g3⟩:=h.ok v x h2
    exact(tp hl.bd _ ht _).2 ⟨v,h1,by rw[g2];exact ih g1⟩
def Wn(b:List (Int×Tm)):Prop:=∀v x,bS b v=some x-> ¬nO b v x
theorem L8{s:aB}{b:List (Int×Tm)}(zp:(b.map (·.1)).Nodup)(aV:∀p∈b,(0<=p.1/\p.1<20)/\Vs s p.2)(ha:Wn b):∃l ρ R,lC s b l ρ R/\jP s l:=by
 have key:∀k,k<=b.length->∃l ρ R,lC s (b.take k) l ρ R/\jP s l:=by
  intro k
  induction k with
  |zero=>intro _;exact⟨[],fun _=>0,0,by rw[List.take_zero];exact lC.nil,jP.nil⟩
  |succ k ih=>
   intro hk
   obtain⟨l,ρ,R,h,hl⟩:=ih af
   obtain⟨⟨n,y⟩,hp⟩:∃p,b[k]? =some p:=⟨_,List.getElem?_eq_getElem (show k<b.length from af)⟩
   have hpm:=List.mem_of_getElem? hp
   have uh:b.take (k+1)=b.take k++[(n,y)]:=by rw[List.take_add_one,hp];rfl
   have Pa:((b.take (k+1)).map (·.1)).Nodup:=zp.sublist ((List.take_sublist _ _).map _)
   have hn:bS (b.take k) n=none:=by
    rw[lz]
    rw[uh,List.map_append,List.nodup_append]at Pa
    exact fun hm=>Pa.2.2 n hm n aE rfl
   obtain⟨hr,hy⟩:=aV _ hpm
   have tw:∀v x,bS (b.take k) v=some x->bS b v=some x:=fun v x hx=>(lA zp).2 (List.mem_of_mem_take (cK hx))
   have hny: ¬gv n (aZ (ai l) y)=true:=fun hf=>ha n y ((lA zp).2 hpm) (((Au h hl hn hy).1 hf).mono tw)
   obtain⟨Nl,R',h'⟩:=h.ext hl hn hy hny
   rw[uh]
   exact⟨_,Nl,R',h',qY hl hr ((h.Ar n).1 hn) (Vs.sub hl.bd y hy) (fun u hu=>hl.free hy hu) hny⟩
 have:=key b.length (Nat.le_refl _)
 rwa [List.take_length]at this
theorem lC.Js {s:aB}{b:List (Int×Tm)}{l:List TB}{ρ:Int->Nat}{R:Nat}(h:lC s b l ρ R):Wn b:=by
 have key:∀t n,nO b n t->∀r,(∀u,gv u t=true->ρ u<r)->ρ n<r:=by
  intro t n hr
  induction hr with
  |here h1=>exact fun r hr=>hr _ h1
  |step h1 h2 _ ih=>
   intro r hr
   have h3:=ih _ (h.ok _ _ h2).2.2
   have:=hr _ h1
   omega
 intro v x hx hr
 have:=key x v hr _ (h.ok v x hx).2.2
 omega
def A3(F:Tm->Int->Option Int):List Tm->Int->Option Int
 |[],n=>some n
 |k::ks,n=>if n<0 then some n else match F k n with
  |some m=>A3 F ks m
  |none=>none
def tq:Nat->List (Int×Tm)->Tm->Int->Nat->Option Int
 |0,_,_,_,_=>none
 |f+1,b,t,n,d=>match kP f b t with
  |some x=>(match d with
   |0=>some (-1)
   |d+1=>A3 (fun k m=>tq f b k m d) x.kids (n - 1))
  |none=>none
theorem C6{F:Tm->Int->Option Int}:∀ {ks:List Tm} (n:Int),(∀k∈ks,∀m,∃r,F k m=some r)->∃r,A3 F ks n=some r
 |[],n,_=>⟨n,rfl⟩
 |k::ks,n,h=>by
  simp only[A3]
  split
  ·exact⟨n,rfl⟩
  ·obtain⟨r,hr⟩:=h k aE n
   rw[hr]
   exact C6 r fun y hy=>h y kQ
theorem C7{F G:Tm->Int->Option Int}(C1:∀k m r,F k m=some r->G k m=some r):∀ {ks:List Tm} {n r:Int},A3 F ks n=some r->A3 G ks n=some r
 |[],_,_,h=>h
 |k::ks,n,r,h=>by
  simp only[A3]at h|-
  split at h
  ·rename_i e;rw[if_pos e];exact h
  ·rename_i e
   rw[if_neg e]
   cases hF:F k n with
   |none=>rw[hF]at h;cases h
   |some q=>rw[hF]at h;rw[C1 _ _ _ hF];exact C7 C1 h
theorem wb{b:List (Int×Tm)}:∀ {f g:Nat} {t:Tm} {n:Int} {d:Nat} {r:Int},tq f b t n d=some r->f<=g->tq g b t n d=some r
 |0,_,_,_,_,_,h,_=>by cases h
 |f+1,0,_,_,_,_,h,hg=>af
 |f+1,g+1,t,n,d,r,h,hg=>by
  simp only[tq]at h|-
  cases ha:kP f b t with
  |none=>rw[ha]at h;cases h
  |some x=>
   rw[ha]at h
   rw[gP ha (show f<=g by omega)]
   cases d with
   |zero=>exact h
   |succ d=>exact C7 (fun k m q hq=>wb hq af) h
theorem J5{s:aB}{b:List (Int×Tm)}{l:List TB}{ρ:Int->Nat}{R:Nat}(h:lC s b l ρ R):∀ (d:Nat) (t:Tm) (n:Int),Vs s t->∃r,tq (R+3+d) b t n d=some r
 |0,t,n,ht=>by
  obtain⟨x,a1,_⟩:=h.root ht
  exact⟨-1,by simp only[tq];rw[show R+2+0=R+2 from rfl,a1]⟩
 |d+1,t,n,ht=>by
  obtain⟨x,a1,a2,_⟩:=h.root ht
  show ∃r,tq ((R+3+d)+1) b t n (d+1)=some r
  simp only[tq]
  rw[gP a1 (show R+2<=R+3+d by omega)]
  exact C6 _ fun k hk m=>J5 h d k m (a2.mF hk)
def yA(b:List (Int×Tm))(t:Tm):Prop:=∃f r,tq f b t 40 12=some r/\0<=r
theorem GX{b:List (Int×Tm)}{t:Tm}{f:Nat}{r:Int}(h:tq f b t 40 12=some r):yA b t↔0<=r:=by
 refine⟨fun⟨g,q,h1,h2⟩=> ?_,fun hr=>⟨f,r,h,hr⟩⟩
 have e1:=wb h (Nat.le_max_left f g)
 rw[wb h1 (Nat.le_max_right f g)]at e1
 cases e1
 exact h2
def C8(F:Tm->Option Tm):List Tm->Option (List Tm)
 |[]=>some []
 |k::ks=>match F k,C8 F ks with
  |some x,some xs=>some (x::xs)
  |_,_=>none
def ui:Nat->List (Int×Tm)->Tm->Option Tm
 |0,_,_=>none
 |f+1,b,t=>match kP f b t with
  |some x=>(C8 (ui f b) x.kids).map fun ks=> .mk x.op x.n ks
  |none=>none
theorem uj{F:Tm->Option Tm}{g:Tm->Tm}:∀ {ks:List Tm},(∀k∈ks,F k=some (g k))->C8 F ks=some (ks.map g)
 |[],_=>rfl
 |k::ks,h=>by simp only[C8];rw[h k (by simp),uj fun y hy=>h y (by simp[hy])];rfl
theorem C9{F G:Tm->Option Tm}(C1:∀k r,F k=some r->G k=some r):∀ {ks xs:List Tm},C8 F ks=some xs->C8 G ks=some xs
 |[],_,h=>h
 |k::ks,xs,h=>by
  simp only[C8]at h|-
  cases h1:F k with
  |none=>rw[h1]at h;cases h
  |some x=>
   cases h2:C8 F ks with
   |none=>rw[h1,h2]at h;cases h
   |some ys=>rw[h1,h2]at h;rw[C1 _ _ h1,C9 C1 h2];exact h
theorem gQ{b:List (Int×Tm)}:∀ {f g:Nat} {t x:Tm},ui f b t=some x->f<=g->ui g b t=some x
 |0,_,_,_,h,_=>by cases h
 |f+1,0,_,_,h,hg=>af
 |f+1,g+1,t,x,h,hg=>by
  simp only[ui]at h|-
  cases ha:kP f b t with
  |none=>rw[ha]at h;cases h
  |some y=>
   rw[ha]at h
   rw[gP ha (show f<=g by omega)]
   dsimp only at h|-
   cases h2:C8 (ui f b) y.kids with
   |none=>rw[h2]at h;cases h
   |some ys=>rw[h2]at h;rw[C9 (fun k r hr=>gQ hr (by omega)) h2];exact h
theorem oZ{s:aB}{b:List (Int×Tm)}{l:List TB}{ρ:Int->Nat}{R:Nat}(h:lC s b l ρ R):∀ (z:Nat) (t:Tm),Vs s t->(aZ (ai l) t).sz<=z->ui (R+3+z) b t=some (aZ (ai l) t)
 |0,t,_,hz=>by have:=Tm.su (aZ (ai l) t);omega
 |z+1,t,ht,hz=>by
  obtain⟨x,a1,a2,a3,a4,_⟩:=h.root ht
  show ui ((R+3+z)+1) b t=_
  simp only[ui]
  rw[gP a1 (show R+2<=R+3+z by omega)]
  by_cases h1:x.op=1
  ·have e:=a2.eta h1
   have hk:x.kids=[]:=by rw[e];rfl
   have:aZ (ai l) x=x:=by
    rw[jb a2 h1,show Lv (ai l) x.n= .mk 1 x.n [] by simp[Lv,(h.Ar _).1 (a4 h1)]];exact e.symm
   rw[<- a3,this]
   dsimp only
   rw[hk]
   show some (Tm.mk x.op x.n [])=some x
   rw[<- hk,Tm.eta]
  ·have hv:=jN (b:=ai l) h1
   have hk:∀k∈x.kids,ui (R+3+z) b k=some (aZ (ai l) k):=fun k hk=>by
    refine oZ h z k (a2.mF hk) ?_
    have h3:aZ (ai l) k∈(aZ (ai l) x).kids:=by rw[hv];exact List.mem_map.2 ⟨k,hk,rfl⟩
    have h4:=Tm.mP h3
    rw[a3]at h4
    omega
   dsimp only
   rw[uj hk, <- a3,hv]
   rfl
def GY:Nat->List (Int×Tm)->Tm->Nat->Option Tm
 |0,_,_,_=>none
 |f+1,b,t,d=>if t.op=1 then(match bS b t.n with
   |some x=>(match d with
    |0=>none
    |d+1=>GY f b x d)
   |none=>some t)
  else(C8 (fun k=>GY f b k d) t.kids).map fun ks=> .mk t.op t.n ks
def sE(b:List (Int×Tm))(ρ:Int->Nat)(r:Nat):Nat:=((b.map (·.1)).filter fun u=>decide (ρ u<r)).length
theorem GZ{b:List (Int×Tm)}{ρ:Int->Nat}{v:Int}{x:Tm}(hv:bS b v=some x){r:Nat}(hr:ρ v<r):sE b ρ (ρ v)<sE b ρ r:=by
 unfold sE
 have hm:v∈b.map (·.1):=List.mem_map.2 ⟨_,cK hv,rfl⟩
 generalize b.map (·.1)=ks at hm
 have hle:∀ks:List Int,(ks.filter fun u=>decide (ρ u<ρ v)).length<=(ks.filter fun u=>decide (ρ u<r)).length:=by
  intro ks
  induction ks with
  |nil=>exact Nat.le_refl _
  |cons u ks ih=>
   rw[List.filter_cons,List.filter_cons]
   by_cases e:ρ u<ρ v
   ·rw[if_pos (by simpa using e),if_pos (by simp;omega),List.length_cons,List.length_cons];omega
   ·rw[if_neg (by simpa using e)]
    split
    ·rw[List.length_cons];omega
    ·exact ih
 induction ks with
 |nil=>cases hm
 |cons u ks ih=>
  rw[List.filter_cons,List.filter_cons]
  by_cases e:u=v
  ·subst e
   rw[if_neg (by simp),if_pos (by simpa using hr),List.length_cons]
   have:=hle ks
   omega
  ·have:=ih ((List.mem_cons.1 hm).resolve_left fun h=>e h.symm)
   by_cases e2:ρ u<ρ v
   ·rw[if_pos (by simpa using e2),if_pos (by simp;omega),List.length_cons,List.length_cons];omega
   ·rw[if_neg (by simpa using e2)]
    split
    ·rw[List.length_cons];omega
    ·exact this
theorem acW{s:aB}{b:List (Int×Tm)}{l:List TB}{ρ:Int->Nat}{R:Nat}(h:lC s b l ρ R):∀ (r:Nat) (t:Tm) (d:Nat),Vs s t->(∀u,gv u t=true->ρ u<r)->sE b ρ r<=d->∃f,∀g,f<=g->GY g b t d=some (aZ (ai l) t):=by
 intro r
 induction r using Nat.strongRecOn with
 |ind r ihr=>
  refine Tm.fj fun t ih d ht hr hd=> ?_
  by_cases h1:t.op=1
  ·have hv:gv t.n t=true:=(iA h1).2 rfl
   cases hx:bS b t.n with
   |none=>
    refine⟨1,fun g hg=> ?_⟩
    obtain⟨g,rfl⟩:∃k,g=k+1:=⟨g - 1,af⟩
    simp only[GY]
    rw[if_pos h1,hx,jb ht h1,show Lv (ai l) t.n= .mk 1 t.n [] by simp[Lv,(h.Ar _).1 hx]]
    exact congrArg some (ht.eta h1)
   |some x=>
    obtain⟨g1,g2,g3⟩:=h.ok _ _ hx
    have h3:=GZ hx (hr _ hv)
    obtain⟨d,rfl⟩:∃k,d=k+1:=⟨d - 1,af⟩
    obtain⟨f,hf⟩:=ihr _ (hr _ hv) x d g1 g3 af
    refine⟨f+1,fun g hg=> ?_⟩
    obtain⟨g,rfl⟩:∃k,g=k+1:=⟨g - 1,af⟩
    simp only[GY]
    rw[if_pos h1,hx]
    dsimp only
    rw[hf g (by omega), <- g2,jb ht h1]
  ·have key:∀ks:List Tm,(∀k∈ks,k∈t.kids)->∃f,∀g,f<=g->∀k∈ks,GY g b k d=some (aZ (ai l) k):=by
    intro ks
    induction ks with
    |nil=>intro _;exact⟨0,fun _ _ _ h=>by cases h⟩
    |cons k ks CZ=>
     intro hks
     obtain⟨f1,iz⟩:=CZ fun y hy=>hks y kQ
     obtain⟨f2,mu⟩:=ih k (hks k aE) d (ht.mF (hks k aE)) (fun u hu=>hr u ((qW ht h1).2 ⟨k,hks k aE,hu⟩)) hd
     refine⟨max f1 f2,fun g hg y hy=> ?_⟩
     rcases List.mem_cons.1 hy with rfl|hy
     ·exact mu g af
     ·exact iz g af y hy
   obtain⟨f,hf⟩:=key t.kids fun _ h=>h
   refine⟨f+1,fun g hg=> ?_⟩
   obtain⟨g,rfl⟩:∃k,g=k+1:=⟨g - 1,af⟩
   simp only[GY]
   rw[if_neg h1,uj (hf g (by omega)),jN h1]
   rfl
theorem Av{s:aB}{b:List (Int×Tm)}{l:List TB}{ρ:Int->Nat}{R:Nat}(h:lC s b l ρ R){t:Tm}(ht:Vs s t):∃f,GY f b t b.length=some (aZ (ai l) t):=by
 obtain⟨f,hf⟩:=acW h (R+1) t b.length ht (fun u _=>by have:=h.bd u;omega) (by
  unfold sE
  exact Nat.le_trans (List.length_filter_le _ _) YP)
 exact⟨f,hf f (Nat.le_refl _)⟩
def pnF(s:aB)(t:Tm):Bool:=
 let k:Int:=t.kids.length
 if t.op=16 then t.n==0&&k==0
 else if t.op=1 then dQ t.n 0 199&&k==0
 else if t.op=2 then dQ t.n (-1000000) 1000000&&k==0
 else if t.op=3 then dQ t.n 0 (s.cons.length - 1)&&k==im s.cons t.n
 else if t.op=5 then dQ t.n 0 (s.bV.length - 1)&&decide (k<im s.bV t.n)
 else false
mutual
def I5(s:aB):Tm->Bool
 | .mk op n kids=>G0 s kids&&pnF s (.mk op n kids)
def G0(s:aB):List Tm->Bool
 |[]=>true
 |k::l=>I5 s k&&G0 s l
end
theorem yB(s:aB):∀l:List Tm,G0 s l=l.all (I5 s)
 |[]=>rfl
 |k::l=>by rw[G0,yB s l];rfl
theorem Pb(s:aB)(t:Tm):I5 s t=(t.kids.all (I5 s)&&pnF s t):=by cases t;rw[I5,yB];rfl
def Pn(s:aB)(t:Tm):Prop:=I5 s t=true
theorem Wo{s:aB}{t:Tm}:Pn s t↔pnF s t=true/\∀k∈t.kids,Pn s k:=by
 unfold Pn;rw[Pb,Bool.and_eq_true,List.all_eq_true];exact and_comm
theorem Pn.mF {s:aB}{t k:Tm}(h:Pn s t)(hk:k∈t.kids):Pn s k:=(Wo.1 h).2 k hk
def xc{σ:Type}(step:σ->Tm->σ×Bool):σ->List Tm->Int->Int
 |_,[],_=> -1
 |s,x::l,k=>if(step s x).2=true then xc step (step s x).1 l (k+1)else k
theorem G1{σ:Type}(step:σ->Tm->σ×Bool):∀ (l:List Tm) (s:σ) (k:Int),0<=k->(0<=xc step s l k↔(aN step s l).2=false)
 |[],_,_,_=>by simp[xc,aN]
 |x::l,s,k,hk=>by
  have ih:=G1 step l (step s x).1 (k+1) af
  by_cases h:(step s x).2=true
  ·simp only[xc,aN,h,if_true];exact ih
  ·simp[xc,aN,h,hk]
theorem Wp{σ:Type}(l:List Tm)(hl:l.length<=9223372036854775807)(g:Nat)(bM:List V)(base:Nat)(H:σ->Nat->ad)(step:σ->Tm->σ×Bool)(hc:∀r∈V.aK bM,r<base)(ok:σ->Prop)(aV:∀x∈l,∀s,ok s->(step s x).2=true->ok (step s x).1)
 (h:∀x∈l,∀s,ok s->vL Tryz.prog g (.d x.d::bM) base (H s) (H (step s x).1) (.d (.bool (!(step s x).2)))) (s:σ) (oC:ok s):
 vL Tryz.prog 186 [.d (.sl (l.map Tm.d)), .func (.func g) [] bM] base (H s) (H (aN step s l).1) (.d (.i (xc step s l 0))):=by
 intro o nx hI K X hK
 have fh:∀r∈V.aK bM,r<nx:=fun r hr=>Nat.lt_of_lt_of_le (hc r hr) hI.le
 refine bQ.aH mix Sz aE ?_
 rw[VT]
 refine cM ?_
 refine aG (fun i:Nat×σ×(Nat->ad)×Nat=>⟨aY [.d (.sl (l.map Tm.d)), .func (.func g) [] bM, .aa, .aa, .aa, .aa, .aa, .d (.i l.length), .d (.i i.1)],i.2.2.1,i.2.2.2⟩)
  (fun i=>i.1<=l.length/\eL base (H i.2.1) i.2.2.1 i.2.2.2/\nx<=i.2.2.2/\(∀id,base<=id->id<nx->i.2.2.1 id=o id)/\aN step s l=aN step i.2.1 (l.drop i.1)/\ok i.2.1/\xc step s l 0=xc step i.2.1 (l.drop i.1) i.1) (fun i=>l.length - i.1) (0,s,o,nx)
  ⟨Nat.zero_le _,hI,Nat.le_refl _,fun _ _ _=>rfl,rfl,oC,rfl⟩ ?_ ?_
 ·exact TG
 rintro⟨k,s',o',nx'⟩ ⟨hk,M6,hn,cY,hf,vP,L9⟩
 simp only at hk M6 hn cY hf vP L9
 refine cM ?_
 refine ao (fun h1=> ?_) (fun h1=> ?_)
 ·simp at h1
  obtain⟨x,hx⟩:=aD h1
  have cF:=List.mem_of_getElem? hx
  have hd:l.drop k=x::l.drop (k+1):=by
   exact TA
  rw[hd]at hf L9
  simp only[aN,xc]at hf L9
  refine Ti hx ?_
  refine dR (h x cF s' vP _ _ (M6.mono af) _ _ fun o2 n2 m1 m2 m3=> ?_)
  cases hb:(step s' x).2 with
  |true=>
   rw[hb]at hf L9
   simp only[if_true]at hf L9
   refine cS ?_
   have SK:∀r∈V.aK bM,r<n2+1+1:=fun r hr=>by have:=fh r hr;omega
   refine aj (k+1,(step s' x).1,o2,n2+1+1) ⟨h1,m2.mono (show n2<=n2+1+1 from af),(show nx<=n2+1+1 from af),fun id i1 i2=>(m3 id i1 af).trans (cY id i1 i2),hf,aV x cF s' vP hb,by rw[L9];rfl⟩ je (bI.bE _ (show nx<=n2+1+1 from af) (Nat.le_refl _) (m2.mono (show n2<=n2+1+1 from af)).cC (fun _ _=>rfl) ?_)
   exact dA
  |false=>
   rw[hb]at hf L9
   simp only[Bool.false_eq_true,if_false]at hf L9
   refine cM ?_
   rw[hf,L9]at hK
   exact hK _ _ af (m2.mono af) fun id i1 i2=>(m3 id i1 af).trans (cY id i1 i2)
 ·simp at h1
  refine cM ?_
  rw[List.drop_eq_nil_of_le h1]at hf L9
  rw[hf,L9]at hK
  exact Qi
theorem Da{σ:Type}(l:List Tm)(hl:l.length<=9223372036854775807)(g:Nat)(bM:List V)(base:Nat)(H:σ->Nat->ad)(step:σ->Tm->σ×Bool)(hc:∀r∈V.aK bM,r<base)(ok:σ->Prop)(aV:∀x∈l,∀s,ok s->(step s x).2=true->ok (step s x).1)
 (h:∀x∈l,∀s,ok s->vL Tryz.prog g (.d x.d::bM) base (H s) (H (step s x).1) (.d (.bool (!(step s x).2)))) (s:σ) (oC:ok s):
 vL Tryz.prog 166 [.d (.sl (l.map Tm.d)), .func (.func g) [] bM] base (H s) (H (aN step s l).1) (.d (.bool (!(aN step s l).2))):=by
 intro o nx hI K X hK
 have fh:∀r∈V.aK bM,r<nx:=fun r hr=>Nat.lt_of_lt_of_le (hc r hr) hI.le
 refine bQ.aH mix Sp aE ?_
 rw[VL]
 refine fM ?_
 refine aU (Wp l hl g bM base H step hc ok aV h s oC _ _ ?_ _ _ fun o2 n2 m1 m2 m3=> ?_)
 ·exact hI.mono af
 refine fM ?_
 have e:decide (0<=xc step s l 0)= !(aN step s l).2:=by
  have:=G1 step l s 0 af
  rw[Bool.eq_iff_iff,decide_eq_true_eq,this]
  cases(aN step s l).2<;>simp
 rw[e]
 exact hK _ _ af (m2.mono af) fun id i1 i2=>m3 id i1 af
theorem Ma{b:List (Int×Tm)}{f:Nat}{t x:Tm}(h:kP f b t=some x):aW Tryz.prog 112 [DD b,t.d] (.ret [x.d]):=by
 refine aW.aH mix LA aE ?_
 rw[OK]
 refine cS ?_
 refine aG (fun i:Nat×Tm=>⟨aY [.d (DD b), .aa, .aa, .ptr 0 0, .ptr 1 0],ay (ay (fun _=> .no) 0 (.row i.2.row)) 1 (.row [.d (.i 0), .d (.i 0), .aq]),2⟩)
  (fun i=>kP i.1 b i.2=some x) (fun i=>i.1) (f,t) h ?_ ?_
 ·exact Zr
 rintro⟨f,t⟩ hf
 simp only at hf
 cases f with
 |zero=>cases hf
 |succ f=>
 simp only[kP]at hf
 by_cases h1:t.op=1
 ·have iz:(t.op==1)=true:=by simpa using h1
  rw[if_pos h1]at hf
  cases hl:bS b t.n with
  |none=>
   rw[hl]at hf
   injection hf with hf
   subst hf
   simp+contextual (disch:=first|omega|simp only[go_sem,false_implies]) only[go_sem,wrap64,if_pos,iz,oo,eB hl]
  |some z=>
   rw[hl]at hf
   obtain⟨j,hj⟩:=fL hl
   simp+contextual (disch:=first|omega|simp only[go_sem,false_implies]) only[go_sem,wrap64,if_pos,iz,oo,hj]
   refine aj (f,z) hf je (bI.bE _ af af dE (fun j hj=> ?_) ?_)
   ·have Q1:j<2:=hj
    rcases(show j=0\/j=1 from af)with rfl|rfl
    ·exact cA
    ·exact cA
   ·exact dA
 ·have iz:(t.op==1)=false:=by simpa using h1
  rw[if_neg h1]at hf
  injection hf with hf
  subst hf
  exact yP iz
theorem Pc:∀a:Tm,a.fits->∀b:Tm,b.fits->aW Tryz.prog 108 [a.d,b.d] (.ret [.bool (iJ a b)]):=by
 refine Tm.fj fun a ih ha b hb=> ?_
 have SU:=(Tm.b9 _).1 ha
 have DU:=(Tm.b9 _).1 hb
 refine aW.aH mix RX aE ?_
 rw[Vl,qM]
 refine cS ?_
 refine Ci (ao (fun h1=> ?_) (fun h1=> ?_))
 ·rw[h1]
  refine oz h1 ?_
  refine aU (LV a.kids b.kids SU.1 DU.1 108 (fun x hx y hy=>ih x hx (SU.2 x hx) y (DU.2 y hy)) _ _ dE _ _ fun o2 n2 m1 m2 m3=> ?_)
  exact yP h1
 ·rw[h1]
  exact yP h1
theorem q8{b:List (Int×Tm)}(hb:∀p∈b,p.2.fits):∀ (f:Nat) (t x:Tm),t.fits->kP f b t=some x->x.fits
 |0,_,_,_,h=>by cases h
 |f+1,t,x,ht,h=>by
  simp only[kP]at h
  split at h
  ·split at h
   ·rename_i y hy;exact q8 hb f y x (hb _ (cK hy)) h
   ·exact Hy
  ·exact Hy
theorem G2{F:Tm->Int->Option Int}(hF:∀k m r,0<=m->F k m=some r-> -1<=r/\r<=m):∀ (ks:List Tm) (n r:Int), -1<=n->A3 F ks n=some r-> -1<=r/\r<=n
 |[],n,r,hn,h=>by cases h;omega
 |k::ks,n,r,hn,h=>by
  simp only[A3]at h
  split at h
  ·cases h;omega
  ·cases e:F k n with
   |none=>rw[e]at h;cases h
   |some q=>
    rw[e]at h
    have h1:=hF k n q af e
    have h2:=G2 hF ks q r af h
    omega
theorem Aw{b:List (Int×Tm)}:∀ (f:Nat) (t:Tm) (n:Int) (d:Nat) (r:Int),0<=n->tq f b t n d=some r-> -1<=r/\r<=n
 |0,_,_,_,_,_,h=>by cases h
 |f+1,t,n,d,r,hn,h=>by
  simp only[tq]at h
  cases ha:kP f b t with
  |none=>rw[ha]at h;cases h
  |some x=>
   rw[ha]at h
   cases d with
   |zero=>cases h;omega
   |succ d=>
    have:=G2 (fun k m r hm h=>Aw f k m d r hm h) x.kids (n - 1) r af h
    omega
theorem Mb{b:List (Int×Tm)}:∀ (f:Nat) (t:Tm) (n:Int) (d:Nat) (r:Int),t.fits->(∀p∈b,p.2.fits)->0<=n/\n<=1000->d<=1000->tq f b t n d=some r->aW Tryz.prog 91 [DD b,t.d, .i n, .i d] (.ret [.i r])
 |0,_,_,_,_,_,_,_,_,h=>by cases h
 |f+1,t,n,d,r,ht,hb,hn,hd,h=>by
  simp only[tq]at h
  cases ha:kP f b t with
  |none=>rw[ha]at h;cases h
  |some x=>
  rw[ha]at h
  refine aW.aH mix abq aE ?_
  rw[c91]
  refine cS ?_
  refine bH (Ma ha) ?_
  cases d with
  |zero=>
   injection h with h
   subst h
   exact pV
  |succ d=>
   have N4:(((d+1:Nat):Int)==0)=false:=by rw[beq_eq_false_iff_ne];omega
   dsimp only at h
   have Jt:=(Tm.b9 x).1 (q8 hb f t x ht ha)
   refine oz N4 ?_
   refine aG (fun i:Nat×Int=>⟨aY [.d (DD b), .aa, .d (.i i.2), .d (.i (d+1:Nat)), .aa, .aa, .aa, .aa, .aa, .aa, .aa, .aa, .aa, .aa, .aa, .aa, .aa, .aa, .aa, .d (.sl (x.kids.map Tm.d)), .d (.i x.kids.length), .d (.i i.1)],fun _=> .no,0⟩)
    (fun i=>i.1<=x.kids.length/\A3 (fun k m=>tq f b k m d) (x.kids.drop i.1) i.2=some r/\ -1<=i.2/\i.2<=1000) (fun i=>x.kids.length - i.1) (0,n - 1) ⟨Nat.zero_le _,h,by dsimp only;omega,by dsimp only;omega⟩ (bI.d0 _ ?_) ?_
   ·exact dA
   rintro⟨k,m⟩ ⟨hk,hl,Jm,Na⟩
   simp only at hk hl Jm Na
   refine yO ?_
   refine ao (fun h2=> ?_) (fun h2=> ?_)
   ·replace h2:k<x.kids.length:=by simp at h2;omega
    obtain⟨y,hy⟩:=aD h2
    have OQ:=List.mem_of_getElem? hy
    have I6:x.kids.drop k=y::x.kids.drop (k+1):=by
     obtain⟨i1,i2⟩:=List.getElem?_eq_some_iff.1 hy
     exact A7
    rw[I6]at hl
    simp only[A3]at hl
    by_cases h0:m<0
    ·have zh:decide (m<0)=true:=decide_eq_true h0
     rw[if_pos h0]at hl
     cases hl
     exact Th hy zh
    ·have zh:decide (m<0)=false:=decide_eq_false h0
     rw[if_neg h0]at hl
     refine DI hy zh ?_
     cases e:tq f b y m d with
     |none=>rw[e]at hl;cases hl
     |some q=>
     rw[e]at hl
     have hq:=Aw f y m d q af e
     rw[show(((d+1:Nat):Int) - 1)=((d:Nat):Int) by omega]
     refine aw (Mb f y m d q (Jt.2 y OQ) hb af af e) rfl ?_
     refine cS ?_
     refine aj (k+1,q) ⟨h2,hl,by dsimp only;omega,by dsimp only;omega⟩ je (bI.d0 _ ?_)
     exact dA
   ·replace h2:k=x.kids.length:=by simp at h2;omega
    subst h2
    rw[List.drop_length]at hl
    cases hl
    exact pV
theorem Ax{F:Tm->Option Tm}:∀ {ks xs:List Tm},C8 F ks=some xs->xs.length=ks.length/\∀ (i:Nat) (k:Tm),ks[i]? =some k->∃x,xs[i]? =some x/\F k=some x
 |[],xs,h=>by cases h;exact⟨rfl,fun i k hk=>by simp at hk⟩
 |k::ks,xs,h=>by
  simp only[C8]at h
  cases h1:F k with
  |none=>rw[h1]at h;cases h
  |some x=>
   cases h2:C8 F ks with
   |none=>rw[h1,h2]at h;cases h
   |some ys=>
    rw[h1,h2]at h
    cases h
    obtain⟨g1,g2⟩:=Ax h2
    refine⟨by rw[List.length_cons,List.length_cons,g1],fun i k' hk=> ?_⟩
    cases i with
    |zero=>simp at hk;subst hk;exact⟨x,rfl,h1⟩
    |succ i=>exact g2 i k' hk
def EZ(op n:Int)(ks:List Tm)(k:Nat):Nat->ad:=ay (ay (ay (fun _=> .no) 1 (.row [.d (.i 0), .d (.i 0), .aq])) 11 (.row [.d (.i op), .d (.i n), .osl 12 0])) 12 (.arr 0 33 3 ((ks.take k).map Tm.d))
theorem fuH_1(op n:Int)(ks:List Tm)(k:Nat):EZ op n ks k 1= .row [.d (.i 0), .d (.i 0), .aq]:=rfl
theorem fuH_11(op n:Int)(ks:List Tm)(k:Nat):EZ op n ks k 11= .row [.d (.i op), .d (.i n), .osl 12 0]:=rfl
theorem fuH_12(op n:Int)(ks:List Tm)(k:Nat):EZ op n ks k 12= .arr 0 33 3 ((ks.take k).map Tm.d):=rfl
theorem Ay(op n:Int)(ks:List Tm)(k:Nat){j:Nat}(h1:j≠1)(h2:j≠11)(h3:j≠12):EZ op n ks k j= .no:=by unfold EZ;rw[ae _ _ _ _ h3,ae _ _ _ _ h2,ae _ _ _ _ h1]
theorem Mc(gone:Nat->Prop)(x:V)(L:List V)(si:∀id,gone id->12<=id){op n:Int}{ks:List Tm}{k:Nat}{e:Nat->V}{so:Nat->ad}{m:Nat}(gx:fE so gone 33 3 ((ks.take k).map Tm.d) x)
 (s1:so 1= .row [.d (.i 0), .d (.i 0), .aq]) (s11:so 11= .row [.d (.i op), .d (.i n),x]) (he:iL 12 [⟨x,33,3,(ks.take k).map Tm.d⟩] so gone e L 0):bI 0 ⟨e,so,m⟩ ⟨aY L,EZ op n ks k,12+1⟩:=by
 refine bI.w7 gone x 12 L af (fun j hj=> ?_) (fuH_12 op n ks k) gx (fun j hj=>Ay _ _ _ _ af af af) (fun j h1 h2=>absurd (si j h1) af) he
 by_cases e1:j=1
 ·subst e1
  rw[fuH_1]
  exact Qj
 ·by_cases e2:j=11
  ·subst e2
   rw[fuH_11]
   exact Qo
  ·rw[Ay _ _ _ _ e1 e2 (by omega)]
   exact me
theorem G3{k:Tm}:∀ {l:List Tm},k∈l->k.sz<=rB l
 |x::l,h=>by
  rw[show rB (x::l)=x.sz+rB l from rfl]
  rcases List.mem_cons.1 h with rfl|h
  ·omega
  ·have:=G3 h;omega
mutual
def Tm.wid:Tm->Prop
 | .mk _ _ kids=>kids.length<=1000000/\Tm.Md kids
def Tm.Md:List Tm->Prop
 |[]=>True
 |k::l=>k.wid/\Tm.Md l
end
theorem Tm.Db:∀l:List Tm,Tm.Md l↔∀k∈l,k.wid
 |[]=>by simp[Tm.Md]
 |k::l=>by simp[Tm.Md,Tm.Db l]
theorem Tm.Az (t:Tm):t.wid↔t.kids.length<=1000000/\∀k∈t.kids,k.wid:=by cases t;simp[Tm.wid,Tm.Db,Tm.kids]
theorem Tm.Wq:∀t:Tm,t.sz<=1000000->t.wid:=by
 refine Tm.fj fun t ih h=> ?_
 rw[Tm.Az]
 have:=mi t.kids
 have h2:=Tm.jL t
 exact Qm
theorem E0{b:List (Int×Tm)}(hb:∀p∈b,p.2.fits):∀ (f:Nat) (t y:Tm),t.fits->ui f b t=some y->y.wid->aW Tryz.prog 68 [DD b,t.d] (.ret [y.d])
 |0,_,_,_,h,_=>by cases h
 |f+1,t,y,ht,h,hz=>by
  simp only[ui]at h
  cases ha:kP f b t with
  |none=>rw[ha]at h;cases h
  |some x=>
  rw[ha]at h
  dsimp only at h
  have Jt:=(Tm.b9 x).1 (q8 hb f t x ht ha)
  cases hL:C8 (ui f b) x.kids with
  |none=>rw[hL]at h;cases h
  |some ks=>
  rw[hL]at h
  cases h
  obtain⟨NV,HD⟩:=Ax hL
  have hkw:=(Tm.Az _).1 hz
  have hle:ks.length<=1000000:=hkw.1
  refine aW.aH mix abk aE ?_
  rw[c68]
  refine cS ?_
  refine bH (Ma ha) ?_
  refine cS ?_
  refine aG (fun i:Nat=>⟨aY [.d (DD b), .aa, .aa, .aa, .ptr 1 0, .ptr 11 0, .aa, .aa, .aa, .aa, .aa, .aa, .aa, .aa, .aa, .aa, .aa, .d (.sl (x.kids.map Tm.d)), .d (.i x.kids.length), .d (.i i)],EZ x.op x.n ks i,12+1⟩)
   (fun i=>i<=x.kids.length) (fun i=>x.kids.length - i) 0 (Nat.zero_le _) (Mc (fun _=>False) .aq _ (fun _ h=>h.elim) (.inl ⟨rfl,rfl,bu⟩) cA cA ?_) (fun k hk=> ?_)
  ·exact rn
  replace hk:k<=x.kids.length:=hk
  have q1:=fuH_1 x.op x.n ks k
  have Pf:=fuH_11 x.op x.n ks k
  have Pg:=fuH_12 x.op x.n ks k
  refine Hq q1 Pf Pg ?_
  refine ao (fun h2=> ?_) (fun h2=> ?_)
  ·replace h2:k<x.kids.length:=by simp at h2;omega
   obtain⟨z,hz⟩:=aD h2
   obtain⟨z',NR,hF⟩:=HD k z hz
   have hzm:=List.mem_of_getElem? hz
   have uh:ks.take (k+1)=ks.take k++[z']:=by rw[List.take_add_one,NR];rfl
   have e0:(ks.take k).length=k:=by rw[List.length_take];omega
   have hzs:z'.wid:=hkw.2 _ (List.mem_of_getElem? NR)
   have fh:k<=140737488355327/\(k+1)*24<=140737488355328:=af
   refine DF q1 Pf Pg hz ?_
   refine cy (E0 hb f z z' (Jt.2 z hzm) hF hzs) ?_
   simp+contextual (disch:=first|omega|simp only[go_sem,false_implies]) only[go_sem,wrap64,if_pos,q1,Pf,Pg,hz,List.length_map,e0,if_pos fh]
   refine aO ah ?_
   refine cS ?_
   refine aj (k+1) h2 af (Mc (fun j=>12<=j) (.osl 12 1) _ (fun _ h=>h) (.inr ⟨12,1,Nat.le_refl _,rfl,by(repeat(first|rfl|rw[ab]|rw[ae _ _ _ _ (by omega)]));rw[uh,List.map_append];rfl⟩) Zb cA ?_)
   exact rn
  ·replace h2:k=x.kids.length:=by simp at h2;omega
   subst h2
   have Wr:EZ x.op x.n ks x.kids.length 12= .arr 0 33 3 (ks.map Tm.d):=by rw[Pg, <- NV,List.take_length]
   refine wM q1 Pf Wr ?_
   rw[Tm.UH]
theorem wc{b:List (Int×Tm)}(hb:∀p∈b,p.2.fits)(f:Nat)(t y:Tm)(ht:t.fits)(h:ui f b t=some y)(hz:y.sz<=1000000):aW Tryz.prog 68 [DD b,t.d] (.ret [y.d]):=E0 hb f t y ht h (Tm.Wq y hz)
section
section
variable {σ:Type}(base qO:Nat)(H:σ->Nat->ad)(step:σ->Tm->σ×Bool)(ok:σ->Prop)
end
end
section
theorem Ws{x:Tm}{yb vb base:Nat}{h h2:Nat->ad}{r:Bool}(hS:vL Tryz.prog 165 [.d x.d, .ptr yb 0, .ptr vb 0] base h h2 (.d (.bool r)))(hy:yb<base)(hv:vb<base)(ov:h vb= .row [.func (.func 165) [] [.ptr yb 0, .ptr vb 0]]):
 vL Tryz.prog 167 [.d x.d, .ptr vb 0] base h h2 (.d (.bool (!r))):=by
 intro o nx hI K X hK
 have hle:=hI.le
 have ho:o vb= .row [.func (.func 165) [] [.ptr yb 0, .ptr vb 0]]:=by rw[hI.eq vb hv,ov]
 have y1:∀k,vb≠nx+k:=fun k=>af
 have y2:vb≠nx:=af
 refine bQ.aH mix Sq aE ?_
 rw[VM]
 refine Td ho y1 y2 ?_
 refine aU (hS _ _ ?_ _ _ fun o2 n2 m1 m2 m3=> ?_)
 ·exact hI.ay af af af rfl
 refine fM ?_
 exact hK _ _ af (m2.mono af) fun id i1 i2=>by rw[m3 id i1 (by omega),ae _ _ _ _ (by omega)]
section
variable {σ:Type}(base qO:Nat)(H:σ->Nat->ad)(step:σ->Int->σ×Bool)(ok:σ->Prop)
theorem Me:∀t:Tm,t.fits->(∀x∈sD t,∀s,ok s->(step s x).2=true->ok (step s x).1)->(∀x∈sD t,∀s,ok s->RoC Tryz.prog qO [.d (.i x)] base (H s) (H (step s x).1) (.d (.bool (step s x).2)))->qO<base->
 ∀ (c:Nat) (o0:Nat->ad) (yb vb:Nat),base<=c->base<=yb->yb<c->base<=vb->vb<c->o0 yb= .row [.j7 qO]->o0 vb= .row [.func (.func 165) [] [.ptr yb 0, .ptr vb 0]]->
 ∀s,ok s->vL Tryz.prog 165 [.d t.d, .ptr yb 0, .ptr vb 0] c (ext base (H s) o0) (ext base (H (aN step s (sD t)).1) o0) (.d (.bool (aN step s (sD t)).2)):=by
 refine Tm.fj fun t ih hf aV hR CJ c o0 yb vb hbc hy0 hy hv0 hv oy ov s oC=> ?_
 have wW:=(Tm.b9 _).1 hf
 intro o nx hI K X hK
 have hle:=hI.le
 have X1:o yb= .row [.j7 qO]:=by rw[hI.eq yb hy];unfold ext;rw[if_neg (by omega),oy]
 have V9:o vb= .row [.func (.func 165) [] [.ptr yb 0, .ptr vb 0]]:=by rw[hI.eq vb hv];unfold ext;rw[if_neg (by omega),ov]
 have y1:yb≠nx:=af
 have y2:∀k,yb≠nx+k:=fun k=>af
 have y3:vb≠nx:=af
 have y4:∀k,vb≠nx+k:=fun k=>af
 have pE:=L4 t
 have hb:∀id,id<base->o id=H s id:=fun id ax=>by rw[hI.eq id (by omega)];unfold ext;rw[if_pos ax]
 have hIb:eL base (H s) o nx:=⟨hI.cC,af,hb⟩
 have Jg:∀id,base<=id->id<c->o id=o0 id:=fun id h1 h2=>by rw[hI.eq id h2];unfold ext;rw[if_neg (by omega)]
 refine bQ.aH mix Sn aE ?_
 rw[VK]
 by_cases h1:t.op=1
 ·have iz:(t.op==1)=true:=by simpa using h1
  rw[if_pos h1]at pE
  have A2:aN step s (sD t)=step s t.n:=by
   rw[pE]
   simp only[aN]
   generalize step s t.n=q
   obtain⟨a,b⟩:=q
   cases b<;>rfl
  refine DG iz X1 V9 y1 y2 y3 y4 ?_
  refine nD (hR t.n (by rw[pE];simp) s oC _ _ ?_ _ _ fun o2 n2 m1 m2 m3=> ?_)
  ·exact hIb.ay af af af rfl
  refine fM ?_
  rw[A2]at hK
  have hold:∀id,base<=id->id<nx->o2 id=o id:=fun id h1 h2=>by rw[m3 id h1 (by omega),ae _ _ _ _ (by omega)]
  refine hK _ _ af ⟨m2.cC.mono af,af,fun id ax=> ?_⟩ (fun id h1 h2=>hold id af h2)
  unfold ext
  split
  ·exact m2.eq id (by assumption)
  ·exact Ny
 ·have iz:(t.op==1)=false:=by simpa using h1
  rw[if_neg h1]at pE
  have A2:aN step s (sD t)=aN (fun s k=>aN step s (sD k)) s t.kids:=by rw[pE,vQ]
  have tw:∀k∈t.kids,∀x∈sD k,x∈sD t:=fun k hk x hx=>by rw[pE];exact List.mem_flatMap.2 ⟨k,hk,hx⟩
  refine DG iz X1 V9 y1 y2 y3 y4 ?_
  refine aU (Da t.kids wW.1 167 [.ptr vb 0] (nx+8) (fun s=>ext base (H s) (ay o nx (.row t.row))) (fun s k=>aN step s (sD k)) ?_ ok ?_ ?_ s oC _ _ ?_ _ _ ?_)
  ·exact Fz
  ·exact Zc
  ·intro k hk s' jV
   refine Ws (yb:=yb) (ih k hk (wW.2 k hk) (fun x hx=>aV x (tw k hk x hx)) (fun x hx=>hR x (tw k hk x hx)) CJ (nx+8) _ yb vb af hy0 af hv0 af ?_ ?_ s' jV) af af ?_
   ·(repeat(first|rfl|rw[ab]|rw[ae _ _ _ _ (by omega)]));exact X1
   ·(repeat(first|rfl|rw[ab]|rw[ae _ _ _ _ (by omega)]));exact V9
   ·unfold ext;rw[if_neg (by omega)];(repeat(first|rfl|rw[ab]|rw[ae _ _ _ _ (by omega)]));exact V9
  ·exact(hIb.ay af af af rfl).ext af af
  ·intro o5 n5 p1 p2 p3
   refine cS ?_
   rw[<- A2]
   have hold:∀id,base<=id->id<nx->o5 id=o id:=fun id h1 h2=>by
    rw[p2.eq id (by omega)];unfold ext;rw[if_neg (by omega),ae _ _ _ _ (by omega)]
   refine hK _ _ af ⟨p2.cC.mono af,af,fun id ax=> ?_⟩ (fun id h1 h2=>hold id af h2)
   rw[A2]
   unfold ext
   split
   ·rw[p2.eq id (by omega)];unfold ext;rw[if_pos (by assumption)]
   ·exact Ny
theorem Mf(t:Tm)(hf:t.fits)(aV:∀x∈sD t,∀s,ok s->(step s x).2=true->ok (step s x).1)(hR:∀x∈sD t,∀s,ok s->RoC Tryz.prog qO [.d (.i x)] base (H s) (H (step s x).1) (.d (.bool (step s x).2)))(CJ:qO<base)(tb:Nat)(Jr:tb<base)(s:σ)(oC:ok s)(cZ:H s tb= .row t.row):
 vL Tryz.prog 164 [.j7 qO, .ptr tb 0] base (H s) (H (aN step s (sD t)).1) (.bP []):=by
 intro o nx hI K X hK
 have hle:=hI.le
 have ot:o tb= .row t.row:=by rw[hI.eq tb Jr,cZ]
 have y1:tb≠nx:=af
 have y2:∀k,tb≠nx+k:=fun k=>af
 refine bQ.aH mix Sm aE ?_
 rw[VJ]
 simp+contextual only[go_sem,ot,y1,y2,Nat.add_assoc,Nat.left_eq_add,Nat.add_eq_left,Nat.add_left_cancel_iff]
 have hI1:eL base (H s) (ay (ay (ay o nx (.row [.j7 qO])) (nx+1) (.row [.d .cz])) (nx+1) (.row [.func (.func 165) [] [.ptr nx 0, .ptr (nx+1) 0]])) (nx+6):=by
  refine((hI.ay (i:=nx) (m:=nx+6) af af af ?_).ay (i:=nx+1) (m:=nx+6) af af af rfl).ay (i:=nx+1) af af af ?_
  ·exact JG
  ·exact A8
 refine aU (Me base qO H step ok t hf aV hR CJ (nx+6) _ nx (nx+1) af hle af af af ?_ ?_ s oC _ _ (hI1.ext (Nat.le_refl _) af) _ _ ?_)
 ·exact cA
 ·exact cA
 intro o2 n2 m1 m2 m3
 refine cM ?_
 refine hK _ _ af ⟨m2.cC,af,fun id ax=> ?_⟩ (fun id h1 h2=> ?_)
 ·rw[m2.eq id (by omega)];unfold ext;rw[if_pos ax]
 ·exact QN
end
theorem Mg(t:Tm)(o:Nat->ad)(nx:Nat)(K X:V->(Nat->ad)->Nat->Prop)(h:K (.func (.func 164) [] [.ptr nx 0]) (ay o nx (.row t.row)) (nx+4)):bQ Tryz.prog 149 [.d t.d] o nx K X:=by
 refine bQ.aH mix Sh aE ?_
 rw[VE]
 refine cM ?_
 exact h
def E1{σ:Type}(J:σ->Option jS)(step:σ->Int->σ)(s:σ)(x:Int):σ×Bool:=(step s x,(J (step s x)).isNone)
theorem Dc{σ:Type}(t:Tm)(hf:t.fits){n bq:Nat}{gq:Operand}{ps:List Nat}{jv e9:IC}{Q:fH->S->Prop}{e:Nat->V}{o:Nat->ad}{nx tb:Nat}(env:List V)(he:nC e env 0)
 (Ey:ps.all (fun t=>decide (t<n))=true) (hl:ps.length=1) (hg:Good o nx) (hrefs:∀r∈V.aK env,r<nx) (ht:o tb= .row t.row)
 (G:σ->Nat->ad) (J:σ->Option jS) (step:σ->Int->σ) (ok:σ->Prop) (s0:σ) (oC:ok s0) (hJ0:J s0=none) (h0:∀id,id<nx->o id=G s0 id) (aV:∀x∈sD t,∀s,ok s->J s=none->J (step s x)=none->ok (step s x))
 (uV:∀L,iV Tryz.prog n env ps jv e9 L->(∀st pd m,nx<=m->(L st pd).refs.all (fun r=>decide (r<m))=true)->∀x∈sD t,∀s,ok s->J s=none->∀o3 n3,eL nx (G s) o3 n3->nx<n3->o3 nx=L .ready none->∀K X,
  (∀e' o' n' st pd,n3<=n'->eL nx (G (step s x)) o' n'->o' nx=L st pd->(∀id,nx<id->id<n3->o' id=o3 id)->kO nx K X (SL (J (step s x))) ⟨e',o',n'⟩)->
  kN Tryz.prog n n3 true jv (sn Tryz.prog n n3 nx e9 K X) ⟨px (aY env) ps [.d (.i x)],o3,n3⟩)
 (kK:∀o' n',eL nx (G (aN (E1 J step) s0 (sD t)).1) o' n'->qw Q (J (aN (E1 J step) s0 (sD t)).1) ⟨e,o',n'⟩):
 tK Tryz.prog n bq false gq ps jv e9 Q ⟨e,o,nx⟩ (.func (.func 164) [] [.ptr tb 0]):=by
 refine EH env he (fun L hL=> ?_)
 have Jr:tb<nx:=hg.lt (by rw[ht];exact ad.noConfusion)
 let H:σ->Nat->ad:=fun s id=>if id<nx then G s id else if id=nx then(match J s with|none=>L .ready none|some j=>L .done (some j))else .no
 have rE:∀s id,id<nx->H s id=G s id:=fun s id h=>if_pos h
 have EJ:∀s,J s=none->H s nx=L .ready none:=fun s h=>by show(if nx<nx then _ else _)=_;rw[if_neg (by omega),if_pos rfl,h]
 have SM:∀s j,J s=some j->H s nx=L .done (some j):=fun s j h=>by show(if nx<nx then _ else _)=_;rw[if_neg (by omega),if_pos rfl,h]
 have xi:∀st pd m,nx<=m->(L st pd).refs.all (fun r=>decide (r<m))=true:=fun st pd m hm=>by
  exact Qy
 refine Mf (nx+1) nx H (E1 J step) (fun s=>ok s/\J s=none) t hf (fun x hx s h1 h2=> ?_) (fun x hx s h1=> ?_) af tb af s0 ⟨oC,hJ0⟩ (by rw[rE _ _ Jr, <- h0 _ Jr,ht]) _ _ ⟨?_,Nat.le_refl _,fun id ax=> ?_⟩ _ _ ?_
 ·have hj:J (step s x)=none:=by simpa[E1]using h2
  exact⟨aV x hx s h1.1 h1.2 hj,hj⟩
 ·intro o3 n3 hI K X hK
  have hle:=hI.le
  have Nk:o3 nx=L .ready none:=by rw[hI.eq nx (by omega),EJ s h1.2]
  refine vM hL mix Nk af Ey (by simp[hl]) ?_
  refine uV L hL xi x hx s h1.1 h1.2 o3 n3 ⟨hI.cC,af,fun id ax=>by rw[hI.eq id (by omega),rE _ _ ax]⟩ af Nk K X (fun e' o' n' st pd k1 k2 k3 k4=> ?_)
  have key:∀st' pd' b,(J (step s x)).isNone=b->H (step s x) nx=L st' pd'->K (.d (.bool b)) (ay o' nx (L st' pd')) n':=fun st' pd' b hb hh=>by
   subst hb
   refine hK _ _ k1 ⟨k2.cC.ay af (xi _ _ _ af),af,fun id ax=> ?_⟩ (fun id g1 g2=> ?_)
   ·by_cases wQ:id=nx
    ·subst wQ;rw[ab];exact hh.symm
    ·rw[ae _ _ _ _ wQ]
     show o' id=H (step s x) id
     rw[rE _ _ (by omega)];exact k2.eq id af
   ·rw[ae _ _ _ _ (by omega)];exact k4 id af g2
  cases hj:J (step s x)with
  |none=>exact sq hL k3 (key _ _ _ xy (EJ _ hj))
  |some j=>
   cases j with
   |ret=>exact vN hL k3 (key _ _ _ xy (SM _ _ hj))
   |exit j=>exact th hL k3 (key _ _ _ xy (SM _ _ hj))
 ·exact(hg.mono af).ay af (xi _ _ _ af)
 ·by_cases wQ:id=nx
  ·subst wQ;rw[ab,EJ _ hJ0]
  ·exact Qn
 ·intro o' n' k1 k2 k3
  have hle:=k2.le
  generalize hsf:(aN (E1 J step) s0 (sD t)).1=sf at*
  have kk:∀st pd,eL nx (G sf) (ay o' nx (L st pd)) n':=fun st pd=>⟨k2.cC.ay af (xi _ _ _ af),af,fun id ax=>by rw[ae _ _ _ _ (by omega),k2.eq id (by omega),rE _ _ ax]⟩
  cases hj:J sf with
  |none=>
   refine⟨.ready,none,by rw[k2.eq nx (by omega),EJ _ hj],(fun h=>by cases h), ?_⟩
   have:=kK _ _ (kk .exhausted none)
   rwa [hj]at this
  |some j=>
   refine⟨.done,some j,by rw[k2.eq nx (by omega),SM _ _ hj],(fun h=>by cases h), ?_⟩
   have:=kK _ _ (kk .exhausted (some j))
   rwa [hj]at this
end
def jY(b:List (Int×Tm))(n:Int)(s:List Int×Bool)(v:Int):List Int×Bool:=if v=n then(s.1,true)else match bS b v with
 |none=>(s.1,false)
 |some x=>if v∈s.1 then(s.1,false)else match Nn (b.length+1) b n x (ef s.1 v)with
  |some (is,m)=>(m,is)
  |none=>(s.1,false)
def stJ(s:List Int×Bool):Option jS:=if s.2=true then some .ret else none
theorem q9{b:List (Int×Tm)}{n:Int}:∀ (vs met:List Int) (is:Bool) (m':List Int),L5 (Nn b.length b n) b n vs met=some (is,m')->(aN (E1 stJ (jY b n)) (met,false) vs).1=(m',is)
 |[],met,is,m',h=>by cases h;rfl
 |v::vs,met,is,m',h=>by
  simp only[L5]at h
  simp only[aN,E1]
  by_cases e:v=n
  ·rw[if_pos e]at h
   cases h
   have:jY b n (met,false) v=(met,true):=by unfold jY;rw[if_pos e]
   simp only[this];rfl
  ·rw[if_neg e]at h
   cases hl:bS b v with
   |none=>
    rw[hl]at h
    have:jY b n (met,false) v=(met,false):=by unfold jY;rw[if_neg e,hl]
    simp only[this]
    exact q9 vs met is m' h
   |some x=>
    rw[hl]at h
    dsimp only at h
    by_cases e2:v∈met
    ·rw[if_pos e2]at h
     have:jY b n (met,false) v=(met,false):=by unfold jY;rw[if_neg e,hl];dsimp only;rw[if_pos e2]
     simp only[this]
     exact q9 vs met is m' h
    ·rw[if_neg e2]at h
     cases hF:Nn b.length b n x (ef met v)with
     |none=>rw[hF]at h;cases h
     |some q=>
      obtain⟨i,m⟩:=q
      rw[hF]at h
      have:jY b n (met,false) v=(m,i):=by unfold jY;rw[if_neg e,hl];dsimp only;rw[if_neg e2,C3 hF (Nat.le_succ _)]
      simp only[this]
      cases i with
      |true=>cases h;rfl
      |false=>exact q9 vs m is m' h
theorem Mh{s:aB}{b:List (Int×Tm)}(hb:∀p∈b,Vs s p.2)(nP:∀p∈b,p.2.fits)(n:Int):∀ (N:Nat) (t:Tm) (met:List Int),wO b met<=N->Vs s t->t.fits->∀ (is:Bool) (fF:List Int),Nn (b.length+1) b n t met=some (is,fF)->
 ∀ (o:Nat->ad) (nx nb bb mb fb mid:Nat),Good o nx->o nb= .row [.d (.i n)]->o bb= .row [.d (DD b)]->o mb= .row [.mp mid]->o fb= .row [.func (.func 148) [] [.ptr nb 0, .ptr bb 0, .ptr mb 0, .ptr fb 0]]->o mid=IX met->
 ∀ (K X:V->(Nat->ad)->Nat->Prop),(∀o' nx',nx<=nx'->Good o' nx'->(∀j,j<nx->j≠mid->o' j=o j)->o' mid=IX fF->K (.d (.bool is)) o' nx')->
 bQ Tryz.prog 148 [.d t.d, .ptr nb 0, .ptr bb 0, .ptr mb 0, .ptr fb 0] o nx K X:=by
 intro N
 induction N using Nat.strongRecOn with
 |ind N ihN=>
  intro t met hN ht Wt is fF hld o nx nb bb mb fb mid hg o1 o2 o3 o4 o5 K X hK
  have l1:nb<nx:=hg.lt (by rw[o1];exact ad.noConfusion)
  have l2:bb<nx:=hg.lt (by rw[o2];exact ad.noConfusion)
  have l3:mb<nx:=hg.lt (by rw[o3];exact ad.noConfusion)
  have l4:fb<nx:=hg.lt (by rw[o4];exact ad.noConfusion)
  have l5:mid<nx:=hg.lt (by rw[o5];exact ad.noConfusion)
  have d1:nb≠mid:=fun e=>by rw[e,o5]at o1;cases o1
  have d2:bb≠mid:=fun e=>by rw[e,o5]at o2;cases o2
  have d3:mb≠mid:=fun e=>by rw[e,o5]at o3;cases o3
  have d4:fb≠mid:=fun e=>by rw[e,o5]at o4;cases o4
  refine bQ.aH mix Sg aE ?_
  rw[VD]
  refine fM ?_
  refine bY (Mg t _ _ _ _ ?_)
  refine fM ?_
  obtain⟨O1,hO1⟩:∃O1:Nat->ad,O1=ay (ay (ay o nx (ad.row [V.d (D.i t.op),V.d (D.i t.n),V.d (D.sl (List.map Tm.d t.kids))])) (nx+1) (ad.row [V.d (D.bool false)])) (nx+3) (ad.row t.row):=⟨_,rfl⟩
  have hgO:Good O1 (nx+7):=by rw[hO1];exact dE
  have hOl:∀j,j<nx->O1 j=o j:=fun j hj=>by rw[hO1];(repeat(first|rfl|rw[ab]|rw[ae _ _ _ _ (by omega)]))
  have ae9:O1 (nx+1)= .row [.d (.bool false)]:=by rw[hO1];(repeat(first|rfl|rw[ab]|rw[ae _ _ _ _ (by omega)]))
  have hO3:O1 (nx+3)= .row t.row:=by rw[hO1];(repeat(first|rfl|rw[ab]|rw[ae _ _ _ _ (by omega)]))
  rw[<- hO1]
  obtain⟨G,hG⟩:∃G:List Int×Bool->Nat->ad,G=fun s=>ay (ay O1 (nx+1) (.row [.d (.bool s.2)])) mid (IX s.1):=⟨_,rfl⟩
  have gm:∀s,G s mid=IX s.1:=fun s=>by rw[hG];exact ab _ _ _
  have gc:∀s,G s (nx+1)= .row [.d (.bool s.2)]:=fun s=>by rw[hG];show ay _ mid _ _=_;rw[ae _ _ _ _ (by omega),ab]
  have ge:∀s j,j≠mid->j≠nx+1->G s j=O1 j:=fun s j j1 j2=>by rw[hG];show ay _ mid _ _=_;rw[ae _ _ _ _ j1,ae _ _ _ _ j2]
  have gl:∀s j,j<nx->j≠mid->G s j=o j:=fun s j j1 j2=>by rw[ge s j j2 (by omega),hOl j j1]
  refine Dc (σ:=List Int×Bool) t Wt [.aa, .ptr nb 0, .ptr bb 0, .ptr mb 0, .ptr fb 0, .aa, .ptr (nx+1) 0] ?_ bu rfl hgO Fz hO3
   G stJ (jY b n) (fun s=>wO b s.1<=N) (met,false) hN rfl (fun id ax=> ?_) (fun x hx s' h1 h2 h3=> ?_) ?_ ?_
  ·exact JC
  ·by_cases e1:id=mid
   ·subst e1;rw[gm,hOl id (by omega),o5]
   ·by_cases e2:id=nx+1
    ·subst e2;rw[gc,ae9]
    ·rw[ge _ _ e1 e2]
  ·obtain⟨m,fl⟩:=s'
   show wO b (jY b n (m,fl) x).1<=N
   have h1:wO b m<=N:=h1
   unfold jY
   by_cases e:x=n
   ·rw[if_pos e];exact h1
   ·rw[if_neg e]
    cases hl:bS b x with
    |none=>exact h1
    |some y=>
     dsimp only
     by_cases e2:x∈m
     ·rw[if_pos e2];exact h1
     ·rw[if_neg e2]
      have hle:wO b (ef m x)<=b.length:=Nat.le_trans (Nat.le_of_lt (ug hl e2)) YU
      obtain⟨i1,m1,g1,g2,g3⟩:=GW hb n b.length y (ef m x) hle (hb _ (cK hl))
      have jT:jY b n (m,fl) x=(m1,i1):=by unfold jY;rw[if_neg e,hl];dsimp only;rw[if_neg e2,g1]
      rw[g1]
      rw[jT]at h3
      cases i1 with
      |true=>cases h3
      |false=>
       have:=C4 (b:=b) (g3 rfl).1
       have:=ug hl e2
       show wO b m1<=N
       omega
  ·intro L hL xi v hv s' rA F7 O3 n3 hI hn Nk K' X' eD
   obtain⟨m,fl⟩:=s'
   have pR:fl=false:=by
    cases fl with
    |false=>rfl
    |true=>cases F7
   subst pR
   have rA:wO b m<=N:=rA
   simp only[px]
   have hg:=hI.cC
   have hle:=hI.le
   have q1:O3 nb= .row [.d (.i n)]:=by rw[hI.eq nb (by omega),gl _ _ (by omega) d1,o1]
   have q2:O3 bb= .row [.d (DD b)]:=by rw[hI.eq bb (by omega),gl _ _ (by omega) d2,o2]
   have q3:O3 mb= .row [.mp mid]:=by rw[hI.eq mb (by omega),gl _ _ (by omega) d3,o3]
   have q4:O3 fb= .row [.func (.func 148) [] [.ptr nb 0, .ptr bb 0, .ptr mb 0, .ptr fb 0]]:=by rw[hI.eq fb (by omega),gl _ _ (by omega) d4,o4]
   have q5:O3 mid=IX m:=by rw[hI.eq mid (by omega),gm]
   have q6:O3 (nx+1)= .row [.d (.bool false)]:=by rw[hI.eq (nx+1) (by omega),gc]
   have same:∀ (o':Nat->ad) (n':Nat) (s:List Int×Bool),Good o' n'->n3<=n'->(∀j,j<nx+7->o' j=ay (ay O3 (nx+1) (.row [.d (.bool s.2)])) mid (IX s.1) j)->eL (nx+7) (G s) o' n':=fun o' n' s k1 k2 k3=>⟨k1,af,fun j hj=>by
    rw[k3 j hj]
    by_cases e1:j=mid
    ·subst e1;rw[ab,gm]
    ·rw[ae _ _ _ _ e1]
     by_cases e2:j=nx+1
     ·subst e2;rw[ab,gc]
     ·rw[ae _ _ _ _ e2,hI.eq j hj,ge _ _ e1 e2,ge _ _ e1 e2]⟩
   have z1:∀k,nb≠n3+k:=fun k=>af
   have z2:∀k,bb≠n3+k:=fun k=>af
   have z3:∀k,mb≠n3+k:=fun k=>af
   have z4:∀k,fb≠n3+k:=fun k=>af
   have z5:∀k,mid≠n3+k:=fun k=>af
   have z6:∀k,nx+1≠n3+k:=fun k=>af
   refine cS ?_
   refine nE hL (pd:=none) ?_ ?_
   ·(repeat(first|rfl|rw[ab]|rw[ae _ _ _ _ (by omega)]))
    exact Nk
   refine Hr q1 q2 q3 q4 q5 q6 ?_
   refine ao (fun h3=> ?_) (fun h3=> ?_)
   ·have mw:v=n:=by simpa using h3
    have jT:jY b n (m,false) v=(m,true):=by unfold jY;rw[if_pos mw]
    rw[jT]at eD
    refine Hr q1 q2 q3 q4 q5 q6 ?_
    refine eD _ _ _ .busy none af (same _ _ _ dE af fun j hj=> ?_) cA (fun id h3 h4=>by(repeat(first|rfl|rw[ab]|rw[ae _ _ _ _ (by omega)])))
    by_cases e1:j=mid
    ·exact To
    ·by_cases e2:j=nx+1
     ·exact Tp
     ·exact cA
   ·have mw:v≠n:=by simpa using h3
    cases hl:bS b v with
    |none=>
     have jT:jY b n (m,false) v=(m,false):=by unfold jY;rw[if_neg mw,hl]
     rw[jT]at eD
     cases hc:m.contains v
     all_goals
      simp+contextual (disch:=first|omega|simp only[go_sem,false_implies]) only[go_sem,wrap64,if_pos,q1,q2,q3,q4,q5,q6,oo,eB hl,hc]
      refine eD _ _ _ .busy none af (same _ _ _ dE af fun j hj=> ?_) cA (fun id h3 h4=>by(repeat(first|rfl|rw[ab]|rw[ae _ _ _ _ (by omega)])))
      by_cases e1:j=mid
      ·exact To
      ·by_cases e2:j=nx+1
       ·exact Y4
       ·exact cA
    |some y=>
     obtain⟨jy,hj⟩:=fL hl
     have OQ:=cK hl
     cases hc:m.contains v with
     |true=>
      have xS:v∈m:=List.contains_iff_mem.1 hc
      have jT:jY b n (m,false) v=(m,false):=by unfold jY;rw[if_neg mw,hl];dsimp only;rw[if_pos xS]
      rw[jT]at eD
      simp+contextual (disch:=first|omega|simp only[go_sem,false_implies]) only[go_sem,wrap64,if_pos,q1,q2,q3,q4,q5,q6,oo,hj,hc]
      refine eD _ _ _ .busy none af (same _ _ _ dE af fun j hj=> ?_) cA (fun id h3 h4=>by(repeat(first|rfl|rw[ab]|rw[ae _ _ _ _ (by omega)])))
      by_cases e1:j=mid
      ·exact To
      ·by_cases e2:j=nx+1
       ·exact Y4
       ·exact cA
     |false=>
      have xS:v∉m:=fun h=>by rw[List.contains_iff_mem.2 h]at hc;cases hc
      have ck:=ug hl xS
      have KI:wO b (ef m v)<=b.length:=Nat.le_trans (Nat.le_of_lt ck) YU
      obtain⟨i1,m1,g1,_,_⟩:=GW hb n b.length y (ef m v) KI (hb _ OQ)
      have jT:jY b n (m,false) v=(m1,i1):=by unfold jY;rw[if_neg mw,hl];dsimp only;rw[if_neg xS,g1]
      rw[jT]at eD
      simp+contextual (disch:=first|omega|simp only[go_sem,false_implies]) only[go_sem,wrap64,if_pos,q1,q2,q3,q4,q5,q6,z1,z2,z3,z4,z5,z6,oo,hj,hc]
      refine aU (ihN _ af y (ef m v) (Nat.le_refl _) (hb _ OQ) (nP _ OQ) i1 m1 g1 _ _ nb bb mb fb mid ?_ ?_ ?_ ?_ ?_ ?_ _ _ fun o4' n4 w1 w2 w3 w4=> ?_)
      ·exact dE
      ·(repeat(first|rfl|rw[ab]|rw[ae _ _ _ _ (by omega)]));exact q1
      ·(repeat(first|rfl|rw[ab]|rw[ae _ _ _ _ (by omega)]));exact q2
      ·exact Tq
      ·exact PW
      ·exact cA
      have p7:o4' (nx+7)=L .busy none:=by rw[w3 (nx+7) (by omega) (by omega)];(repeat(first|rfl|rw[ab]|rw[ae _ _ _ _ (by omega)]))
      have p6:o4' (nx+1)= .row [.d (.bool false)]:=by rw[w3 (nx+1) (by omega) (by omega)];(repeat(first|rfl|rw[ab]|rw[ae _ _ _ _ (by omega)]));exact q6
      have pj:∀j,j<nx+7->j≠mid->o4' j=O3 j:=fun j j1 j2=>by rw[w3 j (by omega) j2];(repeat(first|rfl|rw[ab]|rw[ae _ _ _ _ (by omega)]))
      have ph:∀j,nx+7<j->j<n3->o4' j=O3 j:=fun j j1 j2=>by rw[w3 j (by omega) (by omega)];(repeat(first|rfl|rw[ab]|rw[ae _ _ _ _ (by omega)]))
      clear hg
      have hg:=w2
      cases i1 with
      |true=>
       refine oz p6 ?_
       refine eD _ _ _ .busy none af (same _ _ _ dE af fun j hj=> ?_) (by(repeat(first|rfl|rw[ab]|rw[ae _ _ _ _ (by omega)]))<;>exact p7) (fun id h3 h4=>by(repeat(first|rfl|rw[ab]|rw[ae _ _ _ _ (by omega)]))<;>exact ph id h3 h4)
       by_cases e1:j=mid
       ·exact Y5
       ·by_cases e2:j=nx+1
        ·exact Tp
        ·exact Y8
      |false=>
       refine oz p6 ?_
       refine eD _ _ _ .busy none af (same _ _ _ dE af fun j hj=> ?_) p7 (fun id h3 h4=>ph id h3 h4)
       by_cases e1:j=mid
       ·exact Y5
       ·by_cases e2:j=nx+1
        ·subst e2;(repeat(first|rfl|rw[ab]|rw[ae _ _ _ _ (by omega)]));exact p6
        ·exact Y8
  ·intro o' n' hI
   rw[q9 (sD t) met is fF hld]at hI|-
   have p6:o' (nx+1)= .row [.d (.bool is)]:=by rw[hI.eq (nx+1) (by omega),gc]
   have hle:=hI.le
   have hg:=hI.cC
   cases is with
   |true=>
    rw[show stJ (fF,true)=some .ret from rfl]
    simp only[qw]
    refine oz p6 ?_
    exact hK _ _ af dE (fun j j1 j2=>by rw[hI.eq j (by omega),gl _ _ j1 j2]) (by rw[hI.eq mid (by omega),gm])
   |false=>
    rw[show stJ (fF,false)=none from rfl]
    simp only[qw]
    refine oz p6 ?_
    refine hK _ _ af dE (fun j j1 j2=> ?_) ?_
    ·(repeat(first|rfl|rw[ab]|rw[ae _ _ _ _ (by omega)]));rw[hI.eq j (by omega),gl _ _ j1 j2]
    ·(repeat(first|rfl|rw[ab]|rw[ae _ _ _ _ (by omega)]));rw[hI.eq mid (by omega),gm]
theorem G4{s:aB}{b:List (Int×Tm)}(hb:∀p∈b,Vs s p.2)(nP:∀p∈b,p.2.fits)(n:Int)(t:Tm)(ht:Vs s t)(Wt:t.fits){is:Bool}(E2:is=true↔nO b n t):
 aW Tryz.prog 120 [DD b,t.d, .i n] (.ret [.bool is]):=by
 obtain⟨i1,m1,g1,g2⟩:=Wm hb n ht
 have:is=i1:=by rw[Bool.eq_iff_iff,E2,g2]
 subst this
 refine aW.aH mix R4 aE ?_
 rw[Vq]
 refine cS ?_
 have hN:wO b []<=b.length:=by unfold wO;exact Nat.le_trans (List.length_filter_le _ _) YP
 refine aU (Mh hb nP n b.length t [] hN ht Wt is m1 g1 _ _ 2 0 5 7 4 dE rfl rfl rfl rfl rfl _ _ fun o' nx' w1 w2 w3 w4=> ?_)
 exact pV
structure BL (l:List TB):Prop where
 len:l.length<=100
 sz:∀x∈l,x.term.sz<=1000
theorem yC{b:List (Int×Tm)}(nP:∀p∈b,p.2.fits)(hle:∀p∈b,∃f r,tq f b p.2 40 12=some r){ok:Bool}(aV:ok=true↔∀p∈b,yA b p.2):aW Tryz.prog 121 [DD b] (.ret [.bool ok]):=by
 refine aW.aH mix R5 aE ?_
 rw[Vr]
 simp+contextual (disch:=first|omega|simp only[go_sem,false_implies]) only[go_sem,wrap64,if_pos,oo]
 refine aG (fun i:List (Int×Tm)×Option (D×D)=>⟨aY [.d (DD b), .aa, .aa, .aa, .aa, .aa, .ptr 2 0],ay (fun _=> .no) 2 (.rq (enc (D.int .i64) (jW i.1)) i.2),3⟩)
  (fun i=>(∀p∈i.1,p∈b)/\(ok=true↔∀p∈i.1,yA b p.2)) (fun i=>i.1.length) (b,none) ⟨fun _ h=>h,aV⟩ ?_ ?_
 ·dsimp only
  exact TM
 rintro⟨rest,last⟩ ⟨hr,ho⟩
 dsimp only at hr ho|-
 refine cS ?_
 refine sy (fun h0=> ?_) fun i k x hm=> ?_
 ·subst h0
  have:ok=true:=ho.2 (fun p hp=>by cases hp)
  exact yT
 ·have mD:=List.mem_of_getElem? hm
  have Nc:=hr _ mD
  obtain⟨f,r,hf⟩:=hle _ Nc
  have hlen:(rest.eraseIdx i).length<rest.length:=by
   exact TN
  have uw:=pL hm
  refine cS ?_
  refine aw (Mb f x 40 12 r (nP _ Nc) nP af af hf) rfl ?_
  have cY:=GX hf
  by_cases h0:r<0
  ·have zh:decide (r<0)=true:=decide_eq_true h0
   have:ok=false:=by
    cases ok with
    |false=>rfl
    |true=>
     have:=cY.1 (ho.1 rfl _ mD)
     omega
   subst this
   exact yP zh
  ·have zh:decide (r<0)=false:=decide_eq_false h0
   refine oz zh ?_
   refine aj (rest.eraseIdx i,some (.int .i64 k,x.d)) ⟨fun p hp=>hr p (uw.mem_iff.1 (List.mem_cons_of_mem _ hp)),ho.trans ⟨fun h p hp=>h p (uw.mem_iff.1 (List.mem_cons_of_mem _ hp)),fun h p hp=> ?_⟩⟩ hlen (bI.bE _ (show 0<=3 from af) af dE (fun j hj=> ?_) ?_)
   ·rcases List.mem_cons.1 (uw.mem_iff.2 hp)with rfl|hp
    ·exact cY.2 af
    ·exact h p hp
   ·by_cases e:j=2
    ·exact uq
    ·exact cA
   ·exact dA
structure Nt where
 a:Tm
 b:Tm
@[reducible] def Nt.d (n:Nt):D:= .agg [.i n.a.op, .i n.a.n, .sl (n.a.kids.map Tm.d), .i n.b.op, .i n.b.n, .sl (n.b.kids.map Tm.d)]
@[reducible] def Nt.row (n:Nt):List V:=[.d (.i n.a.op), .d (.i n.a.n), .d (.sl (n.a.kids.map Tm.d)), .d (.i n.b.op), .d (.i n.b.n), .d (.sl (n.b.kids.map Tm.d))]
@[reducible] def ra (m:Int×Int):D:= .agg [.i m.1, .i m.2]
structure bW where
 sig:aB
 binds:List TB
 aJ:List Nt
 marks:List (Int×Int)
@[reducible] def bW.d (s:bW):D:= .agg [.sl (s.sig.cons.map ec.d), .sl (s.sig.bV.map ec.d), .sl (s.binds.map TB.d), .sl (s.aJ.map Nt.d), .sl (s.marks.map ra)]
@[reducible] def bW.row (s:bW):List V:=[.d (.sl (s.sig.cons.map ec.d)), .d (.sl (s.sig.bV.map ec.d)), .d (.sl (s.binds.map TB.d)), .d (.sl (s.aJ.map Nt.d)), .d (.sl (s.marks.map ra))]
@[reducible] def bW.kd (s:bW) (b:List (Int×Tm)):D:= .agg [.sl (s.sig.cons.map ec.d), .sl (s.sig.bV.map ec.d), .sl (s.binds.map TB.d), .sl (s.aJ.map Nt.d), .sl (s.marks.map ra),DD b]
def bL(s:aB)(t:Tm):Bool:=iW s [t]&&nI t
theorem nQ(s:bW)(hs:s.sig.Fits)(b:List (Int×Tm))(t:Tm)(ht:t.Fin):aW Tryz.prog 99 [s.kd b,t.d] (.ret [.bool (bL s.sig t)]):=by
 refine aW.aH mix abr aE ?_
 rw[c99]
 refine cS ?_
 refine aw (EU s.sig hs t ht) rfl ?_
 unfold bL
 cases h:iW s.sig [t]with
 |false=>
  exact Yz
 |true=>
  exact Yz
theorem yD(s:bW){b:List (Int×Tm)}(hb:∀p∈b,p.2.fits)(n:Nt)(ha:n.a.fits)(DU:n.b.fits){f:Nat}{x y:Tm}(hx:ui f b n.a=some x)(hy:ui f b n.b=some y)(fx:x.fits)(fy:y.fits)(zx:x.sz<=1000000)(zy:y.sz<=1000000):
 aW Tryz.prog 66 [s.kd b,n.d] (.ret [.bool (iJ x y)]):=by
 refine aW.aH mix abi aE ?_
 rw[c66]
 refine cS ?_
 refine cy (wc hb f n.a x ha hx zx) ?_
 refine cS ?_
 refine cy (wc hb f n.b y DU hy zy) ?_
 refine cS ?_
 refine a8 (Pc x fx y fy) rfl ?_
 exact TL
def Dd(b:List (Int×Tm))(n:Nt):Prop:=∃f x,ui f b n.a=some x/\ui f b n.b=some x
def mj(nb nn:Int):Int×Int->List (Int×Int)->Bool
 |_,[]=>true
 |l,m::ms=> !(decide (m.1<l.1)||decide (m.1>nb)||decide (m.2<l.2)||decide (m.2>nn))&&mj nb nn m ms
structure jc (s:aB) (l:List TB):Prop where
 len:l.length<=20
 keys:((ai l).map (·.1)).Nodup
 ok:∀x∈l,(0<=x.var/\x.var<20)/\bL s x.term=true
 Js:Wn (ai l)
 Wu:∀x∈l,yA (ai l) x.term
structure bp (s:bW):Prop where
 sig:iU s.sig=true
 tL:s.aJ.length<=12
 xd:s.marks.length<=8
 mG:jc s.sig s.binds
 aJ:∀n∈s.aJ,bL s.sig n.a=true/\bL s.sig n.b=true/\ ¬Dd (ai s.binds) n
 marks:mj s.binds.length s.aJ.length (0,0) s.marks=true
structure bW.Fin (s:bW):Prop where
 sig:s.sig.Fits
 bl:s.binds.length<=1000
 nl:s.aJ.length<=1000
 ml:s.marks.length<=1000
 bt:∀x∈s.binds,x.term.Fin
 nt:∀n∈s.aJ,n.a.Fin/\n.b.Fin
theorem cg{s:aB}{t:Tm}(h:bL s t=true):Vs s t/\t.sz<=40/\t.ma<=12:=by
 unfold bL iW at h
 simp only[Bool.and_eq_true,List.all_cons,List.all_nil,Bool.and_true]at h
 obtain⟨⟨_,h1⟩,h2⟩:=h
 rw[pI]at h1
 rw[oi h1]at h2
 have h3:=GU h1
 unfold gr at h1
 rw[Bool.and_eq_true]at h1
 exact⟨⟨h1.2,h2⟩,h3.2⟩
theorem fq{l:List TB}{p:Int×Tm}(h:p∈ai l):∃x∈l,p=(x.var,x.term):=by
 obtain⟨x,hx,rfl⟩:=List.mem_map.1 h
 exact⟨x,hx,rfl⟩
theorem iy{l:List TB}{x:TB}(h:x∈l):(x.var,x.term)∈ai l:=List.mem_map.2 ⟨x,h,rfl⟩
theorem De(l:List TB){k:Nat}{x:TB}(h:l[k]? =some x):ai (l.take (k+1))=ai (l.take k)++[(x.var,x.term)]:=by
 unfold ai
 rw[List.take_add_one,h,List.map_append];rfl
theorem oq{s:aB}{l:List TB}(hk:((ai l).map (·.1)).Nodup)(ho:∀x∈l,(0<=x.var/\x.var<20)/\bL s x.term=true)(ha:Wn (ai l)):∃l' ρ R,lC s (ai l) l' ρ R/\jP s l':=
 L8 hk (fun p hp=>by
  obtain⟨x,hx,rfl⟩:=fq hp
  exact⟨(ho x hx).1,(cg (ho x hx).2).1⟩) ha
theorem AA{s:aB}{b:List (Int×Tm)}{l:List TB}{ρ:Int->Nat}{R:Nat}(h:lC s b l ρ R){n:Nt}(ha:Vs s n.a)(hb:Vs s n.b):Dd b n↔aZ (ai l) n.a=aZ (ai l) n.b:=by
 have e1:=oZ h _ n.a ha (Nat.le_refl _)
 have e2:=oZ h _ n.b hb (Nat.le_refl _)
 constructor
 ·rintro⟨f,x,h1,h2⟩
  obtain⟨g,hg⟩:∃g,g=f+(R+3+((aZ (ai l) n.a).sz+(aZ (ai l) n.b).sz)):=⟨_,rfl⟩
  have k1:=gQ h1 (show f<=g from af)
  have k2:=gQ h2 (show f<=g from af)
  rw[gQ e1 (show _<=g by omega)]at k1
  rw[gQ e2 (show _<=g by omega)]at k2
  exact Option.some.inj (k1.trans k2.symm)
 ·intro h
  refine⟨R+3+((aZ (ai l) n.a).sz+(aZ (ai l) n.b).sz),aZ (ai l) n.a,gQ e1 af, ?_⟩
  rw[h]
  exact gQ e2 af
theorem Ph{F:Tm->Int->Option Int}:∀ {ks:List Tm} {n r:Int},n<0->A3 F ks n=some r->r=n
 |[],n,r,_,h=>by cases h;rfl
 |k::ks,n,r,hn,h=>by
  simp only[A3]at h
  rw[if_pos hn]at h
  cases h;rfl
theorem Mi{F:Tm->Int->Option Int}{g:Tm->Nat}:∀ {ks:List Tm} {n r:Int},(∀k∈ks,∀m q,F k m=some q->0<=q->(g k:Int)=m - q)->A3 F ks n=some r->0<=r->(((ks.map g).sum:Nat):Int)=n - r
 |[],n,r,_,h,_=>by cases h;simp
 |k::ks,n,r,hF,h,hr=>by
  have h0:=h
  simp only[A3]at h
  split at h
  ·cases h;omega
  ·cases e:F k n with
   |none=>rw[e]at h;cases h
   |some q=>
    rw[e]at h
    have hq:0<=q:=by
     rcases Int.lt_or_le q 0 with hq|hq
     ·have:=Ph hq h;omega
     ·exact hq
    have h1:=hF k aE n q e hq
    have h2:=Mi (g:=g) (fun y hy=>hF y kQ) h hr
    rw[List.map_cons,List.sum_cons]
    omega
theorem Mj{s:aB}{b:List (Int×Tm)}{l:List TB}{ρ:Int->Nat}{R:Nat}(h:lC s b l ρ R):∀ (f:Nat) (t:Tm) (n:Int) (d:Nat) (r:Int),Vs s t->tq f b t n d=some r->0<=r->((aZ (ai l) t).sz:Int)=n - r
 |0,_,_,_,_,_,h,_=>by cases h
 |f+1,t,n,d,r,ht,hl,hr=>by
  simp only[tq]at hl
  obtain⟨x,a1,a2,a3,a4,_⟩:=h.root ht
  cases ha:kP f b t with
  |none=>rw[ha]at hl;cases hl
  |some y=>
  have e1:=gP a1 (show R+2<=f+(R+2)from af)
  rw[gP ha (show f<=f+(R+2) by omega)]at e1
  cases e1
  rw[ha]at hl
  cases d with
  |zero=>cases hl;omega
  |succ d=>
   dsimp only at hl
   have h1:=Mi (g:=fun k=>(aZ (ai l) k).sz) (fun k hk m q hq hq0=>Mj h f k m d q (a2.mF hk) hq hq0) hl hr
   rw[<- a3]
   by_cases hx:x.op=1
   ·have e:=a2.eta hx
    have hk:x.kids=[]:=by rw[e];rfl
    have hv:aZ (ai l) x=x:=by rw[jb a2 hx,show Lv (ai l) x.n= .mk 1 x.n [] by simp[Lv,(h.Ar _).1 (a4 hx)]];exact e.symm
    rw[hk]at h1
    rw[hv,Tm.jL,hk]
    simp[rB]at h1|-
    omega
   ·rw[jN hx,Tm.jL]
    have:rB (Tm.mk x.op x.n (x.kids.map (aZ (ai l)))).kids=(x.kids.map fun k=>(aZ (ai l) k).sz).sum:=by
     show rB (x.kids.map (aZ (ai l)))=_
     unfold rB
     rw[List.map_map];rfl
    rw[this]
    omega
theorem Mk{s:aB}{b:List (Int×Tm)}{l:List TB}{ρ:Int->Nat}{R:Nat}(h:lC s b l ρ R){t:Tm}(ht:Vs s t)(hf:yA b t):(aZ (ai l) t).sz<=40:=by
 obtain⟨f,r,h1,h2⟩:=hf
 have:=Mj h f t 40 12 r ht h1 h2
 omega
theorem acX{s:aB}{b:List (Int×Tm)}(hb:∀v,(Lv b v).sz<=40):∀t:Tm,Vs s t->(aZ b t).sz<=40*t.sz:=by
 refine Tm.fj fun t ih ht=> ?_
 by_cases h1:t.op=1
 ·rw[jb ht h1]
  have:=hb t.n
  have:=Tm.su t
  omega
 ·rw[jN h1,Tm.jL,Tm.jL t]
  show 1+rB (t.kids.map (aZ b))<=40*(1+rB t.kids)
  have key:∀ks:List Tm,(∀k∈ks,(aZ b k).sz<=40*k.sz)->rB (ks.map (aZ b))<=40*rB ks:=by
   intro ks
   induction ks with
   |nil=>intro _;simp[rB]
   |cons k ks CZ=>
    intro h
    have h1:=h k aE
    have h2:=CZ fun y hy=>h y kQ
    rw[List.map_cons,qR,qR]
    omega
  have:=key t.kids fun k hk=>ih k hk (ht.mF hk)
  omega
theorem mm{s:aB}{b:List (Int×Tm)}{l:List TB}{ρ:Int->Nat}{R:Nat}(h:lC s b l ρ R)(hf:∀p∈b,yA b p.2){t:Tm}(ht:Vs s t):(aZ (ai l) t).sz<=40*t.sz:=by
 refine acX (fun v=> ?_) t ht
 cases hx:bS b v with
 |none=>
  have:Lv (ai l) v= .mk 1 v []:=by simp[Lv,(h.Ar v).1 hx]
  rw[this,Tm.jL]
  simp[Tm.kids,rB]
 |some x=>
  obtain⟨g1,g2,_⟩:=h.ok v x hx
  rw[g2]
  exact Mk h g1 (hf _ (cK hx))
end Go.Proofs.YtlhemmpklhhgoaaGreat
section
namespace Go.Proofs.YtlhemmpklhhgoaaGreat
open Classical in
noncomputable def fU(lim:Bool)(b:List (Int×Tm))(n:Int)(t:Tm):Int×List (Int×Tm):=
 if nO b n t then(5,b)else if lim=true/\ ¬ (∀p∈b++[(n,t)],yA (b++[(n,t)]) p.2)then(3,b++[(n,t)])else(0,b++[(n,t)])
open Classical in
noncomputable def gw(b:List (Int×Tm))(t:Tm):Option Tm:=if h:∃x g,kP g b t=some x then some h.choose else none
theorem cR{b:List (Int×Tm)}{g:Nat}{t x:Tm}(h:kP g b t=some x):gw b t=some x:=by
 have hx:∃x g,kP g b t=some x:=⟨x,g,h⟩
 unfold gw
 rw[dif_pos hx]
 obtain⟨g',h'⟩:=hx.choose_spec
 have e1:=gP h (Nat.le_max_left g g')
 rw[gP h' (Nat.le_max_right g g')]at e1
 exact e1
theorem rb{b:List (Int×Tm)}{t x:Tm}(h:gw b t=some x):∃g,kP g b t=some x:=by
 unfold gw at h
 split at h
 ·rename_i hx
  injection h with h
  subst h
  exact hx.choose_spec
 ·cases h
def lN(F:Tm->Tm->List (Int×Tm)->Option (Int×List (Int×Tm))):List Tm->List Tm->List (Int×Tm)->Option (Int×List (Int×Tm))
 |k::ks,k'::dx,b=>match F k k' b with
  |some (e,b1)=>if e=0 then lN F ks dx b1 else some (e,b1)
  |none=>none
 |_,_,b=>some (0,b)
noncomputable def jd(lim:Bool):Nat->Tm->Tm->List (Int×Tm)->Option (Int×List (Int×Tm))
 |0,_,_,_=>none
 |f+1,a,c,b=>match gw b a,gw b c with
  |some x,some y=>
   if x.op=1 then
    if y.op=1 then(if x.n=y.n then some (0,b)else some (fU lim b (max x.n y.n) (.mk 1 (min x.n y.n) [])))
    else some (fU lim b x.n y)
   else if y.op=1 then some (fU lim b y.n x)
   else if x.op=y.op/\x.n=y.n/\x.kids.length=y.kids.length then lN (jd lim f) x.kids y.kids b
   else some (5,b)
  |_,_=>none
noncomputable def jQ(lim:Bool)(top:Nat):Nat->List (Tm×Tm)->List (Int×Tm)->Option (Int×List (Int×Tm))
 |0,_,_=>none
 |f+1,[],b=>some (0,b)
 |f+1,(a,c)::st,b=>if st.length≥top then none else match gw b a,gw b c with
  |some x,some y=>
   if x.op=1 then
    if y.op=1 then(if x.n=y.n then jQ lim top f st b else
     if(fU lim b (max x.n y.n) (.mk 1 (min x.n y.n) [])).1=0 then jQ lim top f st (fU lim b (max x.n y.n) (.mk 1 (min x.n y.n) [])).2 else some (fU lim b (max x.n y.n) (.mk 1 (min x.n y.n) [])))
    else if(fU lim b x.n y).1=0 then jQ lim top f st (fU lim b x.n y).2 else some (fU lim b x.n y)
   else if y.op=1 then(if(fU lim b y.n x).1=0 then jQ lim top f st (fU lim b y.n x).2 else some (fU lim b y.n x))
   else if x.op=y.op/\x.n=y.n/\x.kids.length=y.kids.length then jQ lim top f (x.kids.zip y.kids++st) b
   else some (5,b)
  |_,_=>none
theorem lD{F G:Tm->Tm->List (Int×Tm)->Option (Int×List (Int×Tm))}(C1:∀k k' b r,F k k' b=some r->G k k' b=some r):∀ {ks dx:List Tm} {b:List (Int×Tm)} {r:Int×List (Int×Tm)},lN F ks dx b=some r->lN G ks dx b=some r
 |[],_,_,_,h=>by simpa[lN]using h
 |_::_,[],_,_,h=>by simpa[lN]using h
 |k::ks,k'::dx,b,r,h=>by
  simp only[lN]at h|-
  cases e:F k k' b with
  |none=>rw[e]at h;cases h
  |some q=>
   rw[e]at h
   rw[C1 _ _ _ _ e]
   dsimp only at h|-
   split at h
   ·rename_i e0;rw[if_pos e0];exact lD C1 h
   ·rename_i e0;rw[if_neg e0];exact h
theorem gR{lim:Bool}:∀ {f g:Nat} {t u:Tm} {b:List (Int×Tm)} {r:Int×List (Int×Tm)},jd lim f t u b=some r->f<=g->jd lim g t u b=some r
 |0,_,_,_,_,_,h,_=>by cases h
 |f+1,0,_,_,_,_,h,hg=>af
 |f+1,g+1,t,u,b,r,h,hg=>by
  simp only[jd]at h|-
  cases ha:gw b t with
  |none=>rw[ha]at h;cases h
  |some x=>
  cases hc:gw b u with
  |none=>rw[ha,hc]at h;cases h
  |some y=>
  rw[ha,hc]at h
  skip
  dsimp only at h|-
  split at h
  ·rename_i h1;rw[if_pos h1];exact h
  ·rename_i h1
   rw[if_neg h1]
   split at h
   ·rename_i h2;rw[if_pos h2];exact h
   ·rename_i h2
    rw[if_neg h2]
    split at h
    ·rename_i h3;rw[if_pos h3];exact lD (fun k k' b r hk=>gR hk af) h
    ·rename_i h3;rw[if_neg h3];exact h
theorem gy{lim:Bool}{top:Nat}:∀ {f g:Nat} {st:List (Tm×Tm)} {b:List (Int×Tm)} {r:Int×List (Int×Tm)},jQ lim top f st b=some r->f<=g->jQ lim top g st b=some r
 |0,_,_,_,_,h,_=>by cases h
 |f+1,0,_,_,_,h,hg=>af
 |f+1,g+1,[],b,r,h,hg=>h
 |f+1,g+1,(t,u)::st,b,r,h,hg=>by
  simp only[jQ]at h|-
  by_cases h0:st.length≥top
  ·rw[if_pos h0]at h;cases h
  rw[if_neg h0]at h|-
  cases ha:gw b t with
  |none=>rw[ha]at h;cases h
  |some x=>
  cases hc:gw b u with
  |none=>rw[ha,hc]at h;cases h
  |some y=>
  rw[ha,hc]at h
  skip
  dsimp only at h|-
  by_cases h1:x.op=1
  ·rw[if_pos h1]at h|-
   by_cases h2:y.op=1
   ·rw[if_pos h2]at h|-
    by_cases h3:x.n=y.n
    ·rw[if_pos h3]at h|-;exact gy h af
    ·rw[if_neg h3]at h|-
     split at h
     ·rename_i h4;rw[if_pos h4];exact gy h af
     ·rename_i h4;rw[if_neg h4];exact h
   ·rw[if_neg h2]at h|-
    split at h
    ·rename_i h4;rw[if_pos h4];exact gy h af
    ·rename_i h4;rw[if_neg h4];exact h
  ·rw[if_neg h1]at h|-
   by_cases h2:y.op=1
   ·rw[if_pos h2]at h|-
    split at h
    ·rename_i h4;rw[if_pos h4];exact gy h af
    ·rename_i h4;rw[if_neg h4];exact h
   ·rw[if_neg h2]at h|-
    split at h
    ·rename_i h4;rw[if_pos h4];exact gy h af
    ·rename_i h4;rw[if_neg h4];exact h
theorem E3{lim:Bool}{top W:Nat}{P:Tm->Prop}{I:List (Int×Tm)->Prop}(hP:∀t,P t->t.kids.length<=W/\∀k∈t.kids,P k)(hR:∀b t x,I b->P t->gw b t=some x->P x)
 (hI:∀f t u b b',jd lim f t u b=some (0,b')->I b->P t->P u->I b'):∀ (f:Nat) (t u:Tm) (b:List (Int×Tm)) (e:Int) (b':List (Int×Tm)),jd lim f t u b=some (e,b')->I b->P t->P u->∀ (st:List (Tm×Tm)) (n:Nat) (r:Int×List (Int×Tm)),st.length+f*W+1<=top->(if e=0 then jQ lim top n st b'=some r else r=(e,b'))->∃m,jQ lim top m ((t,u)::st) b=some r
 |0,_,_,_,_,_,h,_,_,_,_,_,_,_,_=>by cases h
 |f+1,t,u,b,e,b',h,Wv,hpt,hpu,st,n,r,afx,hr=>by
  simp only[jd]at h
  cases ha:gw b t with
  |none=>rw[ha]at h;cases h
  |some x=>
  cases hc:gw b u with
  |none=>rw[ha,hc]at h;cases h
  |some y=>
  rw[ha,hc]at h
  dsimp only at h
  have hpx:=hR b t x Wv hpt ha
  have hpy:=hR b u y Wv hpu hc
  have jT: ¬st.length≥top:=af
  have bnd:∀q:Int×List (Int×Tm),q=(e,b')->∀m,n<=m->(if q.1=0 then jQ lim top m st q.2 else some q)=some r:=by
   rintro q rfl m hm
   dsimp only
   split
   ·rename_i e0;rw[if_pos e0]at hr;exact gy hr hm
   ·rename_i e0;rw[if_neg e0]at hr;rw[hr]
  by_cases h1:x.op=1
  ·rw[if_pos h1]at h
   by_cases h2:y.op=1
   ·rw[if_pos h2]at h
    by_cases h3:x.n=y.n
    ·rw[if_pos h3]at h
     injection h with h
     injection h with h4 h5
     subst h4;subst h5
     rw[if_pos rfl]at hr
     refine⟨max f n+1, ?_⟩
     simp only[jQ]
     rw[if_neg jT,ha,hc]
     dsimp only
     rw[if_pos h1,if_pos h2,if_pos h3]
     exact gy hr (Nat.le_max_right _ _)
    ·rw[if_neg h3]at h
     injection h with h
     refine⟨max f n+1, ?_⟩
     simp only[jQ]
     rw[if_neg jT,ha,hc]
     dsimp only
     rw[if_pos h1,if_pos h2,if_neg h3]
     exact JT
   ·rw[if_neg h2]at h
    injection h with h
    refine⟨max f n+1, ?_⟩
    simp only[jQ]
    rw[if_neg jT,ha,hc]
    dsimp only
    rw[if_pos h1,if_neg h2]
    exact JT
  ·rw[if_neg h1]at h
   by_cases h2:y.op=1
   ·rw[if_pos h2]at h
    injection h with h
    refine⟨max f n+1, ?_⟩
    simp only[jQ]
    rw[if_neg jT,ha,hc]
    dsimp only
    rw[if_neg h1,if_pos h2]
    exact JT
   ·rw[if_neg h2]at h
    by_cases h3:x.op=y.op/\x.n=y.n/\x.kids.length=y.kids.length
    ·rw[if_pos h3]at h
     have hW:(f+1)*W=f*W+W:=by rw[Nat.add_mul,Nat.one_mul]
     have key:∀ (ks dx:List Tm) (b:List (Int×Tm)),(∀k∈ks,P k)->(∀k∈dx,P k)->I b->ks.length<=W->lN (jd lim f) ks dx b=some (e,b')->∃m,jQ lim top m (ks.zip dx++st) b=some r:=by
      intro ks
      induction ks with
      |nil=>
       intro dx b _ _ _ _ h
       exact ZD
      |cons k ks ih=>
       intro dx b m1 m2 Wv hlk h
       cases dx with
       |nil=>
        exact ZD
       |cons k' dx=>
        simp only[lN]at h
        cases he:jd lim f k k' b with
        |none=>rw[he]at h;cases h
        |some q=>
         obtain⟨e1,b1⟩:=q
         rw[he]at h
         dsimp only at h
         have Zj:(ks.zip dx++st).length+f*W+1<=top:=by
          rw[List.length_append,List.length_zip]
          rw[List.length_cons]at hlk
          omega
         by_cases e0:e1=0
         ·rw[if_pos e0]at h
          obtain⟨m,hm⟩:=ih dx b1 (fun z hz=>m1 z sM) (fun z hz=>m2 z sM) (hI f k k' b b1 (e0 ▸ he) Wv (m1 k aE) (m2 k' aE)) (by rw[List.length_cons]at hlk;omega) h
          exact E3 hP hR hI f k k' b e1 b1 he Wv (m1 k aE) (m2 k' aE) (ks.zip dx++st) m r Zj (by rw[if_pos e0];exact hm)
         ·rw[if_neg e0]at h
          injection h with h
          injection h with h4 h5
          subst h4;subst h5
          rw[if_neg e0]at hr
          exact E3 hP hR hI f k k' b e1 b1 he Wv (m1 k aE) (m2 k' aE) (ks.zip dx++st) n r Zj (by rw[if_neg e0];exact hr)
     obtain⟨m,hm⟩:=key x.kids y.kids b (hP x hpx).2 (hP y hpy).2 Wv (hP x hpx).1 h
     refine⟨max f m+1, ?_⟩
     simp only[jQ]
     rw[if_neg jT,ha,hc]
     dsimp only
     rw[if_neg h1,if_neg h2,if_pos h3]
     exact gy hm (Nat.le_max_right _ _)
    ·rw[if_neg h3]at h
     injection h with h
     injection h with h4 h5
     subst h4;subst h5
     rw[if_neg (by omega)]at hr
     subst hr
     refine⟨f+1, ?_⟩
     simp only[jQ]
     rw[if_neg jT,ha,hc]
     dsimp only
     rw[if_neg h1,if_neg h2,if_neg h3]
end Go.Proofs.YtlhemmpklhhgoaaGreat
end
