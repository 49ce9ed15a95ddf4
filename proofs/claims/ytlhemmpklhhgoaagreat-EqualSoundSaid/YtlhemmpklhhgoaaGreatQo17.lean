/-
  A PART OF THE PROOF. Conditions: none.
-/
import Derived.Test.YtlhemmpklhhgoaaGreatQo16
set_option linter.unusedSimpArgs false
set_option linter.unusedVariables false
namespace Go.Proofs.YtlhemmpklhhgoaaGreat
mutual
def tg:Tm->List Int
 | .mk op n kids=>if op=1 then [n]else Rb kids
def Rb:List Tm->List Int
 |[]=>[]
 |k::l=>tg k++Rb l
end
theorem DP:∀l:List Tm,Rb l=l.flatMap tg
 |[]=>rfl
 |k::l=>by rw[Rb,DP l,List.flatMap_cons]
theorem NJ(t:Tm):tg t=if t.op=1 then [t.n]else t.kids.flatMap tg:=by
 cases t;rw[tg,DP];rfl
theorem Vb{s:az}:∀t:Tm,Vs s t->∀v,v∈tg t↔fO v t=true:=by
 refine Tm.ek fun t ih hv v=> ?_
 rw[NJ]
 by_cases h1:t.op=1
 ·rw[if_pos h1,fG h1,List.mem_singleton];exact eq_comm
 ·rw[if_neg h1,pA hv h1,List.mem_flatMap]
  exact⟨fun⟨k,hk,h⟩=>⟨k,hk,(ih k hk (hv.ki hk) v).1 h⟩,fun⟨k,hk,h⟩=>⟨k,hk,(ih k hk (hv.ki hk) v).2 h⟩⟩
inductive oe (b:List (Int×Tm)) (n:Int):Tm->Prop where
 |here {t:Tm}:fO n t=true->oe b n t
 |step {t:Tm} {v:Int} {x:Tm}:fO v t=true->bQ b v=some x->oe b n x->oe b n t
theorem oe.mono {b c:List (Int×Tm)}(h:∀v x,bQ b v=some x->bQ c v=some x){t:Tm}{n:Int}(hr:oe b n t):oe c n t:=by
 induction hr with
 |here h1=>exact .here h1
 |step h1 h2 _ ih=>exact .step h1 (h _ _ h2) ih
def NK(F:Tm->List Int->Option (Bool×List Int))(b:List (Int×Tm))(n:Int):List Int->List Int->Option (Bool×List Int)
 |[],met=>some (false,met)
 |v::vs,met=>if v=n then some (true,met)else
  match bQ b v with
  |none=>NK F b n vs met
  |some x=>if v∈met then NK F b n vs met else
   match F x (ew met v)with
   |some (true,m)=>some (true,m)
   |some (false,m)=>NK F b n vs m
   |none=>none
def O8:Nat->List (Int×Tm)->Int->Tm->List Int->Option (Bool×List Int)
 |0,_,_,_,_=>none
 |f+1,b,n,t,met=>NK (O8 f b n) b n (tg t) met
theorem rB{F G:Tm->List Int->Option (Bool×List Int)}(DO:∀x m r,F x m=some r->G x m=some r){b:List (Int×Tm)}{n:Int}:∀ {vs met:List Int} {r:Bool×List Int},NK F b n vs met=some r->NK G b n vs met=some r
 |[],_,_,h=>h
 |v::vs,met,r,h=>by
  simp only[NK]at h|-
  split at h
  ·rename_i e;rw[if_pos e];exact h
  ·rename_i e
   rw[if_neg e]
   split at h
   ·exact rB DO h
   ·split at h
    ·rename_i e2;rw[if_pos e2];exact rB DO h
    ·rename_i x _ e2
     rw[if_neg e2]
     cases hF:F x (ew met v)with
     |none=>rw[hF]at h;cases h
     |some q=>
      rw[hF]at h
      rw[DO _ _ _ hF]
      obtain⟨is,m⟩:=q
      cases is with
      |true=>exact h
      |false=>exact rB DO h
theorem DS{b:List (Int×Tm)}{n:Int}:∀ {f g:Nat} {t:Tm} {met:List Int} {r:Bool×List Int},O8 f b n t met=some r->f<=g->O8 g b n t met=some r
 |0,_,_,_,_,h,_=>by cases h
 |f+1,0,_,_,_,h,hg=>af
 |f+1,g+1,t,met,r,h,hg=>rB (fun x m q hq=>DS hq af) h
def FU(b:List (Int×Tm))(n:Int)(m:List Int)(t:Tm):Prop:=∀v,fO v t=true->v≠n/\∀x,bQ b v=some x->v∈m
theorem FU.mono {b:List (Int×Tm)}{n:Int}{m m':List Int}(h:∀v∈m,v∈m'){t:Tm}(ht:FU b n m t):FU b n m' t:=fun v hv=>⟨(ht v hv).1,fun x hx=>h v ((ht v hv).2 x hx)⟩
def LdQ(b:List (Int×Tm))(n:Int)(met:List Int)(t:Tm)(is:Bool)(fQ:List Int):Prop:=
 (is=true->oe b n t)/\(is=false->(∀v∈met,v∈fQ)/\FU b n fQ t/\∀v∈fQ,v∉met->∀x,bQ b v=some x->FU b n fQ x)
def xF(b:List (Int×Tm))(met:List Int):Nat:=((b.map (·.1)).filter fun v=> !met.contains v).length
theorem uZ{b:List (Int×Tm)}{met:List Int}{v:Int}{x:Tm}(h:bQ b v=some x)(hm:v∉met):xF b (ew met v)<xF b met:=by
 unfold xF
 have hv:v∈b.map (·.1):=List.mem_map.2 ⟨_,ck h,rfl⟩
 generalize b.map (·.1)=ks at hv
 have hle:∀ks:List Int,(ks.filter fun u=> !(ew met v).contains u).length<=(ks.filter fun u=> !met.contains u).length:=by
  intro ks
  refine(List.Sublist.length_le ?_)
  rw[show(ks.filter fun u=> !(ew met v).contains u)=(ks.filter fun u=> !met.contains u).filter fun u=> !(ew met v).contains u by
   rw[List.filter_filter]
   congr 1
   funext u
   cases e:(ew met v).contains u with
   |true=>rfl
   |false=>
    cases e2:met.contains u with
    |false=>rfl
    |true=>
     rw[List.contains_iff_mem]at e2
     have:(ew met v).contains u=true:=List.contains_iff_mem.2 (kj.2 (.inl e2))
     rw[this]at e;cases e]
  exact List.filter_sublist
 induction ks with
 |nil=>cases hv
 |cons u ks ih=>
  by_cases e:u=v
  ·subst e
   have h1:(ew met u).contains u=true:=List.contains_iff_mem.2 (kj.2 (.inr rfl))
   have h2:met.contains u=false:=by rw[Bool.eq_false_iff];intro h;exact hm (List.contains_iff_mem.1 h)
   rw[List.filter_cons,List.filter_cons,h1,h2]
   simp only[Bool.not_true,Bool.false_eq_true,if_false,Bool.not_false,if_true,List.length_cons]
   have:=hle ks
   omega
  ·have qm:v∈ks:=by
    rcases List.mem_cons.1 hv with h|h
    ·exact absurd h.symm e
    ·exact h
   have:=ih qm
   rw[List.filter_cons,List.filter_cons]
   have hu:(ew met v).contains u=met.contains u:=by
    rw[Bool.eq_iff_iff,List.contains_iff_mem,List.contains_iff_mem,kj]
    exact⟨fun h=>h.elim id fun h=>absurd h e, .inl⟩
   rw[hu]
   split
   ·rw[List.length_cons,List.length_cons];omega
   ·exact this
theorem DT{b:List (Int×Tm)}{m m':List Int}(h:∀v∈m,v∈m'):xF b m'<=xF b m:=by
 unfold xF
 refine List.Sublist.length_le ?_
 rw[show((b.map (·.1)).filter fun u=> !m'.contains u)=((b.map (·.1)).filter fun u=> !m.contains u).filter fun u=> !m'.contains u by
  rw[List.filter_filter]
  congr 1
  funext u
  cases e:m'.contains u with
  |true=>rfl
  |false=>
   cases e2:m.contains u with
   |false=>rfl
   |true=>
    rw[List.contains_iff_mem]at e2
    have:m'.contains u=true:=List.contains_iff_mem.2 (h u e2)
    rw[this]at e;cases e]
 exact List.filter_sublist
theorem HV{s:az}{b:List (Int×Tm)}(hb:∀p∈b,Vs s p.2)(n:Int):∀ (N:Nat) (t:Tm) (met:List Int),xF b met<=N->Vs s t->∃is fQ,O8 (N+1) b n t met=some (is,fQ)/\LdQ b n met t is fQ
 |N,t,met,hN,ht=>by
  have key:∀ (vs met:List Int),xF b met<=N->(∀v∈vs,fO v t=true)->∃is fQ,NK (O8 N b n) b n vs met=some (is,fQ)/\(is=true->oe b n t)/\
   (is=false->(∀v∈met,v∈fQ)/\(∀v∈vs,v≠n/\∀x,bQ b v=some x->v∈fQ)/\∀v∈fQ,v∉met->∀x,bQ b v=some x->FU b n fQ x):=by
   intro vs
   induction vs with
   |nil=>intro met _ _;exact⟨false,met,rfl,fun h=>jQ,fun _=>⟨fun _ h=>h,fun _ h=>jQ,fun v h h'=>absurd h h'⟩⟩
   |cons v vs ih=>
    intro met hm FN
    have hv:=FN v aE
    have YA:∀u∈vs,fO u t=true:=fun u hu=>FN u (by simp[hu])
    simp only[NK]
    by_cases e:v=n
    ·rw[if_pos e]
     exact⟨true,met,rfl,fun _=> .here (e ▸ hv),fun h=>by cases h⟩
    ·rw[if_neg e]
     cases hl:bQ b v with
     |none=>
      obtain⟨is,fQ,h1,h2,h3⟩:=ih met hm YA
      refine⟨is,fQ,h1,h2,fun h=>⟨(h3 h).1,fun u hu=> ?_,(h3 h).2.2⟩⟩
      rcases List.mem_cons.1 hu with rfl|hu
      ·exact⟨e,fun x hx=>by rw[hl]at hx;cases hx⟩
      ·exact(h3 h).2.1 u hu
     |some x=>
      simp only
      by_cases e2:v∈met
      ·rw[if_pos e2]
       obtain⟨is,fQ,h1,h2,h3⟩:=ih met hm YA
       refine⟨is,fQ,h1,h2,fun h=>⟨(h3 h).1,fun u hu=> ?_,(h3 h).2.2⟩⟩
       rcases List.mem_cons.1 hu with rfl|hu
       ·exact⟨e,fun _ _=>(h3 h).1 _ e2⟩
       ·exact(h3 h).2.1 u hu
      ·rw[if_neg e2]
       have hu:=uZ hl e2
       obtain⟨N',rfl⟩:∃N',N=N'+1:=⟨N - 1,af⟩
       obtain⟨is1,m1,g1,g2,g3⟩:=HV hb n N' x (ew met v) af (hb _ (ck hl))
       rw[g1]
       cases is1 with
       |true=>exact⟨true,m1,rfl,fun _=> .step hv hl (g2 rfl),fun h=>by cases h⟩
       |false=>
        obtain⟨k1,k2,k3⟩:=g3 rfl
        have k0:∀u∈met,u∈m1:=fun u hu=>k1 u (kj.2 (.inl hu))
        obtain⟨is,fQ,h1,h2,h3⟩:=ih m1 (by have:=DT (b:=b) k0;omega) YA
        refine⟨is,fQ,h1,h2,fun h=> ?_⟩
        obtain⟨j1,j2,j3⟩:=h3 h
        refine⟨fun u hu=>j1 u (k0 u hu),fun u hu=> ?_,fun u hu hnu y hy=> ?_⟩
        ·rcases List.mem_cons.1 hu with rfl|hu
         ·exact⟨e,fun _ _=>j1 _ (k1 _ (kj.2 (.inr rfl)))⟩
         ·exact j2 u hu
        ·by_cases KG:u∈m1
         ·by_cases huv:u=v
          ·subst huv
           rw[hl]at hy
           cases hy
           exact k2.mono j1
          ·exact(k3 u KG (fun h=>(kj.1 h).elim hnu huv) y hy).mono j1
         ·exact j3 u hu KG y hy
  obtain⟨is,fQ,h1,h2,h3⟩:=key (tg t) met hN fun v hv=>(Vb t ht v).1 hv
  exact⟨is,fQ,h1,h2,fun h=>⟨(h3 h).1,fun v hv=>(h3 h).2.1 v ((Vb t ht v).2 hv),(h3 h).2.2⟩⟩
theorem YB{s:az}{b:List (Int×Tm)}(hb:∀p∈b,Vs s p.2)(n:Int){t:Tm}(ht:Vs s t):∃is fQ,O8 (b.length+1) b n t []=some (is,fQ)/\(is=true↔oe b n t):=by
 have hN:xF b []<=b.length:=by
  unfold xF
  exact aaX
 obtain⟨is,fQ,h1,h2,h3⟩:=HV hb n b.length t [] hN ht
 refine⟨is,fQ,h1,h2,fun hr=> ?_⟩
 cases is with
 |true=>rfl
 |false=>
  obtain⟨_,k2,k3⟩:=h3 rfl
  exfalso
  have:∀t,oe b n t-> ¬FU b n fQ t:=by
   intro t hr
   induction hr with
   |here h=>exact fun hs=>(hs _ h).1 rfl
   |step h1 h2 _ ih=>exact fun hs=>ih (k3 _ ((hs _ h1).2 _ h2) aE _ h2)
  exact this t hr k2
def qh(l more:List Int):List Int:=more.foldl ew l
theorem FV:∀ {more l:List Int} {v:Int},v∈qh l more↔v∈l\/v∈more
 |[],l,v=>by simp[qh]
 |u::more,l,v=>by
  show v∈qh (ew l u) more↔_
  rw[FV,kj,List.mem_cons,or_assoc]
theorem NL:∀ (more l:List Int),∃r,qh l more=l++r
 |[],l=>⟨[],by simp[qh]⟩
 |u::more,l=>by
  obtain⟨r,hr⟩:=NL more (ew l u)
  show ∃r,qh (ew l u) more=_
  rw[hr]
  unfold ew
  split
  ·exact⟨r,rfl⟩
  ·exact⟨[u]++r,by rw[List.append_assoc]⟩
theorem wZ:∀ (more l:List Int),l.Nodup->(qh l more).Nodup
 |[],l,h=>h
 |u::more,l,h=>wZ more (ew l u) (FL u h)
def NM(b:List (Int×Tm))(all:List Int)(v:Int):List Int:=match bQ b v with
 |some x=>qh all (cJ x)
 |none=>all
theorem Rc(b:List (Int×Tm))(all:List Int)(v:Int):∃r,NM b all v=all++r:=by
 unfold NM
 split
 ·exact NL _ _
 ·exact⟨[],aE⟩
theorem Kg(b:List (Int×Tm)){all:List Int}(v:Int)(h:all.Nodup):(NM b all v).Nodup:=by
 unfold NM
 split
 ·exact wZ _ _ h
 ·exact h
theorem DU{l:List Int}(hn:l.Nodup)(h:∀v∈l,0<=v/\v<20):l.length<=20:=by
 have:∀ (n:Nat) (l:List Int),l.Nodup->(∀v∈l,0<=v/\v<(n:Int))->l.length<=n:=by
  intro n
  induction n with
  |zero=>
   intro l _ h
   cases l with
   |nil=>exact Nat.le_refl _
   |cons a l=>have:=h a aE;omega
  |succ n ih=>
   intro l hn h
   have h1:=ih (l.erase (n:Int)) (hn.erase _) fun v hv=>by
    have iu:v≠(n:Int):=fun e=>by
     subst e
     exact hn.not_mem_erase hv
    have:=h v (List.mem_of_mem_erase hv)
    omega
   have h2:l.length<=(l.erase (n:Int)).length+1:=by
    by_cases hm:(n:Int)∈l
    ·rw[List.length_erase_of_mem hm];omega
    ·rw[List.erase_of_not_mem hm];omega
   omega
 exact this 20 l hn h
structure Re (s:az) (b:List (Int×Tm)) (t:Tm) (i:Nat) (all:List Int):Prop where
 nd:all.Nodup
 rg:∀v∈all,0<=v/\v<20
 le:i<=all.length
 fst:∀v,fO v t=true->v∈all
 snd:∀v∈all,oe b v t
 cl:∀j,j<i->∀v x,all[j]? =some v->bQ b v=some x->∀u,fO u x=true->u∈all
theorem Re.zero {s:az}{b:List (Int×Tm)}{t:Tm}(ht:Vs s t):Re s b t 0 (qh [] (cJ t)):=by
 have hm:∀v,v∈qh [] (cJ t)↔fO v t=true:=fun v=>by rw[FV,(cO t).2 v];simp
 exact⟨wZ _ _ List.nodup_nil,fun v hv=>ht.range ((hm v).1 hv),Nat.zero_le _,fun v hv=>(hm v).2 hv,fun v hv=> .here ((hm v).1 hv),fun j hj=>absurd hj (Nat.not_lt_zero _)⟩
theorem oe.trans {b:List (Int×Tm)}{t:Tm}{v:Int}(h:oe b v t){x:Tm}(hx:bQ b v=some x){n:Int}(hn:oe b n x):oe b n t:=by
 induction h with
 |here h1=>exact .step h1 hx hn
 |step h1 h2 _ ih=>exact .step h1 h2 ih
theorem Re.succ {s:az}{b:List (Int×Tm)}(hb:∀p∈b,Vs s p.2){t:Tm}{i:Nat}{all:List Int}(h:Re s b t i all){v:Int}(hv:all[i]? =some v):Re s b t (i+1) (NM b all v):=by
 obtain⟨r,hr⟩:=Rc b all v
 have hi:=(List.getElem?_eq_some_iff.1 hv).1
 have hvm:=List.mem_of_getElem? hv
 have hm:∀u,u∈NM b all v↔u∈all\/∃x,bQ b v=some x/\fO u x=true:=fun u=>by
  unfold NM
  cases hl:bQ b v with
  |none=>simp
  |some x=>simp only[FV,(cO x).2 u,Option.some.injEq,exists_eq_left']
 refine⟨Kg b v h.nd,fun u hu=> ?_,by rw[hr,List.length_append];omega,fun u hu=>(hm u).2 (.inl (h.fst u hu)),fun u hu=> ?_,fun j hj w x hw hx u hu=> ?_⟩
 ·rcases(hm u).1 hu with hu|⟨x,hx,hu⟩
  ·exact h.rg u hu
  ·exact(hb _ (ck hx)).range hu
 ·rcases(hm u).1 hu with hu|⟨x,hx,hu⟩
  ·exact h.snd u hu
  ·exact(h.snd v hvm).trans hx (.here hu)
 ·rw[hr,List.getElem?_append_left (by omega)]at hw
  rcases Nat.lt_or_ge j i with hji|hji
  ·exact(hm u).2 (.inl (h.cl j hji w x hw hx u hu))
  ·have:j=i:=af
   subst this
   rw[hv]at hw
   cases hw
   exact(hm u).2 (.inr ⟨x,hx,hu⟩)
theorem Bd{s:az}{b:List (Int×Tm)}{l:List TB}{ρ:Int->Nat}{R:Nat}(h:kn s b l ρ R)(hl:iq s l){n:Int}(hn:bQ b n=none){t:Tm}(ht:Vs s t):fO n (aR (ag l) t)=true↔oe b n t:=by
 have hln:Lv (ag l) n= .mk 1 n []:=by simp[Lv,(h.xC n).1 hn]
 constructor
 ·have key:∀ (r:Nat) (t:Tm),Vs s t->(∀u,fO u t=true->ρ u<r)->fO n (aR (ag l) t)=true->oe b n t:=by
   intro r
   induction r with
   |zero=>
    intro t ht hr hf
    obtain⟨u,hu,_⟩:=(tY hl.bd t ht n).1 hf
    exact absurd (hr u hu) (Nat.not_lt_zero _)
   |succ r ih=>
    intro t ht hr hf
    obtain⟨u,hu,hf⟩:=(tY hl.bd t ht n).1 hf
    cases hx:bQ b u with
    |none=>
     have:Lv (ag l) u= .mk 1 u []:=by simp[Lv,(h.xC u).1 hx]
     rw[this,nY]at hf
     have:u=n:=by simpa using hf
     exact .here (this ▸ hu)
    |some x=>
     obtain⟨g1,g2,g3⟩:=h.ok u x hx
     rw[g2]at hf
     have:=hr u hu
     exact .step hu hx (ih x g1 (fun w hw=>by have:=g3 w hw;omega) hf)
  exact key (R+1) t ht fun u _=>by have:=h.bd u;omega
 ·intro hr
  induction hr with
  |here h1=>exact(tY hl.bd _ ht n).2 ⟨n,h1,by rw[hln,nY];simp⟩
  | @step t v x h1 h2 _ ih=>
    obtain⟨g1,g2,g3⟩:=h.ok v x h2
    exact(tY hl.bd _ ht _).2 ⟨v,h1,by rw[g2];exact ih g1⟩
def YC(b:List (Int×Tm)):Prop:=∀v x,bQ b v=some x-> ¬oe b v x
theorem NN{s:az}{b:List (Int×Tm)}(Ar:(b.map (·.1)).Nodup)(aY:∀p∈b,(0<=p.1/\p.1<20)/\Vs s p.2)(ha:YC b):∃l ρ R,kn s b l ρ R/\iq s l:=by
 have key:∀k,k<=b.length->∃l ρ R,kn s (b.take k) l ρ R/\iq s l:=by
  intro k
  induction k with
  |zero=>intro _;exact⟨[],fun _=>0,0,by rw[List.take_zero];exact kn.nil,iq.nil⟩
  |succ k ih=>
   intro hk
   obtain⟨l,ρ,R,h,hl⟩:=ih af
   obtain⟨⟨n,y⟩,hp⟩:∃p,b[k]? =some p:=⟨_,List.getElem?_eq_getElem (show k<b.length from af)⟩
   have hpm:=List.mem_of_getElem? hp
   have sb:b.take (k+1)=b.take k++[(n,y)]:=by rw[List.take_add_one,hp];rfl
   have Rf:((b.take (k+1)).map (·.1)).Nodup:=Ar.sublist ((List.take_sublist _ _).map _)
   have hn:bQ (b.take k) n=none:=by
    rw[lS]
    rw[sb,List.map_append,List.nodup_append]at Rf
    exact fun hm=>Rf.2.2 n hm n aE rfl
   obtain⟨hr,hy⟩:=aY _ hpm
   have ug:∀v x,bQ (b.take k) v=some x->bQ b v=some x:=fun v x hx=>(fW Ar).2 (List.mem_of_mem_take (ck hx))
   have hny: ¬fO n (aR (ag l) y)=true:=fun hf=>ha n y ((fW Ar).2 hpm) (((Bd h hl hn hy).1 hf).mono ug)
   obtain⟨NI,R',h'⟩:=h.ext hl hn hy hny
   rw[sb]
   exact⟨_,NI,R',h',rA hl hr ((h.xC n).1 hn) (Vs.sub hl.bd y hy) (fun u hu=>hl.free hy hu) hny⟩
 have:=key b.length (Nat.le_refl _)
 rwa [List.take_length]at this
theorem kn.FW {s:az}{b:List (Int×Tm)}{l:List TB}{ρ:Int->Nat}{R:Nat}(h:kn s b l ρ R):YC b:=by
 have key:∀t n,oe b n t->∀r,(∀u,fO u t=true->ρ u<r)->ρ n<r:=by
  intro t n hr
  induction hr with
  |here h1=>exact fun r hr=>hr _ h1
  |step h1 h2 _ ih=>
   intro r hr
   have h3:=ih _ (h.ok _ _ h2).2.2
   have:=hr _ h1
   omega
 intro v x hx hr
 have:=key x v hr _ (h.ok v x hx).2.2
 omega
def BO(F:Tm->Int->Option Int):List Tm->Int->Option Int
 |[],n=>some n
 |k::ks,n=>if n<0 then some n else match F k n with
  |some m=>BO F ks m
  |none=>none
def tZ:Nat->List (Int×Tm)->Tm->Int->Nat->Option Int
 |0,_,_,_,_=>none
 |f+1,b,t,n,d=>match lC f b t with
  |some x=>(match d with
   |0=>some (-1)
   |d+1=>BO (fun k m=>tZ f b k m d) x.kids (n - 1))
  |none=>none
theorem DV{F:Tm->Int->Option Int}:∀ {ks:List Tm} (n:Int),(∀k∈ks,∀m,∃r,F k m=some r)->∃r,BO F ks n=some r
 |[],n,_=>⟨n,rfl⟩
 |k::ks,n,h=>by
  simp only[BO]
  split
  ·exact⟨n,rfl⟩
  ·obtain⟨r,hr⟩:=h k aE n
   rw[hr]
   exact DV r fun y hy=>h y lD
theorem DW{F G:Tm->Int->Option Int}(DO:∀k m r,F k m=some r->G k m=some r):∀ {ks:List Tm} {n r:Int},BO F ks n=some r->BO G ks n=some r
 |[],_,_,h=>h
 |k::ks,n,r,h=>by
  simp only[BO]at h|-
  split at h
  ·rename_i e;rw[if_pos e];exact h
  ·rename_i e
   rw[if_neg e]
   cases hF:F k n with
   |none=>rw[hF]at h;cases h
   |some q=>rw[hF]at h;rw[DO _ _ _ hF];exact DW DO h
theorem w6{b:List (Int×Tm)}:∀ {f g:Nat} {t:Tm} {n:Int} {d:Nat} {r:Int},tZ f b t n d=some r->f<=g->tZ g b t n d=some r
 |0,_,_,_,_,_,h,_=>by cases h
 |f+1,0,_,_,_,_,h,hg=>af
 |f+1,g+1,t,n,d,r,h,hg=>by
  simp only[tZ]at h|-
  cases ha:lC f b t with
  |none=>rw[ha]at h;cases h
  |some x=>
   rw[ha]at h
   rw[hZ ha (show f<=g by omega)]
   cases d with
   |zero=>exact h
   |succ d=>exact DW (fun k m q hq=>w6 hq af) h
theorem LK{s:az}{b:List (Int×Tm)}{l:List TB}{ρ:Int->Nat}{R:Nat}(h:kn s b l ρ R):∀ (d:Nat) (t:Tm) (n:Int),Vs s t->∃r,tZ (R+3+d) b t n d=some r
 |0,t,n,ht=>by
  obtain⟨x,a1,_⟩:=h.root ht
  exact⟨-1,by simp only[tZ];rw[show R+2+0=R+2 from rfl,a1]⟩
 |d+1,t,n,ht=>by
  obtain⟨x,a1,a2,_⟩:=h.root ht
  show ∃r,tZ ((R+3+d)+1) b t n (d+1)=some r
  simp only[tZ]
  rw[hZ a1 (show R+2<=R+3+d by omega)]
  exact DV _ fun k hk m=>LK h d k m (a2.ki hk)
def zB(b:List (Int×Tm))(t:Tm):Prop:=∃f r,tZ f b t 40 12=some r/\0<=r
theorem HW{b:List (Int×Tm)}{t:Tm}{f:Nat}{r:Int}(h:tZ f b t 40 12=some r):zB b t↔0<=r:=by
 refine⟨fun⟨g,q,h1,h2⟩=> ?_,fun hr=>⟨f,r,h,hr⟩⟩
 have e1:=w6 h (Nat.le_max_left f g)
 rw[w6 h1 (Nat.le_max_right f g)]at e1
 cases e1
 exact h2
def DX(F:Tm->Option Tm):List Tm->Option (List Tm)
 |[]=>some []
 |k::ks=>match F k,DX F ks with
  |some x,some xs=>some (x::xs)
  |_,_=>none
def u5:Nat->List (Int×Tm)->Tm->Option Tm
 |0,_,_=>none
 |f+1,b,t=>match lC f b t with
  |some x=>(DX (u5 f b) x.kids).map fun ks=> .mk x.op x.n ks
  |none=>none
theorem u6{F:Tm->Option Tm}{g:Tm->Tm}:∀ {ks:List Tm},(∀k∈ks,F k=some (g k))->DX F ks=some (ks.map g)
 |[],_=>rfl
 |k::ks,h=>by simp only[DX];rw[h k (by simp),u6 fun y hy=>h y (by simp[hy])];rfl
theorem DY{F G:Tm->Option Tm}(DO:∀k r,F k=some r->G k=some r):∀ {ks xs:List Tm},DX F ks=some xs->DX G ks=some xs
 |[],_,h=>h
 |k::ks,xs,h=>by
  simp only[DX]at h|-
  cases h1:F k with
  |none=>rw[h1]at h;cases h
  |some x=>
   cases h2:DX F ks with
   |none=>rw[h1,h2]at h;cases h
   |some ys=>rw[h1,h2]at h;rw[DO _ _ h1,DY DO h2];exact h
theorem ig{b:List (Int×Tm)}:∀ {f g:Nat} {t x:Tm},u5 f b t=some x->f<=g->u5 g b t=some x
 |0,_,_,_,h,_=>by cases h
 |f+1,0,_,_,h,hg=>af
 |f+1,g+1,t,x,h,hg=>by
  simp only[u5]at h|-
  cases ha:lC f b t with
  |none=>rw[ha]at h;cases h
  |some y=>
   rw[ha]at h
   rw[hZ ha (show f<=g by omega)]
   dsimp only at h|-
   cases h2:DX (u5 f b) y.kids with
   |none=>rw[h2]at h;cases h
   |some ys=>rw[h2]at h;rw[DY (fun k r hr=>ig hr (by omega)) h2];exact h
theorem pB{s:az}{b:List (Int×Tm)}{l:List TB}{ρ:Int->Nat}{R:Nat}(h:kn s b l ρ R):∀ (z:Nat) (t:Tm),Vs s t->(aR (ag l) t).sz<=z->u5 (R+3+z) b t=some (aR (ag l) t)
 |0,t,_,hz=>by have:=Tm.sY (aR (ag l) t);omega
 |z+1,t,ht,hz=>by
  obtain⟨x,a1,a2,a3,a4,_⟩:=h.root ht
  show u5 ((R+3+z)+1) b t=_
  simp only[u5]
  rw[hZ a1 (show R+2<=R+3+z by omega)]
  by_cases h1:x.op=1
  ·have e:=a2.eta h1
   have hk:x.kids=[]:=by rw[e];rfl
   have:aR (ag l) x=x:=by
    rw[du a2 h1,show Lv (ag l) x.n= .mk 1 x.n [] by simp[Lv,(h.xC _).1 (a4 h1)]];exact e.symm
   rw[<- a3,this]
   dsimp only
   rw[hk]
   show some (Tm.mk x.op x.n [])=some x
   rw[<- hk,Tm.eta]
  ·have hv:=dY (b:=ag l) h1
   have hk:∀k∈x.kids,u5 (R+3+z) b k=some (aR (ag l) k):=fun k hk=>by
    refine pB h z k (a2.ki hk) ?_
    have h3:aR (ag l) k∈(aR (ag l) x).kids:=by rw[hv];exact List.mem_map.2 ⟨k,hk,rfl⟩
    have h4:=Tm.l7 h3
    rw[a3]at h4
    omega
   dsimp only
   rw[u6 hk, <- a3,hv]
   rfl
def HX:Nat->List (Int×Tm)->Tm->Nat->Option Tm
 |0,_,_,_=>none
 |f+1,b,t,d=>if t.op=1 then(match bQ b t.n with
   |some x=>(match d with
    |0=>none
    |d+1=>HX f b x d)
   |none=>some t)
  else(DX (fun k=>HX f b k d) t.kids).map fun ks=> .mk t.op t.n ks
def th(b:List (Int×Tm))(ρ:Int->Nat)(r:Nat):Nat:=((b.map (·.1)).filter fun u=>decide (ρ u<r)).length
theorem HY{b:List (Int×Tm)}{ρ:Int->Nat}{v:Int}{x:Tm}(hv:bQ b v=some x){r:Nat}(hr:ρ v<r):th b ρ (ρ v)<th b ρ r:=by
 unfold th
 have hm:v∈b.map (·.1):=List.mem_map.2 ⟨_,ck hv,rfl⟩
 generalize b.map (·.1)=ks at hm
 have hle:∀ks:List Int,(ks.filter fun u=>decide (ρ u<ρ v)).length<=(ks.filter fun u=>decide (ρ u<r)).length:=by
  intro ks
  induction ks with
  |nil=>exact Nat.le_refl _
  |cons u ks ih=>
   rw[List.filter_cons,List.filter_cons]
   by_cases e:ρ u<ρ v
   ·rw[if_pos (by simpa using e),if_pos (by simp;omega),List.length_cons,List.length_cons];omega
   ·rw[if_neg (by simpa using e)]
    split
    ·rw[List.length_cons];omega
    ·exact ih
 induction ks with
 |nil=>cases hm
 |cons u ks ih=>
  rw[List.filter_cons,List.filter_cons]
  by_cases e:u=v
  ·subst e
   rw[if_neg (by simp),if_pos (by simpa using hr),List.length_cons]
   have:=hle ks
   omega
  ·have:=ih ((List.mem_cons.1 hm).resolve_left fun h=>e h.symm)
   by_cases e2:ρ u<ρ v
   ·rw[if_pos (by simpa using e2),if_pos (by simp;omega),List.length_cons,List.length_cons];omega
   ·rw[if_neg (by simpa using e2)]
    split
    ·rw[List.length_cons];omega
    ·exact this
theorem aeP{s:az}{b:List (Int×Tm)}{l:List TB}{ρ:Int->Nat}{R:Nat}(h:kn s b l ρ R):∀ (r:Nat) (t:Tm) (d:Nat),Vs s t->(∀u,fO u t=true->ρ u<r)->th b ρ r<=d->∃f,∀g,f<=g->HX g b t d=some (aR (ag l) t):=by
 intro r
 induction r using Nat.strongRecOn with
 |ind r ihr=>
  refine Tm.ek fun t ih d ht hr hd=> ?_
  by_cases h1:t.op=1
  ·have hv:fO t.n t=true:=(fG h1).2 rfl
   cases hx:bQ b t.n with
   |none=>
    refine⟨1,fun g hg=> ?_⟩
    obtain⟨g,rfl⟩:∃k,g=k+1:=⟨g - 1,af⟩
    simp only[HX]
    rw[if_pos h1,hx,du ht h1,show Lv (ag l) t.n= .mk 1 t.n [] by simp[Lv,(h.xC _).1 hx]]
    exact congrArg some (ht.eta h1)
   |some x=>
    obtain⟨g1,g2,g3⟩:=h.ok _ _ hx
    have h3:=HY hx (hr _ hv)
    obtain⟨d,rfl⟩:∃k,d=k+1:=⟨d - 1,af⟩
    obtain⟨f,hf⟩:=ihr _ (hr _ hv) x d g1 g3 af
    refine⟨f+1,fun g hg=> ?_⟩
    obtain⟨g,rfl⟩:∃k,g=k+1:=⟨g - 1,af⟩
    simp only[HX]
    rw[if_pos h1,hx]
    dsimp only
    rw[hf g (by omega), <- g2,du ht h1]
  ·have key:∀ks:List Tm,(∀k∈ks,k∈t.kids)->∃f,∀g,f<=g->∀k∈ks,HX g b k d=some (aR (ag l) k):=by
    intro ks
    induction ks with
    |nil=>intro _;exact⟨0,fun _ _ _ h=>by cases h⟩
    |cons k ks uF=>
     intro hks
     obtain⟨f1,fh⟩:=uF fun y hy=>hks y lD
     obtain⟨f2,mR⟩:=ih k (hks k aE) d (ht.ki (hks k aE)) (fun u hu=>hr u ((pA ht h1).2 ⟨k,hks k aE,hu⟩)) hd
     refine⟨max f1 f2,fun g hg y hy=> ?_⟩
     rcases List.mem_cons.1 hy with rfl|hy
     ·exact mR g af
     ·exact fh g af y hy
   obtain⟨f,hf⟩:=key t.kids fun _ h=>h
   refine⟨f+1,fun g hg=> ?_⟩
   obtain⟨g,rfl⟩:∃k,g=k+1:=⟨g - 1,af⟩
   simp only[HX]
   rw[if_neg h1,u6 (hf g (by omega)),dY h1]
   rfl
theorem Be{s:az}{b:List (Int×Tm)}{l:List TB}{ρ:Int->Nat}{R:Nat}(h:kn s b l ρ R){t:Tm}(ht:Vs s t):∃f,HX f b t b.length=some (aR (ag l) t):=by
 obtain⟨f,hf⟩:=aeP h (R+1) t b.length ht (fun u _=>by have:=h.bd u;omega) (by
  unfold th
  exact Nat.le_trans (List.length_filter_le _ _) aaK)
 exact⟨f,hf f (Nat.le_refl _)⟩
def pnF(s:az)(t:Tm):Bool:=
 let k:Int:=t.kids.length
 if t.op=16 then t.n==0&&k==0
 else if t.op=1 then dU t.n 0 199&&k==0
 else if t.op=2 then dU t.n (-1000000) 1000000&&k==0
 else if t.op=3 then dU t.n 0 (s.cons.length - 1)&&k==iM s.cons t.n
 else if t.op=5 then dU t.n 0 (s.bZ.length - 1)&&decide (k<iM s.bZ t.n)
 else false
mutual
def Kh(s:az):Tm->Bool
 | .mk op n kids=>HZ s kids&&pnF s (.mk op n kids)
def HZ(s:az):List Tm->Bool
 |[]=>true
 |k::l=>Kh s k&&HZ s l
end
theorem zD(s:az):∀l:List Tm,HZ s l=l.all (Kh s)
 |[]=>rfl
 |k::l=>by rw[HZ,zD s l];rfl
theorem Rg(s:az)(t:Tm):Kh s t=(t.kids.all (Kh s)&&pnF s t):=by cases t;rw[Kh,zD];rfl
def Pn(s:az)(t:Tm):Prop:=Kh s t=true
theorem YD{s:az}{t:Tm}:Pn s t↔pnF s t=true/\∀k∈t.kids,Pn s k:=by
 unfold Pn;rw[Rg,Bool.and_eq_true,List.all_eq_true];exact and_comm
theorem Pn.ki {s:az}{t k:Tm}(h:Pn s t)(hk:k∈t.kids):Pn s k:=(YD.1 h).2 k hk
def xX{σ:Type}(step:σ->Tm->σ×Bool):σ->List Tm->Int->Int
 |_,[],_=> -1
 |s,x::l,k=>if(step s x).2=true then xX step (step s x).1 l (k+1)else k
theorem H3{σ:Type}(step:σ->Tm->σ×Bool):∀ (l:List Tm) (s:σ) (k:Int),0<=k->(0<=xX step s l k↔(aQ step s l).2=false)
 |[],_,_,_=>by simp[xX,aQ]
 |x::l,s,k,hk=>by
  have ih:=H3 step l (step s x).1 (k+1) af
  by_cases h:(step s x).2=true
  ·simp only[xX,aQ,h,if_true];exact ih
  ·simp[xX,aQ,h,hk]
theorem YE{σ:Type}(l:List Tm)(hl:l.length<=9223372036854775807)(g:Nat)(bR:List V)(base:Nat)(H:σ->Nat->ad)(step:σ->Tm->σ×Bool)(hc:∀r∈V.aL bR,r<base)(ok:σ->Prop)(aY:∀x∈l,∀s,ok s->(step s x).2=true->ok (step s x).1)
 (h:∀x∈l,∀s,ok s->wH Tryz.prog g (.d x.d::bR) base (H s) (H (step s x).1) (.d (.bool (!(step s x).2)))) (s:σ) (oY:ok s):
 wH Tryz.prog 186 [.d (.sl (l.map Tm.d)), .func (.func g) [] bR] base (H s) (H (aQ step s l).1) (.d (.i (xX step s l 0))):=by
 intro o nx hI K X hK
 have dV:∀r∈V.aL bR,r<nx:=fun r hr=>Nat.lt_of_lt_of_le (hc r hr) hI.le
 refine bP.aG mix UR aE ?_
 rw[X7]
 refine a7 ?_
 refine aD (fun i:Nat×σ×(Nat->ad)×Nat=>⟨aX [.d (.sl (l.map Tm.d)), .func (.func g) [] bR, .ab, .ab, .ab, .ab, .ab, .d (.i l.length), .d (.i i.1)],i.2.2.1,i.2.2.2⟩)
  (fun i=>i.1<=l.length/\eS base (H i.2.1) i.2.2.1 i.2.2.2/\nx<=i.2.2.2/\(∀id,base<=id->id<nx->i.2.2.1 id=o id)/\aQ step s l=aQ step i.2.1 (l.drop i.1)/\ok i.2.1/\xX step s l 0=xX step i.2.1 (l.drop i.1) i.1) (fun i=>l.length - i.1) (0,s,o,nx)
  ⟨Nat.zero_le _,hI,Nat.le_refl _,fun _ _ _=>rfl,rfl,oY,rfl⟩ ?_ ?_
 ·exact VX
 rintro⟨k,s',o',nx'⟩ ⟨hk,OW,hn,c7,hf,wM,NO⟩
 simp only at hk OW hn c7 hf wM NO
 refine a7 ?_
 refine ak (fun h1=> ?_) (fun h1=> ?_)
 ·simp at h1
  obtain⟨x,hx⟩:=aB h1
  have cf:=List.mem_of_getElem? hx
  have hd:l.drop k=x::l.drop (k+1):=by
   exact VS
  rw[hd]at hf NO
  simp only[aQ,xX]at hf NO
  refine VA hx ?_
  refine gG (h x cf s' wM _ _ (OW.mono af) _ _ fun o2 n2 m1 m2 m3=> ?_)
  cases hb:(step s' x).2 with
  |true=>
   rw[hb]at hf NO
   simp only[if_true]at hf NO
   refine cK ?_
   have U3:∀r∈V.aL bR,r<n2+1+1:=fun r hr=>by have:=dV r hr;omega
   refine aj (k+1,(step s' x).1,o2,n2+1+1) ⟨h1,m2.mono (show n2<=n2+1+1 from af),(show nx<=n2+1+1 from af),fun id i1 i2=>(m3 id i1 af).trans (c7 id i1 i2),hf,aY x cf s' wM hb,by rw[NO];rfl⟩ kV (bL.bS _ (show nx<=n2+1+1 from af) (Nat.le_refl _) (m2.mono (show n2<=n2+1+1 from af)).cu (fun _ _=>rfl) ?_)
   exact dT
  |false=>
   rw[hb]at hf NO
   simp only[Bool.false_eq_true,if_false]at hf NO
   refine a7 ?_
   rw[hf,NO]at hK
   exact hK _ _ af (m2.mono af) fun id i1 i2=>(m3 id i1 af).trans (c7 id i1 i2)
 ·simp at h1
  refine a7 ?_
  rw[List.drop_eq_nil_of_le h1]at hf NO
  rw[hf,NO]at hK
  exact Sv
theorem DZ{σ:Type}(l:List Tm)(hl:l.length<=9223372036854775807)(g:Nat)(bR:List V)(base:Nat)(H:σ->Nat->ad)(step:σ->Tm->σ×Bool)(hc:∀r∈V.aL bR,r<base)(ok:σ->Prop)(aY:∀x∈l,∀s,ok s->(step s x).2=true->ok (step s x).1)
 (h:∀x∈l,∀s,ok s->wH Tryz.prog g (.d x.d::bR) base (H s) (H (step s x).1) (.d (.bool (!(step s x).2)))) (s:σ) (oY:ok s):
 wH Tryz.prog 166 [.d (.sl (l.map Tm.d)), .func (.func g) [] bR] base (H s) (H (aQ step s l).1) (.d (.bool (!(aQ step s l).2))):=by
 intro o nx hI K X hK
 have dV:∀r∈V.aL bR,r<nx:=fun r hr=>Nat.lt_of_lt_of_le (hc r hr) hI.le
 refine bP.aG mix UJ aE ?_
 rw[XY]
 refine fY ?_
 refine aT (YE l hl g bR base H step hc ok aY h s oY _ _ ?_ _ _ fun o2 n2 m1 m2 m3=> ?_)
 ·exact hI.mono af
 refine fY ?_
 have e:decide (0<=xX step s l 0)= !(aQ step s l).2:=by
  have:=H3 step l s 0 af
  rw[Bool.eq_iff_iff,decide_eq_true_eq,this]
  cases(aQ step s l).2<;>simp
 rw[e]
 exact hK _ _ af (m2.mono af) fun id i1 i2=>m3 id i1 af
theorem NP{b:List (Int×Tm)}{f:Nat}{t x:Tm}(h:lC f b t=some x):aW Tryz.prog 112 [Ew b,t.d] (.ret [x.d]):=by
 refine aW.aG mix M9 aE ?_
 rw[QN]
 refine cK ?_
 refine aD (fun i:Nat×Tm=>⟨aX [.d (Ew b), .ab, .ab, .ptr 0 0, .ptr 1 0],ay (ay (fun _=> .no) 0 (.row i.2.row)) 1 (.row [.d (.i 0), .d (.i 0), .ax]),2⟩)
  (fun i=>lC i.1 b i.2=some x) (fun i=>i.1) (f,t) h ?_ ?_
 ·exact abm
 rintro⟨f,t⟩ hf
 simp only at hf
 cases f with
 |zero=>cases hf
 |succ f=>
 simp only[lC]at hf
 by_cases h1:t.op=1
 ·have fh:(t.op==1)=true:=by simpa using h1
  rw[if_pos h1]at hf
  cases hl:bQ b t.n with
  |none=>
   rw[hl]at hf
   injection hf with hf
   subst hf
   simp+contextual (disch:=first|omega|simp only[go_sem,false_implies]) only[go_sem,wrap64,if_pos,fh,oL,eH hl]
  |some z=>
   rw[hl]at hf
   obtain⟨j,hj⟩:=fX hl
   simp+contextual (disch:=first|omega|simp only[go_sem,false_implies]) only[go_sem,wrap64,if_pos,fh,oL,hj]
   refine aj (f,z) hf kV (bL.bS _ af af dh (fun j hj=> ?_) ?_)
   ·have Tq:j<2:=hj
    rcases(show j=0\/j=1 from af)with rfl|rfl
    ·exact cg
    ·exact cg
   ·exact dT
 ·have fh:(t.op==1)=false:=by simpa using h1
  rw[if_neg h1]at hf
  injection hf with hf
  subst hf
  exact zS fh
theorem Rh:∀a:Tm,a.fits->∀b:Tm,b.fits->aW Tryz.prog 108 [a.d,b.d] (.ret [.bool (gY a b)]):=by
 refine Tm.ek fun a ih ha b hb=> ?_
 have Vc:=(Tm.cj _).1 ha
 have EL:=(Tm.cj _).1 hb
 refine aW.aG mix Ul aE ?_
 rw[Xy,rk]
 refine cK ?_
 refine C7 (ak (fun h1=> ?_) (fun h1=> ?_))
 ·rw[h1]
  refine ou h1 ?_
  refine aT (Ny a.kids b.kids Vc.1 EL.1 108 (fun x hx y hy=>ih x hx (Vc.2 x hx) y (EL.2 y hy)) _ _ dh _ _ fun o2 n2 m1 m2 m3=> ?_)
  exact zS h1
 ·rw[h1]
  exact zS h1
theorem rC{b:List (Int×Tm)}(hb:∀p∈b,p.2.fits):∀ (f:Nat) (t x:Tm),t.fits->lC f b t=some x->x.fits
 |0,_,_,_,h=>by cases h
 |f+1,t,x,ht,h=>by
  simp only[lC]at h
  split at h
  ·split at h
   ·rename_i y hy;exact rC hb f y x (hb _ (ck hy)) h
   ·exact IY
  ·exact IY
theorem H4{F:Tm->Int->Option Int}(hF:∀k m r,0<=m->F k m=some r-> -1<=r/\r<=m):∀ (ks:List Tm) (n r:Int), -1<=n->BO F ks n=some r-> -1<=r/\r<=n
 |[],n,r,hn,h=>by cases h;omega
 |k::ks,n,r,hn,h=>by
  simp only[BO]at h
  split at h
  ·cases h;omega
  ·cases e:F k n with
   |none=>rw[e]at h;cases h
   |some q=>
    rw[e]at h
    have h1:=hF k n q af e
    have h2:=H4 hF ks q r af h
    omega
theorem Bf{b:List (Int×Tm)}:∀ (f:Nat) (t:Tm) (n:Int) (d:Nat) (r:Int),0<=n->tZ f b t n d=some r-> -1<=r/\r<=n
 |0,_,_,_,_,_,h=>by cases h
 |f+1,t,n,d,r,hn,h=>by
  simp only[tZ]at h
  cases ha:lC f b t with
  |none=>rw[ha]at h;cases h
  |some x=>
   rw[ha]at h
   cases d with
   |zero=>cases h;omega
   |succ d=>
    have:=H4 (fun k m r hm h=>Bf f k m d r hm h) x.kids (n - 1) r af h
    omega
theorem NQ{b:List (Int×Tm)}:∀ (f:Nat) (t:Tm) (n:Int) (d:Nat) (r:Int),t.fits->(∀p∈b,p.2.fits)->0<=n/\n<=1000->d<=1000->tZ f b t n d=some r->aW Tryz.prog 91 [Ew b,t.d, .i n, .i d] (.ret [.i r])
 |0,_,_,_,_,_,_,_,_,h=>by cases h
 |f+1,t,n,d,r,ht,hb,hn,hd,h=>by
  simp only[tZ]at h
  cases ha:lC f b t with
  |none=>rw[ha]at h;cases h
  |some x=>
  rw[ha]at h
  refine aW.aG mix adp aE ?_
  rw[c91]
  refine cK ?_
  refine bE (NP ha) ?_
  cases d with
  |zero=>
   injection h with h
   subst h
   exact pD
  |succ d=>
   have Qc:(((d+1:Nat):Int)==0)=false:=by rw[beq_eq_false_iff_ne];omega
   dsimp only at h
   have KT:=(Tm.cj x).1 (rC hb f t x ht ha)
   refine ou Qc ?_
   refine aD (fun i:Nat×Int=>⟨aX [.d (Ew b), .ab, .d (.i i.2), .d (.i (d+1:Nat)), .ab, .ab, .ab, .ab, .ab, .ab, .ab, .ab, .ab, .ab, .ab, .ab, .ab, .ab, .ab, .d (.sl (x.kids.map Tm.d)), .d (.i x.kids.length), .d (.i i.1)],fun _=> .no,0⟩)
    (fun i=>i.1<=x.kids.length/\BO (fun k m=>tZ f b k m d) (x.kids.drop i.1) i.2=some r/\ -1<=i.2/\i.2<=1000) (fun i=>x.kids.length - i.1) (0,n - 1) ⟨Nat.zero_le _,h,by dsimp only;omega,by dsimp only;omega⟩ (bL.d0 _ ?_) ?_
   ·exact dT
   rintro⟨k,m⟩ ⟨hk,hl,KG,OZ⟩
   simp only at hk hl KG OZ
   refine tv ?_
   refine ak (fun h2=> ?_) (fun h2=> ?_)
   ·replace h2:k<x.kids.length:=by simp at h2;omega
    obtain⟨y,hy⟩:=aB h2
    have QV:=List.mem_of_getElem? hy
    have FX:x.kids.drop k=y::x.kids.drop (k+1):=by
     obtain⟨i1,i2⟩:=List.getElem?_eq_some_iff.1 hy
     exact IW
    rw[FX]at hl
    simp only[BO]at hl
    by_cases h0:m<0
    ·have Aj:decide (m<0)=true:=decide_eq_true h0
     rw[if_pos h0]at hl
     cases hl
     exact K5 hy Aj
    ·have Aj:decide (m<0)=false:=decide_eq_false h0
     rw[if_neg h0]at hl
     refine sc hy Aj ?_
     cases e:tZ f b y m d with
     |none=>rw[e]at hl;cases hl
     |some q=>
     rw[e]at hl
     have hq:=Bf f y m d q af e
     rw[show(((d+1:Nat):Int) - 1)=((d:Nat):Int) by omega]
     refine aq (NQ f y m d q (KT.2 y QV) hb af af e) rfl ?_
     refine cK ?_
     refine aj (k+1,q) ⟨h2,hl,by dsimp only;omega,by dsimp only;omega⟩ kV (bL.d0 _ ?_)
     exact dT
   ·replace h2:k=x.kids.length:=by simp at h2;omega
    subst h2
    rw[List.drop_length]at hl
    cases hl
    exact pD
theorem Bg{F:Tm->Option Tm}:∀ {ks xs:List Tm},DX F ks=some xs->xs.length=ks.length/\∀ (i:Nat) (k:Tm),ks[i]? =some k->∃x,xs[i]? =some x/\F k=some x
 |[],xs,h=>by cases h;exact⟨rfl,fun i k hk=>by simp at hk⟩
 |k::ks,xs,h=>by
  simp only[DX]at h
  cases h1:F k with
  |none=>rw[h1]at h;cases h
  |some x=>
   cases h2:DX F ks with
   |none=>rw[h1,h2]at h;cases h
   |some ys=>
    rw[h1,h2]at h
    cases h
    obtain⟨g1,g2⟩:=Bg h2
    refine⟨by rw[List.length_cons,List.length_cons,g1],fun i k' hk=> ?_⟩
    cases i with
    |zero=>simp at hk;subst hk;exact⟨x,rfl,h1⟩
    |succ i=>exact g2 i k' hk
def FY(op n:Int)(ks:List Tm)(k:Nat):Nat->ad:=ay (ay (ay (fun _=> .no) 1 (.row [.d (.i 0), .d (.i 0), .ax])) 11 (.row [.d (.i op), .d (.i n), .osl 12 0])) 12 (.arr 0 33 3 ((ks.take k).map Tm.d))
theorem fuH_1(op n:Int)(ks:List Tm)(k:Nat):FY op n ks k 1= .row [.d (.i 0), .d (.i 0), .ax]:=rfl
theorem fuH_11(op n:Int)(ks:List Tm)(k:Nat):FY op n ks k 11= .row [.d (.i op), .d (.i n), .osl 12 0]:=rfl
theorem fuH_12(op n:Int)(ks:List Tm)(k:Nat):FY op n ks k 12= .arr 0 33 3 ((ks.take k).map Tm.d):=rfl
theorem Bh(op n:Int)(ks:List Tm)(k:Nat){j:Nat}(h1:j≠1)(h2:j≠11)(h3:j≠12):FY op n ks k j= .no:=by unfold FY;rw[ae _ _ _ _ h3,ae _ _ _ _ h2,ae _ _ _ _ h1]
theorem NR(gone:Nat->Prop)(x:V)(L:List V)(sT:∀id,gone id->12<=id){op n:Int}{ks:List Tm}{k:Nat}{e:Nat->V}{so:Nat->ad}{m:Nat}(gx:fN so gone 33 3 ((ks.take k).map Tm.d) x)
 (s1:so 1= .row [.d (.i 0), .d (.i 0), .ax]) (s11:so 11= .row [.d (.i op), .d (.i n),x]) (he:iP 12 [⟨x,33,3,(ks.take k).map Tm.d⟩] so gone e L 0):bL 0 ⟨e,so,m⟩ ⟨aX L,FY op n ks k,12+1⟩:=by
 refine bL.uD gone x 12 L af (fun j hj=> ?_) (fuH_12 op n ks k) gx (fun j hj=>Bh _ _ _ _ af af af) (fun j h1 h2=>absurd (sT j h1) af) he
 by_cases e1:j=1
 ·subst e1
  rw[fuH_1]
  exact Sw
 ·by_cases e2:j=11
  ·subst e2
   rw[fuH_11]
   exact SD
  ·rw[Bh _ _ _ _ e1 e2 (by omega)]
   exact js
theorem H5{k:Tm}:∀ {l:List Tm},k∈l->k.sz<=oH l
 |x::l,h=>by
  rw[show oH (x::l)=x.sz+oH l from rfl]
  rcases List.mem_cons.1 h with rfl|h
  ·omega
  ·have:=H5 h;omega
mutual
def Tm.wid:Tm->Prop
 | .mk _ _ kids=>kids.length<=1000000/\Tm.NS kids
def Tm.NS:List Tm->Prop
 |[]=>True
 |k::l=>k.wid/\Tm.NS l
end
theorem Tm.D0:∀l:List Tm,Tm.NS l↔∀k∈l,k.wid
 |[]=>by simp[Tm.NS]
 |k::l=>by simp[Tm.NS,Tm.D0 l]
theorem Tm.Bi (t:Tm):t.wid↔t.kids.length<=1000000/\∀k∈t.kids,k.wid:=by cases t;simp[Tm.wid,Tm.D0,Tm.kids]
theorem Tm.YF:∀t:Tm,t.sz<=1000000->t.wid:=by
 refine Tm.ek fun t ih h=> ?_
 rw[Tm.Bi]
 have:=mH t.kids
 have h2:=Tm.iw t
 exact SA
theorem FZ{b:List (Int×Tm)}(hb:∀p∈b,p.2.fits):∀ (f:Nat) (t y:Tm),t.fits->u5 f b t=some y->y.wid->aW Tryz.prog 68 [Ew b,t.d] (.ret [y.d])
 |0,_,_,_,h,_=>by cases h
 |f+1,t,y,ht,h,hz=>by
  simp only[u5]at h
  cases ha:lC f b t with
  |none=>rw[ha]at h;cases h
  |some x=>
  rw[ha]at h
  dsimp only at h
  have KT:=(Tm.cj x).1 (rC hb f t x ht ha)
  cases hL:DX (u5 f b) x.kids with
  |none=>rw[hL]at h;cases h
  |some ks=>
  rw[hL]at h
  cases h
  obtain⟨Cq,I4⟩:=Bg hL
  have hkw:=(Tm.Bi _).1 hz
  have hle:ks.length<=1000000:=hkw.1
  refine aW.aG mix adh aE ?_
  rw[c68]
  refine cK ?_
  refine bE (NP ha) ?_
  refine cK ?_
  refine aD (fun i:Nat=>⟨aX [.d (Ew b), .ab, .ab, .ab, .ptr 1 0, .ptr 11 0, .ab, .ab, .ab, .ab, .ab, .ab, .ab, .ab, .ab, .ab, .ab, .d (.sl (x.kids.map Tm.d)), .d (.i x.kids.length), .d (.i i)],FY x.op x.n ks i,12+1⟩)
   (fun i=>i<=x.kids.length) (fun i=>x.kids.length - i) 0 (Nat.zero_le _) (NR (fun _=>False) .ax _ (fun _ h=>h.elim) (.inl ⟨rfl,rfl,bF⟩) cg cg ?_) (fun k hk=> ?_)
  ·exact jH
  replace hk:k<=x.kids.length:=hk
  have q1:=fuH_1 x.op x.n ks k
  have Ri:=fuH_11 x.op x.n ks k
  have Rj:=fuH_12 x.op x.n ks k
  refine pE q1 Ri Rj ?_
  refine ak (fun h2=> ?_) (fun h2=> ?_)
  ·replace h2:k<x.kids.length:=by simp at h2;omega
   obtain⟨z,hz⟩:=aB h2
   obtain⟨z',Jb,hF⟩:=I4 k z hz
   have hzm:=List.mem_of_getElem? hz
   have sb:ks.take (k+1)=ks.take k++[z']:=by rw[List.take_add_one,Jb];rfl
   have e0:(ks.take k).length=k:=by rw[List.length_take];omega
   have hzs:z'.wid:=hkw.2 _ (List.mem_of_getElem? Jb)
   have dV:k<=140737488355327/\(k+1)*24<=140737488355328:=af
   refine K4 q1 Ri Rj hz ?_
   refine bC (FZ hb f z z' (KT.2 z hzm) hF hzs) ?_
   simp+contextual (disch:=first|omega|simp only[go_sem,false_implies]) only[go_sem,wrap64,if_pos,q1,Ri,Rj,hz,List.length_map,e0,if_pos dV]
   refine aK ai ?_
   refine cK ?_
   refine aj (k+1) h2 af (NR (fun j=>12<=j) (.osl 12 1) _ (fun _ h=>h) (.inr ⟨12,1,Nat.le_refl _,rfl,by(repeat(first|rfl|rw[aa]|rw[ae _ _ _ _ (by omega)]));rw[sb,List.map_append];rfl⟩) Se cg ?_)
   exact jH
  ·replace h2:k=x.kids.length:=by simp at h2;omega
   subst h2
   have YG:FY x.op x.n ks x.kids.length 12= .arr 0 33 3 (ks.map Tm.d):=by rw[Rj, <- Cq,List.take_length]
   refine K7 q1 Ri YG ?_
   rw[Tm.Db]
theorem w7{b:List (Int×Tm)}(hb:∀p∈b,p.2.fits)(f:Nat)(t y:Tm)(ht:t.fits)(h:u5 f b t=some y)(hz:y.sz<=1000000):aW Tryz.prog 68 [Ew b,t.d] (.ret [y.d]):=FZ hb f t y ht h (Tm.YF y hz)
section
section
variable {σ:Type}(base rm:Nat)(H:σ->Nat->ad)(step:σ->Tm->σ×Bool)(ok:σ->Prop)
end
end
section
theorem YH{x:Tm}{yb vb base:Nat}{h h2:Nat->ad}{r:Bool}(hS:wH Tryz.prog 165 [.d x.d, .ptr yb 0, .ptr vb 0] base h h2 (.d (.bool r)))(hy:yb<base)(hv:vb<base)(ov:h vb= .row [.func (.func 165) [] [.ptr yb 0, .ptr vb 0]]):
 wH Tryz.prog 167 [.d x.d, .ptr vb 0] base h h2 (.d (.bool (!r))):=by
 intro o nx hI K X hK
 have hle:=hI.le
 have ho:o vb= .row [.func (.func 165) [] [.ptr yb 0, .ptr vb 0]]:=by rw[hI.eq vb hv,ov]
 have y1:∀k,vb≠nx+k:=fun k=>af
 have y2:vb≠nx:=af
 refine bP.aG mix UK aE ?_
 rw[XZ]
 refine Vw ho y1 y2 ?_
 refine aT (hS _ _ ?_ _ _ fun o2 n2 m1 m2 m3=> ?_)
 ·exact hI.ay af af af rfl
 refine fY ?_
 exact hK _ _ af (m2.mono af) fun id i1 i2=>by rw[m3 id i1 (by omega),ae _ _ _ _ (by omega)]
section
variable {σ:Type}(base rm:Nat)(H:σ->Nat->ad)(step:σ->Int->σ×Bool)(ok:σ->Prop)
theorem NT:∀t:Tm,t.fits->(∀x∈tg t,∀s,ok s->(step s x).2=true->ok (step s x).1)->(∀x∈tg t,∀s,ok s->RoC Tryz.prog rm [.d (.i x)] base (H s) (H (step s x).1) (.d (.bool (step s x).2)))->rm<base->
 ∀ (c:Nat) (o0:Nat->ad) (yb vb:Nat),base<=c->base<=yb->yb<c->base<=vb->vb<c->o0 yb= .row [.kH rm]->o0 vb= .row [.func (.func 165) [] [.ptr yb 0, .ptr vb 0]]->
 ∀s,ok s->wH Tryz.prog 165 [.d t.d, .ptr yb 0, .ptr vb 0] c (ext base (H s) o0) (ext base (H (aQ step s (tg t)).1) o0) (.d (.bool (aQ step s (tg t)).2)):=by
 refine Tm.ek fun t ih hf aY hR Dy c o0 yb vb hbc hy0 hy hv0 hv oy ov s oY=> ?_
 have xP:=(Tm.cj _).1 hf
 intro o nx hI K X hK
 have hle:=hI.le
 have oy':o yb= .row [.kH rm]:=by rw[hI.eq yb hy];unfold ext;rw[if_neg (by omega),oy]
 have Yn:o vb= .row [.func (.func 165) [] [.ptr yb 0, .ptr vb 0]]:=by rw[hI.eq vb hv];unfold ext;rw[if_neg (by omega),ov]
 have y1:yb≠nx:=af
 have y2:∀k,yb≠nx+k:=fun k=>af
 have y3:vb≠nx:=af
 have y4:∀k,vb≠nx+k:=fun k=>af
 have pY:=NJ t
 have hb:∀id,id<base->o id=H s id:=fun id aw=>by rw[hI.eq id (by omega)];unfold ext;rw[if_pos aw]
 have hIb:eS base (H s) o nx:=⟨hI.cu,af,hb⟩
 have Kw:∀id,base<=id->id<c->o id=o0 id:=fun id h1 h2=>by rw[hI.eq id h2];unfold ext;rw[if_neg (by omega)]
 refine bP.aG mix UI aE ?_
 rw[XX]
 by_cases h1:t.op=1
 ·have fh:(t.op==1)=true:=by simpa using h1
  rw[if_pos h1]at pY
  have BN:aQ step s (tg t)=step s t.n:=by
   rw[pY]
   simp only[aQ]
   generalize step s t.n=q
   obtain⟨a,b⟩:=q
   cases b<;>rfl
  refine Ez fh oy' Yn y1 y2 y3 y4 ?_
  refine nQ (hR t.n (by rw[pY];simp) s oY _ _ ?_ _ _ fun o2 n2 m1 m2 m3=> ?_)
  ·exact hIb.ay af af af rfl
  refine fY ?_
  rw[BN]at hK
  have hold:∀id,base<=id->id<nx->o2 id=o id:=fun id h1 h2=>by rw[m3 id h1 (by omega),ae _ _ _ _ (by omega)]
  refine hK _ _ af ⟨m2.cu.mono af,af,fun id aw=> ?_⟩ (fun id h1 h2=>hold id af h2)
  unfold ext
  split
  ·exact m2.eq id (by assumption)
  ·exact Pz
 ·have fh:(t.op==1)=false:=by simpa using h1
  rw[if_neg h1]at pY
  have BN:aQ step s (tg t)=aQ (fun s k=>aQ step s (tg k)) s t.kids:=by rw[pY,wN]
  have ug:∀k∈t.kids,∀x∈tg k,x∈tg t:=fun k hk x hx=>by rw[pY];exact List.mem_flatMap.2 ⟨k,hk,hx⟩
  refine Ez fh oy' Yn y1 y2 y3 y4 ?_
  refine aT (DZ t.kids xP.1 167 [.ptr vb 0] (nx+8) (fun s=>ext base (H s) (ay o nx (.row t.row))) (fun s k=>aQ step s (tg k)) ?_ ok ?_ ?_ s oY _ _ ?_ _ _ ?_)
  ·exact Gy
  ·exact Sf
  ·intro k hk s' jR
   refine YH (yb:=yb) (ih k hk (xP.2 k hk) (fun x hx=>aY x (ug k hk x hx)) (fun x hx=>hR x (ug k hk x hx)) Dy (nx+8) _ yb vb af hy0 af hv0 af ?_ ?_ s' jR) af af ?_
   ·(repeat(first|rfl|rw[aa]|rw[ae _ _ _ _ (by omega)]));exact oy'
   ·(repeat(first|rfl|rw[aa]|rw[ae _ _ _ _ (by omega)]));exact Yn
   ·unfold ext;rw[if_neg (by omega)];(repeat(first|rfl|rw[aa]|rw[ae _ _ _ _ (by omega)]));exact Yn
  ·exact(hIb.ay af af af rfl).ext af af
  ·intro o5 n5 p1 p2 p3
   refine cK ?_
   rw[<- BN]
   have hold:∀id,base<=id->id<nx->o5 id=o id:=fun id h1 h2=>by
    rw[p2.eq id (by omega)];unfold ext;rw[if_neg (by omega),ae _ _ _ _ (by omega)]
   refine hK _ _ af ⟨p2.cu.mono af,af,fun id aw=> ?_⟩ (fun id h1 h2=>hold id af h2)
   rw[BN]
   unfold ext
   split
   ·rw[p2.eq id (by omega)];unfold ext;rw[if_pos (by assumption)]
   ·exact Pz
theorem NU(t:Tm)(hf:t.fits)(aY:∀x∈tg t,∀s,ok s->(step s x).2=true->ok (step s x).1)(hR:∀x∈tg t,∀s,ok s->RoC Tryz.prog rm [.d (.i x)] base (H s) (H (step s x).1) (.d (.bool (step s x).2)))(Dy:rm<base)(tb:Nat)(KQ:tb<base)(s:σ)(oY:ok s)(c8:H s tb= .row t.row):
 wH Tryz.prog 164 [.kH rm, .ptr tb 0] base (H s) (H (aQ step s (tg t)).1) (.bY []):=by
 intro o nx hI K X hK
 have hle:=hI.le
 have ot:o tb= .row t.row:=by rw[hI.eq tb KQ,c8]
 have y1:tb≠nx:=af
 have y2:∀k,tb≠nx+k:=fun k=>af
 refine bP.aG mix UH aE ?_
 rw[XW]
 simp+contextual only[go_sem,ot,y1,y2,Nat.add_assoc,Nat.left_eq_add,Nat.add_eq_left,Nat.add_left_cancel_iff]
 have hI1:eS base (H s) (ay (ay (ay o nx (.row [.kH rm])) (nx+1) (.row [.d .cF])) (nx+1) (.row [.func (.func 165) [] [.ptr nx 0, .ptr (nx+1) 0]])) (nx+6):=by
  refine((hI.ay (i:=nx) (m:=nx+6) af af af ?_).ay (i:=nx+1) (m:=nx+6) af af af rfl).ay (i:=nx+1) af af af ?_
  ·exact Ld
  ·exact uf
 refine aT (NT base rm H step ok t hf aY hR Dy (nx+6) _ nx (nx+1) af hle af af af ?_ ?_ s oY _ _ (hI1.ext (Nat.le_refl _) af) _ _ ?_)
 ·exact cg
 ·exact cg
 intro o2 n2 m1 m2 m3
 refine a7 ?_
 refine hK _ _ af ⟨m2.cu,af,fun id aw=> ?_⟩ (fun id h1 h2=> ?_)
 ·rw[m2.eq id (by omega)];unfold ext;rw[if_pos aw]
 ·exact Td
end
theorem NV(t:Tm)(o:Nat->ad)(nx:Nat)(K X:V->(Nat->ad)->Nat->Prop)(h:K (.func (.func 164) [] [.ptr nx 0]) (ay o nx (.row t.row)) (nx+4)):bP Tryz.prog 149 [.d t.d] o nx K X:=by
 refine bP.aG mix UC aE ?_
 rw[XQ]
 refine a7 ?_
 exact h
def F0{σ:Type}(J:σ->Option ku)(step:σ->Int->σ)(s:σ)(x:Int):σ×Bool:=(step s x,(J (step s x)).isNone)
theorem D1{σ:Type}(t:Tm)(hf:t.fits){n bq:Nat}{gq:Operand}{ps:List Nat}{jS fq:IC}{Q:fK->S->Prop}{e:Nat->V}{o:Nat->ad}{nx tb:Nat}(env:List V)(he:nP e env 0)
 (Ft:ps.all (fun t=>decide (t<n))=true) (hl:ps.length=1) (hg:Good o nx) (hrefs:∀r∈V.aL env,r<nx) (ht:o tb= .row t.row)
 (G:σ->Nat->ad) (J:σ->Option ku) (step:σ->Int->σ) (ok:σ->Prop) (s0:σ) (oY:ok s0) (hJ0:J s0=none) (h0:∀id,id<nx->o id=G s0 id) (aY:∀x∈tg t,∀s,ok s->J s=none->J (step s x)=none->ok (step s x))
 (vR:∀L,jj Tryz.prog n env ps jS fq L->(∀st pd m,nx<=m->(L st pd).refs.all (fun r=>decide (r<m))=true)->∀x∈tg t,∀s,ok s->J s=none->∀o3 n3,eS nx (G s) o3 n3->nx<n3->o3 nx=L .ready none->∀K X,
  (∀e' o' n' st pd,n3<=n'->eS nx (G (step s x)) o' n'->o' nx=L st pd->(∀id,nx<id->id<n3->o' id=o3 id)->lB nx K X (U4 (J (step s x))) ⟨e',o',n'⟩)->
  j7 Tryz.prog n n3 true jS (sU Tryz.prog n n3 nx fq K X) ⟨pS (aX env) ps [.d (.i x)],o3,n3⟩)
 (ly:∀o' n',eS nx (G (aQ (F0 J step) s0 (tg t)).1) o' n'->qS Q (J (aQ (F0 J step) s0 (tg t)).1) ⟨e,o',n'⟩):
 uC Tryz.prog n bq false gq ps jS fq Q ⟨e,o,nx⟩ (.func (.func 164) [] [.ptr tb 0]):=by
 refine FC env he (fun L hL=> ?_)
 have KQ:tb<nx:=hg.lt (by rw[ht];exact ad.noConfusion)
 let H:σ->Nat->ad:=fun s id=>if id<nx then G s id else if id=nx then(match J s with|none=>L .ready none|some j=>L .done (some j))else .no
 have si:∀s id,id<nx->H s id=G s id:=fun s id h=>if_pos h
 have FF:∀s,J s=none->H s nx=L .ready none:=fun s h=>by show(if nx<nx then _ else _)=_;rw[if_neg (by omega),if_pos rfl,h]
 have U5:∀s j,J s=some j->H s nx=L .done (some j):=fun s j h=>by show(if nx<nx then _ else _)=_;rw[if_neg (by omega),if_pos rfl,h]
 have x8:∀st pd m,nx<=m->(L st pd).refs.all (fun r=>decide (r<m))=true:=fun st pd m hm=>by
  exact SX
 refine NU (nx+1) nx H (F0 J step) (fun s=>ok s/\J s=none) t hf (fun x hx s h1 h2=> ?_) (fun x hx s h1=> ?_) af tb af s0 ⟨oY,hJ0⟩ (by rw[si _ _ KQ, <- h0 _ KQ,ht]) _ _ ⟨?_,Nat.le_refl _,fun id aw=> ?_⟩ _ _ ?_
 ·have hj:J (step s x)=none:=by simpa[F0]using h2
  exact⟨aY x hx s h1.1 h1.2 hj,hj⟩
 ·intro o3 n3 hI K X hK
  have hle:=hI.le
  have HI:o3 nx=L .ready none:=by rw[hI.eq nx (by omega),FF s h1.2]
  refine wI hL mix HI af Ft (by simp[hl]) ?_
  refine vR L hL x8 x hx s h1.1 h1.2 o3 n3 ⟨hI.cu,af,fun id aw=>by rw[hI.eq id (by omega),si _ _ aw]⟩ af HI K X (fun e' o' n' st pd k1 k2 k3 k4=> ?_)
  have key:∀st' pd' b,(J (step s x)).isNone=b->H (step s x) nx=L st' pd'->K (.d (.bool b)) (ay o' nx (L st' pd')) n':=fun st' pd' b hb hh=>by
   subst hb
   refine hK _ _ k1 ⟨k2.cu.ay af (x8 _ _ _ af),af,fun id aw=> ?_⟩ (fun id g1 g2=> ?_)
   ·by_cases xH:id=nx
    ·subst xH;rw[aa];exact hh.symm
    ·rw[ae _ _ _ _ xH]
     show o' id=H (step s x) id
     rw[si _ _ (by omega)];exact k2.eq id af
   ·rw[ae _ _ _ _ (by omega)];exact k4 id af g2
  cases hj:J (step s x)with
  |none=>exact sW hL k3 (key _ _ _ yl (FF _ hj))
  |some j=>
   cases j with
   |ret=>exact wJ hL k3 (key _ _ _ yl (U5 _ _ hj))
   |exit j=>exact tU hL k3 (key _ _ _ yl (U5 _ _ hj))
 ·exact(hg.mono af).ay af (x8 _ _ _ af)
 ·by_cases xH:id=nx
  ·subst xH;rw[aa,FF _ hJ0]
  ·exact SC
 ·intro o' n' k1 k2 k3
  have hle:=k2.le
  generalize hsf:(aQ (F0 J step) s0 (tg t)).1=sf at*
  have kk:∀st pd,eS nx (G sf) (ay o' nx (L st pd)) n':=fun st pd=>⟨k2.cu.ay af (x8 _ _ _ af),af,fun id aw=>by rw[ae _ _ _ _ (by omega),k2.eq id (by omega),si _ _ aw]⟩
  cases hj:J sf with
  |none=>
   refine⟨.ready,none,by rw[k2.eq nx (by omega),FF _ hj],(fun h=>by cases h), ?_⟩
   have:=ly _ _ (kk .exhausted none)
   rwa [hj]at this
  |some j=>
   refine⟨.done,some j,by rw[k2.eq nx (by omega),U5 _ _ hj],(fun h=>by cases h), ?_⟩
   have:=ly _ _ (kk .exhausted (some j))
   rwa [hj]at this
end
def kC(b:List (Int×Tm))(n:Int)(s:List Int×Bool)(v:Int):List Int×Bool:=if v=n then(s.1,true)else match bQ b v with
 |none=>(s.1,false)
 |some x=>if v∈s.1 then(s.1,false)else match O8 (b.length+1) b n x (ew s.1 v)with
  |some (is,m)=>(m,is)
  |none=>(s.1,false)
def stJ(s:List Int×Bool):Option ku:=if s.2=true then some .ret else none
theorem rD{b:List (Int×Tm)}{n:Int}:∀ (vs met:List Int) (is:Bool) (m':List Int),NK (O8 b.length b n) b n vs met=some (is,m')->(aQ (F0 stJ (kC b n)) (met,false) vs).1=(m',is)
 |[],met,is,m',h=>by cases h;rfl
 |v::vs,met,is,m',h=>by
  simp only[NK]at h
  simp only[aQ,F0]
  by_cases e:v=n
  ·rw[if_pos e]at h
   cases h
   have:kC b n (met,false) v=(met,true):=by unfold kC;rw[if_pos e]
   simp only[this];rfl
  ·rw[if_neg e]at h
   cases hl:bQ b v with
   |none=>
    rw[hl]at h
    have:kC b n (met,false) v=(met,false):=by unfold kC;rw[if_neg e,hl]
    simp only[this]
    exact rD vs met is m' h
   |some x=>
    rw[hl]at h
    dsimp only at h
    by_cases e2:v∈met
    ·rw[if_pos e2]at h
     have:kC b n (met,false) v=(met,false):=by unfold kC;rw[if_neg e,hl];dsimp only;rw[if_pos e2]
     simp only[this]
     exact rD vs met is m' h
    ·rw[if_neg e2]at h
     cases hF:O8 b.length b n x (ew met v)with
     |none=>rw[hF]at h;cases h
     |some q=>
      obtain⟨i,m⟩:=q
      rw[hF]at h
      have:kC b n (met,false) v=(m,i):=by unfold kC;rw[if_neg e,hl];dsimp only;rw[if_neg e2,DS hF (Nat.le_succ _)]
      simp only[this]
      cases i with
      |true=>cases h;rfl
      |false=>exact rD vs m is m' h
theorem NW{s:az}{b:List (Int×Tm)}(hb:∀p∈b,Vs s p.2)(og:∀p∈b,p.2.fits)(n:Int):∀ (N:Nat) (t:Tm) (met:List Int),xF b met<=N->Vs s t->t.fits->∀ (is:Bool) (fQ:List Int),O8 (b.length+1) b n t met=some (is,fQ)->
 ∀ (o:Nat->ad) (nx nb bb mb fb mid:Nat),Good o nx->o nb= .row [.d (.i n)]->o bb= .row [.d (Ew b)]->o mb= .row [.mp mid]->o fb= .row [.func (.func 148) [] [.ptr nb 0, .ptr bb 0, .ptr mb 0, .ptr fb 0]]->o mid=J7 met->
 ∀ (K X:V->(Nat->ad)->Nat->Prop),(∀o' nx',nx<=nx'->Good o' nx'->(∀j,j<nx->j≠mid->o' j=o j)->o' mid=J7 fQ->K (.d (.bool is)) o' nx')->
 bP Tryz.prog 148 [.d t.d, .ptr nb 0, .ptr bb 0, .ptr mb 0, .ptr fb 0] o nx K X:=by
 intro N
 induction N using Nat.strongRecOn with
 |ind N ihN=>
  intro t met hN ht YI is fQ hld o nx nb bb mb fb mid hg o1 o2 o3 o4 o5 K X hK
  have l1:nb<nx:=hg.lt (by rw[o1];exact ad.noConfusion)
  have l2:bb<nx:=hg.lt (by rw[o2];exact ad.noConfusion)
  have l3:mb<nx:=hg.lt (by rw[o3];exact ad.noConfusion)
  have l4:fb<nx:=hg.lt (by rw[o4];exact ad.noConfusion)
  have l5:mid<nx:=hg.lt (by rw[o5];exact ad.noConfusion)
  have d1:nb≠mid:=fun e=>by rw[e,o5]at o1;cases o1
  have d2:bb≠mid:=fun e=>by rw[e,o5]at o2;cases o2
  have d3:mb≠mid:=fun e=>by rw[e,o5]at o3;cases o3
  have d4:fb≠mid:=fun e=>by rw[e,o5]at o4;cases o4
  refine bP.aG mix UB aE ?_
  rw[XP]
  refine fY ?_
  refine bX (NV t _ _ _ _ ?_)
  refine fY ?_
  obtain⟨O1,hO1⟩:∃O1:Nat->ad,O1=ay (ay (ay o nx (ad.row [V.d (D.i t.op),V.d (D.i t.n),V.d (D.sl (List.map Tm.d t.kids))])) (nx+1) (ad.row [V.d (D.bool false)])) (nx+3) (ad.row t.row):=⟨_,rfl⟩
  have hgO:Good O1 (nx+7):=by rw[hO1];exact dh
  have hOl:∀j,j<nx->O1 j=o j:=fun j hj=>by rw[hO1];(repeat(first|rfl|rw[aa]|rw[ae _ _ _ _ (by omega)]))
  have ag9:O1 (nx+1)= .row [.d (.bool false)]:=by rw[hO1];(repeat(first|rfl|rw[aa]|rw[ae _ _ _ _ (by omega)]))
  have hO3:O1 (nx+3)= .row t.row:=by rw[hO1];(repeat(first|rfl|rw[aa]|rw[ae _ _ _ _ (by omega)]))
  rw[<- hO1]
  obtain⟨G,hG⟩:∃G:List Int×Bool->Nat->ad,G=fun s=>ay (ay O1 (nx+1) (.row [.d (.bool s.2)])) mid (J7 s.1):=⟨_,rfl⟩
  have gm:∀s,G s mid=J7 s.1:=fun s=>by rw[hG];exact aa _ _ _
  have gc:∀s,G s (nx+1)= .row [.d (.bool s.2)]:=fun s=>by rw[hG];show ay _ mid _ _=_;rw[ae _ _ _ _ (by omega),aa]
  have ge:∀s j,j≠mid->j≠nx+1->G s j=O1 j:=fun s j j1 j2=>by rw[hG];show ay _ mid _ _=_;rw[ae _ _ _ _ j1,ae _ _ _ _ j2]
  have gl:∀s j,j<nx->j≠mid->G s j=o j:=fun s j j1 j2=>by rw[ge s j j2 (by omega),hOl j j1]
  refine D1 (σ:=List Int×Bool) t YI [.ab, .ptr nb 0, .ptr bb 0, .ptr mb 0, .ptr fb 0, .ab, .ptr (nx+1) 0] ?_ bF rfl hgO Gy hO3
   G stJ (kC b n) (fun s=>xF b s.1<=N) (met,false) hN rfl (fun id aw=> ?_) (fun x hx s' h1 h2 h3=> ?_) ?_ ?_
  ·exact La
  ·by_cases e1:id=mid
   ·subst e1;rw[gm,hOl id (by omega),o5]
   ·by_cases e2:id=nx+1
    ·subst e2;rw[gc,ag9]
    ·rw[ge _ _ e1 e2]
  ·obtain⟨m,fl⟩:=s'
   show xF b (kC b n (m,fl) x).1<=N
   have h1:xF b m<=N:=h1
   unfold kC
   by_cases e:x=n
   ·rw[if_pos e];exact h1
   ·rw[if_neg e]
    cases hl:bQ b x with
    |none=>exact h1
    |some y=>
     dsimp only
     by_cases e2:x∈m
     ·rw[if_pos e2];exact h1
     ·rw[if_neg e2]
      have hle:xF b (ew m x)<=b.length:=Nat.le_trans (Nat.le_of_lt (uZ hl e2)) aaP
      obtain⟨i1,m1,g1,g2,g3⟩:=HV hb n b.length y (ew m x) hle (hb _ (ck hl))
      have ky:kC b n (m,fl) x=(m1,i1):=by unfold kC;rw[if_neg e,hl];dsimp only;rw[if_neg e2,g1]
      rw[g1]
      rw[ky]at h3
      cases i1 with
      |true=>cases h3
      |false=>
       have:=DT (b:=b) (g3 rfl).1
       have:=uZ hl e2
       show xF b m1<=N
       omega
  ·intro L hL x8 v hv s' r9 G6 O3 n3 hI hn HI K' X' eJ
   obtain⟨m,fl⟩:=s'
   have oV:fl=false:=by
    cases fl with
    |false=>rfl
    |true=>cases G6
   subst oV
   have r9:xF b m<=N:=r9
   simp only[pS]
   have hg:=hI.cu
   have hle:=hI.le
   have q1:O3 nb= .row [.d (.i n)]:=by rw[hI.eq nb (by omega),gl _ _ (by omega) d1,o1]
   have q2:O3 bb= .row [.d (Ew b)]:=by rw[hI.eq bb (by omega),gl _ _ (by omega) d2,o2]
   have q3:O3 mb= .row [.mp mid]:=by rw[hI.eq mb (by omega),gl _ _ (by omega) d3,o3]
   have q4:O3 fb= .row [.func (.func 148) [] [.ptr nb 0, .ptr bb 0, .ptr mb 0, .ptr fb 0]]:=by rw[hI.eq fb (by omega),gl _ _ (by omega) d4,o4]
   have q5:O3 mid=J7 m:=by rw[hI.eq mid (by omega),gm]
   have q6:O3 (nx+1)= .row [.d (.bool false)]:=by rw[hI.eq (nx+1) (by omega),gc]
   have same:∀ (o':Nat->ad) (n':Nat) (s:List Int×Bool),Good o' n'->n3<=n'->(∀j,j<nx+7->o' j=ay (ay O3 (nx+1) (.row [.d (.bool s.2)])) mid (J7 s.1) j)->eS (nx+7) (G s) o' n':=fun o' n' s k1 k2 k3=>⟨k1,af,fun j hj=>by
    rw[k3 j hj]
    by_cases e1:j=mid
    ·subst e1;rw[aa,gm]
    ·rw[ae _ _ _ _ e1]
     by_cases e2:j=nx+1
     ·subst e2;rw[aa,gc]
     ·rw[ae _ _ _ _ e2,hI.eq j hj,ge _ _ e1 e2,ge _ _ e1 e2]⟩
   have z1:∀k,nb≠n3+k:=fun k=>af
   have z2:∀k,bb≠n3+k:=fun k=>af
   have z3:∀k,mb≠n3+k:=fun k=>af
   have z4:∀k,fb≠n3+k:=fun k=>af
   have z5:∀k,mid≠n3+k:=fun k=>af
   have z6:∀k,nx+1≠n3+k:=fun k=>af
   refine cK ?_
   refine nR hL (pd:=none) ?_ ?_
   ·(repeat(first|rfl|rw[aa]|rw[ae _ _ _ _ (by omega)]))
    exact HI
   refine BS q1 q2 q3 q4 q5 q6 ?_
   refine ak (fun h3=> ?_) (fun h3=> ?_)
   ·have kF:v=n:=by simpa using h3
    have ky:kC b n (m,false) v=(m,true):=by unfold kC;rw[if_pos kF]
    rw[ky]at eJ
    refine BS q1 q2 q3 q4 q5 q6 ?_
    refine eJ _ _ _ .busy none af (same _ _ _ dh af fun j hj=> ?_) cg (fun id h3 h4=>by(repeat(first|rfl|rw[aa]|rw[ae _ _ _ _ (by omega)])))
    by_cases e1:j=mid
    ·exact VF
    ·by_cases e2:j=nx+1
     ·exact VG
     ·exact cg
   ·have kF:v≠n:=by simpa using h3
    cases hl:bQ b v with
    |none=>
     have ky:kC b n (m,false) v=(m,false):=by unfold kC;rw[if_neg kF,hl]
     rw[ky]at eJ
     cases hc:m.contains v
     all_goals
      simp+contextual (disch:=first|omega|simp only[go_sem,false_implies]) only[go_sem,wrap64,if_pos,q1,q2,q3,q4,q5,q6,oL,eH hl,hc]
      refine eJ _ _ _ .busy none af (same _ _ _ dh af fun j hj=> ?_) cg (fun id h3 h4=>by(repeat(first|rfl|rw[aa]|rw[ae _ _ _ _ (by omega)])))
      by_cases e1:j=mid
      ·exact VF
      ·by_cases e2:j=nx+1
       ·exact aa0
       ·exact cg
    |some y=>
     obtain⟨jy,hj⟩:=fX hl
     have QV:=ck hl
     cases hc:m.contains v with
     |true=>
      have yM:v∈m:=List.contains_iff_mem.1 hc
      have ky:kC b n (m,false) v=(m,false):=by unfold kC;rw[if_neg kF,hl];dsimp only;rw[if_pos yM]
      rw[ky]at eJ
      simp+contextual (disch:=first|omega|simp only[go_sem,false_implies]) only[go_sem,wrap64,if_pos,q1,q2,q3,q4,q5,q6,oL,hj,hc]
      refine eJ _ _ _ .busy none af (same _ _ _ dh af fun j hj=> ?_) cg (fun id h3 h4=>by(repeat(first|rfl|rw[aa]|rw[ae _ _ _ _ (by omega)])))
      by_cases e1:j=mid
      ·exact VF
      ·by_cases e2:j=nx+1
       ·exact aa0
       ·exact cg
     |false=>
      have yM:v∉m:=fun h=>by rw[List.contains_iff_mem.2 h]at hc;cases hc
      have cq:=uZ hl yM
      have Mj:xF b (ew m v)<=b.length:=Nat.le_trans (Nat.le_of_lt cq) aaP
      obtain⟨i1,m1,g1,_,_⟩:=HV hb n b.length y (ew m v) Mj (hb _ QV)
      have ky:kC b n (m,false) v=(m1,i1):=by unfold kC;rw[if_neg kF,hl];dsimp only;rw[if_neg yM,g1]
      rw[ky]at eJ
      simp+contextual (disch:=first|omega|simp only[go_sem,false_implies]) only[go_sem,wrap64,if_pos,q1,q2,q3,q4,q5,q6,z1,z2,z3,z4,z5,z6,oL,hj,hc]
      refine aT (ihN _ af y (ew m v) (Nat.le_refl _) (hb _ QV) (og _ QV) i1 m1 g1 _ _ nb bb mb fb mid ?_ ?_ ?_ ?_ ?_ ?_ _ _ fun o4' n4 w1 w2 w3 w4=> ?_)
      ·exact dh
      ·(repeat(first|rfl|rw[aa]|rw[ae _ _ _ _ (by omega)]));exact q1
      ·(repeat(first|rfl|rw[aa]|rw[ae _ _ _ _ (by omega)]));exact q2
      ·exact VH
      ·exact Sh
      ·exact cg
      have p7:o4' (nx+7)=L .busy none:=by rw[w3 (nx+7) (by omega) (by omega)];(repeat(first|rfl|rw[aa]|rw[ae _ _ _ _ (by omega)]))
      have p6:o4' (nx+1)= .row [.d (.bool false)]:=by rw[w3 (nx+1) (by omega) (by omega)];(repeat(first|rfl|rw[aa]|rw[ae _ _ _ _ (by omega)]));exact q6
      have pj:∀j,j<nx+7->j≠mid->o4' j=O3 j:=fun j j1 j2=>by rw[w3 j (by omega) j2];(repeat(first|rfl|rw[aa]|rw[ae _ _ _ _ (by omega)]))
      have ph:∀j,nx+7<j->j<n3->o4' j=O3 j:=fun j j1 j2=>by rw[w3 j (by omega) (by omega)];(repeat(first|rfl|rw[aa]|rw[ae _ _ _ _ (by omega)]))
      clear hg
      have hg:=w2
      cases i1 with
      |true=>
       refine ou p6 ?_
       refine eJ _ _ _ .busy none af (same _ _ _ dh af fun j hj=> ?_) (by(repeat(first|rfl|rw[aa]|rw[ae _ _ _ _ (by omega)]))<;>exact p7) (fun id h3 h4=>by(repeat(first|rfl|rw[aa]|rw[ae _ _ _ _ (by omega)]))<;>exact ph id h3 h4)
       by_cases e1:j=mid
       ·exact aa1
       ·by_cases e2:j=nx+1
        ·exact VG
        ·exact Sb
      |false=>
       refine ou p6 ?_
       refine eJ _ _ _ .busy none af (same _ _ _ dh af fun j hj=> ?_) p7 (fun id h3 h4=>ph id h3 h4)
       by_cases e1:j=mid
       ·exact aa1
       ·by_cases e2:j=nx+1
        ·subst e2;(repeat(first|rfl|rw[aa]|rw[ae _ _ _ _ (by omega)]));exact p6
        ·exact Sb
  ·intro o' n' hI
   rw[rD (tg t) met is fQ hld]at hI|-
   have p6:o' (nx+1)= .row [.d (.bool is)]:=by rw[hI.eq (nx+1) (by omega),gc]
   have hle:=hI.le
   have hg:=hI.cu
   cases is with
   |true=>
    rw[show stJ (fQ,true)=some .ret from rfl]
    simp only[qS]
    refine ou p6 ?_
    exact hK _ _ af dh (fun j j1 j2=>by rw[hI.eq j (by omega),gl _ _ j1 j2]) (by rw[hI.eq mid (by omega),gm])
   |false=>
    rw[show stJ (fQ,false)=none from rfl]
    simp only[qS]
    refine ou p6 ?_
    refine hK _ _ af dh (fun j j1 j2=> ?_) ?_
    ·(repeat(first|rfl|rw[aa]|rw[ae _ _ _ _ (by omega)]));rw[hI.eq j (by omega),gl _ _ j1 j2]
    ·(repeat(first|rfl|rw[aa]|rw[ae _ _ _ _ (by omega)]));rw[hI.eq mid (by omega),gm]
theorem H6{s:az}{b:List (Int×Tm)}(hb:∀p∈b,Vs s p.2)(og:∀p∈b,p.2.fits)(n:Int)(t:Tm)(ht:Vs s t)(YI:t.fits){is:Bool}(F1:is=true↔oe b n t):
 aW Tryz.prog 120 [Ew b,t.d, .i n] (.ret [.bool is]):=by
 obtain⟨i1,m1,g1,g2⟩:=YB hb n ht
 have:is=i1:=by rw[Bool.eq_iff_iff,F1,g2]
 subst this
 refine aW.aG mix Uq aE ?_
 rw[XE]
 refine cK ?_
 have hN:xF b []<=b.length:=by unfold xF;exact Nat.le_trans (List.length_filter_le _ _) aaK
 refine aT (NW hb og n b.length t [] hN ht YI is m1 g1 _ _ 2 0 5 7 4 dh rfl rfl rfl rfl rfl _ _ fun o' nx' w1 w2 w3 w4=> ?_)
 exact pD
structure BL (l:List TB):Prop where
 len:l.length<=100
 sz:∀x∈l,x.term.sz<=1000
theorem zE{b:List (Int×Tm)}(og:∀p∈b,p.2.fits)(hle:∀p∈b,∃f r,tZ f b p.2 40 12=some r){ok:Bool}(aY:ok=true↔∀p∈b,zB b p.2):aW Tryz.prog 121 [Ew b] (.ret [.bool ok]):=by
 refine aW.aG mix Ur aE ?_
 rw[XF]
 simp+contextual (disch:=first|omega|simp only[go_sem,false_implies]) only[go_sem,wrap64,if_pos,oL]
 refine aD (fun i:List (Int×Tm)×Option (D×D)=>⟨aX [.d (Ew b), .ab, .ab, .ab, .ab, .ab, .ptr 2 0],ay (fun _=> .no) 2 (.rW (enc (D.int .i64) (kA i.1)) i.2),3⟩)
  (fun i=>(∀p∈i.1,p∈b)/\(ok=true↔∀p∈i.1,zB b p.2)) (fun i=>i.1.length) (b,none) ⟨fun _ h=>h,aY⟩ ?_ ?_
 ·dsimp only
  exact PF
 rintro⟨rest,last⟩ ⟨hr,ho⟩
 dsimp only at hr ho|-
 refine cK ?_
 refine s9 (fun h0=> ?_) fun i k x hm=> ?_
 ·subst h0
  have:ok=true:=ho.2 (fun p hp=>by cases hp)
  exact zW
 ·have mW:=List.mem_of_getElem? hm
  have O2:=hr _ mW
  obtain⟨f,r,hf⟩:=hle _ O2
  have hlen:(rest.eraseIdx i).length<rest.length:=by
   exact V2
  have vq:=qe hm
  refine cK ?_
  refine aq (NQ f x 40 12 r (og _ O2) og af af hf) rfl ?_
  have c7:=HW hf
  by_cases h0:r<0
  ·have Aj:decide (r<0)=true:=decide_eq_true h0
   have:ok=false:=by
    cases ok with
    |false=>rfl
    |true=>
     have:=c7.1 (ho.1 rfl _ mW)
     omega
   subst this
   exact zS Aj
  ·have Aj:decide (r<0)=false:=decide_eq_false h0
   refine ou Aj ?_
   refine aj (rest.eraseIdx i,some (.int .i64 k,x.d)) ⟨fun p hp=>hr p (vq.mem_iff.1 (List.mem_cons_of_mem _ hp)),ho.trans ⟨fun h p hp=>h p (vq.mem_iff.1 (List.mem_cons_of_mem _ hp)),fun h p hp=> ?_⟩⟩ hlen (bL.bS _ (show 0<=3 from af) af dh (fun j hj=> ?_) ?_)
   ·rcases List.mem_cons.1 (vq.mem_iff.2 hp)with rfl|hp
    ·exact c7.2 af
    ·exact h p hp
   ·by_cases e:j=2
    ·exact vi
    ·exact cg
   ·exact dT
structure Nt where
 a:Tm
 b:Tm
@[reducible] def Nt.d (n:Nt):D:= .agg [.i n.a.op, .i n.a.n, .sl (n.a.kids.map Tm.d), .i n.b.op, .i n.b.n, .sl (n.b.kids.map Tm.d)]
@[reducible] def Nt.row (n:Nt):List V:=[.d (.i n.a.op), .d (.i n.a.n), .d (.sl (n.a.kids.map Tm.d)), .d (.i n.b.op), .d (.i n.b.n), .d (.sl (n.b.kids.map Tm.d))]
@[reducible] def tj (m:Int×Int):D:= .agg [.i m.1, .i m.2]
structure bU where
 sig:az
 binds:List TB
 aI:List Nt
 marks:List (Int×Int)
@[reducible] def bU.d (s:bU):D:= .agg [.sl (s.sig.cons.map dX.d), .sl (s.sig.bZ.map dX.d), .sl (s.binds.map TB.d), .sl (s.aI.map Nt.d), .sl (s.marks.map tj)]
@[reducible] def bU.row (s:bU):List V:=[.d (.sl (s.sig.cons.map dX.d)), .d (.sl (s.sig.bZ.map dX.d)), .d (.sl (s.binds.map TB.d)), .d (.sl (s.aI.map Nt.d)), .d (.sl (s.marks.map tj))]
@[reducible] def bU.kd (s:bU) (b:List (Int×Tm)):D:= .agg [.sl (s.sig.cons.map dX.d), .sl (s.sig.bZ.map dX.d), .sl (s.binds.map TB.d), .sl (s.aI.map Nt.d), .sl (s.marks.map tj),Ew b]
def bJ(s:az)(t:Tm):Bool:=jk s [t]&&nV t
theorem oh(s:bU)(hs:s.sig.Fits)(b:List (Int×Tm))(t:Tm)(ht:t.Fin):aW Tryz.prog 99 [s.kd b,t.d] (.ret [.bool (bJ s.sig t)]):=by
 refine aW.aG mix adq aE ?_
 rw[c99]
 refine cK ?_
 refine aq (FQ s.sig hs t ht) rfl ?_
 unfold bJ
 cases h:jk s.sig [t]with
 |false=>
  exact aau
 |true=>
  exact aau
theorem zG(s:bU){b:List (Int×Tm)}(hb:∀p∈b,p.2.fits)(n:Nt)(ha:n.a.fits)(EL:n.b.fits){f:Nat}{x y:Tm}(hx:u5 f b n.a=some x)(hy:u5 f b n.b=some y)(fx:x.fits)(fy:y.fits)(zx:x.sz<=1000000)(zy:y.sz<=1000000):
 aW Tryz.prog 66 [s.kd b,n.d] (.ret [.bool (gY x y)]):=by
 refine aW.aG mix adf aE ?_
 rw[c66]
 refine cK ?_
 refine bC (w7 hb f n.a x ha hx zx) ?_
 refine cK ?_
 refine bC (w7 hb f n.b y EL hy zy) ?_
 refine cK ?_
 refine aZ (Rh x fx y fy) rfl ?_
 exact PE
def BP(b:List (Int×Tm))(n:Nt):Prop:=∃f x,u5 f b n.a=some x/\u5 f b n.b=some x
def mJ(nb nn:Int):Int×Int->List (Int×Int)->Bool
 |_,[]=>true
 |l,m::ms=> !(decide (m.1<l.1)||decide (m.1>nb)||decide (m.2<l.2)||decide (m.2>nn))&&mJ nb nn m ms
structure iz (s:az) (l:List TB):Prop where
 len:l.length<=20
 keys:((ag l).map (·.1)).Nodup
 ok:∀x∈l,(0<=x.var/\x.var<20)/\bJ s x.term=true
 FW:YC (ag l)
 Vd:∀x∈l,zB (ag l) x.term
structure bB (s:bU):Prop where
 sig:ji s.sig=true
 tl:s.aI.length<=12
 D2:s.marks.length<=8
 iS:iz s.sig s.binds
 aI:∀n∈s.aI,bJ s.sig n.a=true/\bJ s.sig n.b=true/\ ¬BP (ag s.binds) n
 marks:mJ s.binds.length s.aI.length (0,0) s.marks=true
structure bU.Fin (s:bU):Prop where
 sig:s.sig.Fits
 bl:s.binds.length<=1000
 nl:s.aI.length<=1000
 ml:s.marks.length<=1000
 bt:∀x∈s.binds,x.term.Fin
 nt:∀n∈s.aI,n.a.Fin/\n.b.Fin
theorem bz{s:az}{t:Tm}(h:bJ s t=true):Vs s t/\t.sz<=40/\t.mA<=12:=by
 unfold bJ jk at h
 simp only[Bool.and_eq_true,List.all_cons,List.all_nil,Bool.and_true]at h
 obtain⟨⟨_,h1⟩,h2⟩:=h
 rw[qb]at h1
 rw[oJ h1]at h2
 have h3:=HS h1
 unfold gI at h1
 rw[Bool.and_eq_true]at h1
 exact⟨⟨h1.2,h2⟩,h3.2⟩
theorem dq{l:List TB}{p:Int×Tm}(h:p∈ag l):∃x∈l,p=(x.var,x.term):=by
 obtain⟨x,hx,rfl⟩:=List.mem_map.1 h
 exact⟨x,hx,rfl⟩
theorem ez{l:List TB}{x:TB}(h:x∈l):(x.var,x.term)∈ag l:=List.mem_map.2 ⟨x,h,rfl⟩
theorem D3(l:List TB){k:Nat}{x:TB}(h:l[k]? =some x):ag (l.take (k+1))=ag (l.take k)++[(x.var,x.term)]:=by
 unfold ag
 rw[List.take_add_one,h,List.map_append];rfl
theorem jv{s:az}{l:List TB}(hk:((ag l).map (·.1)).Nodup)(ho:∀x∈l,(0<=x.var/\x.var<20)/\bJ s x.term=true)(ha:YC (ag l)):∃l' ρ R,kn s (ag l) l' ρ R/\iq s l':=
 NN hk (fun p hp=>by
  obtain⟨x,hx,rfl⟩:=dq hp
  exact⟨(ho x hx).1,(bz (ho x hx).2).1⟩) ha
theorem rE{s:az}{b:List (Int×Tm)}{l:List TB}{ρ:Int->Nat}{R:Nat}(h:kn s b l ρ R){n:Nt}(ha:Vs s n.a)(hb:Vs s n.b):BP b n↔aR (ag l) n.a=aR (ag l) n.b:=by
 have e1:=pB h _ n.a ha (Nat.le_refl _)
 have e2:=pB h _ n.b hb (Nat.le_refl _)
 constructor
 ·rintro⟨f,x,h1,h2⟩
  obtain⟨g,hg⟩:∃g,g=f+(R+3+((aR (ag l) n.a).sz+(aR (ag l) n.b).sz)):=⟨_,rfl⟩
  have k1:=ig h1 (show f<=g from af)
  have k2:=ig h2 (show f<=g from af)
  rw[ig e1 (show _<=g by omega)]at k1
  rw[ig e2 (show _<=g by omega)]at k2
  exact Option.some.inj (k1.trans k2.symm)
 ·intro h
  refine⟨R+3+((aR (ag l) n.a).sz+(aR (ag l) n.b).sz),aR (ag l) n.a,ig e1 af, ?_⟩
  rw[h]
  exact ig e2 af
theorem Rk{F:Tm->Int->Option Int}:∀ {ks:List Tm} {n r:Int},n<0->BO F ks n=some r->r=n
 |[],n,r,_,h=>by cases h;rfl
 |k::ks,n,r,hn,h=>by
  simp only[BO]at h
  rw[if_pos hn]at h
  cases h;rfl
theorem NX{F:Tm->Int->Option Int}{g:Tm->Nat}:∀ {ks:List Tm} {n r:Int},(∀k∈ks,∀m q,F k m=some q->0<=q->(g k:Int)=m - q)->BO F ks n=some r->0<=r->(((ks.map g).sum:Nat):Int)=n - r
 |[],n,r,_,h,_=>by cases h;simp
 |k::ks,n,r,hF,h,hr=>by
  have h0:=h
  simp only[BO]at h
  split at h
  ·cases h;omega
  ·cases e:F k n with
   |none=>rw[e]at h;cases h
   |some q=>
    rw[e]at h
    have hq:0<=q:=by
     rcases Int.lt_or_le q 0 with hq|hq
     ·have:=Rk hq h;omega
     ·exact hq
    have h1:=hF k aE n q e hq
    have h2:=NX (g:=g) (fun y hy=>hF y lD) h hr
    rw[List.map_cons,List.sum_cons]
    omega
theorem NY{s:az}{b:List (Int×Tm)}{l:List TB}{ρ:Int->Nat}{R:Nat}(h:kn s b l ρ R):∀ (f:Nat) (t:Tm) (n:Int) (d:Nat) (r:Int),Vs s t->tZ f b t n d=some r->0<=r->((aR (ag l) t).sz:Int)=n - r
 |0,_,_,_,_,_,h,_=>by cases h
 |f+1,t,n,d,r,ht,hl,hr=>by
  simp only[tZ]at hl
  obtain⟨x,a1,a2,a3,a4,_⟩:=h.root ht
  cases ha:lC f b t with
  |none=>rw[ha]at hl;cases hl
  |some y=>
  have e1:=hZ a1 (show R+2<=f+(R+2)from af)
  rw[hZ ha (show f<=f+(R+2) by omega)]at e1
  cases e1
  rw[ha]at hl
  cases d with
  |zero=>cases hl;omega
  |succ d=>
   dsimp only at hl
   have h1:=NX (g:=fun k=>(aR (ag l) k).sz) (fun k hk m q hq hq0=>NY h f k m d q (a2.ki hk) hq hq0) hl hr
   rw[<- a3]
   by_cases hx:x.op=1
   ·have e:=a2.eta hx
    have hk:x.kids=[]:=by rw[e];rfl
    have hv:aR (ag l) x=x:=by rw[du a2 hx,show Lv (ag l) x.n= .mk 1 x.n [] by simp[Lv,(h.xC _).1 (a4 hx)]];exact e.symm
    rw[hk]at h1
    rw[hv,Tm.iw,hk]
    simp[oH]at h1|-
    omega
   ·rw[dY hx,Tm.iw]
    have:oH (Tm.mk x.op x.n (x.kids.map (aR (ag l)))).kids=(x.kids.map fun k=>(aR (ag l) k).sz).sum:=by
     show oH (x.kids.map (aR (ag l)))=_
     unfold oH
     rw[List.map_map];rfl
    rw[this]
    omega
theorem F2{s:az}{b:List (Int×Tm)}{l:List TB}{ρ:Int->Nat}{R:Nat}(h:kn s b l ρ R){t:Tm}(ht:Vs s t)(hf:zB b t):(aR (ag l) t).sz<=40:=by
 obtain⟨f,r,h1,h2⟩:=hf
 have:=NY h f t 40 12 r ht h1 h2
 omega
theorem aeQ{s:az}{b:List (Int×Tm)}(hb:∀v,(Lv b v).sz<=40):∀t:Tm,Vs s t->(aR b t).sz<=40*t.sz:=by
 refine Tm.ek fun t ih ht=> ?_
 by_cases h1:t.op=1
 ·rw[du ht h1]
  have:=hb t.n
  have:=Tm.sY t
  omega
 ·rw[dY h1,Tm.iw,Tm.iw t]
  show 1+oH (t.kids.map (aR b))<=40*(1+oH t.kids)
  have key:∀ks:List Tm,(∀k∈ks,(aR b k).sz<=40*k.sz)->oH (ks.map (aR b))<=40*oH ks:=by
   intro ks
   induction ks with
   |nil=>intro _;simp[oH]
   |cons k ks uF=>
    intro h
    have h1:=h k aE
    have h2:=uF fun y hy=>h y lD
    rw[List.map_cons,rq,rq]
    omega
  have:=key t.kids fun k hk=>ih k hk (ht.ki hk)
  omega
theorem mK{s:az}{b:List (Int×Tm)}{l:List TB}{ρ:Int->Nat}{R:Nat}(h:kn s b l ρ R)(hf:∀p∈b,zB b p.2){t:Tm}(ht:Vs s t):(aR (ag l) t).sz<=40*t.sz:=by
 refine aeQ (fun v=> ?_) t ht
 cases hx:bQ b v with
 |none=>
  have:Lv (ag l) v= .mk 1 v []:=by simp[Lv,(h.xC v).1 hx]
  rw[this,Tm.iw]
  simp[Tm.kids,oH]
 |some x=>
  obtain⟨g1,g2,_⟩:=h.ok v x hx
  rw[g2]
  exact F2 h g1 (hf _ (ck hx))
end Go.Proofs.YtlhemmpklhhgoaaGreat
