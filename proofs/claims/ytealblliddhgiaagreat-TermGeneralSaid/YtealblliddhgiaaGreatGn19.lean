/-
  A PART OF THE PROOF. Conditions: none.
-/
import Derived.Test.YtealblliddhgiaaGreatGn18
set_option linter.unusedSimpArgs false
set_option linter.unusedVariables false
namespace Go.Proofs.YtealblliddhgiaaGreat
mutual
def nA:Tm->Tm->List (Int×Tm)->List (Int×Tm)×Bool
 | .mk op n kids,v,b=>if op=1 then(match bz b n with|some x=>(b,iM x v)|none=>(b++[(n,v)],true))
   else if op≠v.op\/n≠v.n\/kids.length≠v.kids.length then(b,false)else kC kids v.kids b
def kC:List Tm->List Tm->List (Int×Tm)->List (Int×Tm)×Bool
 |[],_,b=>(b,true)
 |_::_,[],b=>(b,true)
 |k::l,k'::l',b=>if(nA k k' b).2=true then kC l l' (nA k k' b).1 else((nA k k' b).1,false)
end
mutual
def de:Tm->Tm->List TB->List TB×Bool
 | .mk op n kids,v,b=>if op=1 then(match bz (aj b) n with|some x=>(b,iM x v)|none=>(nw b n v,true))
   else if op≠v.op\/n≠v.n\/kids.length≠v.kids.length then([],false)else ed kids v.kids b
def ed:List Tm->List Tm->List TB->List TB×Bool
 |[],_,b=>(b,true)
 |_::_,[],b=>(b,true)
 |k::l,k'::l',b=>if(de k k' b).2=true then ed l l' (de k k' b).1 else((de k k' b).1,false)
end
theorem yH(t v:Tm)(b:List (Int×Tm)):nA t v b=if t.op=1 then(match bz b t.n with|some x=>(b,iM x v)|none=>(b++[(t.n,v)],true))
 else if t.op≠v.op\/t.n≠v.n\/t.kids.length≠v.kids.length then(b,false)else kC t.kids v.kids b:=by cases t;rfl
theorem Bv(t v:Tm)(b:List TB):de t v b=if t.op=1 then(match bz (aj b) t.n with|some x=>(b,iM x v)|none=>(nw b t.n v,true))
 else if t.op≠v.op\/t.n≠v.n\/t.kids.length≠v.kids.length then([],false)else ed t.kids v.kids b:=by cases t;rfl
structure Bw (s:aO) (l:List TB):Prop where
 ID:l.Pairwise fun x y=>x.var<y.var
 ok:∀x∈l,(0<=x.var/\x.var<20)/\Vs s x.term
theorem j5.IG {s:aO}{l:List TB}(h:j5 s l):Bw s l:=⟨h.ID,h.ok⟩
theorem Bw.ins {s:aO}{l:List TB}(h:Bw s l){n:Int}{t:Tm}(hn:bz (aj l) n=none)(hr:0<=n/\n<20)(ht:Vs s t):Bw s (nw l n t):=
 ⟨Eo h.ID (kQ hn),fun x hx=>by
  rcases qd.1 hx with rfl|hx
  ·exact⟨hr,ht⟩
  ·exact h.ok x hx⟩
structure MS (b:List (Int×Tm)) (l:List TB):Prop where
 keys:(b.map (·.1)).Nodup
 lk:∀v,bz b v=bz (aj l) v
theorem MS.snoc {b:List (Int×Tm)}{l:List TB}(h:MS b l){n:Int}{t:Tm}(hn:bz b n=none):MS (b++[(n,t)]) (nw l n t):=by
 refine⟨?_,fun v=> ?_⟩
 ·rw[List.map_append,List.map_cons,List.map_nil,List.nodup_append]
  refine⟨h.keys,by simp,fun a ha c hc=> ?_⟩
  simp at hc
  subst hc
  exact fun e=>(gO.1 hn) (e ▸ ha)
 ·rw[uS,uP (by rw[<- h.lk];exact hn), <- h.lk]
  by_cases e:v=n
  ·subst e;simp[hn]
  ·rw[if_neg e]
   cases bz b v with
   |some x=>rfl
   |none=>simp;exact fun h=>e h.symm
theorem Es{s:aO}:∀ (t v:Tm) (b:List (Int×Tm)) (l:List TB),Vs s t->Vs s v->MS b l->Bw s l->(nA t v b).2=(de t v l).2/\((de t v l).2=true->MS (nA t v b).1 (de t v l).1/\Bw s (de t v l).1):=by
 refine Tm.eO fun t ih v b l ht hv hm hs=> ?_
 rw[yH,Bv]
 by_cases h1:t.op=1
 ·simp only[if_pos h1]
  rw[<- hm.lk]
  cases hl:bz b t.n with
  |some x=>exact⟨rfl,fun _=>⟨hm,hs⟩⟩
  |none=>exact⟨rfl,fun _=>⟨hm.snoc hl,hs.ins (by rw[<- hm.lk];exact hl) (ht.range ((gk h1).2 rfl)) hv⟩⟩
 ·simp only[if_neg h1]
  split
  ·exact⟨rfl,fun h=>by cases h⟩
  ·have key:∀ (ks cl:List Tm) (b:List (Int×Tm)) (l:List TB),(∀k∈ks,k∈t.kids)->(∀k∈cl,Vs s k)->MS b l->Bw s l->(kC ks cl b).2=(ed ks cl l).2/\((ed ks cl l).2=true->MS (kC ks cl b).1 (ed ks cl l).1/\Bw s (ed ks cl l).1):=by
    intro ks
    induction ks with
    |nil=>intro cl b l _ _ hm hs;simp only[kC,ed];exact⟨trivial,fun _=>⟨hm,hs⟩⟩
    |cons k ks pc=>
     intro cl b l m1 m2 hm hs
     cases cl with
     |nil=>simp only[kC,ed];exact⟨trivial,fun _=>⟨hm,hs⟩⟩
     |cons k' cl=>
      simp only[kC,ed]
      obtain⟨e1,e2⟩:=ih k (m1 k (by simp)) k' b l (ht.mC (m1 k (by simp))) (m2 k' (by simp)) hm hs
      rw[e1]
      by_cases h2:(de k k' l).2=true
      ·simp only[if_pos h2]
       obtain⟨e3,e4⟩:=e2 h2
       exact pc cl _ _ (fun y hy=>m1 y (by simp[hy])) (fun y hy=>m2 y (by simp[hy])) e3 e4
      ·simp only[if_neg h2]
       exact⟨trivial,fun h=>by cases h⟩
   exact key t.kids v.kids b l (fun _ h=>h) (fun k hk=>hv.mC hk) hm hs
theorem II:∀ {l l':List TB},l.Pairwise (fun x y=>x.var<y.var)->l'.Pairwise (fun x y=>x.var<y.var)->(∀v,bz (aj l) v=bz (aj l') v)->l=l'
 |[],[],_,_,_=>rfl
 |[],y::l',_,_,h=>by have:=h y.var;simp[aj,bz]at this
 |x::l,[],_,_,h=>by have:=h x.var;simp[aj,bz]at this
 |x::l,y::l',hx,hy,h=>by
  rw[List.pairwise_cons]at hx hy
  have none_lt:∀ (l:List TB) (v:Int),(∀z∈l,v<z.var)->bz (aj l) v=none:=fun l v hz=>by
   rw[gO]
   intro hm
   obtain⟨p,hp,e⟩:=List.mem_map.1 hm
   obtain⟨z,hz2,rfl⟩:=List.mem_map.1 hp
   have:=hz z hz2
   simp only at e
   omega
  have EL:=h x.var
  have PH:=h y.var
  simp only[aj,List.map_cons,bz,if_pos]at EL PH
  have Zi:x.var=y.var:=by
   rcases Int.lt_trichotomy x.var y.var with h1|h1|h1
   ·rw[if_neg (by omega)]at EL
    have:=none_lt l' x.var (fun z hz=>by have:=hy.1 z hz;omega)
    rw[aj]at this
    rw[this]at EL;cases EL
   ·exact h1
   ·rw[if_neg (by omega)]at PH
    have:=none_lt l y.var (fun z hz=>by have:=hx.1 z hz;omega)
    rw[aj]at this
    rw[this]at PH;cases PH
  rw[if_pos Zi.symm]at EL
  injection EL with EL
  have e:x=y:=by cases x;cases y;simp only at Zi EL;rw[Zi,EL]
  subst e
  rw[II hx.2 hy.2 fun v=> ?_]
  have hv:=h v
  simp only[aj,List.map_cons,bz]at hv
  by_cases e:x.var=v
  ·subst e
   rw[none_lt l x.var hx.1,none_lt l' x.var hy.1]
  ·rw[if_neg e,if_neg e]at hv
   exact hv
def jX(b:List (Int×Tm))(n:Nat):List TB:=(List.range n).filterMap fun i:Nat=>(bz b (i:Int)).map fun x=>⟨(i:Int),x⟩
theorem oZ(b:List (Int×Tm))(n:Nat):jX b (n+1)=jX b n++(match bz b (n:Int)with|some x=>[⟨(n:Int),x⟩]|none=>[]):=by
 unfold jX
 rw[List.range_succ,List.filterMap_append]
 cases h:bz b (n:Int)<;>simp[h]
theorem F3(b:List (Int×Tm))(n:Nat):(jX b n).length<=n:=by
 unfold jX
 have:=List.length_filterMap_le (fun i:Nat=>(bz b (i:Int)).map fun x=>(⟨(i:Int),x⟩:TB)) (List.range n)
 simpa using this
theorem F4{b:List (Int×Tm)}{n:Nat}{x:TB}(h:x∈jX b n):0<=x.var/\x.var<n/\bz b x.var=some x.term:=by
 unfold jX at h
 rw[List.mem_filterMap]at h
 obtain⟨i,hi,e⟩:=h
 rw[List.mem_range]at hi
 cases hl:bz b (i:Int)with
 |none=>rw[hl]at e;cases e
 |some y=>rw[hl]at e;simp at e;subst e;exact⟨by simp only;omega,by simp only;omega,hl⟩
theorem xc(b:List (Int×Tm)):∀n:Nat,(jX b n).Pairwise fun x y=>x.var<y.var
 |0=>by simp[jX]
 |n+1=>by
  rw[oZ,List.pairwise_append]
  refine⟨xc b n, ?_,fun x hx y hy=> ?_⟩
  ·cases bz b (n:Int)<;>simp
  ·have:=F4 hx
   cases hl:bz b (n:Int)with
   |none=>rw[hl]at hy;cases hy
   |some z=>rw[hl]at hy;simp at hy;subst hy;exact this.2.1
theorem Bx(b:List (Int×Tm))(v:Int):∀n:Nat,bz (aj (jX b n)) v=if 0<=v/\v<n then bz b v else none
 |0=>by
  have: ¬ (0<=v/\v<((0:Nat):Int)):=by omega
  rw[if_neg this];simp[jX,aj,bz]
 |n+1=>by
  have app:∀ (l m:List TB),bz (aj (l++m)) v=match bz (aj l) v with|some x=>some x|none=>bz (aj m) v:=by
   intro l m
   induction l with
   |nil=>simp[aj,bz]
   |cons q l ih=>
    simp only[aj,List.cons_append,List.map_cons,bz]at ih|-
    split
    ·rfl
    ·exact ih
  rw[oZ,app,Bx b v n]
  by_cases h1:0<=v/\v<(n:Int)
  ·rw[if_pos h1,if_pos (by omega)]
   cases hl:bz b v with
   |some x=>rfl
   |none=>
    cases hn:bz b (n:Int)with
    |none=>rfl
    |some x=>
     simp only[aj,List.map_cons,List.map_nil,bz]
     rw[if_neg (by omega)]
  ·rw[if_neg h1]
   by_cases h2:v=(n:Int)
   ·subst h2
    rw[if_pos (by omega)]
    cases hn:bz b (n:Int)with
    |none=>rfl
    |some x=>simp[aj,bz]
   ·rw[if_neg (by omega)]
    cases hn:bz b (n:Int)with
    |none=>rfl
    |some x=>
     simp only[aj,List.map_cons,List.map_nil,bz]
     rw[if_neg (fun e=>h2 e.symm)]
theorem Bz{s:aO}{b:List (Int×Tm)}{l:List TB}(h:∀v,bz b v=bz (aj l) v)(hs:Bw s l):jX b 20=l:=by
 refine II (xc b 20) hs.ID fun v=> ?_
 rw[Bx,h]
 split
 ·rfl
 ·rename_i h2
  cases hl:bz (aj l) v with
  |none=>rfl
  |some x=>
   obtain⟨y,hy,e1,e2⟩:=gq hl
   have:=(hs.ok y hy).1
   exact absurd (⟨by omega,by omega⟩:0<=v/\v<((20:Nat):Int)) h2
def vi(F:Tm->Int->Option (Option Tm×Int)):List Tm->Int->Option (Option (List Tm)×Int)
 |[],left=>some (some [],left)
 |k::ks,left=>match F k left with
  |some (some y,l1)=>(match vi F ks l1 with
   |some (some ys,l2)=>some (some (y::ys),l2)
   |some (none,l2)=>some (none,l2)
   |none=>none)
  |some (none,l1)=>some (none,l1)
  |none=>none
def xd:Nat->List (Int×Tm)->Tm->Int->Int->Option (Option Tm×Int)
 |0,_,_,_,_=>none
 |f+1,b,t,left,d=>match kT f b t with
  |some x=>if left - 1<0\/d=0 then some (none,left - 1)else(match vi (fun k l=>xd f b k l (d - 1)) x.kids (left - 1)with
   |some (some ks,l1)=>some (some (.mk x.op x.n ks),l1)
   |some (none,l1)=>some (none,l1)
   |none=>none)
  |none=>none
theorem lL{F G:Tm->Int->Option (Option Tm×Int)}(Bs:∀k l r,F k l=some r->G k l=some r):∀ {ks:List Tm} {l:Int} {r:Option (List Tm)×Int},vi F ks l=some r->vi G ks l=some r
 |[],_,_,h=>h
 |k::ks,l,r,h=>by
  simp only[vi]at h|-
  split at h
  ·rename_i y l1 e
   rw[Bs _ _ _ e]
   simp only
   split at h
   ·rename_i ys l2 e2;rw[lL Bs e2];exact h
   ·rename_i l2 e2;rw[lL Bs e2];exact h
   ·cases h
  ·rename_i l1 e;rw[Bs _ _ _ e];exact h
  ·cases h
theorem nB{b:List (Int×Tm)}:∀ {f g:Nat} {t:Tm} {left d:Int} {r:Option Tm×Int},xd f b t left d=some r->f<=g->xd g b t left d=some r
 |0,_,_,_,_,_,h,_=>by cases h
 |f+1,0,_,_,_,_,_,h=>by omega
 |f+1,g+1,t,left,d,r,h,hg=>by
  simp only[xd]at h|-
  split at h
  ·rename_i x e
   rw[dc e (by omega:f<=g)]
   simp only
   split
   ·rename_i h1;rw[if_pos h1]at h;exact h
   ·rename_i h1
    rw[if_neg h1]at h
    split at h
    ·rename_i ks l1 e2;rw[lL (fun k l r hk=>nB hk (by omega:f<=g)) e2];exact h
    ·rename_i l1 e2;rw[lL (fun k l r hk=>nB hk (by omega:f<=g)) e2];exact h
    ·cases h
  ·cases h
theorem PI{s:aO}{b:List (Int×Tm)}{l:List TB}{ρ:Int->Nat}{R:Nat}(h:vF s b l ρ R):∀ (z:Nat) (t:Tm),Vs s t->(aY (aj l) t).sz<=z->∀ (left d:Int),0<=d->
 ∃f l1,xd f b t left d=some (if((aY (aj l) t).sz:Int)<=left/\((aY (aj l) t).ck:Int)<=d then some (aY (aj l) t)else none,l1)/\(((aY (aj l) t).sz:Int)<=left/\((aY (aj l) t).ck:Int)<=d->l1=left - (aY (aj l) t).sz):=by
 intro z
 induction z with
 |zero=>intro t _ hz;have:=Tm.nn (aY (aj l) t);omega
 |succ z ih=>
  intro t ht hz left d hd
  obtain⟨x,a1,a2,a3,a4,_,_⟩:=h.root ht
  obtain⟨p1,p2,p3,p4,p5⟩:=qf h a2 a4
  rw[<- a3]at hz|-
  have ff:=Tm.nn (aY (aj l) x)
  have hhp:1<=(aY (aj l) x).ck:=by rw[Tm.ec];omega
  by_cases h1:left - 1<0\/d=0
  ·refine⟨R+3,left - 1, ?_,fun hh=> ?_⟩
   ·simp only[xd,a1,if_pos h1]
    rw[if_neg (by omega)]
   ·omega
  ·have Et:(aY (aj l) x).kids=x.kids.map (aY (aj l)):=by
    by_cases hx:x.op=1
    ·rw[p4 hx,a2.eta hx];rfl
    ·exact p5 hx
   have key:∀ (ks:List Tm) (left:Int),0<=left->(∀k∈ks,k∈x.kids)->
    ∃f l1,vi (fun k l=>xd f b k l (d - 1)) ks left=some (if(mF (ks.map (aY (aj l))):Int)<=left/\(Tm.dQ (ks.map (aY (aj l))):Int)<=d - 1 then some (ks.map (aY (aj l)))else none,l1)/\((mF (ks.map (aY (aj l))):Int)<=left/\(Tm.dQ (ks.map (aY (aj l))):Int)<=d - 1->l1=left - mF (ks.map (aY (aj l)))):=by
    intro ks
    induction ks with
    |nil=>
     intro left hl _
     refine⟨0,left, ?_,fun _=>by simp[mF]⟩
     simp only[vi,List.map_nil,mF,List.sum_nil,Tm.dQ]
     rw[if_pos (by omega)]
    |cons k ks pc=>
     intro left hl QV
     have hk:=QV k (by simp)
     have vk:=a2.mC hk
     have QX:(aY (aj l) k).sz<=z:=by
      have h3:aY (aj l) k∈(aY (aj l) x).kids:=by rw[Et];exact List.mem_map.2 ⟨k,hk,rfl⟩
      have h4:=Tm.gQ h3
      omega
     obtain⟨f,l1,e1,e2⟩:=ih k vk QX left (d - 1) (by omega)
     rw[List.map_cons,dL,lE]
     have yU:∀ (m n:Nat) (c:Int),((Nat.max m n:Nat):Int)<=c↔(m:Int)<=c/\(n:Int)<=c:=fun m n c=>by
      show((max m n:Nat):Int)<=c↔_
      omega
     by_cases h2:((aY (aj l) k).sz:Int)<=left/\((aY (aj l) k).ck:Int)<=d - 1
     ·rw[if_pos h2]at e1
      have e2:=e2 h2
      obtain⟨f2,l2,e3,e4⟩:=pc l1 (by omega) (fun y hy=>QV y (by simp[hy]))
      have hw:vi (fun k l=>xd (max f f2) b k l (d - 1)) (k::ks) left=match(if(mF (ks.map (aY (aj l))):Int)<=l1/\(Tm.dQ (ks.map (aY (aj l))):Int)<=d - 1 then some (ks.map (aY (aj l)))else none)with|some ys=>some (some (aY (aj l) k::ys),l2)|none=>some (none,l2):=by
       simp only[vi]
       rw[nB e1 (Nat.le_max_left _ _)]
       simp only
       rw[lL (fun k l r hk=>nB hk (Nat.le_max_right f f2)) e3]
       generalize (if(mF (ks.map (aY (aj l))):Int)<=l1/\(Tm.dQ (ks.map (aY (aj l))):Int)<=d - 1 then some (ks.map (aY (aj l)))else none)=q
       cases q<;>rfl
      refine⟨max f f2,l2, ?_,fun hh=> ?_⟩
      ·rw[hw]
       by_cases h3:(mF (ks.map (aY (aj l))):Int)<=l1/\(Tm.dQ (ks.map (aY (aj l))):Int)<=d - 1
       ·rw[if_pos h3,if_pos]
        rw[yU];omega
       ·rw[if_neg h3,if_neg]
        rw[yU];omega
      ·rw[yU]at hh
       rw[e4 (by omega)]
       omega
     ·rw[if_neg h2]at e1
      refine⟨f,l1, ?_,fun hh=> ?_⟩
      ·simp only[vi,e1]
       rw[if_neg]
       rw[yU];omega
      ·rw[yU]at hh
       omega
   obtain⟨f,l1,e1,e2⟩:=key x.kids (left - 1) (by omega) (fun _ h=>h)
   have eg:(aY (aj l) x).sz=1+mF (x.kids.map (aY (aj l))):=by rw[Tm.iQ,Et]
   have hhg:(aY (aj l) x).ck=1+Tm.dQ (x.kids.map (aY (aj l))):=by rw[Tm.ec,Et]
   have htm:Tm.mk x.op x.n (x.kids.map (aY (aj l)))=aY (aj l) x:=by rw[<- Et, <- p1, <- p2];exact Tm.eta _
   refine⟨max f (R+2)+1,l1, ?_,fun hh=> ?_⟩
   ·simp only[xd]
    rw[dc a1 (Nat.le_max_right _ _)]
    simp only[if_neg h1]
    rw[lL (fun k l r hk=>nB hk (Nat.le_max_left f (R+2))) e1]
    by_cases h3:(mF (x.kids.map (aY (aj l))):Int)<=left - 1/\(Tm.dQ (x.kids.map (aY (aj l))):Int)<=d - 1
    ·rw[if_pos h3,if_pos (by omega)]
     simp only[htm]
    ·rw[if_neg h3,if_neg (by omega)]
   ·rw[e2 (by omega)];omega
end Go.Proofs.YtealblliddhgiaaGreat
namespace Go.Proofs.YtealblliddhgiaaGreat
def C8(t:Tm):D:=if t.op=1 then .iface 131 (.i t.n)else .iface 132 t.d
theorem seeD_1{t:Tm}(h:t.op=1):C8 t= .iface 131 (.i t.n):=if_pos h
theorem seeD_2{t:Tm}(h: ¬t.op=1):C8 t= .iface 132 t.d:=if_neg h
@[go_sem] theorem Le:qu Tryz.prog 131=true:=by kernel_rfl
@[go_sem] theorem MX:qu Tryz.prog 132=true:=by kernel_rfl
theorem mm(t:Tm):bJ Tryz.prog 98 [t.d] (.ret [C8 t]):=by
 refine bJ.aZ mix Tn (by simp) ?_
 rw[YL]
 by_cases h1:t.op=1
 ·have nI:(t.op==1)=true:=by simpa using h1
  rw[seeD_1 h1]
  simp+contextual (disch:=first|omega|simp only[go_sem,false_implies]) only[go_sem,wrap64,if_pos,nI]
 ·have nI:(t.op==1)=false:=by simpa using h1
  rw[seeD_2 h1]
  simp+contextual (disch:=first|omega|simp only[go_sem,false_implies]) only[go_sem,wrap64,if_pos,nI]
theorem yI(n:Int):bJ Tryz.prog 125 [.i n] (.ret [(Tm.mk 1 n []).d]):=by
 refine bJ.aZ mix MJ (by simp) ?_
 rw[O6]
 simp+contextual (disch:=first|omega|simp only[go_sem,false_implies]) only[go_sem,wrap64,if_pos,and_self]
 refine aU (nq n) ?_
 simp+contextual (disch:=first|omega|simp only[go_sem,false_implies]) only[go_sem,wrap64,if_pos,and_self]
theorem sS(t:Tm):bJ Tryz.prog 128 [t.d] (.ret [t.d]):=by
 refine bJ.aZ mix ML (by simp) ?_
 rw[O8]
 simp+contextual (disch:=first|omega|simp only[go_sem,false_implies]) only[go_sem,wrap64,if_pos,and_self]
theorem Lg{b:List (Int×Tm)}{f:Nat}{t x:Tm}(h:kT f b t=some x){o:Nat->ae}{nx id:Nat}(hg:Good o nx)(ho:o id=cI b)(K X:V->(Nat->ae)->Nat->Prop)
 (hK:∀o' nx',nx<=nx'->Good o' nx'->(∀j,j<nx->o' j=o j)->K (.d (C8 x)) o' nx'):dX Tryz.prog 101 [.mp id, .d t.d] o nx K X:=by
 have bC:id<nx:=hg.lt (by rw[ho];exact ae.noConfusion)
 have y1:id≠nx:=by omega
 have y2:∀k,id≠nx+k:=fun k=>by omega
 refine dX.aZ mix HL (by simp) ?_
 rw[Kj]
 simp+contextual (disch:=first|omega|simp only[go_sem,false_implies]) only[go_sem,wrap64,if_pos,ho,y1,y2,Nat.add_assoc,Nat.left_eq_add,Nat.add_eq_left,Nat.add_left_cancel_iff]
 refine aW (fun i:Nat×Tm=>⟨bw [.mp id, .ab, .ab, .ptr nx 0],ak o nx (.row i.2.row),nx+1⟩)
  (fun i=>kT i.1 b i.2=some x) (fun i=>i.1) (f,t) h ?_ ?_
 ·dsimp only
  refine bW.bE _ (by omega) (by omega) (by repeat(first|exact hg.mono (by omega)|exact Good.nil|refine Good.ak ?_ (by omega) rfl|refine Good.ak ?_ (by omega) (bV _ _ _ (by omega))|refine Good.ak ?_ (by omega) (by simp[ae.refs,V.ag,V.refs]<;>omega))) (fun j hj=> ?_) ?_
  ·(repeat(first|rfl|rw[aa]|rw[ad _ _ _ _ (by omega)]))
  ·(repeat(first|exact aq|refine ai ?_|refine ah rfl ?_|refine ah (aQ (aP (by omega))) ?_|refine aA rfl (by simp[V.refs,V.ag]<;>first|omega|assumption) ?_))
 rintro⟨f,t⟩ hf
 simp only at hf
 simp+contextual (disch:=first|omega|simp only[go_sem,false_implies]) only[go_sem,wrap64,if_pos,ho,y1,y2,Nat.add_assoc,Nat.left_eq_add,Nat.add_eq_left,Nat.add_left_cancel_iff]
 refine aU (mm t) ?_
 cases f with
 |zero=>cases hf
 |succ f=>
 simp only[kT]at hf
 by_cases h1:t.op=1
 ·rw[if_pos h1]at hf
  rw[seeD_1 h1]
  cases hl:bz b t.n with
  |none=>
   rw[hl]at hf
   injection hf with hf
   subst hf
   simp+contextual (disch:=first|omega|simp only[go_sem,false_implies]) only[go_sem,wrap64,if_pos,ho,y1,y2,Nat.add_assoc,Nat.left_eq_add,Nat.add_eq_left,Nat.add_left_cancel_iff,dz hl]
   refine aU (mm t) ?_
   rw[seeD_1 h1]at hK|-
   simp+contextual (disch:=first|omega|simp only[go_sem,false_implies]) only[go_sem,wrap64,if_pos,and_self]
   exact hK _ _ (by omega) (by repeat(first|exact hg.mono (by omega)|exact Good.nil|refine Good.ak ?_ (by omega) rfl|refine Good.ak ?_ (by omega) (bV _ _ _ (by omega))|refine Good.ak ?_ (by omega) (by simp[ae.refs,V.ag,V.refs]<;>omega))) (fun j hj=>by(repeat(first|rfl|rw[aa]|rw[ad _ _ _ _ (by omega)])))
  |some z=>
   rw[hl]at hf
   obtain⟨j,hj⟩:=eA hl
   simp+contextual (disch:=first|omega|simp only[go_sem,false_implies]) only[go_sem,wrap64,if_pos,ho,y1,y2,Nat.add_assoc,Nat.left_eq_add,Nat.add_eq_left,Nat.add_left_cancel_iff,hj]
   refine aB (f,z) hf (by dsimp only;omega) (bW.bE _ (by omega) (by omega) (by repeat(first|exact hg.mono (by omega)|exact Good.nil|refine Good.ak ?_ (by omega) rfl|refine Good.ak ?_ (by omega) (bV _ _ _ (by omega))|refine Good.ak ?_ (by omega) (by simp[ae.refs,V.ag,V.refs]<;>omega))) (fun j hj=> ?_) ?_)
   ·by_cases e:j=nx
    ·subst e;(repeat(first|rfl|rw[aa]|rw[ad _ _ _ _ (by omega)]))
    ·(repeat(first|rfl|rw[aa]|rw[ad _ _ _ _ (by omega)]))
   ·(repeat(first|exact aq|refine ai ?_|refine ah rfl ?_|refine ah (aQ (aP (by omega))) ?_|refine aA rfl (by simp[V.refs,V.ag]<;>first|omega|assumption) ?_))
 ·rw[if_neg h1]at hf
  injection hf with hf
  subst hf
  rw[seeD_2 h1]at hK|-
  cases hl:bz b 0 with
  |none=>
   simp+contextual (disch:=first|omega|simp only[go_sem,false_implies]) only[go_sem,wrap64,if_pos,ho,y1,y2,Nat.add_assoc,Nat.left_eq_add,Nat.add_eq_left,Nat.add_left_cancel_iff,dz hl]
   refine aU (mm t) ?_
   rw[seeD_2 h1]
   simp+contextual (disch:=first|omega|simp only[go_sem,false_implies]) only[go_sem,wrap64,if_pos,and_self]
   exact hK _ _ (by omega) (by repeat(first|exact hg.mono (by omega)|exact Good.nil|refine Good.ak ?_ (by omega) rfl|refine Good.ak ?_ (by omega) (bV _ _ _ (by omega))|refine Good.ak ?_ (by omega) (by simp[ae.refs,V.ag,V.refs]<;>omega))) (fun j hj=>by(repeat(first|rfl|rw[aa]|rw[ad _ _ _ _ (by omega)])))
  |some z=>
   obtain⟨j,hj⟩:=eA hl
   simp+contextual (disch:=first|omega|simp only[go_sem,false_implies]) only[go_sem,wrap64,if_pos,ho,y1,y2,Nat.add_assoc,Nat.left_eq_add,Nat.add_eq_left,Nat.add_left_cancel_iff,hj]
   refine aU (mm t) ?_
   rw[seeD_2 h1]
   simp+contextual (disch:=first|omega|simp only[go_sem,false_implies]) only[go_sem,wrap64,if_pos,and_self]
   exact hK _ _ (by omega) (by repeat(first|exact hg.mono (by omega)|exact Good.nil|refine Good.ak ?_ (by omega) rfl|refine Good.ak ?_ (by omega) (bV _ _ _ (by omega))|refine Good.ak ?_ (by omega) (by simp[ae.refs,V.ag,V.refs]<;>omega))) (fun j hj=>by(repeat(first|rfl|rw[aa]|rw[ad _ _ _ _ (by omega)])))
end Go.Proofs.YtealblliddhgiaaGreat
namespace Go.Proofs.YtealblliddhgiaaGreat
theorem nC{P:Program}{g:FuncId}{K:KD}{X:XD}{o:Nat->ae}{nx fr:Nat}{rd:List Nat}{ds:List D}{all:List V}(h:l8 P g K X o nx fr all):oN P g K X o nx fr rd ds all:=by unfold oN;exact Or.inr h
def BdK(id:Nat)(b':List (Int×Tm))(o:Nat->ae)(nx:Nat)(K:(Nat->ae)->Nat->Prop):Prop:=
 ∀o' nx',nx<=nx'->Good o' nx'->(∀j,j<nx->j≠id->o' j=o j)->o' id=cI b'->K o' nx'
def UY(t:Tm):Prop:=∀ (v:Tm),v.fits->∀ (b:List (Int×Tm)),(∀p∈b,p.2.fits)->∀ (o:Nat->ae) (nx id:Nat),Good o nx->o id=cI b->∀ (K X:V->(Nat->ae)->Nat->Prop),BdK id (nA t v b).1 o nx (K (.d (.bool (nA t v b).2)))->
    dX Tryz.prog 61 [.mp id, .d t.d, .d v.d] o nx K X
theorem UZ{t v:Tm}(h:UY t)(hv:v.fits){b:List (Int×Tm)}(hb:∀p∈b,p.2.fits){o:Nat->ae}{nx id:Nat}(ho:o id=cI b)(bC:id<nx):
 xP Tryz.prog 61 [.mp id, .d t.d, .d v.d] [id] o (.ret [.bool (nA t v b).2]) [(id,cI (nA t v b).1)]:=by
 have tY:∀j∈[id],j<nx:=by simp;exact bC
 have mE:∀k∈[id],∀j∈(o k).refs,j∈[id]:=by
  intro k hk j hj
  simp at hk
  subst hk
  rw[ho]at hj;simp[ae.refs]at hj
 refine xP.kG tY (by simp[V.ag,V.refs]) mE (by simp) (by simp[ae.refs]) ?_
 refine h v hv b hb _ _ id (uL tY mE) ((yB (by simp)).trans ho) _ _ ?_
 intro o' nx' g1 g2 g3 g4
 refine⟨fun k hk=> ?_,[.d (.bool (nA t v b).2)],[.bool (nA t v b).2],rfl,rfl,rfl,fun k hk=>by simp[V.bf,V.ids]at hk⟩
 simp at hk
 subst hk
 rw[g4];simp only[nK,tT];rw[aa]
theorem yJ{P:Tm->Prop}(hP:∀t k,P t->k∈t.kids->P k):∀ (t v:Tm) (b:List (Int×Tm)),P v->(∀p∈b,P p.2)->∀p∈(nA t v b).1,P p.2:=by
 refine Tm.eO fun t ih v b hv hb=> ?_
 rw[yH]
 split
 ·split
  ·exact hb
  ·intro p hp
   rcases List.mem_append.1 hp with hp|hp
   ·exact hb p hp
   ·simp at hp;subst hp;exact hv
 ·split
  ·exact hb
  ·have key:∀ (ks cl:List Tm) (b:List (Int×Tm)),(∀k∈ks,k∈t.kids)->(∀k∈cl,P k)->(∀p∈b,P p.2)->∀p∈(kC ks cl b).1,P p.2:=by
    intro ks
    induction ks with
    |nil=>intro cl b _ _ hb;exact hb
    |cons k ks pc=>
     intro cl b m1 m2 hb
     cases cl with
     |nil=>exact hb
     |cons k' cl=>
      simp only[kC]
      have:=ih k (m1 k (by simp)) k' b (m2 k' (by simp)) hb
      split
      ·exact pc cl _ (fun y hy=>m1 y (by simp[hy])) (fun y hy=>m2 y (by simp[hy])) this
      ·exact this
   exact key t.kids v.kids b (fun _ h=>h) (fun k hk=>hP v k hv hk) hb
theorem IJ(t v:Tm)(b:List (Int×Tm)):v.fits->(∀p∈b,p.2.fits)->∀p∈(nA t v b).1,p.2.fits:=
 yJ (P:=Tm.fits) (fun t k h hk=>((Tm.bR t).1 h).2 k hk) t v b
theorem Lh:∀t:Tm,t.fits->UY t:=by
 refine Tm.eO fun t ih ht=> ?_
 have EU:=(Tm.bR t).1 ht
 intro v hv b hb o nx id hg ho K X hK
 have pa:=(Tm.bR v).1 hv
 have bC:id<nx:=hg.lt (by rw[ho];exact ae.noConfusion)
 have y1:id≠nx:=by omega
 have y2:∀k,id≠nx+k:=fun k=>by omega
 refine dX.aZ mix S1 (by simp) ?_
 rw[Yb]
 rw[yH]at hK
 simp+contextual (disch:=first|omega|simp only[go_sem,false_implies]) only[go_sem,wrap64,if_pos,ho,y1,y2,Nat.add_assoc,Nat.left_eq_add,Nat.add_eq_left,Nat.add_left_cancel_iff]
 refine aU (mm t) ?_
 by_cases h1:t.op=1
 ·rw[if_pos h1]at hK
  rw[seeD_1 h1]
  cases hl:bz b t.n with
  |none=>
   rw[hl]at hK
   simp+contextual (disch:=first|omega|simp only[go_sem,false_implies]) only[go_sem,wrap64,if_pos,ho,y1,y2,Nat.add_assoc,Nat.left_eq_add,Nat.add_eq_left,Nat.add_left_cancel_iff,dz hl,iS hl]
   refine hK _ _ (by omega) (by repeat(first|exact hg.mono (by omega)|exact Good.nil|refine Good.ak ?_ (by omega) rfl|refine Good.ak ?_ (by omega) (bV _ _ _ (by omega))|refine Good.ak ?_ (by omega) (by simp[ae.refs,V.ag,V.refs]<;>omega))) (fun j h1 h2=>by(repeat(first|rfl|rw[aa]|rw[ad _ _ _ _ (by omega)]))) (by(repeat(first|rfl|rw[aa]|rw[ad _ _ _ _ (by omega)])))
  |some z=>
   rw[hl]at hK
   simp only at hK
   obtain⟨j,hj⟩:=eA hl
   simp+contextual (disch:=first|omega|simp only[go_sem,false_implies]) only[go_sem,wrap64,if_pos,ho,y1,y2,Nat.add_assoc,Nat.left_eq_add,Nat.add_eq_left,Nat.add_left_cancel_iff,hj]
   refine aw (K5 z (hb _ (fN hl)) v hv) rfl ?_
   simp+contextual (disch:=first|omega|simp only[go_sem,false_implies]) only[go_sem,wrap64,if_pos,and_self]
   refine hK _ _ (by omega) (by repeat(first|exact hg.mono (by omega)|exact Good.nil|refine Good.ak ?_ (by omega) rfl|refine Good.ak ?_ (by omega) (bV _ _ _ (by omega))|refine Good.ak ?_ (by omega) (by simp[ae.refs,V.ag,V.refs]<;>omega))) (fun j h1 h2=>by(repeat(first|rfl|rw[aa]|rw[ad _ _ _ _ (by omega)]))) (by(repeat(first|rfl|rw[aa]|rw[ad _ _ _ _ (by omega)]))<;>exact ho)
 ·rw[if_neg h1]at hK
  rw[seeD_2 h1]
  by_cases h2:t.op≠v.op\/t.n≠v.n\/t.kids.length≠v.kids.length
  ·rw[if_pos h2]at hK
   have u6:(t.op !=v.op||t.n !=v.n||(t.kids.length:Int)!=(v.kids.length:Int))=true:=by
    rcases h2 with h|h|h
    ·simp[h]
    ·simp[h]
    ·have:((t.kids.length:Int)!=(v.kids.length:Int))=true:=by simp;omega
     simp[this]
   simp+contextual (disch:=first|omega|simp only[go_sem,false_implies]) only[go_sem,wrap64,if_pos,ho,y1,y2,Nat.add_assoc,Nat.left_eq_add,Nat.add_eq_left,Nat.add_left_cancel_iff,u6,List.length_map]
   refine hK _ _ (by omega) (by repeat(first|exact hg.mono (by omega)|exact Good.nil|refine Good.ak ?_ (by omega) rfl|refine Good.ak ?_ (by omega) (bV _ _ _ (by omega))|refine Good.ak ?_ (by omega) (by simp[ae.refs,V.ag,V.refs]<;>omega))) (fun j h1 h2=>by(repeat(first|rfl|rw[aa]|rw[ad _ _ _ _ (by omega)]))) (by(repeat(first|rfl|rw[aa]|rw[ad _ _ _ _ (by omega)]))<;>exact ho)
  ·rw[if_neg h2]at hK
   have u6:(t.op !=v.op||t.n !=v.n||(t.kids.length:Int)!=(v.kids.length:Int))=false:=by
    have e1:t.op=v.op:=Classical.byContradiction fun e=>h2 (Or.inl e)
    have e2:t.n=v.n:=Classical.byContradiction fun e=>h2 (Or.inr (Or.inl e))
    have e3:t.kids.length=v.kids.length:=Classical.byContradiction fun e=>h2 (Or.inr (Or.inr e))
    simp[e1,e2,e3]
   have e3:t.kids.length=v.kids.length:=Classical.byContradiction fun e=>h2 (Or.inr (Or.inr e))
   simp+contextual (disch:=first|omega|simp only[go_sem,false_implies]) only[go_sem,wrap64,if_pos,ho,y1,y2,Nat.add_assoc,Nat.left_eq_add,Nat.add_eq_left,Nat.add_left_cancel_iff,u6,List.length_map]
   refine aW (fun i:Nat×List (Int×Tm)=>⟨bw [.mp id, .ab, .ab, .ab, .ab, .ptr (nx+1) 0, .ab, .ab, .ab, .ab, .ab, .ab, .ab, .ab, .ab, .ab, .ab, .ab, .ab, .ab, .ab, .ab, .ab, .ab, .ab, .ab, .ab, .ab, .ab, .ab, .ab, .ab, .ab, .ab, .ab, .ab, .ab, .ab, .ab, .ab, .ab, .ab, .ab, .ab, .ab, .ab, .ab, .ab, .ab, .ab, .ab, .ab, .ab, .ab, .ab, .ab, .d (.sl (t.kids.map Tm.d)), .d (.i t.kids.length), .d (.i i.1)],ak (ak (ak o nx (.row t.row)) (nx+1) (.row v.row)) id (cI i.2),nx+2⟩)
    (fun i=>i.1<=t.kids.length/\(∀p∈i.2,p.2.fits)/\kC t.kids v.kids b=kC (t.kids.drop i.1) (v.kids.drop i.1) i.2) (fun i=>t.kids.length - i.1) (0,b) ⟨Nat.zero_le _,hb,rfl⟩ ?_ ?_
   ·dsimp only
    refine bW.bE _ (by omega) (by omega) (by repeat(first|exact hg.mono (by omega)|exact Good.nil|refine Good.ak ?_ (by omega) rfl|refine Good.ak ?_ (by omega) (bV _ _ _ (by omega))|refine Good.ak ?_ (by omega) (by simp[ae.refs,V.ag,V.refs]<;>omega))) (fun j hj=> ?_) ?_
    ·by_cases e:j=id
     ·subst e;(repeat(first|rfl|rw[aa]|rw[ad _ _ _ _ (by omega)]));exact ho
     ·by_cases e1:j=nx+1
      ·subst e1;(repeat(first|rfl|rw[aa]|rw[ad _ _ _ _ (by omega)]))
      ·by_cases e2:j=nx
       ·subst e2;(repeat(first|rfl|rw[aa]|rw[ad _ _ _ _ (by omega)]))
       ·(repeat(first|rfl|rw[aa]|rw[ad _ _ _ _ (by omega)]))
    ·(repeat(first|exact aq|refine ai ?_|refine ah rfl ?_|refine ah (aQ (aP (by omega))) ?_|refine aA rfl (by simp[V.refs,V.ag]<;>first|omega|assumption) ?_))
   rintro⟨k,b1⟩ ⟨hk,sE,aT⟩
   simp only at hk sE aT
   simp+contextual (disch:=first|omega|simp only[go_sem,false_implies]) only[go_sem,wrap64,if_pos,ho,y1,y2,Nat.add_assoc,Nat.left_eq_add,Nat.add_eq_left,Nat.add_left_cancel_iff]
   refine ay (fun h5=> ?_) (fun h5=> ?_)
   ·simp at h5
    obtain⟨x,hx⟩:=aX h5
    have kx:=List.mem_of_getElem? hx
    obtain⟨z,hz⟩:=aX (l:=v.kids) (k:=k) (by omega)
    have hzm:=List.mem_of_getElem? hz
    have Zj:t.kids.drop k=x::t.kids.drop (k+1):=by
     obtain⟨h5,h6⟩:=List.getElem?_eq_some_iff.1 hx
     rw[List.drop_eq_getElem_cons h5,h6]
    have Zk:v.kids.drop k=z::v.kids.drop (k+1):=by
     obtain⟨h5,h6⟩:=List.getElem?_eq_some_iff.1 hz
     rw[List.drop_eq_getElem_cons h5,h6]
    rw[Zj,Zk]at aT
    simp only[kC]at aT
    have hmf:=IJ x z b1 (pa.2 z hzm) sE
    simp+contextual (disch:=first|omega|simp only[go_sem,false_implies]) only[go_sem,wrap64,if_pos,ho,y1,y2,Nat.add_assoc,Nat.left_eq_add,Nat.add_eq_left,Nat.add_left_cancel_iff,hx,hz]
    refine nC (m9 (by simp;omega) (UZ (ih x kx (EU.2 x kx)) (pa.2 z hzm) sE (nx:=nx+9) ?_ (by omega)) ?_)
    ·(repeat(first|rfl|rw[aa]|rw[ad _ _ _ _ (by omega)]))
    simp+contextual (disch:=first|omega|simp only[go_sem,false_implies]) only[go_sem,wrap64,if_pos,ho,y1,y2,Nat.add_assoc,Nat.left_eq_add,Nat.add_eq_left,Nat.add_left_cancel_iff]
    refine aR (lJ (by kernel_rfl)) ?_
    cases h6:(nA x z b1).2 with
    |false=>
     rw[h6]at aT
     simp only[Bool.false_eq_true,if_false]at aT
     rw[aT]at hK
     simp+contextual (disch:=first|omega|simp only[go_sem,false_implies]) only[go_sem,wrap64,if_pos,ho,y1,y2,Nat.add_assoc,Nat.left_eq_add,Nat.add_eq_left,Nat.add_left_cancel_iff]
     exact hK _ _ (by omega) (by repeat(first|exact hg.mono (by omega)|exact Good.nil|refine Good.ak ?_ (by omega) rfl|refine Good.ak ?_ (by omega) (bV _ _ _ (by omega))|refine Good.ak ?_ (by omega) (by simp[ae.refs,V.ag,V.refs]<;>omega))) (fun j h1 h2=>by(repeat(first|rfl|rw[aa]|rw[ad _ _ _ _ (by omega)]))) (by(repeat(first|rfl|rw[aa]|rw[ad _ _ _ _ (by omega)])))
    |true=>
     rw[h6]at aT
     simp only[if_true]at aT
     simp+contextual (disch:=first|omega|simp only[go_sem,false_implies]) only[go_sem,wrap64,if_pos,ho,y1,y2,Nat.add_assoc,Nat.left_eq_add,Nat.add_eq_left,Nat.add_left_cancel_iff]
     refine aB (k+1,(nA x z b1).1) ⟨h5,hmf,aT⟩ (by dsimp only;omega) (bW.bE _ (by omega) (by omega) (by repeat(first|exact hg.mono (by omega)|exact Good.nil|refine Good.ak ?_ (by omega) rfl|refine Good.ak ?_ (by omega) (bV _ _ _ (by omega))|refine Good.ak ?_ (by omega) (by simp[ae.refs,V.ag,V.refs]<;>omega))) (fun j hj=> ?_) ?_)
     ·dsimp only
      by_cases e:j=id
      ·subst e;(repeat(first|rfl|rw[aa]|rw[ad _ _ _ _ (by omega)]))
      ·by_cases e1:j=nx+1
       ·subst e1;(repeat(first|rfl|rw[aa]|rw[ad _ _ _ _ (by omega)]))
       ·by_cases e2:j=nx
        ·subst e2;(repeat(first|rfl|rw[aa]|rw[ad _ _ _ _ (by omega)]))
        ·(repeat(first|rfl|rw[aa]|rw[ad _ _ _ _ (by omega)]))
     ·(repeat(first|exact aq|refine ai ?_|refine ah rfl ?_|refine ah (aQ (aP (by omega))) ?_|refine aA rfl (by simp[V.refs,V.ag]<;>first|omega|assumption) ?_))
   ·simp at h5
    rw[List.drop_eq_nil_of_le h5]at aT
    simp only[kC]at aT
    rw[aT]at hK
    simp+contextual (disch:=first|omega|simp only[go_sem,false_implies]) only[go_sem,wrap64,if_pos,ho,y1,y2,Nat.add_assoc,Nat.left_eq_add,Nat.add_eq_left,Nat.add_left_cancel_iff]
    refine hK _ _ (by omega) (by repeat(first|exact hg.mono (by omega)|exact Good.nil|refine Good.ak ?_ (by omega) rfl|refine Good.ak ?_ (by omega) (bV _ _ _ (by omega))|refine Good.ak ?_ (by omega) (by simp[ae.refs,V.ag,V.refs]<;>omega))) (fun j h1 h2=> ?_) (by(repeat(first|rfl|rw[aa]|rw[ad _ _ _ _ (by omega)])))
    (repeat(first|rfl|rw[aa]|rw[ad _ _ _ _ (by omega)]))
end Go.Proofs.YtealblliddhgiaaGreat
namespace Go.Proofs.YtealblliddhgiaaGreat
theorem Eu{b:List (Int×Tm)}(hb:∀p∈b,p.2.fits):∀ (f:Nat) (t x:Tm),t.fits->kT f b t=some x->x.fits
 |0,_,_,_,h=>by cases h
 |f+1,t,x,ht,h=>by
  simp only[kT]at h
  split at h
  ·split at h
   ·rename_i y hy;exact Eu hb f y x (hb _ (fN hy)) h
   ·injection h with h;exact h ▸ ht
  ·injection h with h;exact h ▸ ht
theorem uU{b:List (Int×Tm)}(hb:∀p∈b,p.2.fits):∀ (f:Nat) (n:Int) (t:Tm) (met:List Int) (is:Bool) (fS:List Int),t.fits->BN f b n t met=some (is,fS)->∀ (o:Nat->ae) (nx id mid:Nat),Good o nx->o id=cI b->o mid=jV met->∀ (K X:V->(Nat->ae)->Nat->Prop),
 (∀o' nx',nx<=nx'->Good o' nx'->(∀j,j<nx->j≠mid->o' j=o j)->o' mid=jV fS->K (.d (.bool is)) o' nx')->
 dX Tryz.prog 127 [.mp id, .d (.i n), .d t.d, .mp mid] o nx K X
 |0,_,_,_,_,_,_,h=>by cases h
 |f+1,n,t,met,is,fS,ht,h=>by
  intro o nx id mid hg ho hm K X hK
  have bC:id<nx:=hg.lt (by rw[ho];exact ae.noConfusion)
  have PZ:mid<nx:=hg.lt (by rw[hm];exact ae.noConfusion)
  have him:id≠mid:=fun e=>by subst e;rw[hm]at ho;cases ho
  have hmi:mid≠id:=fun e=>him e.symm
  have y1:id≠nx:=by omega
  have y2:∀k,id≠nx+k:=fun k=>by omega
  have y3:mid≠nx:=by omega
  have y4:∀k,mid≠nx+k:=fun k=>by omega
  simp only[BN]at h
  cases ha:kT f b t with
  |none=>rw[ha]at h;cases h
  |some x=>
  rw[ha]at h
  simp only at h
  have PJ:=(Tm.bR x).1 (Eu hb f t x ht ha)
  refine dX.aZ mix MK (by simp) ?_
  rw[O7]
  simp+contextual (disch:=first|omega|simp only[go_sem,false_implies]) only[go_sem,wrap64,if_pos,ho,hm,y1,y2,y3,y4,Nat.add_assoc,Nat.left_eq_add,Nat.add_eq_left,Nat.add_left_cancel_iff]
  refine bK (Lg ha (id:=id) ?_ ?_ _ _ fun o1 n1 g1 g2 g3=> ?_)
  ·exact(by repeat(first|exact hg.mono (by omega)|exact Good.nil|refine Good.ak ?_ (by omega) rfl|refine Good.ak ?_ (by omega) (bV _ _ _ (by omega))|refine Good.ak ?_ (by omega) (by simp[ae.refs,V.ag,V.refs]<;>omega)))
  ·(repeat(first|rfl|rw[aa]|rw[ad _ _ _ _ (by omega)]))
   exact ho
  have lP:o1 id=cI b:=by rw[g3 id (by omega)];(repeat(first|rfl|rw[aa]|rw[ad _ _ _ _ (by omega)]));exact ho
  have xq:o1 mid=jV met:=by rw[g3 mid (by omega)];(repeat(first|rfl|rw[aa]|rw[ad _ _ _ _ (by omega)]));exact hm
  have V5:∀ (o':Nat->ae) (n':Nat),n1<=n'->Good o' n'->(∀j,j<n1->j≠mid->o' j=o1 j)->o' mid=jV fS->K (.d (.bool is)) o' n':=fun o' n' k1 k2 k3 k4=>
   hK o' n' (by omega) k2 (fun j j1 j2=>by rw[k3 j (by omega) j2,g3 j (by omega)];(repeat(first|rfl|rw[aa]|rw[ad _ _ _ _ (by omega)]))) k4
  clear hK
  replace hg:=g2
  by_cases h1:x.op=1
  ·rw[if_pos h1]at h
   injection h with h
   injection h with h h2
   subst h;subst h2
   rw[seeD_1 h1]
   simp+contextual (disch:=first|omega|simp only[go_sem,false_implies]) only[go_sem,wrap64,if_pos,and_self]
   exact V5 _ _ (by omega) (by repeat(first|exact hg.mono (by omega)|exact Good.nil|refine Good.ak ?_ (by omega) rfl|refine Good.ak ?_ (by omega) (bV _ _ _ (by omega))|refine Good.ak ?_ (by omega) (by simp[ae.refs,V.ag,V.refs]<;>omega))) (fun j j1 j2=>by(repeat(first|rfl|rw[aa]|rw[ad _ _ _ _ (by omega)]))) (by(repeat(first|rfl|rw[aa]|rw[ad _ _ _ _ (by omega)]))<;>exact xq)
  ·rw[if_neg h1]at h
   rw[seeD_2 h1]
   simp+contextual (disch:=first|omega|simp only[go_sem,false_implies]) only[go_sem,wrap64,if_pos,and_self]
   refine aW (fun i:Nat×List Int×(Nat->ae)×Nat=>⟨bw [.mp id, .d (.i n), .ab, .mp mid, .ab, .ab, .ab, .ab, .ab, .ab, .ab, .ab, .ab, .ab, .ab, .ab, .ab, .ab, .ab, .ab, .ab, .ab, .ab, .ab, .ab, .ab, .d (.sl (x.kids.map Tm.d)), .d (.i x.kids.length), .d (.i i.1)],i.2.2.1,i.2.2.2⟩)
    (fun i=>i.1<=x.kids.length/\F1 (BN f b n) (x.kids.drop i.1) i.2.1=some (is,fS)/\Good i.2.2.1 i.2.2.2/\n1<=i.2.2.2/\(∀j,j<n1->j≠mid->i.2.2.1 j=o1 j)/\i.2.2.1 mid=jV i.2.1) (fun i=>x.kids.length - i.1)
    (0,met,ak (ak o1 (n1+6) (.row [.d (.i 0), .d (.i 0), .bn])) (n1+6) (.row x.row),n1+12) ⟨Nat.zero_le _,h,by dsimp only;exact(by repeat(first|exact hg.mono (by omega)|exact Good.nil|refine Good.ak ?_ (by omega) rfl|refine Good.ak ?_ (by omega) (bV _ _ _ (by omega))|refine Good.ak ?_ (by omega) (by simp[ae.refs,V.ag,V.refs]<;>omega))),by dsimp only;omega,fun j j1 j2=>by dsimp only;(repeat(first|rfl|rw[aa]|rw[ad _ _ _ _ (by omega)])),by dsimp only;(repeat(first|rfl|rw[aa]|rw[ad _ _ _ _ (by omega)]))<;>exact xq⟩ ?_ ?_
   ·dsimp only
    refine bW.bE _ (by omega) (by omega) (by repeat(first|exact hg.mono (by omega)|exact Good.nil|refine Good.ak ?_ (by omega) rfl|refine Good.ak ?_ (by omega) (bV _ _ _ (by omega))|refine Good.ak ?_ (by omega) (by simp[ae.refs,V.ag,V.refs]<;>omega))) (fun j hj=>rfl) ?_
    (repeat(first|exact aq|refine ai ?_|refine ah rfl ?_|refine ah (aQ (aP (by omega))) ?_|refine aA rfl (by simp[V.refs,V.ag]<;>first|omega|assumption) ?_))
   rintro⟨k,m,o2,n2⟩ ⟨hk,hL,QT,hn,cS,zA⟩
   simp only at hk hL QT hn cS zA
   have aag:mid<n2:=by omega
   have oe:o2 id=cI b:=by rw[cS id (by omega) him];exact lP
   have z2:∀k,id≠n2+k:=fun k=>by omega
   have z4:∀k,mid≠n2+k:=fun k=>by omega
   clear hg
   have hg:=QT
   simp+contextual (disch:=first|omega|simp only[go_sem,false_implies]) only[go_sem,wrap64,if_pos,oe,zA,z2,z4,Nat.add_assoc,Nat.left_eq_add,Nat.add_eq_left,Nat.add_left_cancel_iff]
   refine ay (fun h5=> ?_) (fun h5=> ?_)
   ·simp at h5
    obtain⟨y,hy⟩:=aX h5
    have Pk:=List.mem_of_getElem? hy
    have Px:x.kids.drop k=y::x.kids.drop (k+1):=by
     obtain⟨h5,h6⟩:=List.getElem?_eq_some_iff.1 hy
     rw[List.drop_eq_getElem_cons h5,h6]
    rw[Px]at hL
    simp only[F1]at hL
    by_cases hv:y.op=1
    ·have pa:(y.op==1)=true:=by simpa using hv
     by_cases hc:y.n∈m
     ·rw[if_pos ⟨hv,hc⟩]at hL
      have zJ:m.contains y.n=true:=List.contains_iff_mem.2 hc
      simp+contextual (disch:=first|omega|simp only[go_sem,false_implies]) only[go_sem,wrap64,if_pos,oe,zA,z2,z4,Nat.add_assoc,Nat.left_eq_add,Nat.add_eq_left,Nat.add_left_cancel_iff,hy,pa,zJ]
      refine aB (k+1,m,ak (ak o2 (n2+3) (.row [.d (.i 0), .d (.i 0), .bn])) (n2+3) (.row y.row),n2+16) ⟨h5,hL, ?_,by dsimp only;omega, ?_, ?_⟩ (by dsimp only;omega) (bW.bE _ (by dsimp only;omega) (by dsimp only;omega) ?_ (fun j hj=>rfl) ?_)
      ·dsimp only;exact(by repeat(first|exact hg.mono (by omega)|exact Good.nil|refine Good.ak ?_ (by omega) rfl|refine Good.ak ?_ (by omega) (bV _ _ _ (by omega))|refine Good.ak ?_ (by omega) (by simp[ae.refs,V.ag,V.refs]<;>omega)))
      ·intro j j1 j2;dsimp only;rw[<- cS j j1 j2];(repeat(first|rfl|rw[aa]|rw[ad _ _ _ _ (by omega)]))
      ·dsimp only;(repeat(first|rfl|rw[aa]|rw[ad _ _ _ _ (by omega)]));exact zA
      ·dsimp only;exact(by repeat(first|exact hg.mono (by omega)|exact Good.nil|refine Good.ak ?_ (by omega) rfl|refine Good.ak ?_ (by omega) (bV _ _ _ (by omega))|refine Good.ak ?_ (by omega) (by simp[ae.refs,V.ag,V.refs]<;>omega)))
      ·dsimp only
       (repeat(first|exact aq|refine ai ?_|refine ah rfl ?_|refine ah (aQ (aP (by omega))) ?_|refine aA rfl (by simp[V.refs,V.ag]<;>first|omega|assumption) ?_))
     ·rw[if_neg (fun h=>hc h.2),if_pos hv]at hL
      have zJ:m.contains y.n=false:=by rw[Bool.eq_false_iff];intro h;exact hc (List.contains_iff_mem.1 h)
      simp+contextual (disch:=first|omega|simp only[go_sem,false_implies]) only[go_sem,wrap64,if_pos,oe,zA,z2,z4,Nat.add_assoc,Nat.left_eq_add,Nat.add_eq_left,Nat.add_left_cancel_iff,hy,pa,zJ]
      cases e:BN f b n y (oU m y.n)with
      |none=>rw[e]at hL;cases hL
      |some r=>
      obtain⟨U0,m1⟩:=r
      refine bK (uU hb f n y _ U0 m1 (PJ.2 y Pk) e _ _ id mid ?_ ?_ ?_ _ _ fun o3 n3 w1 w2 w3 w4=> ?_)
      ·exact(by repeat(first|exact hg.mono (by omega)|exact Good.nil|refine Good.ak ?_ (by omega) rfl|refine Good.ak ?_ (by omega) (bV _ _ _ (by omega))|refine Good.ak ?_ (by omega) (by simp[ae.refs,V.ag,V.refs]<;>omega)))
      ·(repeat(first|rfl|rw[aa]|rw[ad _ _ _ _ (by omega)]))
       exact oe
      ·(repeat(first|rfl|rw[aa]|rw[ad _ _ _ _ (by omega)]))
      rw[e]at hL
      cases U0 with
      |true=>
       simp only at hL
       injection hL with hL
       injection hL with hL U1
       subst hL;subst U1
       simp+contextual (disch:=first|omega|simp only[go_sem,false_implies]) only[go_sem,wrap64,if_pos,and_self]
       exact V5 _ _ (by omega) (w2.mono (by omega)) (fun j j1 j2=>by rw[w3 j (by omega) j2, <- cS j j1 j2];(repeat(first|rfl|rw[aa]|rw[ad _ _ _ _ (by omega)]))) w4
      |false=>
       simp only at hL
       simp+contextual (disch:=first|omega|simp only[go_sem,false_implies]) only[go_sem,wrap64,if_pos,and_self]
       refine aB (k+1,m1,o3,n3+2) ⟨h5,hL,by dsimp only;exact w2.mono (by omega),by dsimp only;omega,fun j j1 j2=>by dsimp only;rw[w3 j (by omega) j2, <- cS j j1 j2];(repeat(first|rfl|rw[aa]|rw[ad _ _ _ _ (by omega)])),w4⟩ (by dsimp only;omega) (bW.bE _ (by dsimp only;omega) (by dsimp only;omega) (by dsimp only;exact w2.mono (by omega)) (fun j hj=>rfl) ?_)
       dsimp only
       (repeat(first|exact aq|refine ai ?_|refine ah rfl ?_|refine ah (aQ (aP (by omega))) ?_|refine aA rfl (by simp[V.refs,V.ag]<;>first|omega|assumption) ?_))
    ·have pa:(y.op==1)=false:=by simpa using hv
     rw[if_neg (fun h=>hv h.1),if_neg hv]at hL
     simp+contextual (disch:=first|omega|simp only[go_sem,false_implies]) only[go_sem,wrap64,if_pos,oe,zA,z2,z4,Nat.add_assoc,Nat.left_eq_add,Nat.add_eq_left,Nat.add_left_cancel_iff,hy,pa]
     cases e:BN f b n y m with
     |none=>rw[e]at hL;cases hL
     |some r=>
     obtain⟨U0,m1⟩:=r
     refine bK (uU hb f n y _ U0 m1 (PJ.2 y Pk) e _ _ id mid ?_ ?_ ?_ _ _ fun o3 n3 w1 w2 w3 w4=> ?_)
     ·exact(by repeat(first|exact hg.mono (by omega)|exact Good.nil|refine Good.ak ?_ (by omega) rfl|refine Good.ak ?_ (by omega) (bV _ _ _ (by omega))|refine Good.ak ?_ (by omega) (by simp[ae.refs,V.ag,V.refs]<;>omega)))
     ·(repeat(first|rfl|rw[aa]|rw[ad _ _ _ _ (by omega)]))
      exact oe
     ·(repeat(first|rfl|rw[aa]|rw[ad _ _ _ _ (by omega)]))
      exact zA
     rw[e]at hL
     cases U0 with
     |true=>
      simp only at hL
      injection hL with hL
      injection hL with hL U1
      subst hL;subst U1
      simp+contextual (disch:=first|omega|simp only[go_sem,false_implies]) only[go_sem,wrap64,if_pos,and_self]
      exact V5 _ _ (by omega) (w2.mono (by omega)) (fun j j1 j2=>by rw[w3 j (by omega) j2, <- cS j j1 j2];(repeat(first|rfl|rw[aa]|rw[ad _ _ _ _ (by omega)]))) w4
     |false=>
      simp only at hL
      simp+contextual (disch:=first|omega|simp only[go_sem,false_implies]) only[go_sem,wrap64,if_pos,and_self]
      refine aB (k+1,m1,o3,n3+2) ⟨h5,hL,by dsimp only;exact w2.mono (by omega),by dsimp only;omega,fun j j1 j2=>by dsimp only;rw[w3 j (by omega) j2, <- cS j j1 j2];(repeat(first|rfl|rw[aa]|rw[ad _ _ _ _ (by omega)])),w4⟩ (by dsimp only;omega) (bW.bE _ (by dsimp only;omega) (by dsimp only;omega) (by dsimp only;exact w2.mono (by omega)) (fun j hj=>rfl) ?_)
      dsimp only
      (repeat(first|exact aq|refine ai ?_|refine ah rfl ?_|refine ah (aQ (aP (by omega))) ?_|refine aA rfl (by simp[V.refs,V.ag]<;>first|omega|assumption) ?_))
   ·simp at h5
    rw[List.drop_eq_nil_of_le h5]at hL
    simp only[F1]at hL
    injection hL with hL
    injection hL with hL U1
    subst hL;subst U1
    simp+contextual (disch:=first|omega|simp only[go_sem,false_implies]) only[go_sem,wrap64,if_pos,and_self]
    exact V5 _ _ (by omega) (by repeat(first|exact hg.mono (by omega)|exact Good.nil|refine Good.ak ?_ (by omega) rfl|refine Good.ak ?_ (by omega) (bV _ _ _ (by omega))|refine Good.ak ?_ (by omega) (by simp[ae.refs,V.ag,V.refs]<;>omega))) (fun j j1 j2=>by rw[<- cS j j1 j2];(repeat(first|rfl|rw[aa]|rw[ad _ _ _ _ (by omega)]))) (by(repeat(first|rfl|rw[aa]|rw[ad _ _ _ _ (by omega)]))<;>exact zA)
end Go.Proofs.YtealblliddhgiaaGreat
namespace Go.Proofs.YtealblliddhgiaaGreat
def rj:D:= .iface 134 (.agg [])
theorem Ev:bJ Tryz.prog 126 [.bool true] (.ret []):=by
 refine bJ.aZ mix HM (by simp) ?_
 rw[Kk]
 simp+contextual (disch:=first|omega|simp only[go_sem,false_implies]) only[go_sem,wrap64,if_pos,and_self]
theorem Ew:bJ Tryz.prog 126 [.bool false] (.bG rj):=by
 refine bJ.aZ mix HM (by simp) ?_
 rw[Kk]
 simp+contextual (disch:=first|omega|simp only[go_sem,false_implies]) only[go_sem,wrap64,if_pos,and_self]
 rfl
theorem rk{P:Tm->Prop}{b:List (Int×Tm)}(hb:∀p∈b,P p.2):∀ (f:Nat) (t x:Tm),P t->kT f b t=some x->P x
 |0,_,_,_,h=>by cases h
 |f+1,t,x,ht,h=>by
  simp only[kT]at h
  split at h
  ·split at h
   ·rename_i y hy;exact rk hb f y x (hb _ (fN hy)) h
   ·injection h with h;exact h ▸ ht
  ·injection h with h;exact h ▸ ht
theorem yK{P:Tm->Prop}(hP:∀t k,P t->k∈t.kids->P k)(hv:∀v,P (.mk 1 v [])):∀ (f:Nat) (t u:Tm) (b:List (Int×Tm)) (r:List (Int×Tm)×Bool),P t->P u->(∀p∈b,P p.2)->qe f t u b=some r->∀p∈r.1,P p.2
 |0,_,_,_,_,_,_,_,h=>by cases h
 |f+1,t,u,b,r,ht,hu,hb,h=>by
  simp only[qe]at h
  split at h
  ·rename_i x y e1 e2
   have hx:=rk hb f t x ht e1
   have hy:=rk hb f u y hu e2
   have snoc:∀ (n:Int) (z:Tm),P z->∀p∈b++[(n,z)],P p.2:=fun n z hz p hp=>by
    rcases List.mem_append.1 hp with hp|hp
    ·exact hb p hp
    ·simp at hp;subst hp;exact hz
   split at h
   ·split at h
    ·split at h
     ·injection h with h;subst h;exact hb
     ·injection h with h;subst h;exact snoc _ _ (hv _)
    ·split at h
     ·injection h with h;subst h;exact hb
     ·injection h with h;subst h;exact snoc _ _ hy
     ·cases h
   ·split at h
    ·exact yK hP hv f y x b r hy hx hb h
    ·split at h
     ·have key:∀ (ks cl:List Tm) (b:List (Int×Tm)),(∀k∈ks,P k)->(∀k∈cl,P k)->(∀p∈b,P p.2)->yF (qe f) ks cl b=some r->∀p∈r.1,P p.2:=by
       intro ks
       induction ks with
       |nil=>intro cl b _ _ hb h;simp only[yF]at h;injection h with h;subst h;exact hb
       |cons k ks pc=>
        intro cl b m1 m2 hb h
        cases cl with
        |nil=>simp only[yF]at h;injection h with h;subst h;exact hb
        |cons k' cl=>
         simp only[yF]at h
         cases e:qe f k k' b with
         |none=>rw[e]at h;cases h
         |some r1=>
          have h1:=yK hP hv f k k' b r1 (m1 k (by simp)) (m2 k' (by simp)) hb e
          obtain⟨b1,ok⟩:=r1
          rw[e]at h
          cases ok with
          |false=>simp only at h;injection h with h;subst h;exact h1
          |true=>exact pc cl b1 (fun y hy=>m1 y (by simp[hy])) (fun y hy=>m2 y (by simp[hy])) h1 h
      exact key _ _ b (fun k hk=>hP x k hx hk) (fun k hk=>hP y k hy hk) hb h
     ·injection h with h;subst h;exact hb
  ·cases h
theorem IK(t k:Tm)(h:t.fits)(hk:k∈t.kids):k.fits:=((Tm.bR t).1 h).2 k hk
theorem IL(v:Int):(Tm.mk 1 v []).fits:=by rw[Tm.bR];simp[Tm.kids]
def o6(t:Tm):Prop:=t.fits/\t.wf
theorem o6.mC (t k:Tm)(h:o6 t)(hk:k∈t.kids):o6 k:=⟨IK t k h.1 hk,((Tm.iB t).1 h.2).2.2 k hk⟩
theorem o6.var (v:Int):o6 (.mk 1 v []):=⟨IL v,by rw[Tm.iB];exact⟨fun _=>rfl,fun h=>absurd (show(1:Int)=8 from h) (by decide),fun k hk=>by cases hk⟩⟩
def PK:Nat->Tm->Tm->List (Int×Tm)->List (Int×Tm)->ae
 |0,_,_,_,_=> .no
 |f+1,t,u,b,b'=>match kT f b t,kT f b u with
  |some x,some y=>if x.op=1 then cI b' else if y.op=1 then .no else if x.op=y.op/\x.n=y.n/\x.kids.length=y.kids.length then .no else cI b'
  |_,_=> .no
theorem IM(f:Nat)(t u:Tm)(b b':List (Int×Tm)):(PK f t u b b').refs=[]:=by
 have:PK f t u b b'= .no\/∃m,PK f t u b b'=cI m:=by
  cases f with
  |zero=>exact Or.inl rfl
  |succ f=>
   simp only[PK]
   repeat' split
   all_goals first
    |exact Or.inl rfl
    |exact Or.inr ⟨_,rfl⟩
 rcases this with h|⟨m,h⟩<;>rw[h]<;>rfl
def BdX(id:Nat)(ob:ae)(o:Nat->ae)(nx:Nat)(K:(Nat->ae)->Nat->Prop):Prop:=
 ∀o' nx',nx<=nx'->Good o' nx'->(∀j,j<nx->j≠id->o' j=o j)->o' id=ob->K o' nx'
def IP(f:Nat):Prop:=∀ (t u:Tm) (b:List (Int×Tm)) (r:List (Int×Tm)×Bool),o6 t->o6 u->(∀p∈b,o6 p.2)->qe f t u b=some r->∀ (o:Nat->ae) (nx id:Nat),Good o nx->o id=cI b->∀ (K X:V->(Nat->ae)->Nat->Prop),
    (r.2=true->BdK id r.1 o nx (K (.bS [])))->(r.2=false->BdX id (PK f t u b r.1) o nx (X (.d rj)))->dX Tryz.prog 100 [.mp id, .d t.d, .d u.d] o nx K X
theorem IQ{f:Nat}(h:IP f){t u:Tm}{b b':List (Int×Tm)}(ht:o6 t)(hu:o6 u)(hb:∀p∈b,o6 p.2)(hr:qe f t u b=some (b',true)){o:Nat->ae}{nx id:Nat}(ho:o id=cI b)(bC:id<nx):
 xP Tryz.prog 100 [.mp id, .d t.d, .d u.d] [id] o (.ret []) [(id,cI b')]:=by
 have tY:∀j∈[id],j<nx:=by simp;exact bC
 have mE:∀k∈[id],∀j∈(o k).refs,j∈[id]:=by
  intro k hk j hj
  simp at hk
  subst hk
  rw[ho]at hj;simp[ae.refs]at hj
 refine xP.kG tY (by simp[V.ag,V.refs]) mE (by simp) (by simp[ae.refs]) ?_
 refine h t u b _ ht hu hb hr _ _ id (uL tY mE) ((yB (by simp)).trans ho) _ _ (fun _=> ?_) (fun h=>by cases h)
 intro o' nx' g1 g2 g3 g4
 refine⟨fun k hk=> ?_,[],[],rfl,rfl,rfl,fun k hk=>by simp[V.bf,V.ids]at hk⟩
 simp at hk
 subst hk
 rw[g4];simp only[nK,tT];rw[aa]
theorem IU{f:Nat}(h:IP f){t u:Tm}{b b':List (Int×Tm)}(ht:o6 t)(hu:o6 u)(hb:∀p∈b,o6 p.2)(hr:qe f t u b=some (b',false)){o:Nat->ae}{nx id:Nat}(ho:o id=cI b)(bC:id<nx):
 xP Tryz.prog 100 [.mp id, .d t.d, .d u.d] [id] o (.bG rj) [(id,PK f t u b b')]:=by
 have tY:∀j∈[id],j<nx:=by simp;exact bC
 have mE:∀k∈[id],∀j∈(o k).refs,j∈[id]:=by
  intro k hk j hj
  simp at hk
  subst hk
  rw[ho]at hj;simp[ae.refs]at hj
 refine xP.kG tY (by simp[V.ag,V.refs]) mE (by simp) (by simp[IM]) ?_
 refine h t u b _ ht hu hb hr _ _ id (uL tY mE) ((yB (by simp)).trans ho) _ _ (fun h=>by cases h) (fun _=> ?_)
 intro o' nx' g1 g2 g3 g4
 refine⟨fun k hk=> ?_,rj,rfl,rfl,fun k hk=>by simp[V.ids]at hk⟩
 simp at hk
 subst hk
 rw[g4];simp only[nK,tT];rw[aa]
theorem sT{b:List (Int×Tm)}:∀ {f:Nat} {t x:Tm},kT f b t=some x->x.op=1->bz b x.n=none
 |0,_,_,h,_=>by cases h
 |f+1,t,x,h,h1=>by
  simp only[kT]at h
  split at h
  ·cases hl:bz b t.n with
   |none=>rw[hl]at h;injection h with h;exact h ▸ hl
   |some y=>rw[hl]at h;exact sT h h1
  ·rename_i h2;injection h with h;exact absurd (h ▸ h1) h2
theorem MY(id:Nat)(o:Nat->ae):(fun j=>if[id].contains j=true then ae.no else o j)=ak o id .no:=by
 funext j
 by_cases e:j=id
 ·subst e;simp[aa]
 ·rw[ad _ _ _ _ e,if_neg];simpa using e
theorem C9{f:Nat}(ih:IP f):IP (f+1):=by
 intro t u b r ht hu hb h o nx id hg ho K X hK hX
 have bC:id<nx:=hg.lt (by rw[ho];exact ae.noConfusion)
 have y1:id≠nx:=by omega
 have y2:∀k,id≠nx+k:=fun k=>by omega
 simp only[qe]at h
 cases e1:kT f b t with
 |none=>rw[e1]at h;cases h
 |some x=>
 cases e2:kT f b u with
 |none=>rw[e1,e2]at h;cases h
 |some y=>
 rw[e1,e2]at h
 simp only at h
 have hx:=rk hb f t x ht e1
 have hy:=rk hb f u y hu e2
 have nR:=(Tm.bR x).1 hx.1
 have ZL:=(Tm.bR y).1 hy.1
 refine dX.aZ mix Mu (by simp) ?_
 rw[OR]
 simp+contextual (disch:=first|omega|simp only[go_sem,false_implies]) only[go_sem,wrap64,if_pos,ho,y1,y2,Nat.add_assoc,Nat.left_eq_add,Nat.add_eq_left,Nat.add_left_cancel_iff]
 refine bK (Lg e1 (id:=id) ?_ ?_ _ _ fun o1 n1 g1 g2 g3=> ?_)
 ·exact(by repeat(first|exact hg.mono (by omega)|exact Good.nil|refine Good.ak ?_ (by omega) rfl|refine Good.ak ?_ (by omega) (bV _ _ _ (by omega))|refine Good.ak ?_ (by omega) (by simp[ae.refs,V.ag,V.refs]<;>omega)))
 ·(repeat(first|rfl|rw[aa]|rw[ad _ _ _ _ (by omega)]))
  exact ho
 have lP:o1 id=cI b:=by rw[g3 id (by omega)];(repeat(first|rfl|rw[aa]|rw[ad _ _ _ _ (by omega)]));exact ho
 have hu1:o1 (nx+1)= .row u.row:=by rw[g3 _ (by omega)];(repeat(first|rfl|rw[aa]|rw[ad _ _ _ _ (by omega)]))
 have cS:∀j,j<nx->o1 j=o j:=fun j hj=>by rw[g3 j (by omega)];(repeat(first|rfl|rw[aa]|rw[ad _ _ _ _ (by omega)]))
 have done:∀ (ob:ae) (K:(Nat->ae)->Nat->Prop),BdX id ob o nx K->∀o' n',n1<=n'->Good o' n'->(∀j,j<n1->j≠id->o' j=o1 j)->o' id=ob->K o' n':=fun ob K hK o' n' k1 k2 k3 k4=>
  hK o' n' (by omega) k2 (fun j j1 j2=>by rw[k3 j (by omega) j2,cS j j1]) k4
 simp only[PK,e1,e2]at hX
 have z1:id≠n1:=by omega
 have z2:∀k,id≠n1+k:=fun k=>by omega
 have z3:nx+1≠n1:=by omega
 have z4:∀k,nx+1≠n1+k:=fun k=>by omega
 clear hg
 have hg:=g2
 by_cases h1:x.op=1
 ·rw[if_pos h1]at h
  rw[seeD_1 h1]
  simp+contextual (disch:=first|omega|simp only[go_sem,false_implies]) only[go_sem,wrap64,if_pos,lP,hu1,z1,z2,z3,z4,Nat.add_assoc,Nat.left_eq_add,Nat.add_eq_left,Nat.add_left_cancel_iff]
  refine bK (Lg e2 (id:=id) ?_ ?_ _ _ fun o2 n2 w1 w2 w3=> ?_)
  ·exact(by repeat(first|exact hg.mono (by omega)|exact Good.nil|refine Good.ak ?_ (by omega) rfl|refine Good.ak ?_ (by omega) (bV _ _ _ (by omega))|refine Good.ak ?_ (by omega) (by simp[ae.refs,V.ag,V.refs]<;>omega)))
  ·(repeat(first|rfl|rw[aa]|rw[ad _ _ _ _ (by omega)]))
   exact lP
  have oe:o2 id=cI b:=by rw[w3 id (by omega)];(repeat(first|rfl|rw[aa]|rw[ad _ _ _ _ (by omega)]));exact lP
  clear hg
  have hg:=w2
  by_cases h2:y.op=1
  ·rw[if_pos h2]at h
   rw[seeD_1 h2]
   by_cases h3:x.n=y.n
   ·rw[if_pos h3]at h
    injection h with h
    subst h
    have vY:(x.n !=y.n)=false:=by simp[h3]
    simp+contextual (disch:=first|omega|simp only[go_sem,false_implies]) only[go_sem,wrap64,if_pos,oe,vY]
    exact done _ _ (hK rfl) _ _ (by omega) (by repeat(first|exact hg.mono (by omega)|exact Good.nil|refine Good.ak ?_ (by omega) rfl|refine Good.ak ?_ (by omega) (bV _ _ _ (by omega))|refine Good.ak ?_ (by omega) (by simp[ae.refs,V.ag,V.refs]<;>omega))) (fun j j1 j2=>by rw[w3 j (by omega)];(repeat(first|rfl|rw[aa]|rw[ad _ _ _ _ (by omega)]))) oe
   ·rw[if_neg h3]at h
    injection h with h
    subst h
    have vY:(x.n !=y.n)=true:=by simp[h3]
    have xm:(if y.n>x.n then y.n else x.n)=max x.n y.n:=by rw[Int.max_def];split<;>split<;>omega
    have Zl:(if y.n<x.n then y.n else x.n)=min x.n y.n:=by rw[Int.min_def];split<;>split<;>omega
    have PZ:bz b (max x.n y.n)=none:=by
     rw[Int.max_def];split
     ·exact sT e2 h2
     ·exact sT e1 h1
    simp+contextual (disch:=first|omega|simp only[go_sem,false_implies]) only[go_sem,wrap64,if_pos,oe,vY]
    rw[xm,Zl]
    refine aU (yI (min x.n y.n)) ?_
    simp+contextual (disch:=first|omega|simp only[go_sem,false_implies]) only[go_sem,wrap64,if_pos,oe,iS PZ]
    exact done _ _ (hK rfl) _ _ (by omega) (by repeat(first|exact hg.mono (by omega)|exact Good.nil|refine Good.ak ?_ (by omega) rfl|refine Good.ak ?_ (by omega) (bV _ _ _ (by omega))|refine Good.ak ?_ (by omega) (by simp[ae.refs,V.ag,V.refs]<;>omega))) (fun j j1 j2=>by(repeat(first|rfl|rw[aa]|rw[ad _ _ _ _ (by omega)]));rw[w3 j (by omega)];(repeat(first|rfl|rw[aa]|rw[ad _ _ _ _ (by omega)]))) (by(repeat(first|rfl|rw[aa]|rw[ad _ _ _ _ (by omega)])))
  ·rw[if_neg h2]at h
   rw[seeD_2 h2]
   cases e3:BN f b x.n y []with
   |none=>rw[e3]at h;cases h
   |some r3=>
   obtain⟨is,m⟩:=r3
   rw[e3]at h
   have hlx:bz b x.n=none:=sT e1 h1
   have u2:∀k,id≠n2+k:=fun k=>by omega
   simp+contextual (disch:=first|omega|simp only[go_sem,false_implies]) only[go_sem,wrap64,if_pos,oe,u2,Nat.add_assoc,Nat.left_eq_add,Nat.add_eq_left,Nat.add_left_cancel_iff]
   refine aU (sS y) ?_
   simp+contextual (disch:=first|omega|simp only[go_sem,false_implies]) only[go_sem,wrap64,if_pos,oe,u2,Nat.add_assoc,Nat.left_eq_add,Nat.add_eq_left,Nat.add_left_cancel_iff]
   refine bK (uU (fun p hp=>(hb p hp).1) f x.n y [] is m hy.1 e3 _ _ id (n2+12) ?_ ?_ ?_ _ _ fun o3 n3 v1 v2 v3 v4=> ?_)
   ·exact(by repeat(first|exact hg.mono (by omega)|exact Good.nil|refine Good.ak ?_ (by omega) rfl|refine Good.ak ?_ (by omega) (bV _ _ _ (by omega))|refine Good.ak ?_ (by omega) (by simp[ae.refs,V.ag,V.refs]<;>omega)))
   ·(repeat(first|rfl|rw[aa]|rw[ad _ _ _ _ (by omega)]))
    exact oe
   ·(repeat(first|rfl|rw[aa]|rw[ad _ _ _ _ (by omega)]))
   have H3:o3 id=cI b:=by rw[v3 id (by omega) (by omega)];(repeat(first|rfl|rw[aa]|rw[ad _ _ _ _ (by omega)]));exact oe
   have hy3:o3 (n2+6)= .row y.row:=by rw[v3 _ (by omega) (by omega)];(repeat(first|rfl|rw[aa]|rw[ad _ _ _ _ (by omega)]))
   have hf3:∀j,j<n1->o3 j=o1 j:=fun j j1=>by rw[v3 j (by omega) (by omega)];(repeat(first|rfl|rw[aa]|rw[ad _ _ _ _ (by omega)]));rw[w3 j (by omega)];(repeat(first|rfl|rw[aa]|rw[ad _ _ _ _ (by omega)]))
   clear hg
   have hg:=v2
   cases is with
   |true=>
    simp only at h
    injection h with h
    subst h
    simp+contextual (disch:=first|omega|simp only[go_sem,false_implies]) only[go_sem,wrap64,if_pos,H3]
    refine Ar Ew rfl ?_
    simp+contextual (disch:=first|omega|simp only[go_sem,false_implies]) only[go_sem,wrap64,if_pos,H3]
    rw[if_pos h1]at hX
    exact done _ _ (hX rfl) _ _ (by omega) (by repeat(first|exact hg.mono (by omega)|exact Good.nil|refine Good.ak ?_ (by omega) rfl|refine Good.ak ?_ (by omega) (bV _ _ _ (by omega))|refine Good.ak ?_ (by omega) (by simp[ae.refs,V.ag,V.refs]<;>omega))) (fun j j1 j2=>hf3 j j1) H3
   |false=>
    simp only at h
    injection h with h
    subst h
    simp+contextual (disch:=first|omega|simp only[go_sem,false_implies]) only[go_sem,wrap64,if_pos,H3]
    refine aw Ev rfl ?_
    simp+contextual (disch:=first|omega|simp only[go_sem,false_implies]) only[go_sem,wrap64,if_pos,H3,hy3]
    refine aU (sS y) ?_
    simp+contextual (disch:=first|omega|simp only[go_sem,false_implies]) only[go_sem,wrap64,if_pos,H3,hy3,iS hlx]
    exact done _ _ (hK rfl) _ _ (by omega) (by repeat(first|exact hg.mono (by omega)|exact Good.nil|refine Good.ak ?_ (by omega) rfl|refine Good.ak ?_ (by omega) (bV _ _ _ (by omega))|refine Good.ak ?_ (by omega) (by simp[ae.refs,V.ag,V.refs]<;>omega))) (fun j j1 j2=>by(repeat(first|rfl|rw[aa]|rw[ad _ _ _ _ (by omega)]));exact hf3 j j1) (by(repeat(first|rfl|rw[aa]|rw[ad _ _ _ _ (by omega)])))
 ·rw[if_neg h1]at h
  rw[seeD_2 h1]
  simp+contextual (disch:=first|omega|simp only[go_sem,false_implies]) only[go_sem,wrap64,if_pos,lP,hu1,z1,z2,z3,z4,Nat.add_assoc,Nat.left_eq_add,Nat.add_eq_left,Nat.add_left_cancel_iff]
  refine bK (Lg e2 (id:=id) ?_ ?_ _ _ fun o2 n2 w1 w2 w3=> ?_)
  ·exact(by repeat(first|exact hg.mono (by omega)|exact Good.nil|refine Good.ak ?_ (by omega) rfl|refine Good.ak ?_ (by omega) (bV _ _ _ (by omega))|refine Good.ak ?_ (by omega) (by simp[ae.refs,V.ag,V.refs]<;>omega)))
  ·(repeat(first|rfl|rw[aa]|rw[ad _ _ _ _ (by omega)]))
   exact lP
  have oe:o2 id=cI b:=by rw[w3 id (by omega)];(repeat(first|rfl|rw[aa]|rw[ad _ _ _ _ (by omega)]));exact lP
  have Dp:o2 (n1+6)= .row x.row:=by rw[w3 _ (by omega)];(repeat(first|rfl|rw[aa]|rw[ad _ _ _ _ (by omega)]))
  clear hg
  have hg:=w2
  have u2:∀k,id≠n2+k:=fun k=>by omega
  have u3:∀k,n1+6≠n2+k:=fun k=>by omega
  have GD:∀j,j<n1->o2 j=o1 j:=fun j j1=>by rw[w3 j (by omega)];(repeat(first|rfl|rw[aa]|rw[ad _ _ _ _ (by omega)]))
  by_cases h2:y.op=1
  ·rw[if_pos h2]at h
   rw[if_neg h1,if_pos h2]at hX
   rw[seeD_1 h2]
   simp+contextual (disch:=first|omega|simp only[go_sem,false_implies]) only[go_sem,wrap64,if_pos,oe,Dp,u2,u3,Nat.add_assoc,Nat.left_eq_add,Nat.add_eq_left,Nat.add_left_cancel_iff]
   refine cD (yI y.n) ?_
   simp+contextual (disch:=first|omega|simp only[go_sem,false_implies]) only[go_sem,wrap64,if_pos,oe,Dp,u2,u3,Nat.add_assoc,Nat.left_eq_add,Nat.add_eq_left,Nat.add_left_cancel_iff]
   refine cD (sS x) ?_
   simp+contextual (disch:=first|omega|simp only[go_sem,false_implies]) only[go_sem,wrap64,if_pos,oe,Dp,u2,u3,Nat.add_assoc,Nat.left_eq_add,Nat.add_eq_left,Nat.add_left_cancel_iff]
   rw[<- yA hy.2 h2]
   obtain⟨b',ok⟩:=r
   cases ok with
   |true=>
    refine nC (m9 (by simp;omega) (IQ ih hy hx hb h oe (nx:=n2+4) (by omega)) ?_)
    simp+contextual (disch:=first|omega|simp only[go_sem,false_implies]) only[go_sem,wrap64,if_pos,oe,Dp,u2,u3,Nat.add_assoc,Nat.left_eq_add,Nat.add_eq_left,Nat.add_left_cancel_iff]
    refine aR (lJ (by kernel_rfl)) ?_
    simp+contextual (disch:=first|omega|simp only[go_sem,false_implies]) only[go_sem,wrap64,if_pos,oe,Dp,u2,u3,Nat.add_assoc,Nat.left_eq_add,Nat.add_eq_left,Nat.add_left_cancel_iff]
    exact done _ _ (hK rfl) _ _ (by omega) (by repeat(first|exact hg.mono (by omega)|exact Good.nil|refine Good.ak ?_ (by omega) rfl|refine Good.ak ?_ (by omega) (bV _ _ _ (by omega))|refine Good.ak ?_ (by omega) (by simp[ae.refs,V.ag,V.refs]<;>omega))) (fun j j1 j2=>by(repeat(first|rfl|rw[aa]|rw[ad _ _ _ _ (by omega)]));exact GD j j1) (by(repeat(first|rfl|rw[aa]|rw[ad _ _ _ _ (by omega)])))
   |false=>
    refine nC (uq (by simp;omega) (IU ih hy hx hb h oe (nx:=n2+4) (by omega)) ?_)
    simp+contextual (disch:=first|omega|simp only[go_sem,false_implies]) only[go_sem,wrap64,if_pos,oe,Dp,u2,u3,Nat.add_assoc,Nat.left_eq_add,Nat.add_eq_left,Nat.add_left_cancel_iff]
    refine AS ?_
    refine⟨lJ (by kernel_rfl), ?_⟩
    simp only[qJ,tU,Av]
    rw[MY]
    exact done _ _ (hX rfl) _ _ (by omega) (by repeat(first|exact hg.mono (by omega)|exact Good.nil|refine Good.ak ?_ (by omega) rfl|refine Good.ak ?_ (by omega) (bV _ _ _ (by omega))|refine Good.ak ?_ (by omega) (by simp[ae.refs,V.ag,V.refs]<;>omega))) (fun j j1 j2=>by(repeat(first|rfl|rw[aa]|rw[ad _ _ _ _ (by omega)]));exact GD j j1) (aa _ _ _)
  ·rw[if_neg h2]at h
   rw[seeD_2 h2]
   by_cases h3:x.op=y.op/\x.n=y.n/\x.kids.length=y.kids.length
   ·rw[if_pos h3]at h
    rw[if_neg h1,if_neg h2,if_pos h3]at hX
    have vY:(x.op==y.op&&x.n==y.n&&(x.kids.length:Int)==(y.kids.length:Int))=true:=by
     simp[h3.1,h3.2.1,h3.2.2]
    have U2:=Ev
    rw[<- vY]at U2
    simp+contextual (disch:=first|omega|simp only[go_sem,false_implies]) only[go_sem,wrap64,if_pos,oe,Dp,u2,u3,Nat.add_assoc,Nat.left_eq_add,Nat.add_eq_left,Nat.add_left_cancel_iff,List.length_map]
    refine aw U2 rfl ?_
    simp+contextual (disch:=first|omega|simp only[go_sem,false_implies]) only[go_sem,wrap64,if_pos,oe,Dp,u2,u3,Nat.add_assoc,Nat.left_eq_add,Nat.add_eq_left,Nat.add_left_cancel_iff,List.length_map]
    refine aW (fun i:Nat×List (Int×Tm)=>⟨bw [.mp id, .ab, .ab, .ab, .ab, .ab, .ab, .ab, .ab, .ab, .ab, .ptr (n2+6) 0, .ab, .ab, .ab, .ab, .ab, .ab, .ab, .ab, .ab, .ab, .ab, .ab, .ab, .ab, .ab, .ab, .ab, .ab, .ab, .ab, .ab, .ab, .ab, .ab, .ab, .ab, .ab, .ab, .ab, .ab, .ab, .ab, .ab, .ab, .ab, .ab, .ab, .ab, .ab, .ab, .ab, .ab, .ab, .ab, .ab, .ab, .ab, .ab, .ab, .ab, .ab, .ab, .ab, .ab, .ab, .ab, .ab, .ab, .ab, .ab, .ab, .ab, .ab, .ab, .ab, .ab, .ab, .ab, .ab, .ab, .ab, .ab, .ab, .ab, .ab, .ab, .ab, .ab, .ab, .ab, .ab, .d (.sl (x.kids.map Tm.d)), .d (.i x.kids.length), .d (.i i.1)],ak (ak o2 (n2+6) (.row y.row)) id (cI i.2),n2+7⟩)
     (fun i=>i.1<=x.kids.length/\(∀p∈i.2,o6 p.2)/\yF (qe f) (x.kids.drop i.1) (y.kids.drop i.1) i.2=some r) (fun i=>x.kids.length - i.1) (0,b) ⟨Nat.zero_le _,hb,h⟩ ?_ ?_
    ·dsimp only
     refine bW.bE _ (by omega) (by omega) (by repeat(first|exact hg.mono (by omega)|exact Good.nil|refine Good.ak ?_ (by omega) rfl|refine Good.ak ?_ (by omega) (bV _ _ _ (by omega))|refine Good.ak ?_ (by omega) (by simp[ae.refs,V.ag,V.refs]<;>omega))) (fun j hj=> ?_) ?_
     ·by_cases e:j=id
      ·subst e;(repeat(first|rfl|rw[aa]|rw[ad _ _ _ _ (by omega)]));exact oe
      ·by_cases e1:j=n2+6
       ·subst e1;(repeat(first|rfl|rw[aa]|rw[ad _ _ _ _ (by omega)]))
       ·(repeat(first|rfl|rw[aa]|rw[ad _ _ _ _ (by omega)]))
     ·(repeat(first|exact aq|refine ai ?_|refine ah rfl ?_|refine ah (aQ (aP (by omega))) ?_|refine aA rfl (by simp[V.refs,V.ag]<;>first|omega|assumption) ?_))
    rintro⟨k,b1⟩ ⟨hk,sE,aT⟩
    simp only at hk sE aT
    have u4:∀k,n2+6≠n2+7+k:=fun k=>by omega
    simp+contextual (disch:=first|omega|simp only[go_sem,false_implies]) only[go_sem,wrap64,if_pos,u2,Nat.add_assoc,Nat.left_eq_add,Nat.add_eq_left,Nat.add_left_cancel_iff]
    refine ay (fun h5=> ?_) (fun h5=> ?_)
    ·simp at h5
     obtain⟨p,hp⟩:=aX h5
     have MP:=List.mem_of_getElem? hp
     obtain⟨q,hq⟩:=aX (l:=y.kids) (k:=k) (by omega)
     have hqm:=List.mem_of_getElem? hq
     have Zj:x.kids.drop k=p::x.kids.drop (k+1):=by
      obtain⟨h5,h6⟩:=List.getElem?_eq_some_iff.1 hp
      rw[List.drop_eq_getElem_cons h5,h6]
     have Zk:y.kids.drop k=q::y.kids.drop (k+1):=by
      obtain⟨h5,h6⟩:=List.getElem?_eq_some_iff.1 hq
      rw[List.drop_eq_getElem_cons h5,h6]
     rw[Zj,Zk]at aT
     simp only[yF]at aT
     have Zm:=o6.mC x p hx MP
     have Zn:=o6.mC y q hy hqm
     simp+contextual (disch:=first|omega|simp only[go_sem,false_implies]) only[go_sem,wrap64,if_pos,u2,Nat.add_assoc,Nat.left_eq_add,Nat.add_eq_left,Nat.add_left_cancel_iff,hp,hq]
     cases e:qe f p q b1 with
     |none=>rw[e]at aT;cases aT
     |some r1=>
     have aM:=yK o6.mC o6.var f p q b1 r1 Zm Zn sE e
     obtain⟨b2,ok⟩:=r1
     rw[e]at aT
     cases ok with
     |true=>
      simp only at aT aM
      refine nC (m9 (by simp;omega) (IQ ih Zm Zn sE e (nx:=n2+17) ?_ (by omega)) ?_)
      ·(repeat(first|rfl|rw[aa]|rw[ad _ _ _ _ (by omega)]))
      simp+contextual (disch:=first|omega|simp only[go_sem,false_implies]) only[go_sem,wrap64,if_pos,u2,Nat.add_assoc,Nat.left_eq_add,Nat.add_eq_left,Nat.add_left_cancel_iff]
      refine aR (lJ (by kernel_rfl)) ?_
      simp+contextual (disch:=first|omega|simp only[go_sem,false_implies]) only[go_sem,wrap64,if_pos,u2,Nat.add_assoc,Nat.left_eq_add,Nat.add_eq_left,Nat.add_left_cancel_iff]
      refine aB (k+1,b2) ⟨h5,aM,aT⟩ (by dsimp only;omega) (bW.bE _ (by omega) (by omega) (by repeat(first|exact hg.mono (by omega)|exact Good.nil|refine Good.ak ?_ (by omega) rfl|refine Good.ak ?_ (by omega) (bV _ _ _ (by omega))|refine Good.ak ?_ (by omega) (by simp[ae.refs,V.ag,V.refs]<;>omega))) (fun j hj=> ?_) ?_)
      ·dsimp only
       by_cases e:j=id
       ·subst e;(repeat(first|rfl|rw[aa]|rw[ad _ _ _ _ (by omega)]))
       ·by_cases e1:j=n2+6
        ·subst e1;(repeat(first|rfl|rw[aa]|rw[ad _ _ _ _ (by omega)]))
        ·(repeat(first|rfl|rw[aa]|rw[ad _ _ _ _ (by omega)]))
      ·(repeat(first|exact aq|refine ai ?_|refine ah rfl ?_|refine ah (aQ (aP (by omega))) ?_|refine aA rfl (by simp[V.refs,V.ag]<;>first|omega|assumption) ?_))
     |false=>
      simp only at aT
      injection aT with aT
      subst aT
      refine nC (uq (by simp;omega) (IU ih Zm Zn sE e (nx:=n2+17) ?_ (by omega)) ?_)
      ·(repeat(first|rfl|rw[aa]|rw[ad _ _ _ _ (by omega)]))
      simp+contextual (disch:=first|omega|simp only[go_sem,false_implies]) only[go_sem,wrap64,if_pos,u2,Nat.add_assoc,Nat.left_eq_add,Nat.add_eq_left,Nat.add_left_cancel_iff]
      refine AS ?_
      refine⟨lJ (by kernel_rfl), ?_⟩
      simp only[qJ,tU,Av,Fq,Ft]
      rw[MY]
      exact done _ _ (hX rfl) _ _ (by omega) (by repeat(first|exact hg.mono (by omega)|exact Good.nil|refine Good.ak ?_ (by omega) rfl|refine Good.ak ?_ (by omega) (bV _ _ _ (by omega))|refine Good.ak ?_ (by omega) (by simp[ae.refs,V.ag,V.refs]<;>omega))) (fun j j1 j2=>by(repeat(first|rfl|rw[aa]|rw[ad _ _ _ _ (by omega)]));exact GD j j1) (aa _ _ _)
    ·simp at h5
     rw[List.drop_eq_nil_of_le h5]at aT
     simp only[yF]at aT
     injection aT with aT
     subst aT
     simp+contextual (disch:=first|omega|simp only[go_sem,false_implies]) only[go_sem,wrap64,if_pos,u2,Nat.add_assoc,Nat.left_eq_add,Nat.add_eq_left,Nat.add_left_cancel_iff]
     exact done _ _ (hK rfl) _ _ (by omega) (by repeat(first|exact hg.mono (by omega)|exact Good.nil|refine Good.ak ?_ (by omega) rfl|refine Good.ak ?_ (by omega) (bV _ _ _ (by omega))|refine Good.ak ?_ (by omega) (by simp[ae.refs,V.ag,V.refs]<;>omega))) (fun j j1 j2=>by(repeat(first|rfl|rw[aa]|rw[ad _ _ _ _ (by omega)]));exact GD j j1) (by(repeat(first|rfl|rw[aa]|rw[ad _ _ _ _ (by omega)])))
   ·rw[if_neg h3]at h
    rw[if_neg h1,if_neg h2,if_neg h3]at hX
    injection h with h
    subst h
    have vY:(x.op==y.op&&x.n==y.n&&(x.kids.length:Int)==(y.kids.length:Int))=false:=by
     rw[Bool.eq_false_iff]
     intro h4
     simp only[Bool.and_eq_true,beq_iff_eq]at h4
     exact h3 ⟨h4.1.1,h4.1.2,by omega⟩
    have U2:=Ew
    rw[<- vY]at U2
    simp+contextual (disch:=first|omega|simp only[go_sem,false_implies]) only[go_sem,wrap64,if_pos,oe,Dp,u2,u3,Nat.add_assoc,Nat.left_eq_add,Nat.add_eq_left,Nat.add_left_cancel_iff,List.length_map]
    refine Ar U2 rfl ?_
    simp+contextual (disch:=first|omega|simp only[go_sem,false_implies]) only[go_sem,wrap64,if_pos,oe,Dp,u2,u3,Nat.add_assoc,Nat.left_eq_add,Nat.add_eq_left,Nat.add_left_cancel_iff,List.length_map]
    exact done _ _ (hX rfl) _ _ (by omega) (by repeat(first|exact hg.mono (by omega)|exact Good.nil|refine Good.ak ?_ (by omega) rfl|refine Good.ak ?_ (by omega) (bV _ _ _ (by omega))|refine Good.ak ?_ (by omega) (by simp[ae.refs,V.ag,V.refs]<;>omega))) (fun j j1 j2=>by(repeat(first|rfl|rw[aa]|rw[ad _ _ _ _ (by omega)]));exact GD j j1) (by(repeat(first|rfl|rw[aa]|rw[ad _ _ _ _ (by omega)]))<;>exact oe)
theorem Ex:∀f,IP f
 |0=>fun t u b r _ _ _ h=>by cases h
 |f+1=>C9 (Ex f)
end Go.Proofs.YtealblliddhgiaaGreat
namespace Go.Proofs.YtealblliddhgiaaGreat
section
variable {P:Program}
def rl(P:Program)(n t t1:Nat)(ic:IC)(b7:List V)(u:V)(o:Nat->ae)(nx:Nat)(K:(Nat->ae)->Nat->Prop):Prop:=
 b7.length<=n/\kq P n nx true ic (Fv K) ⟨ak (ak (cq b7) t u) t1 u,o,nx⟩
def qg(P:Program)(n t t1:Nat)(ic:IC)(b7:List V)(rs:List ResultVar)(K X:V->(Nat->ae)->Nat->Prop)(e:fy)(s:S):Prop:=
 match e with
 | .normal| .ret=>rl P n t t1 ic b7 (.d .eC) s.o s.nx fun o nx=>qL P rs K X .ret ⟨s.env,o,nx⟩
 | .bG v=>rl P n t t1 ic b7 v s.o s.nx fun o nx=>qL P rs K X .ret ⟨s.env,o,nx⟩
 | .exit _=>False
def yL(P:Program)(n t:Nat)(fO:IC)(fk:List Operand)(g:FuncId)(D:List V->fy->S->Prop)(e:fy)(s:S):Prop:=
 match e with
 | .normal=>kq P n s.nx false fO (D (fk.map s.ev)) ⟨ak s.env t (.func (.func g) [] (fk.map s.ev)),s.o,s.nx⟩
 |_=>False
variable {n t t1:Nat}{ic fO:IC}{b7:List V}{rs:List ResultVar}{K X:V->(Nat->ae)->Nat->Prop}{s:S}{v:V}{fk:List Operand}{g:FuncId}{D:List V->fy->S->Prop}{KR:(Nat->ae)->Nat->Prop}
@[go_sem ↓] theorem IV:qg P n t t1 ic b7 rs K X .normal s=rl P n t t1 ic b7 (.d .eC) s.o s.nx fun o nx=>qL P rs K X .ret ⟨s.env,o,nx⟩:=propext Iff.rfl
@[go_sem ↓] theorem MZ:qg P n t t1 ic b7 rs K X .ret s=rl P n t t1 ic b7 (.d .eC) s.o s.nx fun o nx=>qL P rs K X .ret ⟨s.env,o,nx⟩:=propext Iff.rfl
@[go_sem ↓] theorem M0:qg P n t t1 ic b7 rs K X (.bG v) s=rl P n t t1 ic b7 v s.o s.nx fun o nx=>qL P rs K X .ret ⟨s.env,o,nx⟩:=propext Iff.rfl
@[go_sem ↓] theorem IW:yL P n t fO fk g D .normal s=kq P n s.nx false fO (D (fk.map s.ev)) ⟨ak s.env t (.func (.func g) [] (fk.map s.ev)),s.o,s.nx⟩:=propext Iff.rfl
@[go_sem ↓] theorem M3:Fv KR .normal s=KR s.o s.nx:=propext Iff.rfl
@[go_sem ↓] theorem U3:Fv KR .ret s=KR s.o s.nx:=propext Iff.rfl
theorem rl.w {o:Nat->ae}{nx:Nat}{K K':(Nat->ae)->Nat->Prop}(hK:∀o nx,K o nx->K' o nx)(h:rl P n t t1 ic b7 v o nx K):CD P n t t1 ic b7 v o nx K':=by
 refine⟨h.1,dZ ic _ _ _ (fun e s h=> ?_) h.2⟩
 unfold Fv at h|-
 cases e with
 |normal=>exact hK _ _ h
 |ret=>exact hK _ _ h
 |_=>exact h
theorem dX.F5 (bc:P.follows .mixedOrders=true){f g:FuncId}{kX fO wJ:IC}{t m r r1:Nat}{fk:List Operand}{rs:List ResultVar}(hf:DK P f n kX fO g t fk rs)(hg:Az P g m r r1 wJ)
 {args:List V} {o:Nat->ae} {nx:Nat} {K X:V->(Nat->ae)->Nat->Prop} (hl:args.length<=n)
 (h:kq P n nx true kX (yL P n t fO fk g fun b7=>qg P m r r1 wJ b7 rs K X) ⟨cq args,o,nx⟩):dX P f args o nx K X:=by
 refine dX.AB bc hf hg hl (dZ kX _ _ _ (fun e s h=> ?_) h)
 unfold yL at h
 unfold AA
 cases e with
 |normal=>
  refine dZ fO _ _ _ (fun e s h=> ?_) h
  unfold qg at h
  unfold x5
  cases e with
  |normal=>exact rl.w (fun _ _ h=>by unfold qL at h;exact h) h
  |ret=>exact rl.w (fun _ _ h=>by unfold qL at h;exact h) h
  |bG v=>exact rl.w (fun _ _ h=>by unfold qL at h;exact h) h
  |exit _=>exact h
 |_=>exact h
end
attribute [irreducible] rl
theorem uV{P:Program}{n t t1:Nat}{ic:IC}{b7:List V}{v:V}{o:Nat->ae}{nx:Nat}{K:(Nat->ae)->Nat->Prop}(h1:b7.length<=n)(h2:kq P n nx true ic (Fv K) ⟨ak (ak (cq b7) t v) t1 v,o,nx⟩):rl P n t t1 ic b7 v o nx K:=by
 unfold rl
 exact⟨h1,h2⟩
end Go.Proofs.YtealblliddhgiaaGreat
namespace Go.Proofs.YtealblliddhgiaaGreat
theorem U4{o:Nat->ae}:BQ Tryz.prog o 20 true (.d .eC) (.d .eC)=some (.d (.bool true)):=by kernel_rfl
theorem Li{o:Nat->ae}:BQ Tryz.prog o 20 true (.d rj) (.d .eC)=some (.d (.bool false)):=by kernel_rfl
theorem yM:qu Tryz.prog 134=true:=by kernel_rfl
theorem F6{f:Nat}{t u:Tm}{r:List (Int×Tm)×Bool}(ht:o6 t)(hu:o6 u)(hr:qe f t u []=some r)(o:Nat->ae)(nx:Nat)(hg:Good o nx)(K X:V->(Nat->ae)->Nat->Prop)
 (h1:r.2=true->∀o' nx' mid,nx<=mid->nx<=nx'->Good o' nx'->(∀j,j<nx->o' j=o j)->o' mid=cI r.1->K (.bS [.mp mid, .d (.bool true)]) o' nx')
 (h0:r.2=false->∀o' nx',nx<=nx'->Good o' nx'->(∀j,j<nx->o' j=o j)->K (.bS [.d .dk, .d (.bool false)]) o' nx'):
 dX Tryz.prog 63 [.d t.d, .d u.d] o nx K X:=by
 refine dX.F5 mix Ms Mr (by simp) ?_
 rw[OQ,Yd]
 simp+contextual (disch:=first|omega|simp only[go_sem,false_implies]) only[go_sem,wrap64,if_pos,Nat.add_assoc,Nat.left_eq_add,Nat.add_eq_left,Nat.add_left_cancel_iff]
 refine bK (Ex f t u [] r ht hu (fun _ h=>by cases h) hr _ _ (nx+4) ?_ ?_ _ _ (fun bA o1 n1 g1 g2 g3 g4=> ?_) (fun vj o1 n1 g1 g2 g3 g4=> ?_))
 ·exact(by repeat(first|exact hg.mono (by omega)|exact Good.nil|refine Good.ak ?_ (by omega) rfl|refine Good.ak ?_ (by omega) (bV _ _ _ (by omega))|refine Good.ak ?_ (by omega) (by simp[ae.refs,V.ag,V.refs]<;>omega)))
 ·(repeat(first|rfl|rw[aa]|rw[ad _ _ _ _ (by omega)]))
 ·have q2:o1 (nx+2)= .row [.mp (nx+4)]:=by rw[g3 _ (by omega) (by omega)];(repeat(first|rfl|rw[aa]|rw[ad _ _ _ _ (by omega)]))
  have q3:o1 (nx+3)= .row [.d (.bool false)]:=by rw[g3 _ (by omega) (by omega)];(repeat(first|rfl|rw[aa]|rw[ad _ _ _ _ (by omega)]))
  have cS:∀j,j<nx->o1 j=o j:=fun j hj=>by rw[g3 j (by omega) (by omega)];(repeat(first|rfl|rw[aa]|rw[ad _ _ _ _ (by omega)]))
  clear hg
  have hg:=g2
  simp+contextual (disch:=first|omega|simp only[go_sem,false_implies]) only[go_sem,wrap64,if_pos,q2,q3,Nat.add_assoc,Nat.left_eq_add,Nat.add_eq_left,Nat.add_left_cancel_iff]
  refine uV (by simp) ?_
  rw[VQ]
  simp+contextual (disch:=first|omega|simp only[go_sem,false_implies]) only[go_sem,wrap64,if_pos,q2,q3,U4,Nat.add_assoc,Nat.left_eq_add,Nat.add_eq_left,Nat.add_left_cancel_iff]
  refine h1 bA _ _ (nx+4) (by omega) (by omega) (by repeat(first|exact hg.mono (by omega)|exact Good.nil|refine Good.ak ?_ (by omega) rfl|refine Good.ak ?_ (by omega) (bV _ _ _ (by omega))|refine Good.ak ?_ (by omega) (by simp[ae.refs,V.ag,V.refs]<;>omega))) (fun j j1=>by(repeat(first|rfl|rw[aa]|rw[ad _ _ _ _ (by omega)]));exact cS j j1) ?_
  (repeat(first|rfl|rw[aa]|rw[ad _ _ _ _ (by omega)]))
  exact g4
 ·have q2:o1 (nx+2)= .row [.mp (nx+4)]:=by rw[g3 _ (by omega) (by omega)];(repeat(first|rfl|rw[aa]|rw[ad _ _ _ _ (by omega)]))
  have q3:o1 (nx+3)= .row [.d (.bool false)]:=by rw[g3 _ (by omega) (by omega)];(repeat(first|rfl|rw[aa]|rw[ad _ _ _ _ (by omega)]))
  have cS:∀j,j<nx->o1 j=o j:=fun j hj=>by rw[g3 j (by omega) (by omega)];(repeat(first|rfl|rw[aa]|rw[ad _ _ _ _ (by omega)]))
  clear hg
  have hg:=g2
  simp+contextual (disch:=first|omega|simp only[go_sem,false_implies]) only[go_sem,wrap64,if_pos,q2,q3,Nat.add_assoc,Nat.left_eq_add,Nat.add_eq_left,Nat.add_left_cancel_iff]
  refine uV (by simp) ?_
  rw[VQ]
  have z2:∀k,nx+2≠n1+k:=fun k=>by omega
  have z3:∀k,nx+3≠n1+k:=fun k=>by omega
  have z4:nx+2≠n1:=by omega
  have z5:nx+3≠n1:=by omega
  simp+contextual (disch:=first|omega|simp only[go_sem,false_implies]) only[go_sem,wrap64,if_pos,q2,q3,Li,Nat.add_assoc,Nat.left_eq_add,Nat.add_eq_left,Nat.add_left_cancel_iff]
  simp+contextual (disch:=first|omega|simp only[go_sem,false_implies]) only[go_sem,wrap64,if_pos,q2,q3,yM,rj,Nat.add_assoc,Nat.left_eq_add,Nat.add_eq_left,Nat.add_left_cancel_iff,z2,z3,z4,z5]
  refine h0 vj _ _ (by omega) (by repeat(first|exact hg.mono (by omega)|exact Good.nil|refine Good.ak ?_ (by omega) rfl|refine Good.ak ?_ (by omega) (bV _ _ _ (by omega))|refine Good.ak ?_ (by omega) (by simp[ae.refs,V.ag,V.refs]<;>omega))) (fun j j1=>by(repeat(first|rfl|rw[aa]|rw[ad _ _ _ _ (by omega)]));exact cS j j1)
end Go.Proofs.YtealblliddhgiaaGreat
