/-
  EndsTrue: at every call the law answers true, and leaves all memory as it was. Conditions: none.
-/
import Derived.Test.YtnkamdiiakdkgaaGreatRows
import Derived.Test.YtnkamdiiakdkgaaGreatEu19
set_option linter.unusedSimpArgs false
set_option linter.unusedVariables false
namespace Go.Proofs.YtnkamdiiakdkgaaGreat
theorem KQ:∀ (t v:Tm) (l:List TB),v.fits->(∀x∈l,x.term.fits)->(cU t v l).1.length<=l.length+t.sz/\∀x∈(cU t v l).1,x.term.fits:=by
 refine Tm.cl fun t ih v l hv hl=> ?_
 have qX:=Tm.gv t
 rw[pQ]
 split
 ·split
  ·exact⟨by simp only;omega,hl⟩
  ·refine⟨by simp only[Nw];omega,fun x hx=> ?_⟩
   rcases yJ.1 hx with rfl|hx
   ·exact hv
   ·exact hl x hx
 ·split
  ·exact⟨Nat.zero_le _,fun x hx=>by cases hx⟩
  ·have om:=(Tm.aX v).1 hv
   have key:∀ (ks kO:List Tm) (l:List TB),(∀k∈ks,k∈t.kids)->(∀k∈kO,k.fits)->(∀x∈l,x.term.fits)->(bV ks kO l).1.length<=l.length+eC ks/\∀x∈(bV ks kO l).1,x.term.fits:=by
    intro ks
    induction ks with
    |nil=>intro kO l _ _ hl;simp only[bV];exact⟨ah,hl⟩
    |cons k ks Qp=>
     intro kO l m1 m2 hl
     cases kO with
     |nil=>simp only[bV];exact⟨ah,hl⟩
     |cons k' kO=>
      simp only[bV]
      obtain⟨q1,q2⟩:=ih k (m1 k aI) k' l (m2 k' aI) hl
      rw[ez]
      split
      ·obtain⟨q3,q4⟩:=Qp kO _ (fun y hy=>m1 y nH) (fun y hy=>m2 y nH) q2
       exact⟨ah,q4⟩
      ·exact⟨by simp only;omega,q2⟩
   obtain⟨q1,q2⟩:=key t.kids v.kids l (fun _ h=>h) om.2 hl
   exact⟨ah,q2⟩
theorem GS:∀t:Tm,t.fits->∀v:Tm,v.fits->∀l:List TB,(∀x∈l,x.term.fits)->l.length+t.sz<=1000000->aW Tryz.prog 88 [t.d,v.d, .sl (l.map TB.d)] (.ret [.sl ((cU t v l).1.map TB.d), .bool (cU t v l).2]):=by
 refine Tm.cl fun t ih ht v hv l hl hlen=> ?_
 have Fb:=(Tm.aX t).1 ht
 have om:=(Tm.aX v).1 hv
 have qX:=Tm.gv t
 refine aW.aH mix acN aI ?_
 rw[c88,pQ]
 by_cases h1:t.op=1
 ·have jq:(t.op==1)=true:=by simpa using h1
  rw[if_pos h1]
  refine gk jq ?_
  refine aB (KA l t.n ah) rfl ?_
  rcases EW l t.n with⟨f1,f2⟩|⟨k,x,f1,f2,f3⟩
  ·have f3:decide (0<=findF l t.n)=false:=by simpa using f1
   rw[f2]
   refine G8 jq f3 ?_
   refine bn (Uk l t.n v ah) ?_
   exact pW
  ·rw[f3,f1]
   have hxf:=hl x (List.mem_of_getElem? f2)
   refine G8 jq f2 ?_
   refine aQ (Jr x.term hxf v hv) rfl ?_
   refine br ?_
   exact WQ
 ·have jq:(t.op==1)=false:=by simpa using h1
  rw[if_neg h1]
  by_cases h2:t.op≠v.op\/t.n≠v.n\/t.kids.length≠v.kids.length
  ·rw[if_pos h2]
   have uZ:(t.op !=v.op||t.n !=v.n||(t.kids.length:Int)!=(v.kids.length:Int))=true:=by
    rcases h2 with h|h|h
    ·simp[h]
    ·simp[h]
    ·have:((t.kids.length:Int)!=(v.kids.length:Int))=true:=by simp;omega
     simp[this]
   exact QH jq uZ
  ·rw[if_neg h2]
   have e3:t.kids.length=v.kids.length:=Classical.byContradiction fun e=>h2 (Or.inr (Or.inr e))
   have uZ:(t.op !=v.op||t.n !=v.n||(t.kids.length:Int)!=(v.kids.length:Int))=false:=by
    have e1:t.op=v.op:=Classical.byContradiction fun e=>h2 (Or.inl e)
    have e2:t.n=v.n:=Classical.byContradiction fun e=>h2 (Or.inr (Or.inl e))
    simp[e1,e2,e3]
   refine BO jq uZ ?_
   refine aE (fun i:Nat×List TB×Bool=>⟨ba [.aa, .aa, .d (.sl (i.2.1.map TB.d)), .ptr 0 0, .ptr 1 0, .aa, .aa, .aa, .aa, .d (.bool i.2.2), .d (.i i.1)],aF (aF (fun _=> .no) 0 (.row t.row)) 1 (.row v.row),2⟩)
    (fun i=>i.1<=t.kids.length/\bV t.kids v.kids l=(if i.2.2=true then bV (t.kids.drop i.1) (v.kids.drop i.1) i.2.1 else(i.2.1,false))/\(∀x∈i.2.1,x.term.fits)/\(i.2.2=true->i.2.1.length+eC (t.kids.drop i.1)<=1000000)) (fun i=>t.kids.length - i.1) (0,l,true) ⟨Nat.zero_le _,rfl,hl,fun _=>by simp only[List.drop_zero];omega⟩ ?_ ?_
   ·dsimp only
    refine bC.bB _ ah ah eL (fun j hj=> ?_) ?_
    ·exact eY
    ·exact cE
   rintro⟨k,l1,is⟩ ⟨hk,bp,kJ,E2⟩
   simp only at hk bp kJ E2
   refine lN ?_
   cases is with
   |false=>
    simp only[Bool.false_eq_true,if_false]at bp
    rw[bp]
    exact QI
   |true=>
    simp only[if_true]at bp
    have E2:=E2 rfl
    by_cases h5:k<t.kids.length
    ·have nJ:decide ((k:Int)<(t.kids.length:Int))=true:=by simpa using h5
     obtain⟨x,hx⟩:=az h5
     have eg:=List.mem_of_getElem? hx
     obtain⟨z,hz⟩:=az (l:=v.kids) (k:=k) ah
     have hzm:=List.mem_of_getElem? hz
     have hdx:t.kids.drop k=x::t.kids.drop (k+1):=by
      exact Rp
     have hdz:v.kids.drop k=z::v.kids.drop (k+1):=by
      obtain⟨h5,h6⟩:=List.getElem?_eq_some_iff.1 hz
      exact WC
     rw[hdx,hdz]at bp
     rw[hdx,ez]at E2
     simp only[bV]at bp
     obtain⟨q1,q2⟩:=KQ x z l1 (om.2 z hzm) kJ
     refine G9 nJ hx hz ?_
     refine c7 (ih x eg (Fb.2 x eg) z (om.2 z hzm) l1 kJ ah) ?_
     refine G9 nJ hx hz ?_
     refine aN (aR rfl) ?_
     refine br ?_
     refine aq (k+1,(cU x z l1).1,(cU x z l1).2) ⟨h5,bp,q2,fun _=>by dsimp only;omega⟩ nb (bC.bB _ ah ah eL (fun j hj=> ?_) ?_)
     ·exact eY
     ·exact cE
    ·have nJ:decide ((k:Int)<(t.kids.length:Int))=false:=by simp;omega
     rw[List.drop_eq_nil_of_le (by omega)]at bp
     simp only[bV]at bp
     rw[bp]
     simp+contextual (disch:=first|omega|simp only[go_sem,false_implies]) only[go_sem,wrap64,if_pos,nJ,List.length_map]
theorem KT(a b:Tm)(ha:a.fits)(hb:b.fits)(hz:a.sz<=1000000):aW Tryz.prog 63 [a.d,b.d] (.ret [.sl ((cU a b []).1.map TB.d), .bool (cU a b []).2]):=by
 refine aW.aH mix acz aI ?_
 rw[c63]
 refine br ?_
 refine bn (GS a ha b hb [] (fun _ h=>by cases h) (by simpa using hz)) ?_
 exact pW
end Go.Proofs.YtnkamdiiakdkgaaGreat
section
namespace Go.Proofs.YtnkamdiiakdkgaaGreat
open Go
end Go.Proofs.YtnkamdiiakdkgaaGreat
end
namespace Go.Proofs.YtnkamdiiakdkgaaGreat
end Go.Proofs.YtnkamdiiakdkgaaGreat
namespace Go.Proofs.YtnkamdiiakdkgaaGreat
theorem G7.len {s:aS}{l:List TB}(h:G7 s l):l.length<=20:=by
 have h1:∀n∈l.map (fun x=>x.var),0<=n/\n<20:=fun n hn=>by
  obtain⟨x,hx,rfl⟩:=List.mem_map.1 hn
  exact(h.ok x hx).1
 have:=EX h1 (List.pairwise_map.2 h.srt)
 simpa using this
theorem KU{s:aS}:∀ (t v:Tm) (l:List TB),Vs s t->Vs s v->G7 s l->(cU t v l).2=true->
 G7 s (cU t v l).1/\(∀u x,db (aU l) u=some x->db (aU (cU t v l).1) u=some x)/\dU (aU (cU t v l).1) t=v/\∀u,fN u t=true->db (aU (cU t v l).1) u≠none:=by
 refine Tm.cl fun t ih v l ht hv hs=> ?_
 rw[pQ]
 by_cases h1:t.op=1
 ·simp only[if_pos h1]
  have hr:=ht.range ((jz h1).2 rfl)
  cases hl:db (aU l) t.n with
  |some x=>
   intro h
   refine⟨hs,fun _ _ h=>h, ?_,fun u hu=> ?_⟩
   ·rw[jL ht h1,Lv,hl];exact(kD _ _).1 h
   ·rw[<- (jz h1).1 hu];show db (aU l) t.n≠none;rw[hl];exact fun h=>by cases h
  |none=>
   intro _
   refine⟨hs.ins hl hr hv,fun u x hu=> ?_, ?_,fun u hu=> ?_⟩
   ·rw[yH hl,if_neg (fun e=>by rw[e,hl]at hu;cases hu)];exact hu
   ·rw[jL ht h1,Lv,yH hl,if_pos rfl]
   ·rw[<- (jz h1).1 hu,yH hl,if_pos rfl];exact fun h=>by cases h
 ·simp only[if_neg h1]
  split
  ·intro h;cases h
  ·rename_i h2
   have e1:t.op=v.op:=Classical.byContradiction fun e=>h2 (Or.inl e)
   have e2:t.n=v.n:=Classical.byContradiction fun e=>h2 (Or.inr (Or.inl e))
   have e3:t.kids.length=v.kids.length:=Classical.byContradiction fun e=>h2 (Or.inr (Or.inr e))
   have key:∀ (ks kO:List Tm) (l:List TB),(∀k∈ks,k∈t.kids)->(∀k∈kO,Vs s k)->ks.length=kO.length->G7 s l->(bV ks kO l).2=true->
    G7 s (bV ks kO l).1/\(∀u x,db (aU l) u=some x->db (aU (bV ks kO l).1) u=some x)/\ks.map (dU (aU (bV ks kO l).1))=kO/\∀k∈ks,∀u,fN u k=true->db (aU (bV ks kO l).1) u≠none:=by
    intro ks
    induction ks with
    |nil=>
     intro kO l _ _ hlen hs _
     cases kO with
     |nil=>simp only[bV];exact⟨hs,fun _ _ h=>h,rfl,fun _ h=>by cases h⟩
     |cons _ _=>cases hlen
    |cons k ks Qp=>
     intro kO l m1 m2 hlen hs
     cases kO with
     |nil=>cases hlen
     |cons k' kO=>
      simp only[bV]
      have hk:=ht.wD (m1 k aI)
      by_cases h3:(cU k k' l).2=true
      ·simp only[if_pos h3]
       intro h
       obtain⟨g1,g2,g3,g4⟩:=ih k (m1 k aI) k' l hk (m2 k' aI) hs h3
       obtain⟨j1,j2,j3,j4⟩:=Qp kO _ (fun y hy=>m1 y nH) (fun y hy=>m2 y nH) (by simpa using hlen) g1 h
       have keep:∀u,fN u k=true->db (aU (bV ks kO (cU k k' l).1).1) u=db (aU (cU k k' l).1) u:=fun u hu=>by
        cases e:db (aU (cU k k' l).1) u with
        |none=>exact absurd e (g4 u hu)
        |some x=>exact j2 u x e
       refine⟨j1,fun u x hu=>j2 u x (g2 u x hu), ?_,fun y hy u hu=> ?_⟩
       ·have e9:dU (aU (bV ks kO (cU k k' l).1).1) k=k':=(BA k hk fun u hu=>by rw[Lv,Lv,keep u hu]).trans g3
        rw[List.map_cons,j3,e9]
       ·rcases List.mem_cons.1 hy with rfl|hy
        ·rw[keep u hu];exact g4 u hu
        ·exact j4 y hy u hu
      ·simp only[if_neg h3]
       intro h;cases h
   intro h
   obtain⟨g1,g2,g3,g4⟩:=key t.kids v.kids l (fun _ h=>h) (fun k hk=>hv.wD hk) e3 hs h
   refine⟨g1,g2, ?_,fun u hu=> ?_⟩
   ·rw[jM h1,g3,e1,e2];exact Tm.eta v
   ·obtain⟨k,hk,h5⟩:=(rI ht h1).1 hu
    exact g4 k hk u h5
theorem wW{s:aS}:∀ (ks kO:List Tm) (l:List TB),(∀k∈ks,Vs s k)->(∀k∈kO,Vs s k)->ks.length=kO.length->G7 s l->(bV ks kO l).2=true->
 G7 s (bV ks kO l).1/\(∀u x,db (aU l) u=some x->db (aU (bV ks kO l).1) u=some x)/\ks.map (dU (aU (bV ks kO l).1))=kO
 |[],[],l,_,_,_,hs,_=>by simp only[bV];exact⟨hs,fun _ _ h=>h,rfl⟩
 |[],_::_,_,_,_,h,_,_=>by cases h
 |_::_,[],_,_,_,h,_,_=>by cases h
 |k::ks,k'::kO,l,m1,m2,hlen,hs,h=>by
  simp only[bV]at h|-
  have hk:=m1 k aI
  by_cases h3:(cU k k' l).2=true
  ·simp only[if_pos h3]at h|-
   obtain⟨g1,g2,g3,g4⟩:=KU k k' l hk (m2 k' aI) hs h3
   obtain⟨j1,j2,j3⟩:=wW ks kO _ (fun y hy=>m1 y nH) (fun y hy=>m2 y nH) (by simpa using hlen) g1 h
   have keep:∀u,fN u k=true->db (aU (bV ks kO (cU k k' l).1).1) u=db (aU (cU k k' l).1) u:=fun u hu=>by
    cases e:db (aU (cU k k' l).1) u with
    |none=>exact absurd e (g4 u hu)
    |some x=>exact j2 u x e
   refine⟨j1,fun u x hu=>j2 u x (g2 u x hu), ?_⟩
   have e9:dU (aU (bV ks kO (cU k k' l).1).1) k=k':=(BA k hk fun u hu=>by rw[Lv,Lv,keep u hu]).trans g3
   rw[List.map_cons,j3,e9]
  ·simp only[if_neg h3]at h
   cases h
theorem Ny{s:aS}:G7 s []:=⟨List.Pairwise.nil,fun x hx=>by cases hx⟩
theorem GU:∀t:Tm,fq t=true->ey t=true:=by
 refine Tm.cl fun t ih h=> ?_
 rw[qJ,Bool.and_eq_true,List.all_eq_true]at h
 rw[qz,Bool.and_eq_true,List.all_eq_true]
 refine⟨fun k hk=>ih k hk (h.1 k hk), ?_⟩
 have h2:=h.2
 unfold jX at h2
 simp only[Bool.or_eq_true,beq_iff_eq]at h2
 rcases h2 with h2|h2<;>rw[h2]<;>rfl
theorem Nz{p:Pg}(h:dT p=true){r:Rl}(hr:r∈p.rules):∀t∈r.ax,Vs p.sig t/\t.sz<=40:=by
 simp only[dT,Bool.and_eq_true,List.all_eq_true]at h
 have h2:=h.2 r hr
 simp only[eR,Bool.and_eq_true,List.all_eq_true]at h2
 intro t ht
 obtain⟨⟨h3,_,h4⟩,_⟩:=h2.1.2 t ht
 simp only[cN,Bool.and_eq_true,decide_eq_true_eq]at h3
 have:=((mE t 40 12).1 h3.1).1
 exact⟨⟨h3.2,GU t h4⟩,ah⟩
def lD:Tm->List Int->Option Tm
 |t,[]=>some t
 |t,i::q=>if i<0\/(t.kids.length:Int)<=i then none else match t.kids[i.toNat]? with
  |some k=>lD k q
  |none=>none
theorem E3:∀ (l:List Tm) (i:Int) (q:List Int) (b:Bool) (x:Sp),x∈gP l i q b->∃ (j:Nat) (k:Tm),l[j]? =some k/\x∈j6 k (q++[i+(j:Int)]) b
 |[],_,_,_,x,h=>by simp[gP]at h
 |k::l,i,q,b,x,h=>by
  rw[gP,List.mem_append]at h
  rcases h with h|h
  ·exact⟨0,k,rfl,by simpa using h⟩
  ·obtain⟨j,k',h1,h2⟩:=E3 l _ _ _ _ h
   refine⟨j+1,k',h1, ?_⟩
   rwa [show i+1+(j:Int)=i+((j+1:Nat):Int) by omega]at h2
theorem KW:∀ (t:Tm) (q:List Int) (b:Bool),∀x∈j6 t q b,∃q',x.path=q++q'/\lD t q'=some x.t:=by
 refine Tm.cl fun t ih q b x hx=> ?_
 rw[yo]at hx
 rcases List.mem_cons.1 hx with e|e
 ·subst e;exact⟨[],aI,by simp[lD]⟩
 ·obtain⟨j,k,hk,h⟩:=E3 _ _ _ _ _ e
  obtain⟨q',h1,h2⟩:=ih k (List.mem_of_getElem? hk) _ _ x h
  have hj:=(List.getElem?_eq_some_iff.1 hk).1
  refine⟨(j:Int)::q',by rw[h1];simp, ?_⟩
  rw[lD,if_neg (by omega),Int.toNat_natCast,hk]
  exact h2
structure aaO (r:Rl) (c:Cl) (x:Tm):Prop where
 part:lD r.rhs c.path=some x
 fn:c.oh≠[]->x.op=4
 arc:∀a∈c.oh,∃ (i j:Nat) (pa ka:Tm),a.f=i/\a.t=j/\r.ax[i]? =some pa/\x.kids[j]? =some ka/\((a.l=false/\ka=pa)\/(a.l=true/\pa.kids.any (jY ka)=true))
theorem KY{ax kids:List Tm}{a:pV}(h:a∈uq ax kids):∃ (i j:Nat) (pa ka:Tm),a.f=i/\a.t=j/\ax[i]? =some pa/\kids[j]? =some ka/\((a.l=false/\ka=pa)\/(a.l=true/\pa.kids.any (jY ka)=true)):=by
 unfold uq at h
 obtain⟨i,hi,h⟩:=List.mem_flatMap.1 h
 unfold og at h
 obtain⟨j,hj,h⟩:=List.mem_filterMap.1 h
 unfold uo at h
 cases hp:ax[i]? with
 |none=>rw[hp]at h;cases h
 |some pa=>
  cases hk:kids[j]? with
  |none=>rw[hp,hk]at h;cases h
  |some ka=>
   rw[hp,hk]at h
   simp only at h
   split at h
   ·rename_i hs
    obtain rfl:=Option.some.inj h
    exact⟨i,j,pa,ka,rfl,rfl,hp,hk, .inl ⟨rfl,(kD _ _).1 hs⟩⟩
   ·split at h
    ·rename_i hw
     obtain rfl:=Option.some.inj h
     exact⟨i,j,pa,ka,rfl,rfl,hp,hk, .inr ⟨rfl,hw⟩⟩
    ·cases h
theorem NA{p:Pg}{n:Nat}{r:Rl}(hr:p.rules[n]? =some r):∀c∈jZ p,c.aaF=n->∃x,aaO r c x/\x∈fM r.rhs:=by
 intro c hc hn
 unfold jZ jv at hc
 obtain⟨m,hm,hc⟩:=List.mem_flatMap.1 hc
 cases pU:p.rules[m]? with
 |none=>rw[pU]at hc;cases hc
 |some r2=>
  rw[pU]at hc
  obtain⟨x,hx,hc⟩:=List.mem_flatMap.1 hc
  obtain⟨q',hq1,L2⟩:=KW r2.rhs [] true x hx
  have eg:=(sD r2.rhs [] true x hx).1
  rw[List.nil_append]at hq1
  unfold Fa at hc
  split at hc
  ·rename_i h4
   simp only[List.mem_singleton]at hc
   subst hc
   have e:m=n:=by simp only at hn;omega
   subst e
   rw[hr]at pU
   obtain rfl:=Option.some.inj pU
   exact⟨x.t,⟨by simp only[hq1];exact L2,fun _=>h4,fun a ha=>KY ha⟩,eg⟩
  ·split at hc
   ·obtain⟨to,_,rfl⟩:=List.mem_map.1 hc
    have e:m=n:=by simp only at hn;omega
    subst e
    rw[hr]at pU
    obtain rfl:=Option.some.inj pU
    exact⟨x.t,⟨by simp only[hq1];exact L2,fun h=>absurd rfl h,fun a ha=>by simp at ha⟩,eg⟩
   ·cases hc
theorem Ul{s:aS}(b:List (Int×Tm))(ka:Tm):∀t:Tm,Vs s t->jY ka t=true->Vs s ka/\(dU b ka).sz<=(dU b t).sz:=by
 refine Tm.cl fun t ih hv h=> ?_
 rw[sC,Bool.or_eq_true]at h
 rcases h with h|h
 ·rw[(kD _ _).1 h];exact⟨hv,Nat.le_refl _⟩
 ·obtain⟨k,hk,hrk⟩:=List.any_eq_true.1 h
  obtain⟨g1,g2⟩:=ih k hk (hv.wD hk) hrk
  refine⟨g1, ?_⟩
  have h1:t.op≠1:=fun e=>by
   have:=(lx.1 hv).1
   unfold a7 at this
   rw[if_pos e,Bool.and_eq_true,beq_iff_eq]at this
   have h0:t.kids.length=0:=by have:=this.1;omega
   have:=List.length_pos_of_mem hk
   omega
  rw[jM h1,Tm.AZ]
  have:=fu (List.mem_map_of_mem (f:=dU b) hk)
  omega
theorem Um{s:aS}(b:List (Int×Tm)){ka t:Tm}(hv:Vs s t)(h:t.kids.any (jY ka)=true):Vs s ka/\(dU b ka).sz<(dU b t).sz:=by
 obtain⟨k,hk,hrk⟩:=List.any_eq_true.1 h
 obtain⟨g1,g2⟩:=Ul (s:=s) b ka k (hv.wD hk) hrk
 refine⟨g1, ?_⟩
 have h1:t.op≠1:=fun e=>by
  have:=(lx.1 hv).1
  unfold a7 at this
  rw[if_pos e,Bool.and_eq_true,beq_iff_eq]at this
  have h0:t.kids.length=0:=by have:=this.1;omega
  have:=List.length_pos_of_mem hk
  omega
 rw[jM h1,Tm.AZ]
 have:=fu (List.mem_map_of_mem (f:=dU b) hk)
 omega
theorem KZ{s:aS}(b:List (Int×Tm))(ka:Tm):∀t:Tm,Vs s t->jY ka t=true->(dU b t).fits->(dU b ka).fits:=by
 refine Tm.cl fun t ih hv h hf=> ?_
 rw[sC,Bool.or_eq_true]at h
 rcases h with h|h
 ·rw[(kD _ _).1 h];exact hf
 ·obtain⟨k,hk,hrk⟩:=List.any_eq_true.1 h
  have h1:t.op≠1:=fun e=>by
   have:=(lx.1 hv).1
   unfold a7 at this
   rw[if_pos e,Bool.and_eq_true,beq_iff_eq]at this
   have h0:t.kids.length=0:=by have:=this.1;omega
   have:=List.length_pos_of_mem hk
   omega
  rw[jM h1]at hf
  exact ih k hk (hv.wD hk) hrk (((Tm.aX _).1 hf).2 _ (List.mem_map_of_mem hk))
theorem Un(n low high:Int):aW Tryz.prog 59 [.i n, .i low, .i high] (.ret [.bool (decide (low<=n)&&decide (n<=high))]):=by
 refine aW.aH mix acv aI ?_
 rw[c59]
 cases h1:decide (low<=n)<;>simp+contextual (disch:=first|omega|simp only[go_sem,false_implies]) only[go_sem,wrap64,if_pos,h1]
theorem K0(p:Pg)(hl:p.rules.length<=1000)(n:Int):aW Tryz.prog 23 [p.d, .i n] (.ret [.bool (decide (0<=n)&&decide (n<=(p.rules.length:Int) - 1))]):=by
 refine aW.aH mix ab2 aI ?_
 rw[c23]
 refine lN ?_
 refine aB (Un _ _ _) rfl ?_
 exact pW
theorem NB(l:List Tm)(hl:l.length<=9223372036854775807)(hf:∀t∈l,t.fits):aW Tryz.prog 24 [.sl (l.map Tm.d)] (.ret [.bool (cJ l)]):=by
 refine aW.aH mix ab3 aI ?_
 rw[c24]
 refine br ?_
 refine aB (uB l hl hf) rfl ?_
 exact pW
theorem wX(l:List Tm):aW Tryz.prog 64 [.sl (l.map Tm.d)] (.ret [(Tm.mk 0 0 l).d]):=by
 rw[Tm.CJ]
 refine aW.aH mix acA aI ?_
 rw[c64]
 exact pW
theorem GV(r:Rl)(l:List Tm)(fp:(Tm.mk 0 0 r.ax).fits)(fl:(Tm.mk 0 0 l).fits)(hz:(Tm.mk 0 0 r.ax).sz<=1000000):aW Tryz.prog 26 [r.d, .sl (l.map Tm.d)] (.ret [.sl ((cU (.mk 0 0 r.ax) (.mk 0 0 l) []).1.map TB.d), .bool (cU (.mk 0 0 r.ax) (.mk 0 0 l) []).2]):=by
 refine aW.aH mix ab5 aI ?_
 rw[c26]
 refine br ?_
 refine bn (wX r.ax) ?_
 refine br ?_
 refine bn (wX l) ?_
 refine br ?_
 refine bn (KT (.mk 0 0 r.ax) (.mk 0 0 l) fp fl hz) ?_
 exact pW
theorem K1(p:Pg)(hs:p.sig.Fits)(f:Int)(x:iu)(h0:0<=f)(hx:p.sig.bH[f.toNat]? =some x)(l:List Tm)(hl:l.length<=1000)(hf:∀t∈l,t.fits):aW Tryz.prog 25 [p.d, .i f, .sl (l.map Tm.d)] (.ret [.bool (((l.length:Int)==x.args)&&l.all fun t=>cN p.sig t&&ey t)]):=by
 refine aW.aH mix ab4 aI ?_
 rw[c25]
 obtain⟨nm,ar⟩:=x
 cases h1:((l.length:Int)==ar)with
 |false=>
  have jq:((l.length:Int)!=ar)=true:=by rw[bne,h1];rfl
  exact QH hx jq
 |true=>
 have jq:((l.length:Int)!=ar)=false:=by rw[bne,h1];rfl
 refine BO hx jq ?_
 rw[Bool.true_and]
 refine aE (fun k:Nat=>⟨ba [.aa, .aa, .d (.sl (l.map Tm.d)), .ptr 0 0, .aa, .aa, .aa, .d (.i k)],aF (fun _=> .no) 0 (.row p.row),1⟩)
  (fun k=>k<=l.length/\(l.take k).all (fun t=>cN p.sig t&&ey t)=true) (fun k=>l.length - k) 0 ⟨Nat.zero_le _,rfl⟩ (bC.bB _ (show 0<=1 from ah) ah eL (fun j hj=>rfl) ?_) (fun k hk=> ?_)
 ·exact cE
 obtain⟨hk,sc⟩:=hk
 refine lN ?_
 refine aj (fun h2=> ?_) (fun h2=> ?_)
 ·simp at h2
  obtain⟨y,hy⟩:=az h2
  have Qi:=List.mem_of_getElem? hy
  have oi:(l.take (k+1)).all (fun t=>cN p.sig t&&ey t)=(cN p.sig y&&ey y):=by
   rw[List.take_add_one,hy,Option.toList_some,List.all_append,sc,Bool.true_and];simp
  have FV:(cN p.sig y&&ey y)=false->l.all (fun t=>cN p.sig t&&ey t)=false:=fun h=>by
   rw[Bool.eq_false_iff];intro h3
   have:=List.all_eq_true.1 h3 y Qi
   rw[h]at this;cases this
  refine gk hy ?_
  refine aQ (CV p.sig hs y (hf y Qi)) rfl ?_
  cases ht:cN p.sig y with
  |false=>
   rw[FV (by rw[ht];rfl)]
   refine gk ht ?_
   exact WQ
  |true=>
   refine G8 ht hy ?_
   refine aQ (MJ y (hf y Qi)) rfl ?_
   refine br ?_
   refine aN (aR rfl) ?_
   cases hv:ey y with
   |false=>
    rw[FV (by rw[ht,hv];rfl)]
    exact wY hv
   |true=>
    rw[ht,hv]at oi
    refine gk hv ?_
    refine aq (k+1) ⟨h2,oi⟩ ah (bC.bB _ (show 0<=1 from ah) ah eL (fun j hj=>rfl) ?_)
    exact cE
 ·simp at h2
  rw[List.take_of_length_le h2]at sc
  rw[sc]
  exact pW
theorem Dh:∀ (q:List Int) (t:Tm) (i:Int) (q':List Int),lD t (i::q')≠none->0<=i/\i<(t.kids.length:Int)/\∃k,t.kids[i.toNat]? =some k/\lD t (i::q')=lD k q':=by
 intro _ t i q' h
 rw[lD]at h|-
 split at h
 ·exact absurd rfl h
 ·rename_i h2
  rw[if_neg h2]
  obtain⟨k,hk⟩:=az (l:=t.kids) (k:=i.toNat) ah
  exact⟨ah,ah,k,hk,by rw[hk]⟩
theorem NC(t0:Tm)(q:List Int)(hq:q.length<=1000)(x:Tm)(h:lD t0 q=some x)(hf:t0.fits):aW Tryz.prog 27 [t0.d, .sl (q.map .i)] (.ret [x.d, .bool true]):=by
 refine aW.aH mix ab6 aI ?_
 rw[c27]
 refine br ?_
 refine aE (fun i:Nat×Tm=>⟨ba [.aa, .d (.sl (q.map .i)), .ptr 0 0, .aa, .ptr 1 0, .aa, .d (.i i.1)],aF (aF (fun _=> .no) 0 (.row i.2.row)) 1 (.row [.d (.i 0), .d (.i 0), .bw]),2⟩)
  (fun i=>i.1<=q.length/\lD i.2 (q.drop i.1)=some x/\i.2.fits) (fun i=>q.length - i.1) (0,t0) ⟨Nat.zero_le _,h,hf⟩ (bC.bB _ (show 0<=2 from ah) ah eL (fun j hj=> ?_) ?_) ?_
 ·rfl
 ·exact cE
 rintro⟨k,u⟩ ⟨hk,hp,hu⟩
 simp only at hk hp hu
 have JL:=((Tm.aX u).1 hu).1
 refine lN ?_
 refine aj (fun h2=> ?_) (fun h2=> ?_)
 ·simp at h2
  obtain⟨i,hi⟩:=az h2
  have hd:q.drop k=i::q.drop (k+1):=by
   rw[List.drop_eq_getElem_cons h2]
   rw[List.getElem?_eq_getElem h2]at hi;injection hi with hi;rw[hi]
  rw[hd]at hp
  obtain⟨g0,g1,v,hv,hpv⟩:=Dh q u i (q.drop (k+1)) (by rw[hp];exact fun h=>by cases h)
  rw[hpv]at hp
  have c1:decide (i<0)=false:=by simp;omega
  have c2:decide (i≥(u.kids.length:Int))=false:=by simp;omega
  refine G9 hi c1 c2 ?_
  refine aN (aR rfl) ?_
  refine BO hi hv ?_
  refine aN cG ?_
  refine br ?_
  refine aq (k+1,v) ⟨h2,hp,((Tm.aX u).1 hu).2 v (List.mem_of_getElem? hv)⟩ nb (bC.bB _ (show 0<=2 from ah) ah eL (fun j hj=> ?_) ?_)
  ·by_cases e1:j=1
   ·subst e1;(repeat(first|rfl|rw[ae]|rw[ai _ _ _ _ (by omega)]))
   ·have e0:j=0:=ah
    subst e0;(repeat(first|rfl|rw[ae]|rw[ai _ _ _ _ (by omega)]))
  ·exact cE
 ·simp at h2
  rw[List.drop_eq_nil_of_le h2,lD]at hp
  obtain rfl:=Option.some.inj hp
  exact pW
theorem Uo{l:List Tm}{n:Nat}(h:∀t∈l,t.sz<=n):eC l<=l.length*n:=by
 induction l with
 |nil=>simp[eC]
 |cons k l ih=>
  rw[ez,List.length_cons,Nat.add_mul]
  have:=h k aI
  have:=ih fun t ht=>h t (by simp[ht])
  omega
theorem GW:∀t:Tm,t.sz<=1000->t.Qx:=by
 refine Tm.cl fun t ih h=> ?_
 rw[Tm.EZ]
 have h1:=Nn t
 refine⟨ah,fun k hk=>ih k hk ?_⟩
 have:=fu hk
 have:=Tm.gv t
 omega
set_option maxHeartbeats 4000000 in
theorem Di(WJ:aW Tryz.prog 10 [] (.ret [.bool true]))(p:Pg)(n:Int)(l:List Tm)(hf:p.Fits)(hn:True)(hl:l.length<=9223372036854775807/\∀t∈l,t.fits):aW Tryz.prog 6 [p.d, .i n, .sl (l.map Tm.d)] (.ret [.bool true]):=by
 obtain⟨hl,kJ⟩:=hl
 refine aW.aH mix fn6 aI ?_
 rw[c6]
 refine br ?_
 refine aQ (Uh p hf) rfl ?_
 cases h0:ij p with
 |false=>
  refine gk h0 ?_
  exact Lw
 |true=>
 obtain⟨iF,Xl⟩:=GL hf h0
 have hfw:=GN hf h0
 have hq:=M9 p Xl
 have uX:=hfw.len
 refine gk h0 ?_
 refine aQ (Ug p hfw) rfl ?_
 cases h1:dT p with
 |false=>
  refine gk h1 ?_
  exact Lw
 |true=>
 refine gk h1 ?_
 refine aQ (K0 p uX n) rfl ?_
 cases h2:(decide (0<=n)&&decide (n<=(p.rules.length:Int) - 1))with
 |false=>
  refine gk h2 ?_
  exact Lw
 |true=>
 obtain⟨m,rfl,hm⟩:∃m:Nat,n=m/\m<p.rules.length:=by
  rw[Bool.and_eq_true,decide_eq_true_eq,decide_eq_true_eq]at h2
  exact⟨n.toNat,ah,ah⟩
 obtain⟨r,hr⟩:=az hm
 have Ko:=List.mem_of_getElem? hr
 refine gk h2 ?_
 refine aQ (NB l hl kJ) rfl ?_
 cases h3:cJ l with
 |false=>
  refine gk h3 ?_
  exact Lw
 |true=>
 have hk:=pF h1 Ko
 obtain⟨f1,f2,f3⟩:=hfw.all r Ko
 have Up:l.length<=6/\∀t∈l,t.sz<=50:=by
  unfold cJ at h3
  rw[Bool.and_eq_true,decide_eq_true_eq,List.all_eq_true]at h3
  refine⟨h3.1,fun t ht=> ?_⟩
  have:=h3.2 t ht
  unfold jg at this
  rw[decide_eq_true_eq]at this
  have:=((mE t 50 14).1 this).1
  omega
 obtain⟨fx,hfx⟩:=az (l:=p.sig.bH) (k:=r.fn.toNat) (by have:=hk.fn;omega)
 refine BO h3 hr ?_
 refine aQ (K1 p iF.sig r.fn fx hk.fn.1 hfx l ah kJ) rfl ?_
 refine br ?_
 refine aN (aR rfl) ?_
 cases h4:(((l.length:Int)==fx.args)&&l.all fun t=>cN p.sig t&&ey t)with
 |false=>
  refine gk h4 ?_
  refine aB WJ rfl ?_
  exact pW
 |true=>
 have UG:∀t∈l,Vs p.sig t:=fun t ht=>by
  rw[Bool.and_eq_true,List.all_eq_true]at h4
  have:=h4.2 t ht
  rw[Bool.and_eq_true]at this
  have h5:=this.1
  simp only[cN,Bool.and_eq_true]at h5
  exact⟨h5.2,this.2⟩
 have VL:=Nz h1 Ko
 have uO:=Uo (l:=r.ax) (n:=40) fun t ht=>(VL t ht).2
 have hz:(Tm.mk 0 0 r.ax).sz<=1000000:=by rw[Tm.AZ];have:=hk.len;omega
 have fp:(Tm.mk 0 0 r.ax).fits:=(Tm.aX _).2 ⟨by have:=hk.len;show r.ax.length<=_;omega,fun k hk=>(f1.all k hk).1⟩
 have fl:(Tm.mk 0 0 l).fits:=(Tm.aX _).2 ⟨hl,kJ⟩
 refine BO h4 hr ?_
 refine bn (GV r l fp fl hz) ?_
 generalize hB:cU (.mk 0 0 r.ax) (.mk 0 0 l) []=B
 obtain⟨bs,ok⟩:=B
 cases ok with
 |false=>
  exact Q4
 |true=>
 refine br ?_
 refine bn (Nl p iF hfw hq) ?_
 have hcE:uD p=if(jZ p).length<=60 then(jZ p,0)else([],3):=by unfold uD;rw[hq,h1,if_pos rfl]
 by_cases h60:(jZ p).length<=60
 ·rw[hcE,if_pos h60]
  have Ip:=Np h1
  refine br ?_
  refine aB (aaK _ h60 (fun c hc=>⟨(Ip c hc).1,by have:=(Ip c hc).2;omega⟩)) rfl ?_
  refine br ?_
  have zF:bV r.ax l []=(bs,true)/\r.ax.length=l.length:=by
   rw[pQ]at hB
   rw[if_neg (show ¬ ((Tm.mk 0 0 r.ax).op=1) by simp[Tm.op])]at hB
   split at hB
   ·cases hB
   ·rename_i h9
    exact⟨hB,Classical.byContradiction fun e=>h9 (.inr (.inr e))⟩
  obtain⟨zF,hlen⟩:=zF
  obtain⟨Uq,_,fh⟩:=wW (s:=p.sig) r.ax l [] (fun t ht=>(VL t ht).1) UG hlen Ny (by rw[zF])
  rw[zF]at Uq fh
  simp only at Uq fh
  have xg:=Uq.len
  refine aE (fun k:Nat=>⟨ba [.aa, .d (.i m), .d (.sl (l.map Tm.d)), .ptr 0 0, .aa, .aa, .aa, .d (.sl (bs.map TB.d)), .aa, .d (.sl ((jZ p).map Cl.d)), .aa, .d (.i k)],aF (fun _=> .no) 0 (.row p.row),1⟩)
   (fun k=>k<=(jZ p).length) (fun k=>(jZ p).length - k) 0 (Nat.zero_le _) (bC.bB _ (show 0<=1 from ah) ah eL (fun j hj=>rfl) ?_) (fun k hk=> ?_)
  ·exact cE
  replace K8:k<=(jZ p).length:=hk
  refine lN ?_
  refine aj (fun h6=> ?_) (fun h6=> ?_)
  ·simp at h6
   obtain⟨c,hc⟩:=az h6
   have hcm:=List.mem_of_getElem? hc
   have Rt:=NA hr c hcm
   obtain⟨c1,c2⟩:=Ip c hcm
   obtain⟨ru,fr,to,path,bare,oh⟩:=c
   simp only at c1 c2 Rt
   cases h7:(ru==(m:Int))with
   |false=>
    have h7':(ru !=(m:Int))=true:=by rw[bne,h7];rfl
    simp+contextual (disch:=first|omega|simp only[go_sem,false_implies]) only[go_sem,wrap64,if_pos,hc,Cl.CJ,Option.map_some,h7']
    exact zw9
   |true=>
    have h7':(ru !=(m:Int))=false:=by rw[bne,h7];rfl
    obtain⟨x,hx,eg⟩:=Rt (by simpa using h7)
    have hpt:=hx.part
    simp only at hpt
    simp+contextual (disch:=first|omega|simp only[go_sem,false_implies]) only[go_sem,wrap64,if_pos,hc,Cl.CJ,Option.map_some,h7',hr,List.length_map]
    refine c7 (NC r.rhs path ah x hpt f2) ?_
    refine br ?_
    refine aN cG ?_
    have Ur:oh=[]\/((x.op !=4)=false/\decide ((oh.length:Int)>0)=true):=by
     by_cases h9:oh=[]
     ·exact .inl h9
     ·have GZ:=hx.fn h9
      have Ov:=List.length_pos_iff.2 h9
      exact .inr ⟨by rw[GZ];rfl,decide_eq_true ah⟩
    have aaP:=hx.arc
    simp only at aaP
    have hH:Good (aF (aF (aF (fun _=>ab.no) 0 (.row p.row)) 9 (.row [.d (.i ru), .d (.i fr), .d (.i to), .d (.sl (path.map .i)), .d (.bool bare), .d (.sl (oh.map pV.d))])) 27 (.row x.row)) 28:=eL
    rcases Ur with h9|⟨h9,GZ⟩
    ·subst h9
     refine lN ?_
     refine aE (fun _:Unit=>⟨ba [.aa, .d (.i m), .d (.sl (l.map Tm.d)), .ptr 0 0, .aa, .aa, .aa, .d (.sl (bs.map TB.d)), .aa, .d (.sl ((jZ p).map Cl.d)), .aa, .d (.i k), .ptr 9 0, .ptr 27 0, .aa, .d (.i 0)],aF (aF (aF (fun _=>ab.no) 0 (.row p.row)) 9 (.row [.d (.i ru), .d (.i fr), .d (.i to), .d (.sl (path.map .i)), .d (.bool bare), .d (.sl [])])) 27 (.row x.row),28⟩)
      (fun _=>True) (fun _=>0) () trivial (bC.bB _ (show 0<=28 from ah) ah hH (fun j hj=>by repeat rw[fZ]) ?_) (fun _ _=> ?_)
     ·exact cE
     refine lN ?_
     exact zw9
    ·refine BO h9 GZ ?_
     refine aE (fun j:Nat=>⟨ba [.aa, .d (.i m), .d (.sl (l.map Tm.d)), .ptr 0 0, .aa, .aa, .aa, .d (.sl (bs.map TB.d)), .aa, .d (.sl ((jZ p).map Cl.d)), .aa, .d (.i k), .ptr 9 0, .ptr 27 0, .aa, .d (.i j)],aF (aF (aF (fun _=>ab.no) 0 (.row p.row)) 9 (.row [.d (.i ru), .d (.i fr), .d (.i to), .d (.sl (path.map .i)), .d (.bool bare), .d (.sl (oh.map pV.d))])) 27 (.row x.row),28⟩)
      (fun j=>j<=oh.length) (fun j=>oh.length - j) 0 (Nat.zero_le _) (bC.bB _ (show 0<=28 from ah) ah hH (fun j hj=>by repeat rw[fZ]) ?_) (fun j hj=> ?_)
     ·exact cE
     replace hj:j<=oh.length:=hj
     refine lN ?_
     refine aj (fun Ov=> ?_) (fun Ov=> ?_)
     ·simp at Ov
      obtain⟨a,haj⟩:=az Ov
      obtain⟨i,jj,pa,ka,e1,e2,L1,Ud,hor⟩:=aaP a (List.mem_of_getElem? haj)
      obtain⟨af,at',al⟩:=a
      simp only at e1 e2 hor
      subst e1;subst e2
      have hil:i<r.ax.length:=(List.getElem?_eq_some_iff.1 L1).1
      have hjl:jj<x.kids.length:=(List.getElem?_eq_some_iff.1 Ud).1
      obtain⟨lv,L7⟩:=az (l:=l) (k:=i) ah
      have K2:=List.mem_of_getElem? L7
      have dH:dU (aU bs) pa=lv:=by
       have:=congrArg (fun y=>y[i]?) fh
       simp only[List.getElem?_map,L1,L7,Option.map_some]at this
       exact Option.some.inj this
      have d1:decide ((i:Int)<0)=false:=decide_eq_false ah
      have d2:decide ((i:Int)≥(l.length:Int))=false:=decide_eq_false ah
      have d3:decide ((jj:Int)<0)=false:=decide_eq_false ah
      have d4:decide ((jj:Int)≥(x.kids.length:Int))=false:=decide_eq_false ah
      have hpv:=(VL pa (List.mem_of_getElem? L1))
      have hkf:ka.Qx:=GW ka (by
       have h1:=Uf r.rhs x eg
       have h2:=fu (List.mem_of_getElem? Ud)
       have h3:=Tm.gv x
       omega)
      have adC:=Up.2 lv K2
      simp+contextual (disch:=first|omega|simp only[go_sem,false_implies]) only[go_sem,wrap64,if_pos,haj,d1,d2,d3,d4,List.length_map,Ud]
      rcases hor with⟨Ib,BK⟩|⟨Ib,BK⟩
      ·subst BK
       subst Ib
       refine bn (E0 (s:=p.sig) ka hpv.1 hkf bs ah) ?_
       rw[dH]
       have ade:eV lv lv=true:=(kD _ _).2 rfl
       refine lM L7 ?_
       refine aQ (Jr lv (kJ lv K2) lv (kJ lv K2)) rfl ?_
       refine gk ade ?_
       refine aN (aR rfl) ?_
       refine br ?_
       refine aq (j+1) Ov ah (bC.bB _ (show 0<=28 from ah) ah ?_ (fun q hq=> ?_) ?_)
       ·exact hH
       ·exact eY
       ·exact cE
      ·subst Ib
       obtain⟨hvk,b8⟩:=Um (s:=p.sig) (aU bs) hpv.1 BK
       rw[dH]at b8
       refine bn (E0 (s:=p.sig) ka hvk hkf bs ah) ?_
       have hrf:jY ka pa=true:=by rw[sC,BK,Bool.or_true]
       have hvf:=KZ (s:=p.sig) (aU bs) ka pa hpv.1 hrf (by rw[dH];exact kJ lv K2)
       have vG:decide (((dU (aU bs) ka).sz:Int)≥(lv.sz:Int))=false:=decide_eq_false ah
       refine lM L7 ?_
       refine aQ (E1 _ hvf ah) rfl ?_
       refine lM L7 ?_
       refine aQ (E1 lv (kJ lv K2) ah) rfl ?_
       refine gk vG ?_
       refine aN (aR rfl) ?_
       refine br ?_
       refine aq (j+1) Ov ah (bC.bB _ (show 0<=28 from ah) ah ?_ (fun q hq=> ?_) ?_)
       ·exact hH
       ·exact eY
       ·exact cE
     ·refine br ?_
      exact zw9
  ·exact Q4
 ·rw[hcE,if_neg h60]
  exact Q4
end Go.Proofs.YtnkamdiiakdkgaaGreat
section
namespace Go.Proofs.YtnkamdiiakdkgaaGreat
open Go.ChangeShapes Go.WideShapes Go.RowKit
theorem aaQ{x:D}(h:D.iH Tryz.prog x 3):∃n:Int,x=D.i n/\True:=by
 obtain⟨n,h,_⟩:=uA undT_3 h
 exact⟨n,h,trivial⟩
end Go.Proofs.YtnkamdiiakdkgaaGreat
end
section
namespace Go.Proofs.YtnkamdiiakdkgaaGreat
open Go
def Us:Nat->Bool:=fun g=> !([160,174,175,181,162,177,178,72,101,102,73,103,138,139,140,141,142,143,145,146,164,167,168,180,156,120,119,170,76]:List Nat).contains g
def yP:D:= .agg [.sl [.agg [.str [70,97,108,115,101], .i 0], .agg [.str [84,114,117,101], .i 0], .agg [.str [90], .i 0], .agg [.str [83], .i 1], .agg [.str [78,105,108], .i 0], .agg [.str [67,111,110,115], .i 2]], .sl [.agg [.str [97,100,100], .i 2], .agg [.str [111,114], .i 2], .agg [.str [99,111,105,110], .i 0], .agg [.str [108,101,110], .i 1]], .sl [.agg [.i 0, .sl [.agg [.i 3, .i 2, .sl []], .agg [.i 1, .i 0, .sl []]], .i 1, .i 0, .sl [], .i 1], .agg [.i 0, .sl [.agg [.i 3, .i 3, .sl [.agg [.i 1, .i 0, .sl []]]], .agg [.i 1, .i 1, .sl []]], .i 3, .i 3, .sl [.agg [.i 4, .i 0, .sl [.agg [.i 1, .i 0, .sl []], .agg [.i 1, .i 1, .sl []]]]], .i 2], .agg [.i 1, .sl [.agg [.i 3, .i 1, .sl []], .agg [.i 1, .i 0, .sl []]], .i 3, .i 1, .sl [], .i 1], .agg [.i 1, .sl [.agg [.i 1, .i 0, .sl []], .agg [.i 3, .i 1, .sl []]], .i 3, .i 1, .sl [], .i 1], .agg [.i 1, .sl [.agg [.i 3, .i 0, .sl []], .agg [.i 3, .i 0, .sl []]], .i 3, .i 0, .sl [], .i 0], .agg [.i 2, .sl [], .i 3, .i 2, .sl [], .i 0], .agg [.i 2, .sl [], .i 3, .i 3, .sl [.agg [.i 3, .i 2, .sl []]], .i 0], .agg [.i 3, .sl [.agg [.i 3, .i 5, .sl [.agg [.i 1, .i 0, .sl []], .agg [.i 1, .i 1, .sl []]]]], .i 3, .i 3, .sl [.agg [.i 4, .i 3, .sl [.agg [.i 1, .i 1, .sl []]]]], .i 2], .agg [.i 3, .sl [.agg [.i 1, .i 0, .sl []]], .i 4, .i 0, .sl [.agg [.i 1, .i 1, .sl []], .agg [.i 1, .i 1, .sl []]], .i 2]]]
def yR:D:= .agg [.sl [.agg [.str [70,97,108,115,101], .i 0], .agg [.str [84,114,117,101], .i 0], .agg [.str [90], .i 0], .agg [.str [83], .i 1], .agg [.str [78,105,108], .i 0], .agg [.str [67,111,110,115], .i 2]], .sl [.agg [.str [97,100,100], .i 2], .agg [.str [111,114], .i 2], .agg [.str [99,111,105,110], .i 0], .agg [.str [108,101,110], .i 1]], .sl [.agg [.i 0, .sl [.agg [.i 3, .i 2, .sl []], .agg [.i 1, .i 0, .sl []]], .i 1, .i 0, .sl [], .i 1], .agg [.i 0, .sl [.agg [.i 3, .i 3, .sl [.agg [.i 1, .i 0, .sl []]]], .agg [.i 1, .i 1, .sl []]], .i 3, .i 3, .sl [.agg [.i 4, .i 0, .sl [.agg [.i 1, .i 0, .sl []], .agg [.i 1, .i 1, .sl []]]]], .i 2], .agg [.i 1, .sl [.agg [.i 3, .i 1, .sl []], .agg [.i 1, .i 0, .sl []]], .i 3, .i 1, .sl [], .i 1], .agg [.i 1, .sl [.agg [.i 1, .i 0, .sl []], .agg [.i 3, .i 1, .sl []]], .i 3, .i 1, .sl [], .i 1], .agg [.i 1, .sl [.agg [.i 3, .i 0, .sl []], .agg [.i 3, .i 0, .sl []]], .i 3, .i 0, .sl [], .i 0], .agg [.i 2, .sl [], .i 3, .i 2, .sl [], .i 0], .agg [.i 2, .sl [], .i 3, .i 3, .sl [.agg [.i 3, .i 2, .sl []]], .i 0], .agg [.i 3, .sl [.agg [.i 3, .i 5, .sl [.agg [.i 1, .i 0, .sl []], .agg [.i 1, .i 1, .sl []]]]], .i 3, .i 3, .sl [.agg [.i 4, .i 3, .sl [.agg [.i 1, .i 1, .sl []]]]], .i 2]]]
def yS:D:= .agg [.sl [.agg [.str [70,97,108,115,101], .i 0], .agg [.str [84,114,117,101], .i 0], .agg [.str [90], .i 0], .agg [.str [83], .i 1], .agg [.str [78,105,108], .i 0], .agg [.str [67,111,110,115], .i 2]], .sl [.agg [.str [97,100,100], .i 2], .agg [.str [111,114], .i 2], .agg [.str [99,111,105,110], .i 0], .agg [.str [108,101,110], .i 1]], .sl [.agg [.i 0, .sl [.agg [.i 3, .i 2, .sl []], .agg [.i 1, .i 0, .sl []]], .i 1, .i 0, .sl [], .i 1], .agg [.i 0, .sl [.agg [.i 3, .i 3, .sl [.agg [.i 1, .i 0, .sl []]]], .agg [.i 1, .i 1, .sl []]], .i 3, .i 3, .sl [.agg [.i 4, .i 0, .sl [.agg [.i 1, .i 0, .sl []], .agg [.i 1, .i 1, .sl []]]]], .i 2], .agg [.i 1, .sl [.agg [.i 3, .i 1, .sl []], .agg [.i 1, .i 0, .sl []]], .i 3, .i 1, .sl [], .i 1], .agg [.i 1, .sl [.agg [.i 1, .i 0, .sl []], .agg [.i 3, .i 1, .sl []]], .i 3, .i 1, .sl [], .i 1], .agg [.i 1, .sl [.agg [.i 3, .i 0, .sl []], .agg [.i 3, .i 0, .sl []]], .i 3, .i 0, .sl [], .i 0], .agg [.i 2, .sl [], .i 3, .i 2, .sl [], .i 0], .agg [.i 2, .sl [], .i 3, .i 3, .sl [.agg [.i 3, .i 2, .sl []]], .i 0], .agg [.i 3, .sl [.agg [.i 1, .i 0, .sl []]], .i 4, .i 3, .sl [.agg [.i 1, .i 0, .sl []]], .i 1]]]
def yC:D:= .agg [.sl [.agg [.str [70,97,108,115,101], .i 0], .agg [.str [84,114,117,101], .i 0], .agg [.str [90], .i 0], .agg [.str [83], .i 1], .agg [.str [78,105,108], .i 0], .agg [.str [67,111,110,115], .i 2]], .sl [.agg [.str [97,100,100], .i 2], .agg [.str [111,114], .i 2], .agg [.str [99,111,105,110], .i 0], .agg [.str [108,101,110], .i 1]], .sl [.agg [.i 0, .sl [.agg [.i 3, .i 2, .sl []], .agg [.i 1, .i 0, .sl []]], .i 1, .i 0, .sl [], .i 1], .agg [.i 0, .sl [.agg [.i 3, .i 3, .sl [.agg [.i 1, .i 0, .sl []]]], .agg [.i 1, .i 1, .sl []]], .i 3, .i 3, .sl [.agg [.i 4, .i 0, .sl [.agg [.i 1, .i 0, .sl []], .agg [.i 1, .i 1, .sl []]]]], .i 2], .agg [.i 1, .sl [.agg [.i 3, .i 1, .sl []], .agg [.i 1, .i 0, .sl []]], .i 3, .i 1, .sl [], .i 1], .agg [.i 1, .sl [.agg [.i 1, .i 0, .sl []], .agg [.i 3, .i 1, .sl []]], .i 3, .i 1, .sl [], .i 1], .agg [.i 1, .sl [.agg [.i 3, .i 0, .sl []], .agg [.i 3, .i 0, .sl []]], .i 3, .i 0, .sl [], .i 0], .agg [.i 2, .sl [], .i 3, .i 2, .sl [], .i 0], .agg [.i 2, .sl [], .i 3, .i 3, .sl [.agg [.i 3, .i 2, .sl []]], .i 0], .agg [.i 3, .sl [.agg [.i 1, .i 0, .sl []]], .i 3, .i 5, .sl [.agg [.i 1, .i 0, .sl []], .agg [.i 4, .i 3, .sl [.agg [.i 1, .i 0, .sl []]]]], .i 1]]]
def yT:D:= .agg [.sl [.agg [.str [70,97,108,115,101], .i 0], .agg [.str [84,114,117,101], .i 0], .agg [.str [90], .i 0], .agg [.str [83], .i 1], .agg [.str [78,105,108], .i 0], .agg [.str [67,111,110,115], .i 2]], .sl [.agg [.str [97,100,100], .i 2], .agg [.str [111,114], .i 2], .agg [.str [99,111,105,110], .i 0], .agg [.str [108,101,110], .i 1]], .sl [.agg [.i 0, .sl [.agg [.i 3, .i 3, .sl [.agg [.i 1, .i 0, .sl []]]], .agg [.i 1, .i 1, .sl []]], .i 4, .i 0, .sl [.agg [.i 1, .i 1, .sl []], .agg [.i 1, .i 0, .sl []]], .i 2]]]
def K4:pj Tryz.prog:=pj.of Us [] (fun _ h=>by cases h)
end Go.Proofs.YtnkamdiiakdkgaaGreat
end
section
namespace Go.Proofs.YtnkamdiiakdkgaaGreat
open Go
theorem ND:nk Tryz.prog bM K4 5000 40 [yP]=some (.ret [.i 0]):=ag
theorem Qy:aW Tryz.prog 40 [yP] (.ret [.i 0]):=aW.fX mix fY ND
end Go.Proofs.YtnkamdiiakdkgaaGreat
end
section
namespace Go.Proofs.YtnkamdiiakdkgaaGreat
open Go
theorem NF:nk Tryz.prog bM K4 5000 40 [yR]=some (.ret [.i 0]):=ag
theorem Qz:aW Tryz.prog 40 [yR] (.ret [.i 0]):=aW.fX mix fY NF
end Go.Proofs.YtnkamdiiakdkgaaGreat
end
section
namespace Go.Proofs.YtnkamdiiakdkgaaGreat
open Go
theorem NG:nk Tryz.prog bM K4 5000 40 [yS]=some (.ret [.i 0]):=ag
theorem QA:aW Tryz.prog 40 [yS] (.ret [.i 0]):=aW.fX mix fY NG
end Go.Proofs.YtnkamdiiakdkgaaGreat
end
section
namespace Go.Proofs.YtnkamdiiakdkgaaGreat
open Go
theorem NH:nk Tryz.prog bM K4 5000 40 [yC]=some (.ret [.i 0]):=ag
theorem QB:aW Tryz.prog 40 [yC] (.ret [.i 0]):=aW.fX mix fY NH
end Go.Proofs.YtnkamdiiakdkgaaGreat
end
section
namespace Go.Proofs.YtnkamdiiakdkgaaGreat
open Go
theorem NI:nk Tryz.prog bM K4 5000 40 [yT]=some (.ret [.i 0]):=ag
theorem QC:aW Tryz.prog 40 [yT] (.ret [.i 0]):=aW.fX mix fY NI
end Go.Proofs.YtnkamdiiakdkgaaGreat
end
section
namespace Go.Proofs.YtnkamdiiakdkgaaGreat
open Go
def BH:pj Tryz.prog:=pj.of Us [(40,[yP], .ret [.i 0]),(40,[yR], .ret [.i 0]),(40,[yS], .ret [.i 0]),(40,[yC], .ret [.i 0]),(40,[yT], .ret [.i 0])] (fun x h=>by
 simp only[List.mem_cons,List.not_mem_nil,or_false]at h
 rcases h with rfl|rfl|rfl|rfl|rfl
 ·exact Qy
 ·exact Qz
 ·exact QA
 ·exact QB
 ·exact QC
 )
end Go.Proofs.YtnkamdiiakdkgaaGreat
end
section
namespace Go.Proofs.YtnkamdiiakdkgaaGreat
open Go
theorem Ut:nk Tryz.prog bM BH 5000 11 [yR]=some (.ret [.sl [.agg [.i 1, .i 0, .i 0, .sl [.i 0], .bool false, .sl [.agg [.i 0, .i 0, .bool true], .agg [.i 1, .i 1, .bool false]]], .agg [.i 7, .i 3, .i 3, .sl [.i 0], .bool false, .sl [.agg [.i 0, .i 0, .bool true]]]], .i 0]):=ag
theorem adf:aW Tryz.prog 11 [yR] (.ret [.sl [.agg [.i 1, .i 0, .i 0, .sl [.i 0], .bool false, .sl [.agg [.i 0, .i 0, .bool true], .agg [.i 1, .i 1, .bool false]]], .agg [.i 7, .i 3, .i 3, .sl [.i 0], .bool false, .sl [.agg [.i 0, .i 0, .bool true]]]], .i 0]):=aW.fX mix fY Ut
theorem Uu:nk Tryz.prog bM BH 5000 16 [yR, .sl [.i 0]]=some (.ret [.bool true, .i 0]):=ag
theorem adg:aW Tryz.prog 16 [yR, .sl [.i 0]] (.ret [.bool true, .i 0]):=aW.fX mix fY Uu
end Go.Proofs.YtnkamdiiakdkgaaGreat
end
section
namespace Go.Proofs.YtnkamdiiakdkgaaGreat
open Go
theorem Uv:nk Tryz.prog bM BH 5000 19 [yR]=some (.ret [.bool true, .sl [], .i 0]):=ag
theorem adh:aW Tryz.prog 19 [yR] (.ret [.bool true, .sl [], .i 0]):=aW.fX mix fY Uv
end Go.Proofs.YtnkamdiiakdkgaaGreat
end
section
namespace Go.Proofs.YtnkamdiiakdkgaaGreat
open Go
theorem Uw:nk Tryz.prog bM BH 5000 19 [yS]=some (.ret [.bool false, .sl [.i 1], .i 0]):=ag
theorem adi:aW Tryz.prog 19 [yS] (.ret [.bool false, .sl [.i 1], .i 0]):=aW.fX mix fY Uw
theorem Ux:nk Tryz.prog bM BH 5000 20 [yS]=some (.ret [.bool false, .sl [.i 1], .i 0]):=ag
theorem adj:aW Tryz.prog 20 [yS] (.ret [.bool false, .sl [.i 1], .i 0]):=aW.fX mix fY Ux
end Go.Proofs.YtnkamdiiakdkgaaGreat
end
section
namespace Go.Proofs.YtnkamdiiakdkgaaGreat
open Go
theorem Uy:nk Tryz.prog bM BH 5000 19 [yC]=some (.ret [.bool false, .sl [.i 1], .i 0]):=ag
theorem adk:aW Tryz.prog 19 [yC] (.ret [.bool false, .sl [.i 1], .i 0]):=aW.fX mix fY Uy
theorem Uz:nk Tryz.prog bM BH 5000 20 [yC]=some (.ret [.bool true, .sl [], .i 0]):=ag
theorem adl:aW Tryz.prog 20 [yC] (.ret [.bool true, .sl [], .i 0]):=aW.fX mix fY Uz
end Go.Proofs.YtnkamdiiakdkgaaGreat
end
section
namespace Go.Proofs.YtnkamdiiakdkgaaGreat
open Go
theorem UA:nk Tryz.prog bM BH 5000 19 [yT]=some (.ret [.bool true, .sl [], .i 0]):=ag
theorem adm:aW Tryz.prog 19 [yT] (.ret [.bool true, .sl [], .i 0]):=aW.fX mix fY UA
end Go.Proofs.YtnkamdiiakdkgaaGreat
end
section
namespace Go.Proofs.YtnkamdiiakdkgaaGreat
open Go
def adn:pj Tryz.prog:=pj.of Us [(40,[yP], .ret [.i 0]),(40,[yR], .ret [.i 0]),(40,[yS], .ret [.i 0]),(40,[yC], .ret [.i 0]),(40,[yT], .ret [.i 0]),(11,[yR], .ret [.sl [.agg [.i 1, .i 0, .i 0, .sl [.i 0], .bool false, .sl [.agg [.i 0, .i 0, .bool true], .agg [.i 1, .i 1, .bool false]]], .agg [.i 7, .i 3, .i 3, .sl [.i 0], .bool false, .sl [.agg [.i 0, .i 0, .bool true]]]], .i 0]),(16,[yR, .sl [.i 0]], .ret [.bool true, .i 0]),(19,[yR], .ret [.bool true, .sl [], .i 0]),(19,[yS], .ret [.bool false, .sl [.i 1], .i 0]),(20,[yS], .ret [.bool false, .sl [.i 1], .i 0]),(19,[yC], .ret [.bool false, .sl [.i 1], .i 0]),(20,[yC], .ret [.bool true, .sl [], .i 0]),(19,[yT], .ret [.bool true, .sl [], .i 0])] (fun x h=>by
 simp only[List.mem_cons,List.not_mem_nil,or_false]at h
 rcases h with rfl|rfl|rfl|rfl|rfl|rfl|rfl|rfl|rfl|rfl|rfl|rfl|rfl
 ·exact Qy
 ·exact Qz
 ·exact QA
 ·exact QB
 ·exact QC
 ·exact adf
 ·exact adg
 ·exact adh
 ·exact adi
 ·exact adj
 ·exact adk
 ·exact adl
 ·exact adm
 )
theorem BI:nk Tryz.prog bM adn 5000 10 []=some (.ret [.bool true]):=ag
theorem NJ:aW Tryz.prog 10 [] (.ret [.bool true]):=aW.fX mix fY BI
end Go.Proofs.YtnkamdiiakdkgaaGreat
end
section
namespace Go.Proofs.YtnkamdiiakdkgaaGreat
open Go.ChangeShapes Go.WideShapes Go.RowKit
set_option maxRecDepth 100000 in
theorem sa(os:Os)(started:os.Started)(H:Type)(enc:TypeId×Value->H):
 ReturnsInHanded {} Tryz.checked os 6 .any (Rows.endsTrueSpec.pre6 enc Tryz.prog Tryz.f6 Rows.endsTrueRow.domain false) (Rows.endsTrueSpec.post enc Tryz.prog Tryz.f6 Rows.endsTrueRow.apart Rows.endsTrueRow.fresh Rows.endsTrueRow.handsOn Rows.endsTrueRow.again):=by
 refine returnsInHanded_of_change (C:=Tryz.checked) ag started ag Tryz.func6
  (ChangeSpec.witness6 (enc:=enc) (C:=Tryz.checked) false ⟨#[],#[.agg #[.slice none 0 0, .slice none 0 0, .slice none 0 0], .int .i64 0, .slice none 0 0],[]⟩ 8 ag ag ag ag) ?_
 intro W base args ds gs before dH hW _ _
 refine yD (T:=[27,24,22,102,9,3,25,57,49,55,53]) (tb:=4) ag ag rfl (fun ds h=>by match ds,h with|[_,_,_],_=>rfl) ag (by intro t ht;rw[Tryz.params6]at ht;simp at ht;rcases ht with rfl|rfl|rfl<;>simp) ag (by intro t ht;rw[Tryz.params6]at ht;simp at ht;rcases ht with rfl|rfl|rfl<;>exact⟨ag,of_decide_eq_true ag⟩)
  (fun xs hx=> ?_) base args ds gs before dH hW
 rw[Tryz.params6]at hx
 obtain⟨x0,xs,rfl,sJ,hx⟩:=bI hx
 obtain⟨x1,xs,rfl,hx1,hx⟩:=bI hx
 obtain⟨x2,xs,rfl,hx2,hx⟩:=bI hx
 have:=kH hx;subst this
 obtain⟨p0,rfl,UF⟩:=ac4 sJ
 obtain⟨n1,rfl,Lb⟩:=aaQ hx1
 obtain⟨e2,rfl,he2⟩:=Km hx2
 exact Di NJ p0 n1 e2 UF Lb he2
theorem endsTrue_holds:Rows.EndsTrueSaid:=
 OpenClaim.holds_of_wide 6 Tryz.f6 rfl rfl rfl rfl rfl rfl rfl ⟨rfl,rfl,rfl,rfl,rfl⟩ rfl rfl rfl rfl rfl ag Tryz.func6 ag
  (of_decide_eq_true ag) (by unfold Func.isWrapper;first|(rw[if_pos (by decide+kernel)];kernel_rfl)|(rw[if_neg (by decide+kernel)];exact⟨rfl,rfl⟩))
  (fun os started H enc _=>sa os started H enc)
end Go.Proofs.YtnkamdiiakdkgaaGreat
end
