/-
  A PART. Conditions: none.
-/
import Derived.Laws.CopyRow
import Derived.Test.YtlhemmpklhhgoaaGreatQf3
set_option linter.unusedSimpArgs false
set_option linter.unusedVariables false
set_option maxHeartbeats 8000000
namespace Go.Proofs.YtlhemmpklhhgoaaGreat
section
section
variable {P:Program}{M:Nat->Prop}{φ:Place}{H:Hp}{w:World}{fr:Nat}{K:V->List (Nat×aa)->List Nat->Prop}
theorem dO{x:Option gS}(h:dz x K):∃v Δ rd,x=some (v,Δ,rd)/\K v Δ rd:=by
 unfold dz at h;split at h
 ·exact⟨_,_,_,rfl,h⟩
 ·exact h.elim
theorem Df{o:Nat->aa}{x:V}{id off:Nat}(h:qw o x=some (id,off)):x= .ptr id off/\(o id).cF=true:=by
 unfold qw at h
 split at h
 ·split at h
  ·simp only[Option.some.injEq,Prod.mk.injEq]at h;obtain⟨rfl,rfl⟩:=h;exact⟨rfl,by assumption⟩
  ·cases h
 ·cases h
theorem Dg{o:Nat->aa}{x:V}{id off n:Nat}{cs:List V}(h:qx o x=some (id,off,n,cs)):x= .zA id off n/\o id= .row cs:=by
 unfold qx at h
 split at h
 ·split at h
  ·rename_i ho
   simp only[Option.some.injEq,Prod.mk.injEq]at h;obtain⟨rfl,rfl,rfl,rfl⟩:=h;exact⟨rfl,ho⟩
  ·cases h
 ·cases h
theorem rJ{x:Option V}{val:Option Value}{d n:Nat}(hx:match x,val with|none,none=>True|some v,some u=>V.den (aq M φ H) φ H w v u|_,_=>False)(h:Kk x d=some n):
 (x=none/\val=none/\n=d)\/∃k,val=some (.int k n)/\x≠none:=by
 unfold Kk at h
 split at h
 ·injection h with h
  left
  cases val with
  |none=>exact⟨rfl,rfl,h.symm⟩
  |some u=>exact hx.elim
 ·rename_i k i
  split at h
  ·injection h with h;subst h
   right
   cases val with
   |none=>exact hx.elim
   |some u=>
    simp only[V.den,D.den]at hx
    refine⟨k, ?_,aF⟩
    rw[hx,Int.toNat_of_nonneg (by assumption)]
  ·cases h
 ·cases h
theorem H9{B:Nat->Prop}{es:List D}{base:Option Addr}{len cap l h:Nat}(hd:D.den B w (.sl es) (.slice base len cap))(hl:l<=h)(hh:h<=es.length){m:Nat}(hm:m=cap\/h<=m/\m<=es.length){sz0:Nat}(eD:l=0\/∀y∈es,y.cells.length=sz0):
 D.den B w (.sl ((es.take h).drop l)) (.slice (if m=l then base else base.map (·.add (l*sz0))) (h - l) (m - l)):=by
 obtain⟨b',air,ais,he,h1,h2,h3,sz,h4⟩:=hd
 injection he with e1 e2 e3
 subst e1;subst e2;subst e3
 refine⟨_,_,_,rfl,by simp;omega,ad,fun hb=> ?_,sz,fun a ha=> ?_⟩
 ·split at hb
  ·omega
  ·cases base with
   |none=>have:=h3 rfl;omega
   |some a=>simp at hb
 ·have key:∀ (es:List D) (i:Nat) (a:Addr),D.elems B w sz a i es->∀l h,D.elems B w sz a (i+l) ((es.take h).drop l):=by
   intro es
   induction es with
   |nil=>intro i a _ l h;simp[D.elems]
   |cons e es ih=>
    intro i a he l h
    cases h with
    |zero=>simp[D.elems]
    |succ h=>
     cases l with
     |zero=>
      refine⟨he.1, ?_⟩
      simpa using ih (i+1) a he.2 0 h
     |succ l=>
      have:=ih (i+1) a he.2 l h
      rw[show i+1+l=i+(l+1) by omega]at this
      simpa using this
  split at ha
  ·
    rename_i Fq
    have UF:h - l=0:=ad
    have Xx:(es.take h).drop l=[]:=List.eq_nil_of_length_eq_zero ir
    rw[Xx]
    cases base with
    |none=>cases ha
    |some b=>injection ha with ha;subst ha;exact⟨fun hc=>ad,trivial⟩
  ·cases base with
   |none=>simp at ha
   |some b=>
    simp only[Option.map_some,Option.some.injEq]at ha
    subst ha
    obtain⟨h5,h6⟩:=h4 b rfl
    replace h5:=h5 ad
    refine⟨fun _=>C5 b h5 _, ?_⟩
    have h7:=key es 0 b h6 l h
    rw[Nat.zero_add]at h7
    have shift:∀ (ds:List D) (i:Nat),(∀y∈ds,y.cells.length=sz0\/l=0)->D.elems B w sz b (l+i) ds->D.elems B w sz (b.add (l*sz0)) i ds:=by
     intro ds
     induction ds with
     |nil=>intro i _ _;trivial
     |cons y ds ih=>
      intro i hy hd
      obtain⟨⟨ev,g1,g2,g3⟩,g4⟩:=hd
      have agv:l*sz0=l*sz:=by
       rcases hy y aF with hy|hy
       ·have:=D.aE _ _ (D.eV _ _ g3).1
        rw[hy]at this
        have e:ev.cells.size=sz0:=by simpa using this
        rw[<- e,g1]
       ·rw[hy];simp
      refine⟨⟨ev,g1, ?_,g3⟩,ih (i+1) (fun z hz=>hy z pX) (by rw[show l+(i+1)=l+i+1 by omega];exact g4)⟩
      rw[add_add b h5,agv, <- Nat.add_mul]
      exact g2
    refine shift _ 0 (fun y hy=> ?_) (by simpa using h7)
    rcases eD with eD|eD
    ·exact .inr eD
    ·exact .inl (eD y (List.mem_of_mem_take (List.mem_of_mem_drop hy)))
theorem qA{len cap:Nat}{lo hi mx:Option Value}{l h m:Nat}(Bb:lo=none/\l=0\/∃k,lo=some (.int k l))(HE:hi=none/\h=len/\mx=none\/∃k,hi=some (.int k h))(wM:mx=none/\m=cap\/∃k,mx=some (.int k m))(h1:l<=h)(h2:h<=m)(h3:m<=cap):
 (Instr.sliceBounds true len cap lo hi mx).run P w= .ok (l,h,m) w:=by
 rcases Bb with⟨rfl,rfl⟩|⟨kl,rfl⟩<;>rcases HE with⟨rfl,rfl,rfl⟩|⟨kh,rfl⟩<;>rcases wM with⟨e,rfl⟩|⟨km,e⟩<;>subst_vars<;>
  first
  |(simp[Instr.sliceBounds,run_sliceBound,h1,h2,h3];done)
  |(cases e;done)
  |(cases e;simp[Instr.sliceBounds,run_sliceBound,h1,h2,h3])
theorem FU(hH:aB M φ H w){t:TypeId}{x:V}{xv:Value}{lo hi mx:Option V}{lov hiv mxv:Option Value}(hx:V.den (aq M φ H) φ H w x xv)
 (Bb:match lo,lov with|none,none=>True|some v,some u=>V.den (aq M φ H) φ H w v u|_,_=>False) (HE:match hi,hiv with|none,none=>True|some v,some u=>V.den (aq M φ H) φ H w v u|_,_=>False)
 (wM:match mx,mxv with|none,none=>True|some v,some u=>V.den (aq M φ H) φ H w v u|_,_=>False) (h:dz (rr P H.o t x lo hi mx) K):
 db M φ H w fr ((do let z <- Instr.sliceAt t xv lov hiv mxv;pure (Next.value z):Sem Next).run P w) K:=by
 have hg:=dO h
 clear h
 obtain⟨v,Δ,rd,h,hK⟩:=hg
 unfold rr at h
 split at h
 ·rename_i e ht
  have kC:=bD ht
  split at h
  ·rename_i es l Ia hl
   split at h
   ·rename_i hh hhh
    split at h
    ·rename_i hc
     obtain⟨c1,c2,c3,c4⟩:=hc
     obtain⟨i,Xy⟩:=Option.isSome_iff_exists.1 c3
     have hD:ef H.o x=some (.sl es):=by
      unfold fG at Ia
      split at Ia
      ·rename_i es' hD;injection Ia with Ia;subst Ia;exact hD
      ·cases Ia
     obtain⟨f1,f2,f3,f4,f5⟩:=dh hH x.ids (c6 x _ hx)
     have hd:=fg f1 x (.sl es) xv f3 hD (V.aV f2 _ _ hx)
     obtain⟨base,len,cap,hxv,hlen,dR,_⟩:=id hd
     subst hxv
     have eD:l=0\/∀y∈es,y.cells.length=P.cellsOf e:=by
      rcases c4 with c4|c4
      ·exact .inl c4
      ·exact .inr fun y hy=>by simpa using List.all_eq_true.1 c4 y hy
     have elem:P.elem t=e:=by simp[Program.elem,kC]
     have fW:∀ {m:Nat},(Instr.sliceBounds true len cap lov hiv mxv).run P w= .ok (l,hh,m) w->
      (Instr.sliceAt t (.slice base len cap) lov hiv mxv).run P w= .ok (.slice (if m=l then base else base.map (·.add (l*P.cellsOf e))) (hh - l) (m - l)) w:=by
      intro m hm
      rw[run_sliceAt_slice w t _ _ _ _ (by rw[elem];exact kC),run_slice_any w t base len cap (by rw[elem];exact kC),hm]
      simp only[Result.andThen_ok,elem,ei Xy,sliced]
     have fin:∀ {val:Value} {v:V},(Instr.sliceAt t (.slice base len cap) lov hiv mxv).run P w= .ok val w->V.den (aq M φ (H.put (bK H.o x.ids))) φ (H.put (bK H.o x.ids)) w v val->K v (bK H.o x.ids) x.ids->
      db M φ H w fr ((do let z <- Instr.sliceAt t (.slice base len cap) lov hiv mxv;pure (Next.value z):Sem Next).run P w) K:=by
      intro val v r1 r2 r3
      exact⟨_,val,w,φ,v,_,_,r3,by simp only[Sem.run_bind,r1,Result.andThen_ok];rfl, .inl rfl,f1,f2,r2,fun id ay=> .inl (by
       have e:(bK H.o x.ids).map (·.1)=x.ids:=by rw[m7];simp[Function.comp_def]
       rw[e]at ay
       exact c6 x _ hx id ay)⟩
     have bl:lov=none/\l=0\/∃k,lov=some (.int k l):=by
      rcases rJ Bb hl with⟨_,a,b⟩|⟨k,a,_⟩
      ·exact .inl ⟨a,b⟩
      ·exact .inr ⟨k,a⟩
     split at h
     ·injection h with h;injection h with e1 e2;injection e2 with e2 e3;subst e1;subst e2;subst e3
      have bm:mxv=none:=by
       cases mxv with
       |none=>rfl
       |some u=>exact wM.elim
      subst bm
      have bh:hiv=none/\hh=len/\(none:Option Value)=none\/∃k,hiv=some (.int k hh):=by
       rcases rJ HE hhh with⟨_,a,b⟩|⟨k,a,_⟩
       ·exact .inl ⟨a,ad,rfl⟩
       ·exact .inr ⟨k,a⟩
      refine fin (fW (qA (m:=cap) bl bh (.inl ⟨rfl,rfl⟩) c1 ad (Nat.le_refl _))) ?_ hK
      exact H9 hd c1 c2 (.inl rfl) eD
     ·rename_i mv
      split at h
      ·rename_i hv m hm
       split at h
       ·rename_i tC
        injection h with h;injection h with e1 e2;injection e2 with e2 e3;subst e1;subst e2;subst e3
        have bm:∃k,mxv=some (.int k m):=by
         rcases rJ wM hm with⟨a,_⟩|⟨k,a,_⟩
         ·cases a
         ·exact⟨k,a⟩
        have bh:∃k,hiv=some (.int k hh):=by
         rcases rJ HE hhh with⟨a,_⟩|⟨k,a,_⟩
         ·cases a
         ·exact⟨k,a⟩
        have hp:=H9 (m:=m) hd c1 c2 (.inr tC) eD
        refine fin (fW (qA (m:=m) bl (.inr bh) (.inr bm) c1 tC.1 ad)) ?_ hK
        split
        ·rename_i e;subst e
         exact⟨hp,_,_,rfl⟩
        ·exact hp
       ·cases h
      ·cases h
    ·cases h
   ·cases h
  ·cases h
 ·cases ha:A6 P t with
  |none=>rw[ha]at h;cases h
  |some p=>
  obtain⟨n,e⟩:=p
  rw[ha]at h
  split at h
  ·rename_i n' e' heq
   have e0:n=n'/\e=e':=by simpa using heq
   obtain⟨rfl,rfl⟩:=e0
   split at h
   ·rename_i id off uF
    obtain⟨rfl,cL⟩:=Df uF
    split at h
    ·rename_i hc
     injection h with h;injection h with e1 e2;injection e2 with e2 e3;subst e1;subst e2;subst e3
     obtain⟨i,Xy⟩:=Option.isSome_iff_exists.1 hc
     have e1:lov=none:=by cases lov with|none=>rfl|some u=>exact Bb.elim
     have e2:hiv=none:=by cases hiv with|none=>rfl|some u=>exact HE.elim
     have e3:mxv=none:=by cases mxv with|none=>rfl|some u=>exact wM.elim
     subst e1;subst e2;subst e3
     obtain⟨g1,g2,g3⟩:=hx
     obtain⟨b,k1,k2⟩:=g3 cL
     subst k2
     have FV:=zH ha
     have elem:P.elem t=e:=by simp[Program.elem,FV]
     have len:P.arrayLen t=n:=by simp[Program.arrayLen,FV]
     refine db.same hH (.slice (some ⟨b,off,none⟩) n n) hK ?_ ⟨rfl,g2,fun _=>⟨b,k1,rfl⟩⟩
     have:=run_sliceAt_array_all (P:=P) w t ⟨b,off,none⟩ (by rw[elem,len];exact FV)
     simp only[Sem.run_bind,this,elem,ei Xy,Result.andThen_ok,slicedAt,len]
     by_cases hn:n=0
     ·subst hn;rfl
     ·simp[hn,Addr.add]
    ·cases h
   ·cases h
  ·cases h
theorem Ks(g:Nat):(⟨g,0,none⟩:Addr).add 0=⟨g,0,none⟩:=rfl
theorem df{B:Nat->Prop}{w:World}:∀ (es:List D) (vs:List Value) (n:Nat),D.aG B w es vs->D.aG B w (es.take n) (vs.take n)
 |[],vs,n,h=>by
  have h:vs=[]:=h
  subst h;simp only[List.take_nil];rfl
 |e::es,vs,0,h=>by simp only[List.take_zero];rfl
 |e::es,vs,n+1,h=>by
  obtain⟨u,us,rfl,h1,h2⟩:=h
  exact⟨u,us.take n,rfl,h1,df es us n h2⟩
theorem zL{sz:Nat}:∀ (evs:List Value) (n:Nat),(∀ev∈evs,ev.cells.size=sz)->(evs.flatMap (·.cells.toList)).take (n*sz)=(evs.take n).flatMap (·.cells.toList)
 |[],n,_=>aF
 |e::evs,0,_=>aF
 |e::evs,n+1,h=>by
  have he:=h e aF
  have hl:e.cells.toList.length=sz:=by simpa using he
  rw[List.flatMap_cons,List.take_succ_cons,List.flatMap_cons,Nat.succ_mul,Nat.add_comm,List.take_append,hl,show sz+n*sz - sz=n*sz by omega,List.take_of_length_le (by omega),zL evs n fun ev dH=>h ev (by simp[dH])]
theorem dG.take {B:Nat->Prop}{w:World}{sz:Nat}{es:List D}{xs:List Value}(h:dG B w sz es xs)(n:Nat):dG B w sz (es.take n) (xs.take (n*sz)):=by
 obtain⟨evs,rfl,h2,h3⟩:=h
 exact⟨evs.take n,zL evs n h2,fun ev dH=>h2 ev (List.mem_of_mem_take dH),df es evs n h3⟩
theorem Q2(hH:aB M φ H w){t:TypeId}{x:V}{xv:Value}{lo hi mx:Option V}{lov hiv mxv:Option Value}(hx:V.den (aq M φ H) φ H w x xv)
 (Bb:match lo,lov with|none,none=>True|some v,some u=>V.den (aq M φ H) φ H w v u|_,_=>False) (HE:match hi,hiv with|none,none=>True|some v,some u=>V.den (aq M φ H) φ H w v u|_,_=>False)
 (wM:match mx,mxv with|none,none=>True|some v,some u=>V.den (aq M φ H) φ H w v u|_,_=>False) {v:V} {Δ:List (Nat×aa)} {rd:List Nat} (h:FO P H.o t x lo hi mx=some (v,Δ,rd)) (hK:K v Δ rd):
 db M φ H w fr ((do let z <- Instr.sliceAt t xv lov hiv mxv;pure (Next.value z):Sem Next).run P w) K:=by
 have Ib:∀ {kk:IntKind} {e:TypeId} {base:Option Addr} {len cap n:Nat},b7 P t=some e->(P.info? e).isSome=true->n<=cap->base=none\/(∃g,base=some ⟨g,0,none⟩)->
  (Instr.sliceAt t (.slice base len cap) none (some (.int kk n)) none).run P w= .ok (.slice base n cap) w:=by
  intro kk e base len cap n ht hi hn hb
  obtain⟨i,Xy⟩:=Option.isSome_iff_exists.1 hi
  have kC:=bD ht
  have elem:P.elem t=e:=by simp[Program.elem,kC]
  have hm:=qA (P:=P) (w:=w) (len:=len) (cap:=cap) (lo:=none) (hi:=some (.int kk n)) (mx:=none) (l:=0) (h:=n) (m:=cap) (.inl ⟨rfl,rfl⟩) (.inr ⟨kk,rfl⟩) (.inl ⟨rfl,rfl⟩) (Nat.zero_le _) hn (Nat.le_refl _)
  rw[run_sliceAt_slice w t _ _ _ _ (by rw[elem];exact kC),run_slice_any w t base len cap (by rw[elem];exact kC),hm]
  simp only[Result.andThen_ok,elem,ei Xy,sliced]
  rcases hb with rfl|⟨g,rfl⟩
  ·simp
  ·simp[Ks]
 have bounds:∀ {kk:IntKind} {e:TypeId} {base:Option Addr} {len cap:Nat},b7 P t=some e->(P.info? e).isSome=true->base=none\/(∃g,base=some ⟨g,0,none⟩)->
  (Instr.sliceAt t (.slice base len cap) none (some (.int kk 0)) none).run P w= .ok (.slice base 0 cap) w:=fun ht hi hb=>Ib (n:=0) ht hi (Nat.zero_le _) hb
 unfold FO at h
 split at h
 ·split at h
  ·rename_i kk k
   split at h
   ·rename_i e ht
    split at h
    ·rename_i hc
     simp only[Option.some.injEq,Prod.mk.injEq]at h;obtain⟨rfl,rfl,rfl⟩:=h
     obtain⟨rfl,hc⟩:=hc
     simp only[V.den]at hx;subst hx
     have e1:lov=none:=by cases lov with|none=>rfl|some u=>exact Bb.elim
     have e2:mxv=none:=by cases mxv with|none=>rfl|some u=>exact wM.elim
     have e3:hiv=some (.int kk 0):=by
      cases hiv with
      |none=>exact HE.elim
      |some u=>exact Mr
     subst e1;subst e2;subst e3
     exact db.same hH (.slice none 0 0) hK (by simp only[Sem.run_bind,bounds (base:=none) (len:=0) (cap:=0) ht hc (.inl rfl),Result.andThen_ok];rfl) rfl
    ·cases h
   ·cases h
  ·cases h
 ·rename_i id ep
  split at h
  ·rename_i kk k
   split at h
   ·rename_i e gM ty sz es ht ho
    split at h
    ·rename_i hc
     simp only[Option.some.injEq,Prod.mk.injEq]at h;obtain⟨rfl,rfl,rfl⟩:=h
     obtain⟨rfl,rfl,hc⟩:=hc
     have e1:lov=none:=by cases lov with|none=>rfl|some u=>exact Bb.elim
     have e2:mxv=none:=by cases mxv with|none=>rfl|some u=>exact wM.elim
     have e3:hiv=some (.int kk 0):=by
      cases hiv with
      |none=>exact HE.elim
      |some u=>exact Mr
     subst e1;subst e2;subst e3
     obtain⟨_,eE,wH⟩:=hx
     have hv:=(wH ep eY).2 rfl
     subst hv
     have a8:=hH.ok id
     simp only[aU,ho]at a8
     obtain⟨eD,xs,cn,nR⟩:=a8
     have acS:dG (aq M φ H) w sz [] []:=⟨[],rfl,aF,rfl⟩
     rcases cn.2 with⟨h3,h4⟩|⟨g,cap,cur,h3,h4,h5,h6,h7,h8,h9⟩
     ·have rH:w.ownsRow 0 ty sz (.slice none 0 0) ([]:List D).length []:=⟨aF, .inl ⟨rfl,rfl⟩⟩
      obtain⟨s1,s2,s3⟩:=oi (m:=fun _=>False) hH eE ho (dZ.refl _ _) (fun _ h=>h.elim) (fun b hb=>by simp[dY]at hb) rH acS
      rw[h3]
      exact⟨_,_,_,_,_,_,_,hK,by simp only[Sem.run_bind,bounds (base:=none) (len:=0) (cap:=0) ht hc (.inl rfl),Result.andThen_ok];rfl, .inl rfl,s1,s2,s3,by simp[eE]⟩
     ·have rH:w.ownsRow 0 ty sz (.slice (some ⟨g,0,none⟩) 0 cap) ([]:List D).length []:=⟨aF, .inr ⟨g,cap,cur,rfl,h4,h5,Nat.zero_le _,h7,h8,aF⟩⟩
      obtain⟨s1,s2,s3⟩:=oi (m:=fun _=>False) hH eE ho (dZ.refl _ _) (fun _ h=>h.elim) (fun b hb=> .inl (by rw[h3];exact hb)) rH acS
      rw[h3]
      exact⟨_,_,_,_,_,_,_,hK,by simp only[Sem.run_bind,bounds (base:=some ⟨g,0,none⟩) ht hc (.inr ⟨g,rfl⟩),Result.andThen_ok];rfl, .inl rfl,s1,s2,s3,by simp[eE]⟩
    ·split at h
     ·rename_i hc
      simp only[Option.some.injEq,Prod.mk.injEq]at h;obtain⟨rfl,rfl,rfl⟩:=h
      obtain⟨hk0,Dh,rfl,hc⟩:=hc
      obtain⟨n,rfl⟩:∃n:Nat,k=n:=⟨k.toNat,ad⟩
      simp only[Int.toNat_natCast]at Dh hK
      have hn0:0<n:=ad
      have e1:lov=none:=by cases lov with|none=>rfl|some u=>exact Bb.elim
      have e2:mxv=none:=by cases mxv with|none=>rfl|some u=>exact wM.elim
      have e3:hiv=some (.int kk n):=by
       cases hiv with
       |none=>exact HE.elim
       |some u=>exact Mr
      subst e1;subst e2;subst e3
      obtain⟨_,eE,wH⟩:=hx
      have hv:=(wH ep eY).2 rfl
      subst hv
      have a8:=hH.ok id
      simp only[aU,ho]at a8
      obtain⟨eD,xs,cn,nR⟩:=a8
      rcases cn.2 with⟨h3,h4⟩|⟨g,cap,cur,h3,h4,h5,h6,h7,h8,h9⟩
      ·omega
      ·have hlx:xs.length=es.length*sz:=cn.1
       have hle:n*sz<=es.length*sz:=Nat.mul_le_mul_right _ Dh
       have cD:(es.take n).length=n:=by rw[List.length_take];omega
       have rH:w.ownsRow 0 ty sz (.slice (some ⟨g,0,none⟩) (es.take n).length cap) (es.take n).length (xs.take (n*sz)):=by
        rw[cD]
        refine⟨by rw[List.length_take];omega, .inr ⟨g,cap,cur,rfl,h4,h5,ad,h7,h8, ?_⟩⟩
        rw[<- h9,List.take_take,Nat.min_eq_left hle]
       obtain⟨s1,s2,s3⟩:=oi (m:=fun _=>False) hH eE ho (dZ.refl _ _) (fun _ h=>h.elim) (fun b hb=> .inl (by rw[h3];exact hb)) rH (nR.take n)
       rw[h3]
       rw[cD]at s1 s2 s3
       exact⟨_,_,_,_,_,_,_,hK,by simp only[Sem.run_bind,Ib (base:=some ⟨g,0,none⟩) ht hc (show n<=cap by omega) (.inr ⟨g,rfl⟩),Result.andThen_ok];rfl, .inl rfl,s1,s2,s3,by simp[eE]⟩
     ·cases h
   ·cases h
  ·cases h
 ·cases h
theorem Ku(hH:aB M φ H w){t:TypeId}{x:V}{xv:Value}{lo hi mx:Option V}{lov hiv mxv:Option Value}(hx:V.den (aq M φ H) φ H w x xv)
 (Bb:match lo,lov with|none,none=>True|some v,some u=>V.den (aq M φ H) φ H w v u|_,_=>False) (HE:match hi,hiv with|none,none=>True|some v,some u=>V.den (aq M φ H) φ H w v u|_,_=>False)
 (wM:match mx,mxv with|none,none=>True|some v,some u=>V.den (aq M φ H) φ H w v u|_,_=>False) (h:dz (tq P H.o t x lo hi mx) K):
 db M φ H w fr ((do let z <- Instr.sliceAt t xv lov hiv mxv;pure (Next.value z):Sem Next).run P w) K:=by
 unfold tq at h
 split at h
 ·rename_i r hr
  obtain⟨v,Δ,rd⟩:=r
  exact Q2 hH hx Bb HE wM hr h
 ·exact FU hH hx Bb HE wM h
theorem M5(hH:aB M φ H w){ts:Array TypeId}{ty0:TypeId}{x y:V}{xv yv:Value}(hx:V.den (aq M φ H) φ H w x xv)(hy:V.den (aq M φ H) φ H w y yv)(h:dz (zD P H.o ts x y) K):
 db M φ H w fr ((do let z <- Builtin.copy_ ts ty0 #[xv,yv];pure (Next.value z):Sem Next).run P w) K:=by
 have hg:=dO h
 clear h
 obtain⟨v,Δ,rd,h,hK⟩:=hg
 unfold zD at h
 split at h
 ·rename_i t t' yP
  have yP:ts=#[t,t']:=by apply Array.ext';simpa using yP
  subst yP
  split at h
  ·rename_i e ht
   split at h
   ·rename_i id off n cs es hrs Ia
    obtain⟨rfl,ho⟩:=Dg hrs
    ·split at h
     ·rename_i hc
      obtain⟨c1,c2,c3,c4⟩:=hc
      injection h with h;injection h with e1 e2;injection e2 with e2 e3;subst e1;subst e2;subst e3
      have c3:∀z∈es,z.cells.length=1:=fun z hz=>by simpa using List.all_eq_true.1 c3 z hz
      obtain⟨i,hi⟩:=kM (P:=P) (e:=e) ad
      have eD:(P.info? e).map (·.size)=some 1:=by rw[hi];simp[<- bV hi,c1]
      obtain⟨_,eE,hp⟩:=hx
      obtain⟨b,fA,rfl⟩:=hp eY
      have kZ:id∉y.ids:=fun hm=>by have:=List.all_eq_true.1 c4 id hm;simp at this
      obtain⟨f1,f2,f3,f4,f5⟩:=dh hH y.ids (c6 y _ hy)
      have yy:=(f4 id kZ).trans ho
      have a8:=f1.ok id
      simp only[aU,yy]at a8
      obtain⟨b',eG,ty,g1,g2,g3,g4⟩:=a8
      rw[fA]at g1;simp at g1;subst g1
      have l2:=V.aE _ _ g3
      simp only[Array.length_toList]at l2
      have Q3:(bK H.o y.ids).map (·.1)=y.ids:=by rw[m7];simp[Function.comp_def]
      rcases qz hH hy Ia c3 with⟨rfl,rfl⟩|⟨a,c,evs,rfl,k1,k2,k3,k4⟩
      ·have hr:=run_copy_nil (P:=P) w t t' ty0 e ⟨b,off,none⟩ n n (bD ht) (by rw[eD];rfl)
       have same:H.put (bK H.o y.ids++[(id,aa.row (cs.take off++(([]:List D).take n |>.flatMap D.cells).map .d++cs.drop (off+(([]:List D).take n).length)))])=H.put (bK H.o y.ids):=by
        rw[eI]
        refine wI _ ((f5 id).2 eE) ?_
        rw[yy]
        simp
       refine⟨_,goInt 0,w,φ,_,_,_,hK,by simp only[Sem.run_bind,hr,Result.andThen_ok];rfl, .inl rfl,by rw[same];exact f1,by rw[same];exact f2,by simp[V.den,D.den,goInt],fun j hj=> .inl ?_⟩
       rw[List.map_append,Q3]at hj
       simp only[List.map_cons,List.map_nil,List.mem_append,List.mem_singleton]at hj
       rcases hj with hj|rfl
       ·exact c6 y _ hy j hj
       ·exact eE
      ·have hlen:evs.length=es.length:=D.aE _ _ k1
       have k1':=D.aW (f2.blocks (M:=M)) _ _ k1
       have Fs:D.aG (aq M φ (H.put (bK H.o y.ids))) w (es.take n) (evs.take n):=D.df n _ _ k1'
       have Q4:∀ev∈evs.take n,ev.cells.size=1:=fun ev dH=>by
        have:=k2 ev (List.mem_of_mem_take dH);omega
       have pg:((evs.take n).flatMap (·.cells.toList)).length=Nat.min es.length n:=by
        rw[dB (sz:=1) _ Q4];simp[hlen,Nat.min_comm]
       have pre:∀ (j:Nat) (u:Value),((evs.take n).flatMap (·.cells.toList))[j]? =some u->(evs.flatMap (·.cells.toList))[j]? =some u:=by
        intro j u hj
        have:evs.flatMap (·.cells.toList)=(evs.take n).flatMap (·.cells.toList)++(evs.drop n).flatMap (·.cells.toList):=by rw[<- List.flatMap_append,List.take_append_drop]
        rw[this]
        have cD:j<((evs.take n).flatMap (·.cells.toList)).length:=by
         rcases Nat.lt_or_ge j ((evs.take n).flatMap (·.cells.toList)).length with cD|yA
         ·exact cD
         ·rw[List.getElem?_eq_none yA]at hj;cases hj
        rw[List.getElem?_append_left cD];exact hj
       have re:Flat ((evs.take n).flatMap (·.cells.toList)):=by
        intro u hu
        simp only[List.mem_flatMap]at hu
        obtain⟨ev,h1,h2⟩:=hu
        exact k4 u (by simp only[List.mem_flatMap];exact⟨ev,List.mem_of_mem_take h1,h2⟩)
       have hr:=run_copy_row (P:=P) w t t' ty0 e b off n n a es.length c eG ty (List.flatMap (fun x:Value=>x.cells.toList) (evs.take n)) (bD ht) eD g2 pg (fun j u hj=>k3 j u (pre j u hj)) (by rw[pg];have:Nat.min es.length n<=n:=Nat.min_le_right _ _;omega) re
       have Kp:V.aG (aq M φ (H.put (bK H.o y.ids))) φ (H.put (bK H.o y.ids)) w (((es.take n).flatMap D.cells).map .d) ((evs.take n).flatMap (·.cells.toList)):=by
        have flat:∀ (ds:List D) (us:List Value),D.aG (aq M φ (H.put (bK H.o y.ids))) w ds us->D.aG (aq M φ (H.put (bK H.o y.ids))) w (ds.flatMap D.cells) (us.flatMap (·.cells.toList)):=by
         intro ds
         induction ds with
         |nil=>intro us h;simp[D.aG]at h;subst h;rfl
         |cons d ds ih=>
          intro us h
          obtain⟨u,us,rfl,q1,q2⟩:=h
          simp only[List.flatMap_cons]
          exact D.bg _ _ _ _ (D.eV _ _ q1).1 (ih us q2)
        exact(V.cT _ _).2 (flat _ _ Fs)
       have qf:((evs.take n).flatMap (·.cells.toList)).length=(es.take n).length:=by rw[pg];simp[Nat.min_comm]
       obtain⟨t1,t2⟩:=C4 (cs':=cs.take off++((es.take n).flatMap D.cells).map .d++cs.drop (off+(es.take n).length)) f1 ((f5 id).2 eE) yy fA g2
        (eG.toList.take off++(evs.take n).flatMap (·.cells.toList)++eG.toList.drop (off+((evs.take n).flatMap (·.cells.toList)).length)).toArray (by
        simp only
        rw[qf]
        exact V.bg _ _ _ _ (V.bg _ _ _ _ (V.df _ _ _ g3) Kp) (V.eU _ _ _ g3)) (by
        intro u hu
        simp only[List.mem_append]at hu
        rcases hu with(hu|hu)|hu
        ·exact g4 u (List.mem_of_mem_take hu)
        ·exact re u hu
        ·exact g4 u (List.mem_of_mem_drop hu))
       refine⟨_,_,_,φ,_,_,_,hK,by simp only[Sem.run_bind,hr,Result.andThen_ok];rfl, .inl rfl,by rw[eI];exact t1,by rw[eI];exact f2.trans t2, ?_,fun j hj=> .inl ?_⟩
       ·simp only[V.den,D.den,goInt,pg]
       ·rw[List.map_append,Q3]at hj
        simp only[List.map_cons,List.map_nil,List.mem_append,List.mem_singleton]at hj
        rcases hj with hj|rfl
        ·exact c6 y _ hy j hj
        ·exact eE
     ·cases h
   ·cases h
  ·cases h
 ·cases h
theorem Bc{t u:TypeId}{f off:Nat}(h:A8 P t f=some (off,u)):∃fs fd,P.underlying t=some (.struct fs)/\fs[f]? =some fd/\fd.offset=off/\fd.type=u:=by
 unfold A8 at h
 split at h
 ·rename_i fs hu
  split at h
  ·rename_i fd hf
   injection h with h;injection h with h1 h2
   exact⟨fs,fd,hu,hf,h1,h2⟩
  ·cases h
 ·cases h
theorem Kg{t:TypeId}{cs:List V}{off:Nat}{x:V}(h:fF P t cs off=some x){arr:Array Value}(hd:V.aG (aq M φ H) φ H w cs arr.toList)(hf:Flat arr.toList):
 ∃u,(part t arr off).run P w= .ok u w/\V.den (aq M φ H) φ H w x u:=by
 unfold fF at h
 split at h
 ·rename_i ha
  split at h
  ·rename_i hl
   injection h with h;subst h
   obtain⟨i,hi⟩:=tz ha
   refine⟨.agg (arr.extract off (off+P.cellsOf t)), ?_,mA _ _ ?_ ?_⟩
   ·simp only[part,Sem.run_bind,tx ha w,Result.andThen_ok,if_true,ei hi w,Sem.run_pure]
   ·have:=V.df (P.cellsOf t) _ _ (V.eU off _ _ hd)
    simpa[Array.toList_extract,List.extract]using this
   ·exact acC
  ·cases h
 ·rename_i ha
  obtain⟨u,hu,QW⟩:=V.dA _ _ _ _ hd h
  refine⟨u, ?_,QW⟩
  have CK:arr[off]? =some u:=by simpa using hu
  simp only[part,Sem.run_bind,qy ha w,Result.andThen_ok,Bool.false_eq_true,if_false,CK,Sem.run_pure]
 ·cases h
theorem Kv(hH:aB M φ H w){t:TypeId}{x:V}{xv:Value}{f:Nat}(hx:V.den (aq M φ H) φ H w x xv)(h:dz ((wC P t x f).map fun v=>(v,[],[])) K):
 db M φ H w fr ((do let z <- Instr.field t xv f;pure (Next.value z):Sem Next).run P w) K:=by
 have hg:=dO h
 clear h
 obtain⟨v,Δ,rd,h,hK⟩:=hg
 simp only[Option.map_eq_some_iff,Prod.mk.injEq]at h
 have hg:=h
 clear h
 obtain⟨v',h,rfl,rfl,rfl⟩:=hg
 unfold wC at h
 split at h
 ·rename_i off u hf
  obtain⟨fs,fd,hu,hfd,rfl,rfl⟩:=Bc hf
  have fin:∀ {arr:Array Value} {val:Value},(part fd.type arr fd.offset).run P w= .ok val w->V.den (aq M φ H) φ H w v' val->db M φ H w fr ((do let z <- Instr.field t (.agg arr) f;pure (Next.value z):Sem Next).run P w) K:=by
   intro arr val r1 r2
   refine db.same hH val hK ?_ r2
   simp[Instr.field,run_underlying hu,hfd,asAgg,r1]
  split at h
  ·rename_i cs
   exact acp
  ·rename_i cs
   exact T8
  ·cases h
 ·cases h
theorem Kw(s:ByteArray)(n:Nat):s[n]? =s.data.toList[n]? :=by
 rw[getElem?_def]
 split
 ·rename_i h
  have h':n<s.data.toList.length:=by simpa using h
  rw[List.getElem?_eq_getElem h']
  rfl
 ·rename_i h
  have h':s.data.toList.length<=n:=by
   have: ¬n<s.data.size:=h
   simpa using this
  rw[List.getElem?_eq_none h']
theorem Kx(hH:aB M φ H w){t:TypeId}{x i:V}{xv iv:Value}(hx:V.den (aq M φ H) φ H w x xv)(hi:V.den (aq M φ H) φ H w i iv)(h:dz ((wD P t x i).map fun v=>(v,[],[])) K):
 db M φ H w fr ((do let z <- Instr.index t xv iv;pure (Next.value z):Sem Next).run P w) K:=by
 have hg:=dO h
 clear h
 obtain⟨v,Δ,rd,h,hK⟩:=hg
 simp only[Option.map_eq_some_iff,Prod.mk.injEq]at h
 have hg:=h
 clear h
 obtain⟨v',h,rfl,rfl,rfl⟩:=hg
 unfold wD at h
 split at h
 ·rename_i k i
  simp only[V.den,D.den]at hi
  subst hi
  split at h
  ·rename_i h0
   split at h
   ·rename_i hu
    split at h
    ·rename_i l
     split at h
     ·rename_i b hb
      injection h with h;subst h
      obtain⟨s,rfl,rfl⟩:=hx
      refine db.same hH (.int .u8 b.toNat) hK ?_ rfl
      have yK:s[i.toNat]? =some b:=by rw[Kw];exact hb
      simp[Instr.index,asIntOf,run_underlying hu,h0,yK]
     ·cases h
    ·cases h
   ·rename_i n e hu
    split at h
    ·rename_i hn
     obtain⟨h1,h2⟩:=hn
     obtain⟨ie,hie⟩:=Option.isSome_iff_exists.1 h2
     have hc:0<=i/\i<(n:Int):=⟨h0,h1⟩
     have fin:∀ {arr:Array Value} {val:Value},(part e arr (i.toNat*P.cellsOf e)).run P w= .ok val w->V.den (aq M φ H) φ H w v' val->db M φ H w fr ((do let z <- Instr.index t (.agg arr) (.int k i);pure (Next.value z):Sem Next).run P w) K:=by
      intro arr val r1 r2
      refine db.same hH val hK ?_ r2
      simp[Instr.index,asIntOf,run_underlying hu,hc,ei hie,r1]
     split at h
     ·rename_i cs
      exact acp
     ·rename_i cs
      exact T8
     ·cases h
    ·cases h
   ·cases h
  ·cases h
 ·cases h
theorem Di{t:TypeId}(h:wE P t=true):∃d,P.underlying t=some d/\∀ms,d≠ .interface ms:=by
 unfold wE at h
 split at h
 ·cases h
 ·rename_i d hn hd
  exact⟨d,hd,fun ms e=>hn ms e⟩
 ·cases h
theorem tD{t:TypeId}{z:V}(hz:zeroV P t=some z):∃val,(zeroValue t).run P w= .ok val w/\V.den (aq M φ H) φ H w z val:=by
 unfold zeroV at hz
 split at hz
 ·rename_i i hi
  have hr:∀v,i.zero=some v->(zeroValue t).run P w= .ok v w:=fun v hv=>by simp[zeroValue,typeInfo,hi,hv]
  split at hz
  ·rename_i a hv
   split at hz
   ·rename_i hf
    injection hz with hz;subst hz
    have yQ:Flat a.toList:=fun u hu=>List.all_eq_true.1 hf u hu
    exact⟨_,hr _ hv,mA _ _ (eg _ yQ) yQ⟩
   ·cases hz
  ·rename_i v _ hv
   split at hz
   ·rename_i h1
    injection hz with hz;subst hz
    exact⟨_,hr _ hv,mZ _ h1⟩
   ·cases hz
  ·cases hz
 ·cases hz
theorem FW(hH:aB M φ H w){t xt:TypeId}{ok:Bool}{x:V}{xv:Value}(hx:V.den (aq M φ H) φ H w x xv)(h:dz ((rv P t ok x).map fun v=>(v,[],[])) K):
 db M φ H w fr ((do let z <- Instr.typeAssert xv xt t ok;pure (Next.value z):Sem Next).run P w) K:=by
 have hg:=dO h
 clear h
 obtain⟨v,Δ,rd,h,hK⟩:=hg
 simp only[Option.map_eq_some_iff,Prod.mk.injEq]at h
 have hg:=h
 clear h
 obtain⟨v',h,rfl,rfl,rfl⟩:=hg
 unfold rv at h
 split at h
 ·rename_i hp
  obtain⟨d,hd,kZ⟩:=Di hp
  split at h
  ·rename_i u y
   obtain⟨val,rfl,hdy⟩:=hx
   split at h
   ·rename_i e
    subst e
    injection h with h
    have hr:(Instr.typeAssert (.iface u val) xt u ok).run P w= .ok (if ok=true then .tuple #[val, .bool true]else val) w:=by
     cases d<;>first|exact absurd rfl (kZ _)|(cases ok<;>simp[Instr.typeAssert,run_underlying hd])
    refine db.same hH _ hK abU ?_
    subst h
    cases ok
    ·exact hdy
    ·exact⟨_,rfl,val,[.bool true],rfl,hdy, .bool true,[],rfl,rfl,rfl⟩
   ·rename_i fS
    split at h
    ·rename_i a8
     simp only[Option.map_eq_some_iff]at h
     obtain⟨z,hz,rfl⟩:=h
     obtain⟨zv,r1,r2⟩:=tD (w:=w) (M:=M) (φ:=φ) (H:=H) hz
     have hr:(Instr.typeAssert (.iface u val) xt t ok).run P w= .ok (.tuple #[zv, .bool false]) w:=by
      cases d<;>first|exact absurd rfl (kZ _)|simp[Instr.typeAssert,run_underlying hd,fS,a8,r1]
     exact abO
    ·cases h
  ·simp only[V.den,D.den]at hx
   subst hx
   split at h
   ·rename_i a8
    simp only[Option.map_eq_some_iff]at h
    obtain⟨z,hz,rfl⟩:=h
    obtain⟨zv,r1,r2⟩:=tD (w:=w) (M:=M) (φ:=φ) (H:=H) hz
    have hr:(Instr.typeAssert .nilIface xt t ok).run P w= .ok (.tuple #[zv, .bool false]) w:=by
     cases d<;>first|exact absurd rfl (kZ _)|simp[Instr.typeAssert,run_underlying hd,a8,r1]
    exact abO
   ·cases h
  ·cases h
 ·cases h
end
end
end Go.Proofs.YtlhemmpklhhgoaaGreat
