/-
  A PART OF THE PROOF. Conditions: none.
-/
import Derived.Laws.CopyRow
import Derived.Test.YtnkamdiiakdkgaaGreatEl3
set_option linter.unusedSimpArgs false
set_option linter.unusedVariables false
namespace Go.Proofs.YtnkamdiiakdkgaaGreat
section
section
variable {P:Program}{M:Nat->Prop}{φ:Place}{H:Hp}{w:World}{fr:Nat}{K:V->List (Nat×ab)->List Nat->Prop}
theorem dq{x:Option fS}(h:cX x K):∃v Δ rd,x=some (v,Δ,rd)/\K v Δ rd:=by
 unfold cX at h;split at h
 ·exact⟨_,_,_,rfl,h⟩
 ·exact h.elim
theorem Cg{o:Nat->ab}{x:V}{id off:Nat}(h:pg o x=some (id,off)):x= .ptr id off/\(o id).cj=true:=by
 unfold pg at h
 split at h
 ·split at h
  ·simp only[Option.some.injEq,Prod.mk.injEq]at h;obtain⟨rfl,rfl⟩:=h;exact⟨rfl,by assumption⟩
  ·cases h
 ·cases h
theorem Ch{o:Nat->ab}{x:V}{id off n:Nat}{cs:List V}(h:ph o x=some (id,off,n,cs)):x= .x9 id off n/\o id= .row cs:=by
 unfold ph at h
 split at h
 ·split at h
  ·rename_i ho
   simp only[Option.some.injEq,Prod.mk.injEq]at h;obtain⟨rfl,rfl,rfl,rfl⟩:=h;exact⟨rfl,ho⟩
  ·cases h
 ·cases h
theorem qu{x:Option V}{val:Option Value}{d n:Nat}(hx:match x,val with|none,none=>True|some v,some u=>V.den (ao M φ H) φ H w v u|_,_=>False)(h:IL x d=some n):
 (x=none/\val=none/\n=d)\/∃k,val=some (.int k n)/\x≠none:=by
 unfold IL at h
 split at h
 ·injection h with h
  left
  cases val with
  |none=>exact⟨rfl,rfl,h.symm⟩
  |some u=>exact hx.elim
 ·rename_i k i
  split at h
  ·injection h with h;subst h
   right
   cases val with
   |none=>exact hx.elim
   |some u=>
    simp only[V.den,D.den]at hx
    refine⟨k, ?_,aI⟩
    rw[hx,Int.toNat_of_nonneg (by assumption)]
  ·cases h
 ·cases h
theorem GP{B:Nat->Prop}{es:List D}{base:Option Addr}{len cap l h:Nat}(hd:D.den B w (.sl es) (.slice base len cap))(hl:l<=h)(hh:h<=es.length){m:Nat}(hm:m=cap\/h<=m/\m<=es.length){YU:Nat}(dO:l=0\/∀y∈es,y.cells.length=YU):
 D.den B w (.sl ((es.take h).drop l)) (.slice (if m=l then base else base.map (·.add (l*YU))) (h - l) (m - l)):=by
 obtain⟨b',agN,agO,he,h1,h2,h3,sz,h4⟩:=hd
 injection he with e1 e2 e3
 subst e1;subst e2;subst e3
 refine⟨_,_,_,rfl,by simp;omega,ag,fun hb=> ?_,sz,fun a ha=> ?_⟩
 ·split at hb
  ·omega
  ·cases base with
   |none=>have:=h3 rfl;omega
   |some a=>simp at hb
 ·have key:∀ (es:List D) (i:Nat) (a:Addr),D.elems B w sz a i es->∀l h,D.elems B w sz a (i+l) ((es.take h).drop l):=by
   intro es
   induction es with
   |nil=>intro i a _ l h;simp[D.elems]
   |cons e es ih=>
    intro i a he l h
    cases h with
    |zero=>simp[D.elems]
    |succ h=>
     cases l with
     |zero=>
      refine⟨he.1, ?_⟩
      simpa using ih (i+1) a he.2 0 h
     |succ l=>
      have:=ih (i+1) a he.2 l h
      rw[show i+1+l=i+(l+1) by omega]at this
      simpa using this
  split at ha
  ·
    rename_i IY
    have agG:h - l=0:=ag
    have LL:(es.take h).drop l=[]:=List.eq_nil_of_length_eq_zero gE
    rw[LL]
    cases base with
    |none=>cases ha
    |some b=>injection ha with ha;subst ha;exact⟨fun hc=>ag,trivial⟩
  ·cases base with
   |none=>simp at ha
   |some b=>
    simp only[Option.map_some,Option.some.injEq]at ha
    subst ha
    obtain⟨h5,h6⟩:=h4 b rfl
    replace h5:=h5 ag
    refine⟨fun _=>B6 b h5 _, ?_⟩
    have h7:=key es 0 b h6 l h
    rw[Nat.zero_add]at h7
    have shift:∀ (ds:List D) (i:Nat),(∀y∈ds,y.cells.length=YU\/l=0)->D.elems B w sz b (l+i) ds->D.elems B w sz (b.add (l*YU)) i ds:=by
     intro ds
     induction ds with
     |nil=>intro i _ _;trivial
     |cons y ds ih=>
      intro i hy hd
      obtain⟨⟨ev,g1,g2,g3⟩,g4⟩:=hd
      have afb:l*YU=l*sz:=by
       rcases hy y aI with hy|hy
       ·have:=D.aA _ _ (D.ff _ _ g3).1
        rw[hy]at this
        have e:ev.cells.size=YU:=by simpa using this
        rw[<- e,g1]
       ·rw[hy];simp
      refine⟨⟨ev,g1, ?_,g3⟩,ih (i+1) (fun z hz=>hy z (by simp[hz])) (by rw[show l+(i+1)=l+i+1 by omega];exact g4)⟩
      rw[add_add b h5,afb, <- Nat.add_mul]
      exact g2
    refine shift _ 0 (fun y hy=> ?_) (by simpa using h7)
    rcases dO with dO|dO
    ·exact .inr dO
    ·exact .inl (dO y (List.mem_of_mem_take (List.mem_of_mem_drop hy)))
theorem pn{len cap:Nat}{lo hi mx:Option Value}{l h m:Nat}(ua:lo=none/\l=0\/∃k,lo=some (.int k l))(EY:hi=none/\h=len/\mx=none\/∃k,hi=some (.int k h))(LM:mx=none/\m=cap\/∃k,mx=some (.int k m))(h1:l<=h)(h2:h<=m)(h3:m<=cap):
 (Instr.sliceBounds true len cap lo hi mx).run P w= .ok (l,h,m) w:=by
 rcases ua with⟨rfl,rfl⟩|⟨kl,rfl⟩<;>rcases EY with⟨rfl,rfl,rfl⟩|⟨kh,rfl⟩<;>rcases LM with⟨e,rfl⟩|⟨km,e⟩<;>subst_vars<;>
  first
  |(simp[Instr.sliceBounds,run_sliceBound,h1,h2,h3];done)
  |(cases e;done)
  |(cases e;simp[Instr.sliceBounds,run_sliceBound,h1,h2,h3])
theorem EZ(hH:ay M φ H w){t:TypeId}{x:V}{xv:Value}{lo hi mx:Option V}{lov hiv mxv:Option Value}(hx:V.den (ao M φ H) φ H w x xv)
 (ua:match lo,lov with|none,none=>True|some v,some u=>V.den (ao M φ H) φ H w v u|_,_=>False) (EY:match hi,hiv with|none,none=>True|some v,some u=>V.den (ao M φ H) φ H w v u|_,_=>False)
 (LM:match mx,mxv with|none,none=>True|some v,some u=>V.den (ao M φ H) φ H w v u|_,_=>False) (h:cX (qh P H.o t x lo hi mx) K):
 cI M φ H w fr ((do let z <- Instr.sliceAt t xv lov hiv mxv;pure (Next.value z):Sem Next).run P w) K:=by
 have hg:=dq h
 clear h
 obtain⟨v,Δ,rd,h,hK⟩:=hg
 unfold qh at h
 split at h
 ·rename_i e ht
  have iY:=bf ht
  split at h
  ·rename_i es l GQ hl
   split at h
   ·rename_i hh hhh
    split at h
    ·rename_i hc
     obtain⟨c1,c2,c3,c4⟩:=hc
     obtain⟨i,Vm⟩:=Option.isSome_iff_exists.1 c3
     have hD:dB H.o x=some (.sl es):=by
      unfold eL at GQ
      split at GQ
      ·rename_i es' hD;injection GQ with GQ;subst GQ;exact hD
      ·cases GQ
     obtain⟨f1,f2,f3,f4,f5⟩:=cO hH x.ids (cJ x _ hx)
     have hd:=eC f1 x (.sl es) xv f3 hD (V.aO f2 _ _ hx)
     obtain⟨base,len,cap,hxv,hlen,fu,_⟩:=id hd
     subst hxv
     have dO:l=0\/∀y∈es,y.cells.length=P.cellsOf e:=by
      rcases c4 with c4|c4
      ·exact .inl c4
      ·exact .inr fun y hy=>by simpa using List.all_eq_true.1 c4 y hy
     have elem:P.elem t=e:=by simp[Program.elem,iY]
     have fg:∀ {m:Nat},(Instr.sliceBounds true len cap lov hiv mxv).run P w= .ok (l,hh,m) w->
      (Instr.sliceAt t (.slice base len cap) lov hiv mxv).run P w= .ok (.slice (if m=l then base else base.map (·.add (l*P.cellsOf e))) (hh - l) (m - l)) w:=by
      intro m hm
      rw[run_sliceAt_slice w t _ _ _ _ (by rw[elem];exact iY),run_slice_any w t base len cap (by rw[elem];exact iY),hm]
      simp only[Result.andThen_ok,elem,dH Vm,sliced]
     have fin:∀ {val:Value} {v:V},(Instr.sliceAt t (.slice base len cap) lov hiv mxv).run P w= .ok val w->V.den (ao M φ (H.put (bT H.o x.ids))) φ (H.put (bT H.o x.ids)) w v val->K v (bT H.o x.ids) x.ids->
      cI M φ H w fr ((do let z <- Instr.sliceAt t (.slice base len cap) lov hiv mxv;pure (Next.value z):Sem Next).run P w) K:=by
      intro val v r1 r2 r3
      exact⟨_,val,w,φ,v,_,_,r3,by simp only[Sem.run_bind,r1,Result.andThen_ok];rfl, .inl rfl,f1,f2,r2,fun id aq=> .inl (by
       have e:(bT H.o x.ids).map (·.1)=x.ids:=by rw[l8];simp[Function.comp_def]
       rw[e]at aq
       exact cJ x _ hx id aq)⟩
     have bl:lov=none/\l=0\/∃k,lov=some (.int k l):=by
      rcases qu ua hl with⟨_,a,b⟩|⟨k,a,_⟩
      ·exact .inl ⟨a,b⟩
      ·exact .inr ⟨k,a⟩
     split at h
     ·injection h with h;injection h with e1 e2;injection e2 with e2 e3;subst e1;subst e2;subst e3
      have bm:mxv=none:=by
       cases mxv with
       |none=>rfl
       |some u=>exact LM.elim
      subst bm
      have bh:hiv=none/\hh=len/\(none:Option Value)=none\/∃k,hiv=some (.int k hh):=by
       rcases qu EY hhh with⟨_,a,b⟩|⟨k,a,_⟩
       ·exact .inl ⟨a,ag,rfl⟩
       ·exact .inr ⟨k,a⟩
      refine fin (fg (pn (m:=cap) bl bh (.inl ⟨rfl,rfl⟩) c1 ag (Nat.le_refl _))) ?_ hK
      exact GP hd c1 c2 (.inl rfl) dO
     ·rename_i mv
      split at h
      ·rename_i hv m hm
       split at h
       ·rename_i th
        injection h with h;injection h with e1 e2;injection e2 with e2 e3;subst e1;subst e2;subst e3
        have bm:∃k,mxv=some (.int k m):=by
         rcases qu LM hm with⟨a,_⟩|⟨k,a,_⟩
         ·cases a
         ·exact⟨k,a⟩
        have bh:∃k,hiv=some (.int k hh):=by
         rcases qu EY hhh with⟨a,_⟩|⟨k,a,_⟩
         ·cases a
         ·exact⟨k,a⟩
        have hp:=GP (m:=m) hd c1 c2 (.inr th) dO
        refine fin (fg (pn (m:=m) bl (.inr bh) (.inr bm) c1 th.1 ag)) ?_ hK
        split
        ·rename_i e;subst e
         exact⟨hp,_,_,rfl⟩
        ·exact hp
       ·cases h
      ·cases h
    ·cases h
   ·cases h
  ·cases h
 ·cases ha:xp P t with
  |none=>rw[ha]at h;cases h
  |some p=>
  obtain⟨n,e⟩:=p
  rw[ha]at h
  split at h
  ·rename_i n' e' heq
   have e0:n=n'/\e=e':=by simpa using heq
   obtain⟨rfl,rfl⟩:=e0
   split at h
   ·rename_i id off uE
    obtain⟨rfl,bG⟩:=Cg uE
    split at h
    ·rename_i hc
     injection h with h;injection h with e1 e2;injection e2 with e2 e3;subst e1;subst e2;subst e3
     obtain⟨i,Vm⟩:=Option.isSome_iff_exists.1 hc
     have e1:lov=none:=by cases lov with|none=>rfl|some u=>exact ua.elim
     have e2:hiv=none:=by cases hiv with|none=>rfl|some u=>exact EY.elim
     have e3:mxv=none:=by cases mxv with|none=>rfl|some u=>exact LM.elim
     subst e1;subst e2;subst e3
     obtain⟨g1,g2,g3⟩:=hx
     obtain⟨b,k1,k2⟩:=g3 bG
     subst k2
     have hat:=yj ha
     have elem:P.elem t=e:=by simp[Program.elem,hat]
     have len:P.arrayLen t=n:=by simp[Program.arrayLen,hat]
     refine cI.same hH (.slice (some ⟨b,off,none⟩) n n) hK ?_ ⟨rfl,g2,fun _=>⟨b,k1,rfl⟩⟩
     have:=run_sliceAt_array_all (P:=P) w t ⟨b,off,none⟩ (by rw[elem,len];exact hat)
     simp only[Sem.run_bind,this,elem,dH Vm,Result.andThen_ok,slicedAt,len]
     by_cases hn:n=0
     ·subst hn;rfl
     ·simp[hn,Addr.add]
    ·cases h
   ·cases h
  ·cases h
theorem IZ(g:Nat):(⟨g,0,none⟩:Addr).add 0=⟨g,0,none⟩:=rfl
theorem Pa(hH:ay M φ H w){t:TypeId}{x:V}{xv:Value}{lo hi mx:Option V}{lov hiv mxv:Option Value}(hx:V.den (ao M φ H) φ H w x xv)
 (ua:match lo,lov with|none,none=>True|some v,some u=>V.den (ao M φ H) φ H w v u|_,_=>False) (EY:match hi,hiv with|none,none=>True|some v,some u=>V.den (ao M φ H) φ H w v u|_,_=>False)
 (LM:match mx,mxv with|none,none=>True|some v,some u=>V.den (ao M φ H) φ H w v u|_,_=>False) {v:V} {Δ:List (Nat×ab)} {rd:List Nat} (h:ET P H.o t x lo hi mx=some (v,Δ,rd)) (hK:K v Δ rd):
 cI M φ H w fr ((do let z <- Instr.sliceAt t xv lov hiv mxv;pure (Next.value z):Sem Next).run P w) K:=by
 have bounds:∀ {kk:IntKind} {e:TypeId} {base:Option Addr} {len cap:Nat},bV P t=some e->(P.info? e).isSome=true->base=none\/(∃g,base=some ⟨g,0,none⟩)->
  (Instr.sliceAt t (.slice base len cap) none (some (.int kk 0)) none).run P w= .ok (.slice base 0 cap) w:=by
  intro kk e base len cap ht hi hb
  obtain⟨i,Vm⟩:=Option.isSome_iff_exists.1 hi
  have iY:=bf ht
  have elem:P.elem t=e:=by simp[Program.elem,iY]
  have hm:=pn (P:=P) (w:=w) (len:=len) (cap:=cap) (lo:=none) (hi:=some (.int kk 0)) (mx:=none) (l:=0) (h:=0) (m:=cap) (.inl ⟨rfl,rfl⟩) (.inr ⟨kk,rfl⟩) (.inl ⟨rfl,rfl⟩) (Nat.le_refl _) (Nat.zero_le _) (Nat.le_refl _)
  rw[run_sliceAt_slice w t _ _ _ _ (by rw[elem];exact iY),run_slice_any w t base len cap (by rw[elem];exact iY),hm]
  simp only[Result.andThen_ok,elem,dH Vm,sliced]
  rcases hb with rfl|⟨g,rfl⟩
  ·simp
  ·simp[IZ]
 unfold ET at h
 split at h
 ·split at h
  ·rename_i kk k
   split at h
   ·rename_i e ht
    split at h
    ·rename_i hc
     simp only[Option.some.injEq,Prod.mk.injEq]at h;obtain⟨rfl,rfl,rfl⟩:=h
     obtain⟨rfl,hc⟩:=hc
     simp only[V.den]at hx;subst hx
     have e1:lov=none:=by cases lov with|none=>rfl|some u=>exact ua.elim
     have e2:mxv=none:=by cases mxv with|none=>rfl|some u=>exact LM.elim
     have e3:hiv=some (.int kk 0):=by
      cases hiv with
      |none=>exact EY.elim
      |some u=>simp only[V.den,D.den]at EY;rw[EY]
     subst e1;subst e2;subst e3
     exact cI.same hH (.slice none 0 0) hK (by simp only[Sem.run_bind,bounds (base:=none) (len:=0) (cap:=0) ht hc (.inl rfl),Result.andThen_ok];rfl) rfl
    ·cases h
   ·cases h
  ·cases h
 ·rename_i id ep
  split at h
  ·rename_i kk k
   split at h
   ·rename_i e fF ty sz es ht ho
    split at h
    ·rename_i hc
     simp only[Option.some.injEq,Prod.mk.injEq]at h;obtain⟨rfl,rfl,rfl⟩:=h
     obtain⟨rfl,rfl,hc⟩:=hc
     have e1:lov=none:=by cases lov with|none=>rfl|some u=>exact ua.elim
     have e2:mxv=none:=by cases mxv with|none=>rfl|some u=>exact LM.elim
     have e3:hiv=some (.int kk 0):=by
      cases hiv with
      |none=>exact EY.elim
      |some u=>simp only[V.den,D.den]at EY;rw[EY]
     subst e1;subst e2;subst e3
     obtain⟨_,ed,xq⟩:=hx
     have hv:=(xq ep eH).2 rfl
     subst hv
     have aW:=hH.ok id
     simp only[aP,ho]at aW
     obtain⟨dO,xs,dz,m5⟩:=aW
     have abr:fQ (ao M φ H) w sz [] []:=⟨[],rfl,aI,rfl⟩
     rcases dz.2 with⟨h3,h4⟩|⟨g,cap,cur,h3,h4,h5,h6,h7,h8,h9⟩
     ·have Cd:w.ownsRow 0 ty sz (.slice none 0 0) ([]:List D).length []:=⟨aI, .inl ⟨rfl,rfl⟩⟩
      obtain⟨s1,s2,s3⟩:=nm (m:=fun _=>False) hH ed ho (dM.refl _ _) (fun _ h=>h.elim) (fun b hb=>by simp[dx]at hb) Cd abr
      rw[h3]
      exact⟨_,_,_,_,_,_,_,hK,by simp only[Sem.run_bind,bounds (base:=none) (len:=0) (cap:=0) ht hc (.inl rfl),Result.andThen_ok];rfl, .inl rfl,s1,s2,s3,by simp[ed]⟩
     ·have Cd:w.ownsRow 0 ty sz (.slice (some ⟨g,0,none⟩) 0 cap) ([]:List D).length []:=⟨aI, .inr ⟨g,cap,cur,rfl,h4,h5,Nat.zero_le _,h7,h8,aI⟩⟩
      obtain⟨s1,s2,s3⟩:=nm (m:=fun _=>False) hH ed ho (dM.refl _ _) (fun _ h=>h.elim) (fun b hb=> .inl (by rw[h3];exact hb)) Cd abr
      rw[h3]
      exact⟨_,_,_,_,_,_,_,hK,by simp only[Sem.run_bind,bounds (base:=some ⟨g,0,none⟩) ht hc (.inr ⟨g,rfl⟩),Result.andThen_ok];rfl, .inl rfl,s1,s2,s3,by simp[ed]⟩
    ·cases h
   ·cases h
  ·cases h
 ·cases h
theorem I0(hH:ay M φ H w){t:TypeId}{x:V}{xv:Value}{lo hi mx:Option V}{lov hiv mxv:Option Value}(hx:V.den (ao M φ H) φ H w x xv)
 (ua:match lo,lov with|none,none=>True|some v,some u=>V.den (ao M φ H) φ H w v u|_,_=>False) (EY:match hi,hiv with|none,none=>True|some v,some u=>V.den (ao M φ H) φ H w v u|_,_=>False)
 (LM:match mx,mxv with|none,none=>True|some v,some u=>V.den (ao M φ H) φ H w v u|_,_=>False) (h:cX (rX P H.o t x lo hi mx) K):
 cI M φ H w fr ((do let z <- Instr.sliceAt t xv lov hiv mxv;pure (Next.value z):Sem Next).run P w) K:=by
 unfold rX at h
 split at h
 ·rename_i r hr
  obtain⟨v,Δ,rd⟩:=r
  exact Pa hH hx ua EY LM hr h
 ·exact EZ hH hx ua EY LM h
theorem LN(hH:ay M φ H w){ts:Array TypeId}{ty0:TypeId}{x y:V}{xv yv:Value}(hx:V.den (ao M φ H) φ H w x xv)(hy:V.den (ao M φ H) φ H w y yv)(h:cX (yf P H.o ts x y) K):
 cI M φ H w fr ((do let z <- Builtin.copy_ ts ty0 #[xv,yv];pure (Next.value z):Sem Next).run P w) K:=by
 have hg:=dq h
 clear h
 obtain⟨v,Δ,rd,h,hK⟩:=hg
 unfold yf at h
 split at h
 ·rename_i t t' uC
  have uC:ts=#[t,t']:=by apply Array.ext';simpa using uC
  subst uC
  split at h
  ·rename_i e ht
   split at h
   ·rename_i id off n cs es hrs GQ
    obtain⟨rfl,ho⟩:=Ch hrs
    ·split at h
     ·rename_i hc
      obtain⟨c1,c2,c3,c4⟩:=hc
      injection h with h;injection h with e1 e2;injection e2 with e2 e3;subst e1;subst e2;subst e3
      have c3:∀z∈es,z.cells.length=1:=fun z hz=>by simpa using List.all_eq_true.1 c3 z hz
      obtain⟨i,hi⟩:=jQ (P:=P) (e:=e) ag
      have dO:(P.info? e).map (·.size)=some 1:=by rw[hi];simp[<- bL hi,c1]
      obtain⟨_,ed,hp⟩:=hx
      obtain⟨b,eu,rfl⟩:=hp eH
      have mW:id∉y.ids:=fun hm=>by have:=List.all_eq_true.1 c4 id hm;simp at this
      obtain⟨f1,f2,f3,f4,f5⟩:=cO hH y.ids (cJ y _ hy)
      have xf:=(f4 id mW).trans ho
      have aW:=f1.ok id
      simp only[aP,xf]at aW
      obtain⟨b',dT,ty,g1,g2,g3,g4⟩:=aW
      rw[eu]at g1;simp at g1;subst g1
      have l2:=V.aA _ _ g3
      simp only[Array.length_toList]at l2
      have Pb:(bT H.o y.ids).map (·.1)=y.ids:=by rw[l8];simp[Function.comp_def]
      rcases pk hH hy GQ c3 with⟨rfl,rfl⟩|⟨a,c,evs,rfl,k1,k2,k3,k4⟩
      ·have hr:=run_copy_nil (P:=P) w t t' ty0 e ⟨b,off,none⟩ n n (bf ht) (by rw[dO];rfl)
       have same:H.put (bT H.o y.ids++[(id,ab.row (cs.take off++(([]:List D).take n |>.flatMap D.cells).map .d++cs.drop (off+(([]:List D).take n).length)))])=H.put (bT H.o y.ids):=by
        rw[dV]
        refine vj _ ((f5 id).2 ed) ?_
        rw[xf]
        simp
       refine⟨_,goInt 0,w,φ,_,_,_,hK,by simp only[Sem.run_bind,hr,Result.andThen_ok];rfl, .inl rfl,by rw[same];exact f1,by rw[same];exact f2,by simp[V.den,D.den,goInt],fun j hj=> .inl ?_⟩
       rw[List.map_append,Pb]at hj
       simp only[List.map_cons,List.map_nil,List.mem_append,List.mem_singleton]at hj
       rcases hj with hj|rfl
       ·exact cJ y _ hy j hj
       ·exact ed
      ·have hlen:evs.length=es.length:=D.aA _ _ k1
       have k1':=D.aQ (f2.blocks (M:=M)) _ _ k1
       have BD:D.aB (ao M φ (H.put (bT H.o y.ids))) w (es.take n) (evs.take n):=D.dF n _ _ k1'
       have Pc:∀ev∈evs.take n,ev.cells.size=1:=fun ev du=>by
        have:=k2 ev (List.mem_of_mem_take du);omega
       have mX:((evs.take n).flatMap (·.cells.toList)).length=Nat.min es.length n:=by
        rw[cY (sz:=1) _ Pc];simp[hlen,Nat.min_comm]
       have pre:∀ (j:Nat) (u:Value),((evs.take n).flatMap (·.cells.toList))[j]? =some u->(evs.flatMap (·.cells.toList))[j]? =some u:=by
        intro j u hj
        have:evs.flatMap (·.cells.toList)=(evs.take n).flatMap (·.cells.toList)++(evs.drop n).flatMap (·.cells.toList):=by rw[<- List.flatMap_append,List.take_append_drop]
        rw[this]
        have cG:j<((evs.take n).flatMap (·.cells.toList)).length:=by
         rcases Nat.lt_or_ge j ((evs.take n).flatMap (·.cells.toList)).length with cG|BC
         ·exact cG
         ·rw[List.getElem?_eq_none BC]at hj;cases hj
        rw[List.getElem?_append_left cG];exact hj
       have m8:Flat ((evs.take n).flatMap (·.cells.toList)):=by
        intro u hu
        simp only[List.mem_flatMap]at hu
        obtain⟨ev,h1,h2⟩:=hu
        exact k4 u (by simp only[List.mem_flatMap];exact⟨ev,List.mem_of_mem_take h1,h2⟩)
       have hr:=run_copy_row (P:=P) w t t' ty0 e b off n n a es.length c dT ty (List.flatMap (fun x:Value=>x.cells.toList) (evs.take n)) (bf ht) dO g2 mX (fun j u hj=>k3 j u (pre j u hj)) (by rw[mX];have:Nat.min es.length n<=n:=Nat.min_le_right _ _;omega) m8
       have O7:V.aB (ao M φ (H.put (bT H.o y.ids))) φ (H.put (bT H.o y.ids)) w (((es.take n).flatMap D.cells).map .d) ((evs.take n).flatMap (·.cells.toList)):=by
        have flat:∀ (ds:List D) (us:List Value),D.aB (ao M φ (H.put (bT H.o y.ids))) w ds us->D.aB (ao M φ (H.put (bT H.o y.ids))) w (ds.flatMap D.cells) (us.flatMap (·.cells.toList)):=by
         intro ds
         induction ds with
         |nil=>intro us h;simp[D.aB]at h;subst h;rfl
         |cons d ds ih=>
          intro us h
          obtain⟨u,us,rfl,q1,q2⟩:=h
          simp only[List.flatMap_cons]
          exact D.br _ _ _ _ (D.ff _ _ q1).1 (ih us q2)
        exact(V.cn _ _).2 (flat _ _ BD)
       have vl:((evs.take n).flatMap (·.cells.toList)).length=(es.take n).length:=by rw[mX];simp[Nat.min_comm]
       obtain⟨t1,t2⟩:=B5 (cs':=cs.take off++((es.take n).flatMap D.cells).map .d++cs.drop (off+(es.take n).length)) f1 ((f5 id).2 ed) xf eu g2
        (dT.toList.take off++(evs.take n).flatMap (·.cells.toList)++dT.toList.drop (off+((evs.take n).flatMap (·.cells.toList)).length)).toArray (by
        simp only
        rw[vl]
        exact V.br _ _ _ _ (V.br _ _ _ _ (V.dF _ _ _ g3) O7) (V.et _ _ _ g3)) (by
        intro u hu
        simp only[List.mem_append]at hu
        rcases hu with(hu|hu)|hu
        ·exact g4 u (List.mem_of_mem_take hu)
        ·exact m8 u hu
        ·exact g4 u (List.mem_of_mem_drop hu))
       refine⟨_,_,_,φ,_,_,_,hK,by simp only[Sem.run_bind,hr,Result.andThen_ok];rfl, .inl rfl,by rw[dV];exact t1,by rw[dV];exact f2.trans t2, ?_,fun j hj=> .inl ?_⟩
       ·simp only[V.den,D.den,goInt,mX]
       ·rw[List.map_append,Pb]at hj
        simp only[List.map_cons,List.map_nil,List.mem_append,List.mem_singleton]at hj
        rcases hj with hj|rfl
        ·exact cJ y _ hy j hj
        ·exact ed
     ·cases h
   ·cases h
  ·cases h
 ·cases h
theorem zX{t u:TypeId}{f off:Nat}(h:zT P t f=some (off,u)):∃fs fd,P.underlying t=some (.struct fs)/\fs[f]? =some fd/\fd.offset=off/\fd.type=u:=by
 unfold zT at h
 split at h
 ·rename_i fs hu
  split at h
  ·rename_i fd hf
   injection h with h;injection h with h1 h2
   exact⟨fs,fd,hu,hf,h1,h2⟩
  ·cases h
 ·cases h
theorem II{t:TypeId}{cs:List V}{off:Nat}{x:V}(h:eK P t cs off=some x){arr:Array Value}(hd:V.aB (ao M φ H) φ H w cs arr.toList)(hf:Flat arr.toList):
 ∃u,(part t arr off).run P w= .ok u w/\V.den (ao M φ H) φ H w x u:=by
 unfold eK at h
 split at h
 ·rename_i ha
  split at h
  ·rename_i hl
   injection h with h;subst h
   obtain⟨i,hi⟩:=sb ha
   refine⟨.agg (arr.extract off (off+P.cellsOf t)), ?_,lE _ _ ?_ ?_⟩
   ·simp only[part,Sem.run_bind,r9 ha w,Result.andThen_ok,if_true,dH hi w,Sem.run_pure]
   ·have:=V.dF (P.cellsOf t) _ _ (V.et off _ _ hd)
    simpa[Array.toList_extract,List.extract]using this
   ·exact abf
  ·cases h
 ·rename_i ha
  obtain⟨u,hu,O3⟩:=V.dE _ _ _ _ hd h
  refine⟨u, ?_,O3⟩
  have BM:arr[off]? =some u:=by simpa using hu
  simp only[part,Sem.run_bind,pj ha w,Result.andThen_ok,Bool.false_eq_true,if_false,BM,Sem.run_pure]
 ·cases h
theorem I1(hH:ay M φ H w){t:TypeId}{x:V}{xv:Value}{f:Nat}(hx:V.den (ao M φ H) φ H w x xv)(h:cX ((vf P t x f).map fun v=>(v,[],[])) K):
 cI M φ H w fr ((do let z <- Instr.field t xv f;pure (Next.value z):Sem Next).run P w) K:=by
 have hg:=dq h
 clear h
 obtain⟨v,Δ,rd,h,hK⟩:=hg
 simp only[Option.map_eq_some_iff,Prod.mk.injEq]at h
 have hg:=h
 clear h
 obtain⟨v',h,rfl,rfl,rfl⟩:=hg
 unfold vf at h
 split at h
 ·rename_i off u hf
  obtain⟨fs,fd,hu,BA,rfl,rfl⟩:=zX hf
  have fin:∀ {arr:Array Value} {val:Value},(part fd.type arr fd.offset).run P w= .ok val w->V.den (ao M φ H) φ H w v' val->cI M φ H w fr ((do let z <- Instr.field t (.agg arr) f;pure (Next.value z):Sem Next).run P w) K:=by
   intro arr val r1 r2
   refine cI.same hH val hK ?_ r2
   simp[Instr.field,run_underlying hu,BA,asAgg,r1]
  split at h
  ·rename_i cs
   exact aa3
  ·rename_i cs
   exact RW
  ·cases h
 ·cases h
theorem I2(s:ByteArray)(n:Nat):s[n]? =s.data.toList[n]? :=by
 rw[getElem?_def]
 split
 ·rename_i h
  have h':n<s.data.toList.length:=by simpa using h
  rw[List.getElem?_eq_getElem h']
  rfl
 ·rename_i h
  have h':s.data.toList.length<=n:=by
   have: ¬n<s.data.size:=h
   simpa using this
  rw[List.getElem?_eq_none h']
theorem I3(hH:ay M φ H w){t:TypeId}{x i:V}{xv iv:Value}(hx:V.den (ao M φ H) φ H w x xv)(hi:V.den (ao M φ H) φ H w i iv)(h:cX ((vg P t x i).map fun v=>(v,[],[])) K):
 cI M φ H w fr ((do let z <- Instr.index t xv iv;pure (Next.value z):Sem Next).run P w) K:=by
 have hg:=dq h
 clear h
 obtain⟨v,Δ,rd,h,hK⟩:=hg
 simp only[Option.map_eq_some_iff,Prod.mk.injEq]at h
 have hg:=h
 clear h
 obtain⟨v',h,rfl,rfl,rfl⟩:=hg
 unfold vg at h
 split at h
 ·rename_i k i
  simp only[V.den,D.den]at hi
  subst hi
  split at h
  ·rename_i h0
   split at h
   ·rename_i hu
    split at h
    ·rename_i l
     split at h
     ·rename_i b hb
      injection h with h;subst h
      obtain⟨s,rfl,rfl⟩:=hx
      refine cI.same hH (.int .u8 b.toNat) hK ?_ rfl
      have Vh:s[i.toNat]? =some b:=by rw[I2];exact hb
      simp[Instr.index,asIntOf,run_underlying hu,h0,Vh]
     ·cases h
    ·cases h
   ·rename_i n e hu
    split at h
    ·rename_i hn
     obtain⟨h1,h2⟩:=hn
     obtain⟨ie,Vn⟩:=Option.isSome_iff_exists.1 h2
     have hc:0<=i/\i<(n:Int):=⟨h0,h1⟩
     have fin:∀ {arr:Array Value} {val:Value},(part e arr (i.toNat*P.cellsOf e)).run P w= .ok val w->V.den (ao M φ H) φ H w v' val->cI M φ H w fr ((do let z <- Instr.index t (.agg arr) (.int k i);pure (Next.value z):Sem Next).run P w) K:=by
      intro arr val r1 r2
      refine cI.same hH val hK ?_ r2
      simp[Instr.index,asIntOf,run_underlying hu,hc,dH Vn,r1]
     split at h
     ·rename_i cs
      exact aa3
     ·rename_i cs
      exact RW
     ·cases h
    ·cases h
   ·cases h
  ·cases h
 ·cases h
theorem Ci{t:TypeId}(h:zU P t=true):∃d,P.underlying t=some d/\∀ms,d≠ .interface ms:=by
 unfold zU at h
 split at h
 ·cases h
 ·rename_i d hn hd
  exact⟨d,hd,fun ms e=>hn ms e⟩
 ·cases h
theorem sd{t:TypeId}{z:V}(hz:zeroV P t=some z):∃val,(zeroValue t).run P w= .ok val w/\V.den (ao M φ H) φ H w z val:=by
 unfold zeroV at hz
 split at hz
 ·rename_i i hi
  have hr:∀v,i.zero=some v->(zeroValue t).run P w= .ok v w:=fun v hv=>by simp[zeroValue,typeInfo,hi,hv]
  split at hz
  ·rename_i a hv
   split at hz
   ·rename_i hf
    injection hz with hz;subst hz
    have oU:Flat a.toList:=fun u hu=>List.all_eq_true.1 hf u hu
    exact⟨_,hr _ hv,lE _ _ (dG _ oU) oU⟩
   ·cases hz
  ·rename_i v _ hv
   split at hz
   ·rename_i h1
    injection hz with hz;subst hz
    exact⟨_,hr _ hv,l5 _ h1⟩
   ·cases hz
  ·cases hz
 ·cases hz
theorem E0(hH:ay M φ H w){t xt:TypeId}{ok:Bool}{x:V}{xv:Value}(hx:V.den (ao M φ H) φ H w x xv)(h:cX ((qi P t ok x).map fun v=>(v,[],[])) K):
 cI M φ H w fr ((do let z <- Instr.typeAssert xv xt t ok;pure (Next.value z):Sem Next).run P w) K:=by
 have hg:=dq h
 clear h
 obtain⟨v,Δ,rd,h,hK⟩:=hg
 simp only[Option.map_eq_some_iff,Prod.mk.injEq]at h
 have hg:=h
 clear h
 obtain⟨v',h,rfl,rfl,rfl⟩:=hg
 unfold qi at h
 split at h
 ·rename_i hp
  obtain⟨d,hd,mW⟩:=Ci hp
  split at h
  ·rename_i u y
   obtain⟨val,rfl,hdy⟩:=hx
   split at h
   ·rename_i e
    subst e
    injection h with h
    have hr:(Instr.typeAssert (.iface u val) xt u ok).run P w= .ok (if ok=true then .tuple #[val, .bool true]else val) w:=by
     cases d<;>first|exact absurd rfl (mW _)|(cases ok<;>simp[Instr.typeAssert,run_underlying hd])
    refine cI.same hH _ hK aax ?_
    subst h
    cases ok
    ·exact hdy
    ·exact⟨_,rfl,val,[.bool true],rfl,hdy, .bool true,[],rfl,rfl,rfl⟩
   ·rename_i ik
    split at h
    ·rename_i aW
     simp only[Option.map_eq_some_iff]at h
     obtain⟨z,hz,rfl⟩:=h
     obtain⟨zv,r1,r2⟩:=sd (w:=w) (M:=M) (φ:=φ) (H:=H) hz
     have hr:(Instr.typeAssert (.iface u val) xt t ok).run P w= .ok (.tuple #[zv, .bool false]) w:=by
      cases d<;>first|exact absurd rfl (mW _)|simp[Instr.typeAssert,run_underlying hd,ik,aW,r1]
     exact aam
    ·cases h
  ·simp only[V.den,D.den]at hx
   subst hx
   split at h
   ·rename_i aW
    simp only[Option.map_eq_some_iff]at h
    obtain⟨z,hz,rfl⟩:=h
    obtain⟨zv,r1,r2⟩:=sd (w:=w) (M:=M) (φ:=φ) (H:=H) hz
    have hr:(Instr.typeAssert .nilIface xt t ok).run P w= .ok (.tuple #[zv, .bool false]) w:=by
     cases d<;>first|exact absurd rfl (mW _)|simp[Instr.typeAssert,run_underlying hd,aW,r1]
    exact aam
   ·cases h
  ·cases h
 ·cases h
end
end
end Go.Proofs.YtnkamdiiakdkgaaGreat
