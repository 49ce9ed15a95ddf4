/-
  A PART OF THE PROOF. Conditions: none.
-/
import Derived.Laws.CopyRow
import Derived.Test.YtlhemmpklhhgoaaGreatQn3
set_option linter.unusedSimpArgs false
set_option linter.unusedVariables false
namespace Go.Proofs.YtlhemmpklhhgoaaGreat
section
section
variable {P:Program}{M:Nat->Prop}{φ:Place}{H:Hp}{w:World}{fr:Nat}{K:V->List (Nat×ab)->List Nat->Prop}
theorem dC{x:Option gz}(h:dn x K):∃v Δ rd,x=some (v,Δ,rd)/\K v Δ rd:=by
 unfold dn at h;split at h
 ·exact⟨_,_,_,rfl,h⟩
 ·exact h.elim
theorem Cs{o:Nat->ab}{x:V}{id off:Nat}(h:p9 o x=some (id,off)):x= .ptr id off/\(o id).cA=true:=by
 unfold p9 at h
 split at h
 ·split at h
  ·simp only[Option.some.injEq,Prod.mk.injEq]at h;obtain⟨rfl,rfl⟩:=h;exact⟨rfl,by assumption⟩
  ·cases h
 ·cases h
theorem Ct{o:Nat->ab}{x:V}{id off n:Nat}{cs:List V}(h:qa o x=some (id,off,n,cs)):x= .yA id off n/\o id= .row cs:=by
 unfold qa at h
 split at h
 ·split at h
  ·rename_i ho
   simp only[Option.some.injEq,Prod.mk.injEq]at h;obtain⟨rfl,rfl,rfl,rfl⟩:=h;exact⟨rfl,ho⟩
  ·cases h
 ·cases h
theorem qZ{x:Option V}{val:Option Value}{d n:Nat}(hx:match x,val with|none,none=>True|some v,some u=>V.den (aq M φ H) φ H w v u|_,_=>False)(h:Ji x d=some n):
 (x=none/\val=none/\n=d)\/∃k,val=some (.int k n)/\x≠none:=by
 unfold Ji at h
 split at h
 ·injection h with h
  left
  cases val with
  |none=>exact⟨rfl,rfl,h.symm⟩
  |some u=>exact hx.elim
 ·rename_i k i
  split at h
  ·injection h with h;subst h
   right
   cases val with
   |none=>exact hx.elim
   |some u=>
    simp only[V.den,D.den]at hx
    refine⟨k, ?_,aE⟩
    rw[hx,Int.toNat_of_nonneg (by assumption)]
  ·cases h
 ·cases h
theorem G8{B:Nat->Prop}{es:List D}{base:Option Addr}{len cap l h:Nat}(hd:D.den B w (.sl es) (.slice base len cap))(hl:l<=h)(hh:h<=es.length){m:Nat}(hm:m=cap\/h<=m/\m<=es.length){Zl:Nat}(eB:l=0\/∀y∈es,y.cells.length=Zl):
 D.den B w (.sl ((es.take h).drop l)) (.slice (if m=l then base else base.map (·.add (l*Zl))) (h - l) (m - l)):=by
 obtain⟨b',ahv,ahw,he,h1,h2,h3,sz,h4⟩:=hd
 injection he with e1 e2 e3
 subst e1;subst e2;subst e3
 refine⟨_,_,_,rfl,by simp;omega,af,fun hb=> ?_,sz,fun a ha=> ?_⟩
 ·split at hb
  ·omega
  ·cases base with
   |none=>have:=h3 rfl;omega
   |some a=>simp at hb
 ·have key:∀ (es:List D) (i:Nat) (a:Addr),D.elems B w sz a i es->∀l h,D.elems B w sz a (i+l) ((es.take h).drop l):=by
   intro es
   induction es with
   |nil=>intro i a _ l h;simp[D.elems]
   |cons e es ih=>
    intro i a he l h
    cases h with
    |zero=>simp[D.elems]
    |succ h=>
     cases l with
     |zero=>
      refine⟨he.1, ?_⟩
      simpa using ih (i+1) a he.2 0 h
     |succ l=>
      have:=ih (i+1) a he.2 l h
      rw[show i+1+l=i+(l+1) by omega]at this
      simpa using this
  split at ha
  ·
    rename_i KN
    have G9:h - l=0:=af
    have Wa:(es.take h).drop l=[]:=List.eq_nil_of_length_eq_zero gP
    rw[Wa]
    cases base with
    |none=>cases ha
    |some b=>injection ha with ha;subst ha;exact⟨fun hc=>af,trivial⟩
  ·cases base with
   |none=>simp at ha
   |some b=>
    simp only[Option.map_some,Option.some.injEq]at ha
    subst ha
    obtain⟨h5,h6⟩:=h4 b rfl
    replace h5:=h5 af
    refine⟨fun _=>Ci b h5 _, ?_⟩
    have h7:=key es 0 b h6 l h
    rw[Nat.zero_add]at h7
    have shift:∀ (ds:List D) (i:Nat),(∀y∈ds,y.cells.length=Zl\/l=0)->D.elems B w sz b (l+i) ds->D.elems B w sz (b.add (l*Zl)) i ds:=by
     intro ds
     induction ds with
     |nil=>intro i _ _;trivial
     |cons y ds ih=>
      intro i hy hd
      obtain⟨⟨ev,g1,g2,g3⟩,g4⟩:=hd
      have afS:l*Zl=l*sz:=by
       rcases hy y aE with hy|hy
       ·have:=D.aC _ _ (D.fH _ _ g3).1
        rw[hy]at this
        have e:ev.cells.size=Zl:=by simpa using this
        rw[<- e,g1]
       ·rw[hy];simp
      refine⟨⟨ev,g1, ?_,g3⟩,ih (i+1) (fun z hz=>hy z pE) (by rw[show l+(i+1)=l+i+1 by omega];exact g4)⟩
      rw[add_add b h5,afS, <- Nat.add_mul]
      exact g2
    refine shift _ 0 (fun y hy=> ?_) (by simpa using h7)
    rcases eB with eB|eB
    ·exact .inr eB
    ·exact .inl (eB y (List.mem_of_mem_take (List.mem_of_mem_drop hy)))
theorem qd{len cap:Nat}{lo hi mx:Option Value}{l h m:Nat}(Au:lo=none/\l=0\/∃k,lo=some (.int k l))(GK:hi=none/\h=len/\mx=none\/∃k,hi=some (.int k h))(Av:mx=none/\m=cap\/∃k,mx=some (.int k m))(h1:l<=h)(h2:h<=m)(h3:m<=cap):
 (Instr.sliceBounds true len cap lo hi mx).run P w= .ok (l,h,m) w:=by
 rcases Au with⟨rfl,rfl⟩|⟨kl,rfl⟩<;>rcases GK with⟨rfl,rfl,rfl⟩|⟨kh,rfl⟩<;>rcases Av with⟨e,rfl⟩|⟨km,e⟩<;>subst_vars<;>
  first
  |(simp[Instr.sliceBounds,run_sliceBound,h1,h2,h3];done)
  |(cases e;done)
  |(cases e;simp[Instr.sliceBounds,run_sliceBound,h1,h2,h3])
theorem E4(hH:az M φ H w){t:TypeId}{x:V}{xv:Value}{lo hi mx:Option V}{lov hiv mxv:Option Value}(hx:V.den (aq M φ H) φ H w x xv)
 (Au:match lo,lov with|none,none=>True|some v,some u=>V.den (aq M φ H) φ H w v u|_,_=>False) (GK:match hi,hiv with|none,none=>True|some v,some u=>V.den (aq M φ H) φ H w v u|_,_=>False)
 (Av:match mx,mxv with|none,none=>True|some v,some u=>V.den (aq M φ H) φ H w v u|_,_=>False) (h:dn (qO P H.o t x lo hi mx) K):
 cU M φ H w fr ((do let z <- Instr.sliceAt t xv lov hiv mxv;pure (Next.value z):Sem Next).run P w) K:=by
 have hg:=dC h
 clear h
 obtain⟨v,Δ,rd,h,hK⟩:=hg
 unfold qO at h
 split at h
 ·rename_i e ht
  have kB:=bp ht
  split at h
  ·rename_i es l Ha hl
   split at h
   ·rename_i hh hhh
    split at h
    ·rename_i hc
     obtain⟨c1,c2,c3,c4⟩:=hc
     obtain⟨i,Wb⟩:=Option.isSome_iff_exists.1 c3
     have hD:dM H.o x=some (.sl es):=by
      unfold fi at Ha
      split at Ha
      ·rename_i es' hD;injection Ha with Ha;subst Ha;exact hD
      ·cases Ha
     obtain⟨f1,f2,f3,f4,f5⟩:=cZ hH x.ids (cV x _ hx)
     have hd:=eQ f1 x (.sl es) xv f3 hD (V.aT f2 _ _ hx)
     obtain⟨base,len,cap,hxv,hlen,eE,_⟩:=id hd
     subst hxv
     have eB:l=0\/∀y∈es,y.cells.length=P.cellsOf e:=by
      rcases c4 with c4|c4
      ·exact .inl c4
      ·exact .inr fun y hy=>by simpa using List.all_eq_true.1 c4 y hy
     have elem:P.elem t=e:=by simp[Program.elem,kB]
     have fI:∀ {m:Nat},(Instr.sliceBounds true len cap lov hiv mxv).run P w= .ok (l,hh,m) w->
      (Instr.sliceAt t (.slice base len cap) lov hiv mxv).run P w= .ok (.slice (if m=l then base else base.map (·.add (l*P.cellsOf e))) (hh - l) (m - l)) w:=by
      intro m hm
      rw[run_sliceAt_slice w t _ _ _ _ (by rw[elem];exact kB),run_slice_any w t base len cap (by rw[elem];exact kB),hm]
      simp only[Result.andThen_ok,elem,dP Wb,sliced]
     have fin:∀ {val:Value} {v:V},(Instr.sliceAt t (.slice base len cap) lov hiv mxv).run P w= .ok val w->V.den (aq M φ (H.put (bG H.o x.ids))) φ (H.put (bG H.o x.ids)) w v val->K v (bG H.o x.ids) x.ids->
      cU M φ H w fr ((do let z <- Instr.sliceAt t (.slice base len cap) lov hiv mxv;pure (Next.value z):Sem Next).run P w) K:=by
      intro val v r1 r2 r3
      exact⟨_,val,w,φ,v,_,_,r3,by simp only[Sem.run_bind,r1,Result.andThen_ok];rfl, .inl rfl,f1,f2,r2,fun id ax=> .inl (by
       have e:(bG H.o x.ids).map (·.1)=x.ids:=by rw[my];simp[Function.comp_def]
       rw[e]at ax
       exact cV x _ hx id ax)⟩
     have bl:lov=none/\l=0\/∃k,lov=some (.int k l):=by
      rcases qZ Au hl with⟨_,a,b⟩|⟨k,a,_⟩
      ·exact .inl ⟨a,b⟩
      ·exact .inr ⟨k,a⟩
     split at h
     ·injection h with h;injection h with e1 e2;injection e2 with e2 e3;subst e1;subst e2;subst e3
      have bm:mxv=none:=by
       cases mxv with
       |none=>rfl
       |some u=>exact Av.elim
      subst bm
      have bh:hiv=none/\hh=len/\(none:Option Value)=none\/∃k,hiv=some (.int k hh):=by
       rcases qZ GK hhh with⟨_,a,b⟩|⟨k,a,_⟩
       ·exact .inl ⟨a,af,rfl⟩
       ·exact .inr ⟨k,a⟩
      refine fin (fI (qd (m:=cap) bl bh (.inl ⟨rfl,rfl⟩) c1 af (Nat.le_refl _))) ?_ hK
      exact G8 hd c1 c2 (.inl rfl) eB
     ·rename_i mv
      split at h
      ·rename_i hv m hm
       split at h
       ·rename_i sN
        injection h with h;injection h with e1 e2;injection e2 with e2 e3;subst e1;subst e2;subst e3
        have bm:∃k,mxv=some (.int k m):=by
         rcases qZ Av hm with⟨a,_⟩|⟨k,a,_⟩
         ·cases a
         ·exact⟨k,a⟩
        have bh:∃k,hiv=some (.int k hh):=by
         rcases qZ GK hhh with⟨a,_⟩|⟨k,a,_⟩
         ·cases a
         ·exact⟨k,a⟩
        have hp:=G8 (m:=m) hd c1 c2 (.inr sN) eB
        refine fin (fI (qd (m:=m) bl (.inr bh) (.inr bm) c1 sN.1 af)) ?_ hK
        split
        ·rename_i e;subst e
         exact⟨hp,_,_,rfl⟩
        ·exact hp
       ·cases h
      ·cases h
    ·cases h
   ·cases h
  ·cases h
 ·cases ha:Ao P t with
  |none=>rw[ha]at h;cases h
  |some p=>
  obtain⟨n,e⟩:=p
  rw[ha]at h
  split at h
  ·rename_i n' e' heq
   have e0:n=n'/\e=e':=by simpa using heq
   obtain⟨rfl,rfl⟩:=e0
   split at h
   ·rename_i id off tN
    obtain⟨rfl,da⟩:=Cs tN
    split at h
    ·rename_i hc
     injection h with h;injection h with e1 e2;injection e2 with e2 e3;subst e1;subst e2;subst e3
     obtain⟨i,Wb⟩:=Option.isSome_iff_exists.1 hc
     have e1:lov=none:=by cases lov with|none=>rfl|some u=>exact Au.elim
     have e2:hiv=none:=by cases hiv with|none=>rfl|some u=>exact GK.elim
     have e3:mxv=none:=by cases mxv with|none=>rfl|some u=>exact Av.elim
     subst e1;subst e2;subst e3
     obtain⟨g1,g2,g3⟩:=hx
     obtain⟨b,k1,k2⟩:=g3 da
     subst k2
     have KO:=yG ha
     have elem:P.elem t=e:=by simp[Program.elem,KO]
     have len:P.arrayLen t=n:=by simp[Program.arrayLen,KO]
     refine cU.same hH (.slice (some ⟨b,off,none⟩) n n) hK ?_ ⟨rfl,g2,fun _=>⟨b,k1,rfl⟩⟩
     have:=run_sliceAt_array_all (P:=P) w t ⟨b,off,none⟩ (by rw[elem,len];exact KO)
     simp only[Sem.run_bind,this,elem,dP Wb,Result.andThen_ok,slicedAt,len]
     by_cases hn:n=0
     ·subst hn;rfl
     ·simp[hn,Addr.add]
    ·cases h
   ·cases h
  ·cases h
theorem Jq(g:Nat):(⟨g,0,none⟩:Addr).add 0=⟨g,0,none⟩:=rfl
theorem cX{B:Nat->Prop}{w:World}:∀ (es:List D) (vs:List Value) (n:Nat),D.aF B w es vs->D.aF B w (es.take n) (vs.take n)
 |[],vs,n,h=>by
  have h:vs=[]:=h
  subst h;simp only[List.take_nil];rfl
 |e::es,vs,0,h=>by simp only[List.take_zero];rfl
 |e::es,vs,n+1,h=>by
  obtain⟨u,us,rfl,h1,h2⟩:=h
  exact⟨u,us.take n,rfl,h1,cX es us n h2⟩
theorem yM{sz:Nat}:∀ (evs:List Value) (n:Nat),(∀ev∈evs,ev.cells.size=sz)->(evs.flatMap (·.cells.toList)).take (n*sz)=(evs.take n).flatMap (·.cells.toList)
 |[],n,_=>aE
 |e::evs,0,_=>aE
 |e::evs,n+1,h=>by
  have he:=h e aE
  have hl:e.cells.toList.length=sz:=by simpa using he
  rw[List.flatMap_cons,List.take_succ_cons,List.flatMap_cons,Nat.succ_mul,Nat.add_comm,List.take_append,hl,show sz+n*sz - sz=n*sz by omega,List.take_of_length_le (by omega),yM evs n fun ev dw=>h ev (by simp[dw])]
theorem eM.take {B:Nat->Prop}{w:World}{sz:Nat}{es:List D}{xs:List Value}(h:eM B w sz es xs)(n:Nat):eM B w sz (es.take n) (xs.take (n*sz)):=by
 obtain⟨evs,rfl,h2,h3⟩:=h
 exact⟨evs.take n,yM evs n h2,fun ev dw=>h2 ev (List.mem_of_mem_take dw),cX es evs n h3⟩
theorem PQ(hH:az M φ H w){t:TypeId}{x:V}{xv:Value}{lo hi mx:Option V}{lov hiv mxv:Option Value}(hx:V.den (aq M φ H) φ H w x xv)
 (Au:match lo,lov with|none,none=>True|some v,some u=>V.den (aq M φ H) φ H w v u|_,_=>False) (GK:match hi,hiv with|none,none=>True|some v,some u=>V.den (aq M φ H) φ H w v u|_,_=>False)
 (Av:match mx,mxv with|none,none=>True|some v,some u=>V.den (aq M φ H) φ H w v u|_,_=>False) {v:V} {Δ:List (Nat×ab)} {rd:List Nat} (h:EX P H.o t x lo hi mx=some (v,Δ,rd)) (hK:K v Δ rd):
 cU M φ H w fr ((do let z <- Instr.sliceAt t xv lov hiv mxv;pure (Next.value z):Sem Next).run P w) K:=by
 have Hb:∀ {kk:IntKind} {e:TypeId} {base:Option Addr} {len cap n:Nat},b8 P t=some e->(P.info? e).isSome=true->n<=cap->base=none\/(∃g,base=some ⟨g,0,none⟩)->
  (Instr.sliceAt t (.slice base len cap) none (some (.int kk n)) none).run P w= .ok (.slice base n cap) w:=by
  intro kk e base len cap n ht hi hn hb
  obtain⟨i,Wb⟩:=Option.isSome_iff_exists.1 hi
  have kB:=bp ht
  have elem:P.elem t=e:=by simp[Program.elem,kB]
  have hm:=qd (P:=P) (w:=w) (len:=len) (cap:=cap) (lo:=none) (hi:=some (.int kk n)) (mx:=none) (l:=0) (h:=n) (m:=cap) (.inl ⟨rfl,rfl⟩) (.inr ⟨kk,rfl⟩) (.inl ⟨rfl,rfl⟩) (Nat.zero_le _) hn (Nat.le_refl _)
  rw[run_sliceAt_slice w t _ _ _ _ (by rw[elem];exact kB),run_slice_any w t base len cap (by rw[elem];exact kB),hm]
  simp only[Result.andThen_ok,elem,dP Wb,sliced]
  rcases hb with rfl|⟨g,rfl⟩
  ·simp
  ·simp[Jq]
 have bounds:∀ {kk:IntKind} {e:TypeId} {base:Option Addr} {len cap:Nat},b8 P t=some e->(P.info? e).isSome=true->base=none\/(∃g,base=some ⟨g,0,none⟩)->
  (Instr.sliceAt t (.slice base len cap) none (some (.int kk 0)) none).run P w= .ok (.slice base 0 cap) w:=fun ht hi hb=>Hb (n:=0) ht hi (Nat.zero_le _) hb
 unfold EX at h
 split at h
 ·split at h
  ·rename_i kk k
   split at h
   ·rename_i e ht
    split at h
    ·rename_i hc
     simp only[Option.some.injEq,Prod.mk.injEq]at h;obtain⟨rfl,rfl,rfl⟩:=h
     obtain⟨rfl,hc⟩:=hc
     simp only[V.den]at hx;subst hx
     have e1:lov=none:=by cases lov with|none=>rfl|some u=>exact Au.elim
     have e2:mxv=none:=by cases mxv with|none=>rfl|some u=>exact Av.elim
     have e3:hiv=some (.int kk 0):=by
      cases hiv with
      |none=>exact GK.elim
      |some u=>exact Lx
     subst e1;subst e2;subst e3
     exact cU.same hH (.slice none 0 0) hK (by simp only[Sem.run_bind,bounds (base:=none) (len:=0) (cap:=0) ht hc (.inl rfl),Result.andThen_ok];rfl) rfl
    ·cases h
   ·cases h
  ·cases h
 ·rename_i id ep
  split at h
  ·rename_i kk k
   split at h
   ·rename_i e gr ty sz es ht ho
    split at h
    ·rename_i hc
     simp only[Option.some.injEq,Prod.mk.injEq]at h;obtain⟨rfl,rfl,rfl⟩:=h
     obtain⟨rfl,rfl,hc⟩:=hc
     have e1:lov=none:=by cases lov with|none=>rfl|some u=>exact Au.elim
     have e2:mxv=none:=by cases mxv with|none=>rfl|some u=>exact Av.elim
     have e3:hiv=some (.int kk 0):=by
      cases hiv with
      |none=>exact GK.elim
      |some u=>exact Lx
     subst e1;subst e2;subst e3
     obtain⟨_,dY,vG⟩:=hx
     have hv:=(vG ep eK).2 rfl
     subst hv
     have aY:=hH.ok id
     simp only[aR,ho]at aY
     obtain⟨eB,xs,dI,m9⟩:=aY
     have abQ:eM (aq M φ H) w sz [] []:=⟨[],rfl,aE,rfl⟩
     rcases dI.2 with⟨h3,h4⟩|⟨g,cap,cur,h3,h4,h5,h6,h7,h8,h9⟩
     ·have vK:w.ownsRow 0 ty sz (.slice none 0 0) ([]:List D).length []:=⟨aE, .inl ⟨rfl,rfl⟩⟩
      obtain⟨s1,s2,s3⟩:=qX (m:=fun _=>False) hH dY ho (eC.refl _ _) (fun _ h=>h.elim) (fun b hb=>by simp[eA]at hb) vK abQ
      rw[h3]
      exact⟨_,_,_,_,_,_,_,hK,by simp only[Sem.run_bind,bounds (base:=none) (len:=0) (cap:=0) ht hc (.inl rfl),Result.andThen_ok];rfl, .inl rfl,s1,s2,s3,by simp[dY]⟩
     ·have vK:w.ownsRow 0 ty sz (.slice (some ⟨g,0,none⟩) 0 cap) ([]:List D).length []:=⟨aE, .inr ⟨g,cap,cur,rfl,h4,h5,Nat.zero_le _,h7,h8,aE⟩⟩
      obtain⟨s1,s2,s3⟩:=qX (m:=fun _=>False) hH dY ho (eC.refl _ _) (fun _ h=>h.elim) (fun b hb=> .inl (by rw[h3];exact hb)) vK abQ
      rw[h3]
      exact⟨_,_,_,_,_,_,_,hK,by simp only[Sem.run_bind,bounds (base:=some ⟨g,0,none⟩) ht hc (.inr ⟨g,rfl⟩),Result.andThen_ok];rfl, .inl rfl,s1,s2,s3,by simp[dY]⟩
    ·split at h
     ·rename_i hc
      simp only[Option.some.injEq,Prod.mk.injEq]at h;obtain⟨rfl,rfl,rfl⟩:=h
      obtain⟨hk0,Cu,rfl,hc⟩:=hc
      obtain⟨n,rfl⟩:∃n:Nat,k=n:=⟨k.toNat,af⟩
      simp only[Int.toNat_natCast]at Cu hK
      have hn0:0<n:=af
      have e1:lov=none:=by cases lov with|none=>rfl|some u=>exact Au.elim
      have e2:mxv=none:=by cases mxv with|none=>rfl|some u=>exact Av.elim
      have e3:hiv=some (.int kk n):=by
       cases hiv with
       |none=>exact GK.elim
       |some u=>exact Lx
      subst e1;subst e2;subst e3
      obtain⟨_,dY,vG⟩:=hx
      have hv:=(vG ep eK).2 rfl
      subst hv
      have aY:=hH.ok id
      simp only[aR,ho]at aY
      obtain⟨eB,xs,dI,m9⟩:=aY
      rcases dI.2 with⟨h3,h4⟩|⟨g,cap,cur,h3,h4,h5,h6,h7,h8,h9⟩
      ·omega
      ·have hlx:xs.length=es.length*sz:=dI.1
       have hle:n*sz<=es.length*sz:=Nat.mul_le_mul_right _ Cu
       have cu:(es.take n).length=n:=by rw[List.length_take];omega
       have vK:w.ownsRow 0 ty sz (.slice (some ⟨g,0,none⟩) (es.take n).length cap) (es.take n).length (xs.take (n*sz)):=by
        rw[cu]
        refine⟨by rw[List.length_take];omega, .inr ⟨g,cap,cur,rfl,h4,h5,af,h7,h8, ?_⟩⟩
        rw[<- h9,List.take_take,Nat.min_eq_left hle]
       obtain⟨s1,s2,s3⟩:=qX (m:=fun _=>False) hH dY ho (eC.refl _ _) (fun _ h=>h.elim) (fun b hb=> .inl (by rw[h3];exact hb)) vK (m9.take n)
       rw[h3]
       rw[cu]at s1 s2 s3
       exact⟨_,_,_,_,_,_,_,hK,by simp only[Sem.run_bind,Hb (base:=some ⟨g,0,none⟩) ht hc (show n<=cap by omega) (.inr ⟨g,rfl⟩),Result.andThen_ok];rfl, .inl rfl,s1,s2,s3,by simp[dY]⟩
     ·cases h
   ·cases h
  ·cases h
 ·cases h
theorem Jr(hH:az M φ H w){t:TypeId}{x:V}{xv:Value}{lo hi mx:Option V}{lov hiv mxv:Option Value}(hx:V.den (aq M φ H) φ H w x xv)
 (Au:match lo,lov with|none,none=>True|some v,some u=>V.den (aq M φ H) φ H w v u|_,_=>False) (GK:match hi,hiv with|none,none=>True|some v,some u=>V.den (aq M φ H) φ H w v u|_,_=>False)
 (Av:match mx,mxv with|none,none=>True|some v,some u=>V.den (aq M φ H) φ H w v u|_,_=>False) (h:dn (sG P H.o t x lo hi mx) K):
 cU M φ H w fr ((do let z <- Instr.sliceAt t xv lov hiv mxv;pure (Next.value z):Sem Next).run P w) K:=by
 unfold sG at h
 split at h
 ·rename_i r hr
  obtain⟨v,Δ,rd⟩:=r
  exact PQ hH hx Au GK Av hr h
 ·exact E4 hH hx Au GK Av h
theorem L7(hH:az M φ H w){ts:Array TypeId}{ty0:TypeId}{x y:V}{xv yv:Value}(hx:V.den (aq M φ H) φ H w x xv)(hy:V.den (aq M φ H) φ H w y yv)(h:dn (yD P H.o ts x y) K):
 cU M φ H w fr ((do let z <- Builtin.copy_ ts ty0 #[xv,yv];pure (Next.value z):Sem Next).run P w) K:=by
 have hg:=dC h
 clear h
 obtain⟨v,Δ,rd,h,hK⟩:=hg
 unfold yD at h
 split at h
 ·rename_i t t' xS
  have xS:ts=#[t,t']:=by apply Array.ext';simpa using xS
  subst xS
  split at h
  ·rename_i e ht
   split at h
   ·rename_i id off n cs es hrs Ha
    obtain⟨rfl,ho⟩:=Ct hrs
    ·split at h
     ·rename_i hc
      obtain⟨c1,c2,c3,c4⟩:=hc
      injection h with h;injection h with e1 e2;injection e2 with e2 e3;subst e1;subst e2;subst e3
      have c3:∀z∈es,z.cells.length=1:=fun z hz=>by simpa using List.all_eq_true.1 c3 z hz
      obtain⟨i,hi⟩:=j6 (P:=P) (e:=e) af
      have eB:(P.info? e).map (·.size)=some 1:=by rw[hi];simp[<- bV hi,c1]
      obtain⟨_,dY,hp⟩:=hx
      obtain⟨b,eY,rfl⟩:=hp eK
      have kz:id∉y.ids:=fun hm=>by have:=List.all_eq_true.1 c4 id hm;simp at this
      obtain⟨f1,f2,f3,f4,f5⟩:=cZ hH y.ids (cV y _ hy)
      have xE:=(f4 id kz).trans ho
      have aY:=f1.ok id
      simp only[aR,xE]at aY
      obtain⟨b',dZ,ty,g1,g2,g3,g4⟩:=aY
      rw[eY]at g1;simp at g1;subst g1
      have l2:=V.aC _ _ g3
      simp only[Array.length_toList]at l2
      have PR:(bG H.o y.ids).map (·.1)=y.ids:=by rw[my];simp[Function.comp_def]
      rcases qc hH hy Ha c3 with⟨rfl,rfl⟩|⟨a,c,evs,rfl,k1,k2,k3,k4⟩
      ·have hr:=run_copy_nil (P:=P) w t t' ty0 e ⟨b,off,none⟩ n n (bp ht) (by rw[eB];rfl)
       have same:H.put (bG H.o y.ids++[(id,ab.row (cs.take off++(([]:List D).take n |>.flatMap D.cells).map .d++cs.drop (off+(([]:List D).take n).length)))])=H.put (bG H.o y.ids):=by
        rw[ed]
        refine vH _ ((f5 id).2 dY) ?_
        rw[xE]
        simp
       refine⟨_,goInt 0,w,φ,_,_,_,hK,by simp only[Sem.run_bind,hr,Result.andThen_ok];rfl, .inl rfl,by rw[same];exact f1,by rw[same];exact f2,by simp[V.den,D.den,goInt],fun j hj=> .inl ?_⟩
       rw[List.map_append,PR]at hj
       simp only[List.map_cons,List.map_nil,List.mem_append,List.mem_singleton]at hj
       rcases hj with hj|rfl
       ·exact cV y _ hy j hj
       ·exact dY
      ·have hlen:evs.length=es.length:=D.aC _ _ k1
       have k1':=D.aW (f2.blocks (M:=M)) _ _ k1
       have EF:D.aF (aq M φ (H.put (bG H.o y.ids))) w (es.take n) (evs.take n):=D.cX n _ _ k1'
       have PS:∀ev∈evs.take n,ev.cells.size=1:=fun ev dw=>by
        have:=k2 ev (List.mem_of_mem_take dw);omega
       have su:((evs.take n).flatMap (·.cells.toList)).length=Nat.min es.length n:=by
        rw[dp (sz:=1) _ PS];simp[hlen,Nat.min_comm]
       have pre:∀ (j:Nat) (u:Value),((evs.take n).flatMap (·.cells.toList))[j]? =some u->(evs.flatMap (·.cells.toList))[j]? =some u:=by
        intro j u hj
        have:evs.flatMap (·.cells.toList)=(evs.take n).flatMap (·.cells.toList)++(evs.drop n).flatMap (·.cells.toList):=by rw[<- List.flatMap_append,List.take_append_drop]
        rw[this]
        have cu:j<((evs.take n).flatMap (·.cells.toList)).length:=by
         rcases Nat.lt_or_ge j ((evs.take n).flatMap (·.cells.toList)).length with cu|yK
         ·exact cu
         ·rw[List.getElem?_eq_none yK]at hj;cases hj
        rw[List.getElem?_append_left cu];exact hj
       have qG:Flat ((evs.take n).flatMap (·.cells.toList)):=by
        intro u hu
        simp only[List.mem_flatMap]at hu
        obtain⟨ev,h1,h2⟩:=hu
        exact k4 u (by simp only[List.mem_flatMap];exact⟨ev,List.mem_of_mem_take h1,h2⟩)
       have hr:=run_copy_row (P:=P) w t t' ty0 e b off n n a es.length c dZ ty (List.flatMap (fun x:Value=>x.cells.toList) (evs.take n)) (bp ht) eB g2 su (fun j u hj=>k3 j u (pre j u hj)) (by rw[su];have:Nat.min es.length n<=n:=Nat.min_le_right _ _;omega) qG
       have L1:V.aF (aq M φ (H.put (bG H.o y.ids))) φ (H.put (bG H.o y.ids)) w (((es.take n).flatMap D.cells).map .d) ((evs.take n).flatMap (·.cells.toList)):=by
        have flat:∀ (ds:List D) (us:List Value),D.aF (aq M φ (H.put (bG H.o y.ids))) w ds us->D.aF (aq M φ (H.put (bG H.o y.ids))) w (ds.flatMap D.cells) (us.flatMap (·.cells.toList)):=by
         intro ds
         induction ds with
         |nil=>intro us h;simp[D.aF]at h;subst h;rfl
         |cons d ds ih=>
          intro us h
          obtain⟨u,us,rfl,q1,q2⟩:=h
          simp only[List.flatMap_cons]
          exact D.bE _ _ _ _ (D.fH _ _ q1).1 (ih us q2)
        exact(V.cO _ _).2 (flat _ _ EF)
       have sv:((evs.take n).flatMap (·.cells.toList)).length=(es.take n).length:=by rw[su];simp[Nat.min_comm]
       obtain⟨t1,t2⟩:=Ch (cs':=cs.take off++((es.take n).flatMap D.cells).map .d++cs.drop (off+(es.take n).length)) f1 ((f5 id).2 dY) xE eY g2
        (dZ.toList.take off++(evs.take n).flatMap (·.cells.toList)++dZ.toList.drop (off+((evs.take n).flatMap (·.cells.toList)).length)).toArray (by
        simp only
        rw[sv]
        exact V.bE _ _ _ _ (V.bE _ _ _ _ (V.cX _ _ _ g3) L1) (V.eG _ _ _ g3)) (by
        intro u hu
        simp only[List.mem_append]at hu
        rcases hu with(hu|hu)|hu
        ·exact g4 u (List.mem_of_mem_take hu)
        ·exact qG u hu
        ·exact g4 u (List.mem_of_mem_drop hu))
       refine⟨_,_,_,φ,_,_,_,hK,by simp only[Sem.run_bind,hr,Result.andThen_ok];rfl, .inl rfl,by rw[ed];exact t1,by rw[ed];exact f2.trans t2, ?_,fun j hj=> .inl ?_⟩
       ·simp only[V.den,D.den,goInt,su]
       ·rw[List.map_append,PR]at hj
        simp only[List.map_cons,List.map_nil,List.mem_append,List.mem_singleton]at hj
        rcases hj with hj|rfl
        ·exact cV y _ hy j hj
        ·exact dY
     ·cases h
   ·cases h
  ·cases h
 ·cases h
theorem Aw{t u:TypeId}{f off:Nat}(h:Aq P t f=some (off,u)):∃fs fd,P.underlying t=some (.struct fs)/\fs[f]? =some fd/\fd.offset=off/\fd.type=u:=by
 unfold Aq at h
 split at h
 ·rename_i fs hu
  split at h
  ·rename_i fd hf
   injection h with h;injection h with h1 h2
   exact⟨fs,fd,hu,hf,h1,h2⟩
  ·cases h
 ·cases h
theorem Jf{t:TypeId}{cs:List V}{off:Nat}{x:V}(h:fh P t cs off=some x){arr:Array Value}(hd:V.aF (aq M φ H) φ H w cs arr.toList)(hf:Flat arr.toList):
 ∃u,(part t arr off).run P w= .ok u w/\V.den (aq M φ H) φ H w x u:=by
 unfold fh at h
 split at h
 ·rename_i ha
  split at h
  ·rename_i hl
   injection h with h;subst h
   obtain⟨i,hi⟩:=sM ha
   refine⟨.agg (arr.extract off (off+P.cellsOf t)), ?_,lT _ _ ?_ ?_⟩
   ·simp only[part,Sem.run_bind,sL ha w,Result.andThen_ok,if_true,dP hi w,Sem.run_pure]
   ·have:=V.cX (P.cellsOf t) _ _ (V.eG off _ _ hd)
    simpa[Array.toList_extract,List.extract]using this
   ·exact abB
  ·cases h
 ·rename_i ha
  obtain⟨u,hu,PJ⟩:=V.dz _ _ _ _ hd h
  refine⟨u, ?_,PJ⟩
  have BZ:arr[off]? =some u:=by simpa using hu
  simp only[part,Sem.run_bind,qb ha w,Result.andThen_ok,Bool.false_eq_true,if_false,BZ,Sem.run_pure]
 ·cases h
theorem Js(hH:az M φ H w){t:TypeId}{x:V}{xv:Value}{f:Nat}(hx:V.den (aq M φ H) φ H w x xv)(h:dn ((vA P t x f).map fun v=>(v,[],[])) K):
 cU M φ H w fr ((do let z <- Instr.field t xv f;pure (Next.value z):Sem Next).run P w) K:=by
 have hg:=dC h
 clear h
 obtain⟨v,Δ,rd,h,hK⟩:=hg
 simp only[Option.map_eq_some_iff,Prod.mk.injEq]at h
 have hg:=h
 clear h
 obtain⟨v',h,rfl,rfl,rfl⟩:=hg
 unfold vA at h
 split at h
 ·rename_i off u hf
  obtain⟨fs,fd,hu,hfd,rfl,rfl⟩:=Aw hf
  have fin:∀ {arr:Array Value} {val:Value},(part fd.type arr fd.offset).run P w= .ok val w->V.den (aq M φ H) φ H w v' val->cU M φ H w fr ((do let z <- Instr.field t (.agg arr) f;pure (Next.value z):Sem Next).run P w) K:=by
   intro arr val r1 r2
   refine cU.same hH val hK ?_ r2
   simp[Instr.field,run_underlying hu,hfd,asAgg,r1]
  split at h
  ·rename_i cs
   exact abl
  ·rename_i cs
   exact SQ
  ·cases h
 ·cases h
theorem Jt(s:ByteArray)(n:Nat):s[n]? =s.data.toList[n]? :=by
 rw[getElem?_def]
 split
 ·rename_i h
  have h':n<s.data.toList.length:=by simpa using h
  rw[List.getElem?_eq_getElem h']
  rfl
 ·rename_i h
  have h':s.data.toList.length<=n:=by
   have: ¬n<s.data.size:=h
   simpa using this
  rw[List.getElem?_eq_none h']
theorem Ju(hH:az M φ H w){t:TypeId}{x i:V}{xv iv:Value}(hx:V.den (aq M φ H) φ H w x xv)(hi:V.den (aq M φ H) φ H w i iv)(h:dn ((vB P t x i).map fun v=>(v,[],[])) K):
 cU M φ H w fr ((do let z <- Instr.index t xv iv;pure (Next.value z):Sem Next).run P w) K:=by
 have hg:=dC h
 clear h
 obtain⟨v,Δ,rd,h,hK⟩:=hg
 simp only[Option.map_eq_some_iff,Prod.mk.injEq]at h
 have hg:=h
 clear h
 obtain⟨v',h,rfl,rfl,rfl⟩:=hg
 unfold vB at h
 split at h
 ·rename_i k i
  simp only[V.den,D.den]at hi
  subst hi
  split at h
  ·rename_i h0
   split at h
   ·rename_i hu
    split at h
    ·rename_i l
     split at h
     ·rename_i b hb
      injection h with h;subst h
      obtain⟨s,rfl,rfl⟩:=hx
      refine cU.same hH (.int .u8 b.toNat) hK ?_ rfl
      have EY:s[i.toNat]? =some b:=by rw[Jt];exact hb
      simp[Instr.index,asIntOf,run_underlying hu,h0,EY]
     ·cases h
    ·cases h
   ·rename_i n e hu
    split at h
    ·rename_i hn
     obtain⟨h1,h2⟩:=hn
     obtain⟨ie,hie⟩:=Option.isSome_iff_exists.1 h2
     have hc:0<=i/\i<(n:Int):=⟨h0,h1⟩
     have fin:∀ {arr:Array Value} {val:Value},(part e arr (i.toNat*P.cellsOf e)).run P w= .ok val w->V.den (aq M φ H) φ H w v' val->cU M φ H w fr ((do let z <- Instr.index t (.agg arr) (.int k i);pure (Next.value z):Sem Next).run P w) K:=by
      intro arr val r1 r2
      refine cU.same hH val hK ?_ r2
      simp[Instr.index,asIntOf,run_underlying hu,hc,dP hie,r1]
     split at h
     ·rename_i cs
      exact abl
     ·rename_i cs
      exact SQ
     ·cases h
    ·cases h
   ·cases h
  ·cases h
 ·cases h
theorem Cv{t:TypeId}(h:vC P t=true):∃d,P.underlying t=some d/\∀ms,d≠ .interface ms:=by
 unfold vC at h
 split at h
 ·cases h
 ·rename_i d hn hd
  exact⟨d,hd,fun ms e=>hn ms e⟩
 ·cases h
theorem sO{t:TypeId}{z:V}(hz:zeroV P t=some z):∃val,(zeroValue t).run P w= .ok val w/\V.den (aq M φ H) φ H w z val:=by
 unfold zeroV at hz
 split at hz
 ·rename_i i hi
  have hr:∀v,i.zero=some v->(zeroValue t).run P w= .ok v w:=fun v hv=>by simp[zeroValue,typeInfo,hi,hv]
  split at hz
  ·rename_i a hv
   split at hz
   ·rename_i hf
    injection hz with hz;subst hz
    have xT:Flat a.toList:=fun u hu=>List.all_eq_true.1 hf u hu
    exact⟨_,hr _ hv,lT _ _ (dN _ xT) xT⟩
   ·cases hz
  ·rename_i v _ hv
   split at hz
   ·rename_i h1
    injection hz with hz;subst hz
    exact⟨_,hr _ hv,mq _ h1⟩
   ·cases hz
  ·cases hz
 ·cases hz
theorem E5(hH:az M φ H w){t xt:TypeId}{ok:Bool}{x:V}{xv:Value}(hx:V.den (aq M φ H) φ H w x xv)(h:dn ((qP P t ok x).map fun v=>(v,[],[])) K):
 cU M φ H w fr ((do let z <- Instr.typeAssert xv xt t ok;pure (Next.value z):Sem Next).run P w) K:=by
 have hg:=dC h
 clear h
 obtain⟨v,Δ,rd,h,hK⟩:=hg
 simp only[Option.map_eq_some_iff,Prod.mk.injEq]at h
 have hg:=h
 clear h
 obtain⟨v',h,rfl,rfl,rfl⟩:=hg
 unfold qP at h
 split at h
 ·rename_i hp
  obtain⟨d,hd,kz⟩:=Cv hp
  split at h
  ·rename_i u y
   obtain⟨val,rfl,hdy⟩:=hx
   split at h
   ·rename_i e
    subst e
    injection h with h
    have hr:(Instr.typeAssert (.iface u val) xt u ok).run P w= .ok (if ok=true then .tuple #[val, .bool true]else val) w:=by
     cases d<;>first|exact absurd rfl (kz _)|(cases ok<;>simp[Instr.typeAssert,run_underlying hd])
    refine cU.same hH _ hK aaP ?_
    subst h
    cases ok
    ·exact hdy
    ·exact⟨_,rfl,val,[.bool true],rfl,hdy, .bool true,[],rfl,rfl,rfl⟩
   ·rename_i je
    split at h
    ·rename_i aY
     simp only[Option.map_eq_some_iff]at h
     obtain⟨z,hz,rfl⟩:=h
     obtain⟨zv,r1,r2⟩:=sO (w:=w) (M:=M) (φ:=φ) (H:=H) hz
     have hr:(Instr.typeAssert (.iface u val) xt t ok).run P w= .ok (.tuple #[zv, .bool false]) w:=by
      cases d<;>first|exact absurd rfl (kz _)|simp[Instr.typeAssert,run_underlying hd,je,aY,r1]
     exact aaJ
    ·cases h
  ·simp only[V.den,D.den]at hx
   subst hx
   split at h
   ·rename_i aY
    simp only[Option.map_eq_some_iff]at h
    obtain⟨z,hz,rfl⟩:=h
    obtain⟨zv,r1,r2⟩:=sO (w:=w) (M:=M) (φ:=φ) (H:=H) hz
    have hr:(Instr.typeAssert .nilIface xt t ok).run P w= .ok (.tuple #[zv, .bool false]) w:=by
     cases d<;>first|exact absurd rfl (kz _)|simp[Instr.typeAssert,run_underlying hd,aY,r1]
    exact aaJ
   ·cases h
  ·cases h
 ·cases h
end
end
end Go.Proofs.YtlhemmpklhhgoaaGreat
