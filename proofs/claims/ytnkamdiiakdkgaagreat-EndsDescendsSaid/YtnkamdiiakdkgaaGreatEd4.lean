/-
  A PART OF THE PROOF. Conditions: none.
-/
import Derived.Laws.CopyRow
import Derived.Test.YtnkamdiiakdkgaaGreatEd3
set_option linter.unusedSimpArgs false
set_option linter.unusedVariables false
namespace Go.Proofs.YtnkamdiiakdkgaaGreat
section
section
variable {P:Program}{M:Nat->Prop}{φ:Place}{H:Hp}{w:World}{fr:Nat}{K:V->List (Nat×ab)->List Nat->Prop}
theorem c7{x:Option fA}(h:cO x K):∃v Δ rd,x=some (v,Δ,rd)/\K v Δ rd:=by
 unfold cO at h;split at h
 ·exact⟨_,_,_,rfl,h⟩
 ·exact h.elim
theorem AB{o:Nat->ab}{x:V}{id off:Nat}(h:oB o x=some (id,off)):x= .ptr id off/\(o id).b8=true:=by
 unfold oB at h
 split at h
 ·split at h
  ·simp only[Option.some.injEq,Prod.mk.injEq]at h;obtain⟨rfl,rfl⟩:=h;exact⟨rfl,by assumption⟩
  ·cases h
 ·cases h
theorem AD{o:Nat->ab}{x:V}{id off n:Nat}{cs:List V}(h:oC o x=some (id,off,n,cs)):x= .wx id off n/\o id= .row cs:=by
 unfold oC at h
 split at h
 ·split at h
  ·rename_i ho
   simp only[Option.some.injEq,Prod.mk.injEq]at h;obtain⟨rfl,rfl,rfl,rfl⟩:=h;exact⟨rfl,ho⟩
  ·cases h
 ·cases h
theorem py{x:Option V}{val:Option Value}{d n:Nat}(hx:match x,val with|none,none=>True|some v,some u=>V.den (ak M φ H) φ H w v u|_,_=>False)(h:Gk x d=some n):
 (x=none/\val=none/\n=d)\/∃k,val=some (.int k n)/\x≠none:=by
 unfold Gk at h
 split at h
 ·injection h with h
  left
  cases val with
  |none=>exact⟨rfl,rfl,h.symm⟩
  |some u=>exact hx.elim
 ·rename_i k i
  split at h
  ·injection h with h;subst h
   right
   cases val with
   |none=>exact hx.elim
   |some u=>
    simp only[V.den,D.den]at hx
    refine⟨k, ?_,aL⟩
    rw[hx,Int.toNat_of_nonneg (by assumption)]
  ·cases h
 ·cases h
theorem EH{B:Nat->Prop}{es:List D}{base:Option Addr}{len cap l h:Nat}(hd:D.den B w (.sl es) (.slice base len cap))(hl:l<=h)(hh:h<=es.length){m:Nat}(hm:m=cap\/h<=m/\m<=es.length){Wd:Nat}(dA:l=0\/∀y∈es,y.cells.length=Wd):
 D.den B w (.sl ((es.take h).drop l)) (.slice (if m=l then base else base.map (·.add (l*Wd))) (h - l) (m - l)):=by
 obtain⟨b',aeL,aeM,he,h1,h2,h3,sz,h4⟩:=hd
 injection he with e1 e2 e3
 subst e1;subst e2;subst e3
 refine⟨_,_,_,rfl,by simp;omega,af,fun hb=> ?_,sz,fun a ha=> ?_⟩
 ·split at hb
  ·omega
  ·cases base with
   |none=>have:=h3 rfl;omega
   |some a=>simp at hb
 ·have key:∀ (es:List D) (i:Nat) (a:Addr),D.elems B w sz a i es->∀l h,D.elems B w sz a (i+l) ((es.take h).drop l):=by
   intro es
   induction es with
   |nil=>intro i a _ l h;simp[D.elems]
   |cons e es ih=>
    intro i a he l h
    cases h with
    |zero=>simp[D.elems]
    |succ h=>
     cases l with
     |zero=>
      refine⟨he.1, ?_⟩
      simpa using ih (i+1) a he.2 0 h
     |succ l=>
      have:=ih (i+1) a he.2 l h
      rw[show i+1+l=i+(l+1) by omega]at this
      simpa using this
  split at ha
  ·
    rename_i EI
    have aeD:h - l=0:=af
    have Jp:(es.take h).drop l=[]:=List.eq_nil_of_length_eq_zero oz
    rw[Jp]
    cases base with
    |none=>cases ha
    |some b=>injection ha with ha;subst ha;exact⟨fun hc=>af,trivial⟩
  ·cases base with
   |none=>simp at ha
   |some b=>
    simp only[Option.map_some,Option.some.injEq]at ha
    subst ha
    obtain⟨h5,h6⟩:=h4 b rfl
    replace h5:=h5 af
    refine⟨fun _=>Ap b h5 _, ?_⟩
    have h7:=key es 0 b h6 l h
    rw[Nat.zero_add]at h7
    have shift:∀ (ds:List D) (i:Nat),(∀y∈ds,y.cells.length=Wd\/l=0)->D.elems B w sz b (l+i) ds->D.elems B w sz (b.add (l*Wd)) i ds:=by
     intro ds
     induction ds with
     |nil=>intro i _ _;trivial
     |cons y ds ih=>
      intro i hy hd
      obtain⟨⟨ev,g1,g2,g3⟩,g4⟩:=hd
      have acV:l*Wd=l*sz:=by
       rcases hy y aL with hy|hy
       ·have:=D.aB _ _ (D.eM _ _ g3).1
        rw[hy]at this
        have e:ev.cells.size=Wd:=by simpa using this
        rw[<- e,g1]
       ·rw[hy];simp
      refine⟨⟨ev,g1, ?_,g3⟩,ih (i+1) (fun z hz=>hy z (by simp[hz])) (by rw[show l+(i+1)=l+i+1 by omega];exact g4)⟩
      rw[add_add b h5,acV, <- Nat.add_mul]
      exact g2
    refine shift _ 0 (fun y hy=> ?_) (by simpa using h7)
    rcases dA with dA|dA
    ·exact .inr dA
    ·exact .inl (dA y (List.mem_of_mem_take (List.mem_of_mem_drop hy)))
theorem oG{len cap:Nat}{lo hi mx:Option Value}{l h m:Nat}(zR:lo=none/\l=0\/∃k,lo=some (.int k l))(C1:hi=none/\h=len/\mx=none\/∃k,hi=some (.int k h))(Jq:mx=none/\m=cap\/∃k,mx=some (.int k m))(h1:l<=h)(h2:h<=m)(h3:m<=cap):
 (Instr.sliceBounds true len cap lo hi mx).run P w= .ok (l,h,m) w:=by
 rcases zR with⟨rfl,rfl⟩|⟨kl,rfl⟩<;>rcases C1 with⟨rfl,rfl,rfl⟩|⟨kh,rfl⟩<;>rcases Jq with⟨e,rfl⟩|⟨km,e⟩<;>subst_vars<;>
  first
  |(simp[Instr.sliceBounds,run_sliceBound,h1,h2,h3];done)
  |(cases e;done)
  |(cases e;simp[Instr.sliceBounds,run_sliceBound,h1,h2,h3])
theorem C2(hH:ax M φ H w){t:TypeId}{x:V}{xv:Value}{lo hi mx:Option V}{lov hiv mxv:Option Value}(hx:V.den (ak M φ H) φ H w x xv)
 (zR:match lo,lov with|none,none=>True|some v,some u=>V.den (ak M φ H) φ H w v u|_,_=>False) (C1:match hi,hiv with|none,none=>True|some v,some u=>V.den (ak M φ H) φ H w v u|_,_=>False)
 (Jq:match mx,mxv with|none,none=>True|some v,some u=>V.den (ak M φ H) φ H w v u|_,_=>False) (h:cO (pg P H.o t x lo hi mx) K):
 ct M φ H w fr ((do let z <- Instr.sliceAt t xv lov hiv mxv;pure (Next.value z):Sem Next).run P w) K:=by
 have hg:=c7 h
 clear h
 obtain⟨v,Δ,rd,h,hK⟩:=hg
 unfold pg at h
 split at h
 ·rename_i e ht
  have iW:=ba ht
  split at h
  ·rename_i es l EJ hl
   split at h
   ·rename_i hh hhh
    split at h
    ·rename_i hc
     obtain⟨c1,c2,c3,c4⟩:=hc
     obtain⟨i,SY⟩:=Option.isSome_iff_exists.1 c3
     have hD:dE H.o x=some (.sl es):=by
      unfold ey at EJ
      split at EJ
      ·rename_i es' hD;injection EJ with EJ;subst EJ;exact hD
      ·cases EJ
     obtain⟨f1,f2,f3,f4,f5⟩:=cG hH x.ids (cE x _ hx)
     have hd:=eN f1 x (.sl es) xv f3 hD (V.aM f2 _ _ hx)
     obtain⟨base,len,cap,hxv,hlen,iq,_⟩:=id hd
     subst hxv
     have dA:l=0\/∀y∈es,y.cells.length=P.cellsOf e:=by
      rcases c4 with c4|c4
      ·exact .inl c4
      ·exact .inr fun y hy=>by simpa using List.all_eq_true.1 c4 y hy
     have elem:P.elem t=e:=by simp[Program.elem,iW]
     have eO:∀ {m:Nat},(Instr.sliceBounds true len cap lov hiv mxv).run P w= .ok (l,hh,m) w->
      (Instr.sliceAt t (.slice base len cap) lov hiv mxv).run P w= .ok (.slice (if m=l then base else base.map (·.add (l*P.cellsOf e))) (hh - l) (m - l)) w:=by
      intro m hm
      rw[run_sliceAt_slice w t _ _ _ _ (by rw[elem];exact iW),run_slice_any w t base len cap (by rw[elem];exact iW),hm]
      simp only[Result.andThen_ok,elem,dv SY,sliced]
     have fin:∀ {val:Value} {v:V},(Instr.sliceAt t (.slice base len cap) lov hiv mxv).run P w= .ok val w->V.den (ak M φ (H.put (cg H.o x.ids))) φ (H.put (cg H.o x.ids)) w v val->K v (cg H.o x.ids) x.ids->
      ct M φ H w fr ((do let z <- Instr.sliceAt t (.slice base len cap) lov hiv mxv;pure (Next.value z):Sem Next).run P w) K:=by
      intro val v r1 r2 r3
      exact⟨_,val,w,φ,v,_,_,r3,by simp only[Sem.run_bind,r1,Result.andThen_ok];rfl, .inl rfl,f1,f2,r2,fun id au=> .inl (by
       have e:(cg H.o x.ids).map (·.1)=x.ids:=by rw[lG];simp[Function.comp_def]
       rw[e]at au
       exact cE x _ hx id au)⟩
     have bl:lov=none/\l=0\/∃k,lov=some (.int k l):=by
      rcases py zR hl with⟨_,a,b⟩|⟨k,a,_⟩
      ·exact .inl ⟨a,b⟩
      ·exact .inr ⟨k,a⟩
     split at h
     ·injection h with h;injection h with e1 e2;injection e2 with e2 e3;subst e1;subst e2;subst e3
      have bm:mxv=none:=by
       cases mxv with
       |none=>rfl
       |some u=>exact Jq.elim
      subst bm
      have bh:hiv=none/\hh=len/\(none:Option Value)=none\/∃k,hiv=some (.int k hh):=by
       rcases py C1 hhh with⟨_,a,b⟩|⟨k,a,_⟩
       ·exact .inl ⟨a,af,rfl⟩
       ·exact .inr ⟨k,a⟩
      refine fin (eO (oG (m:=cap) bl bh (.inl ⟨rfl,rfl⟩) c1 af (Nat.le_refl _))) ?_ hK
      exact EH hd c1 c2 (.inl rfl) dA
     ·rename_i mv
      split at h
      ·rename_i hv m hm
       split at h
       ·rename_i tR
        injection h with h;injection h with e1 e2;injection e2 with e2 e3;subst e1;subst e2;subst e3
        have bm:∃k,mxv=some (.int k m):=by
         rcases py Jq hm with⟨a,_⟩|⟨k,a,_⟩
         ·cases a
         ·exact⟨k,a⟩
        have bh:∃k,hiv=some (.int k hh):=by
         rcases py C1 hhh with⟨a,_⟩|⟨k,a,_⟩
         ·cases a
         ·exact⟨k,a⟩
        have hp:=EH (m:=m) hd c1 c2 (.inr tR) dA
        refine fin (eO (oG (m:=m) bl (.inr bh) (.inr bm) c1 tR.1 af)) ?_ hK
        split
        ·rename_i e;subst e
         exact⟨hp,_,_,rfl⟩
        ·exact hp
       ·cases h
      ·cases h
    ·cases h
   ·cases h
  ·cases h
 ·cases ha:vM P t with
  |none=>rw[ha]at h;cases h
  |some p=>
  obtain⟨n,e⟩:=p
  rw[ha]at h
  split at h
  ·rename_i n' e' heq
   have e0:n=n'/\e=e':=by simpa using heq
   obtain⟨rfl,rfl⟩:=e0
   split at h
   ·rename_i id off sI
    obtain⟨rfl,bG⟩:=AB sI
    split at h
    ·rename_i hc
     injection h with h;injection h with e1 e2;injection e2 with e2 e3;subst e1;subst e2;subst e3
     obtain⟨i,SY⟩:=Option.isSome_iff_exists.1 hc
     have e1:lov=none:=by cases lov with|none=>rfl|some u=>exact zR.elim
     have e2:hiv=none:=by cases hiv with|none=>rfl|some u=>exact C1.elim
     have e3:mxv=none:=by cases mxv with|none=>rfl|some u=>exact Jq.elim
     subst e1;subst e2;subst e3
     obtain⟨g1,g2,g3⟩:=hx
     obtain⟨b,k1,k2⟩:=g3 bG
     subst k2
     have hat:=wC ha
     have elem:P.elem t=e:=by simp[Program.elem,hat]
     have len:P.arrayLen t=n:=by simp[Program.arrayLen,hat]
     refine ct.same hH (.slice (some ⟨b,off,none⟩) n n) hK ?_ ⟨rfl,g2,fun _=>⟨b,k1,rfl⟩⟩
     have:=run_sliceAt_array_all (P:=P) w t ⟨b,off,none⟩ (by rw[elem,len];exact hat)
     simp only[Sem.run_bind,this,elem,dv SY,Result.andThen_ok,slicedAt,len]
     by_cases hn:n=0
     ·subst hn;rfl
     ·simp[hn,Addr.add]
    ·cases h
   ·cases h
  ·cases h
theorem Gs(g:Nat):(⟨g,0,none⟩:Addr).add 0=⟨g,0,none⟩:=rfl
theorem MW(hH:ax M φ H w){t:TypeId}{x:V}{xv:Value}{lo hi mx:Option V}{lov hiv mxv:Option Value}(hx:V.den (ak M φ H) φ H w x xv)
 (zR:match lo,lov with|none,none=>True|some v,some u=>V.den (ak M φ H) φ H w v u|_,_=>False) (C1:match hi,hiv with|none,none=>True|some v,some u=>V.den (ak M φ H) φ H w v u|_,_=>False)
 (Jq:match mx,mxv with|none,none=>True|some v,some u=>V.den (ak M φ H) φ H w v u|_,_=>False) {v:V} {Δ:List (Nat×ab)} {rd:List Nat} (h:CV P H.o t x lo hi mx=some (v,Δ,rd)) (hK:K v Δ rd):
 ct M φ H w fr ((do let z <- Instr.sliceAt t xv lov hiv mxv;pure (Next.value z):Sem Next).run P w) K:=by
 have bounds:∀ {kk:IntKind} {e:TypeId} {base:Option Addr} {len cap:Nat},bW P t=some e->(P.info? e).isSome=true->base=none\/(∃g,base=some ⟨g,0,none⟩)->
  (Instr.sliceAt t (.slice base len cap) none (some (.int kk 0)) none).run P w= .ok (.slice base 0 cap) w:=by
  intro kk e base len cap ht hi hb
  obtain⟨i,SY⟩:=Option.isSome_iff_exists.1 hi
  have iW:=ba ht
  have elem:P.elem t=e:=by simp[Program.elem,iW]
  have hm:=oG (P:=P) (w:=w) (len:=len) (cap:=cap) (lo:=none) (hi:=some (.int kk 0)) (mx:=none) (l:=0) (h:=0) (m:=cap) (.inl ⟨rfl,rfl⟩) (.inr ⟨kk,rfl⟩) (.inl ⟨rfl,rfl⟩) (Nat.le_refl _) (Nat.zero_le _) (Nat.le_refl _)
  rw[run_sliceAt_slice w t _ _ _ _ (by rw[elem];exact iW),run_slice_any w t base len cap (by rw[elem];exact iW),hm]
  simp only[Result.andThen_ok,elem,dv SY,sliced]
  rcases hb with rfl|⟨g,rfl⟩
  ·simp
  ·simp[Gs]
 unfold CV at h
 split at h
 ·split at h
  ·rename_i kk k
   split at h
   ·rename_i e ht
    split at h
    ·rename_i hc
     simp only[Option.some.injEq,Prod.mk.injEq]at h;obtain⟨rfl,rfl,rfl⟩:=h
     obtain⟨rfl,hc⟩:=hc
     simp only[V.den]at hx;subst hx
     have e1:lov=none:=by cases lov with|none=>rfl|some u=>exact zR.elim
     have e2:mxv=none:=by cases mxv with|none=>rfl|some u=>exact Jq.elim
     have e3:hiv=some (.int kk 0):=by
      cases hiv with
      |none=>exact C1.elim
      |some u=>simp only[V.den,D.den]at C1;rw[C1]
     subst e1;subst e2;subst e3
     exact ct.same hH (.slice none 0 0) hK (by simp only[Sem.run_bind,bounds (base:=none) (len:=0) (cap:=0) ht hc (.inl rfl),Result.andThen_ok];rfl) rfl
    ·cases h
   ·cases h
  ·cases h
 ·rename_i id ep
  split at h
  ·rename_i kk k
   split at h
   ·rename_i e ij ty sz es ht ho
    split at h
    ·rename_i hc
     simp only[Option.some.injEq,Prod.mk.injEq]at h;obtain⟨rfl,rfl,rfl⟩:=h
     obtain⟨rfl,rfl,hc⟩:=hc
     have e1:lov=none:=by cases lov with|none=>rfl|some u=>exact zR.elim
     have e2:mxv=none:=by cases mxv with|none=>rfl|some u=>exact Jq.elim
     have e3:hiv=some (.int kk 0):=by
      cases hiv with
      |none=>exact C1.elim
      |some u=>simp only[V.den,D.den]at C1;rw[C1]
     subst e1;subst e2;subst e3
     obtain⟨_,dW,vO⟩:=hx
     have hv:=(vO ep et).2 rfl
     subst hv
     have aW:=hH.ok id
     simp only[aN,ho]at aW
     obtain⟨dA,xs,df,nP⟩:=aW
     have YP:fw (ak M φ H) w sz [] []:=⟨[],rfl,aL,rfl⟩
     rcases df.2 with⟨h3,h4⟩|⟨g,cap,cur,h3,h4,h5,h6,h7,h8,h9⟩
     ·have Ax:w.ownsRow 0 ty sz (.slice none 0 0) ([]:List D).length []:=⟨aL, .inl ⟨rfl,rfl⟩⟩
      obtain⟨s1,s2,s3⟩:=mF (m:=fun _=>False) hH dW ho (dB.refl _ _) (fun _ h=>h.elim) (fun b hb=>by simp[de]at hb) Ax YP
      rw[h3]
      exact⟨_,_,_,_,_,_,_,hK,by simp only[Sem.run_bind,bounds (base:=none) (len:=0) (cap:=0) ht hc (.inl rfl),Result.andThen_ok];rfl, .inl rfl,s1,s2,s3,by simp[dW]⟩
     ·have Ax:w.ownsRow 0 ty sz (.slice (some ⟨g,0,none⟩) 0 cap) ([]:List D).length []:=⟨aL, .inr ⟨g,cap,cur,rfl,h4,h5,Nat.zero_le _,h7,h8,aL⟩⟩
      obtain⟨s1,s2,s3⟩:=mF (m:=fun _=>False) hH dW ho (dB.refl _ _) (fun _ h=>h.elim) (fun b hb=> .inl (by rw[h3];exact hb)) Ax YP
      rw[h3]
      exact⟨_,_,_,_,_,_,_,hK,by simp only[Sem.run_bind,bounds (base:=some ⟨g,0,none⟩) ht hc (.inr ⟨g,rfl⟩),Result.andThen_ok];rfl, .inl rfl,s1,s2,s3,by simp[dW]⟩
    ·cases h
   ·cases h
  ·cases h
 ·cases h
theorem Gt(hH:ax M φ H w){t:TypeId}{x:V}{xv:Value}{lo hi mx:Option V}{lov hiv mxv:Option Value}(hx:V.den (ak M φ H) φ H w x xv)
 (zR:match lo,lov with|none,none=>True|some v,some u=>V.den (ak M φ H) φ H w v u|_,_=>False) (C1:match hi,hiv with|none,none=>True|some v,some u=>V.den (ak M φ H) φ H w v u|_,_=>False)
 (Jq:match mx,mxv with|none,none=>True|some v,some u=>V.den (ak M φ H) φ H w v u|_,_=>False) (h:cO (qO P H.o t x lo hi mx) K):
 ct M φ H w fr ((do let z <- Instr.sliceAt t xv lov hiv mxv;pure (Next.value z):Sem Next).run P w) K:=by
 unfold qO at h
 split at h
 ·rename_i r hr
  obtain⟨v,Δ,rd⟩:=r
  exact MW hH hx zR C1 Jq hr h
 ·exact C2 hH hx zR C1 Jq h
theorem Jr(hH:ax M φ H w){ts:Array TypeId}{ty0:TypeId}{x y:V}{xv yv:Value}(hx:V.den (ak M φ H) φ H w x xv)(hy:V.den (ak M φ H) φ H w y yv)(h:cO (wz P H.o ts x y) K):
 ct M φ H w fr ((do let z <- Builtin.copy_ ts ty0 #[xv,yv];pure (Next.value z):Sem Next).run P w) K:=by
 have hg:=c7 h
 clear h
 obtain⟨v,Δ,rd,h,hK⟩:=hg
 unfold wz at h
 split at h
 ·rename_i t t' rR
  have rR:ts=#[t,t']:=by apply Array.ext';simpa using rR
  subst rR
  split at h
  ·rename_i e ht
   split at h
   ·rename_i id off n cs es YQ EJ
    obtain⟨rfl,ho⟩:=AD YQ
    ·split at h
     ·rename_i hc
      obtain⟨c1,c2,c3,c4⟩:=hc
      injection h with h;injection h with e1 e2;injection e2 with e2 e3;subst e1;subst e2;subst e3
      have c3:∀z∈es,z.cells.length=1:=fun z hz=>by simpa using List.all_eq_true.1 c3 z hz
      obtain⟨i,hi⟩:=jx (P:=P) (e:=e) af
      have dA:(P.info? e).map (·.size)=some 1:=by rw[hi];simp[<- bH hi,c1]
      obtain⟨_,dW,hp⟩:=hx
      obtain⟨b,dT,rfl⟩:=hp et
      have ml:id∉y.ids:=fun hm=>by have:=List.all_eq_true.1 c4 id hm;simp at this
      obtain⟨f1,f2,f3,f4,f5⟩:=cG hH y.ids (cE y _ hy)
      have vA:=(f4 id ml).trans ho
      have aW:=f1.ok id
      simp only[aN,vA]at aW
      obtain⟨b',dI,ty,g1,g2,g3,g4⟩:=aW
      rw[dT]at g1;simp at g1;subst g1
      have l2:=V.aB _ _ g3
      simp only[Array.length_toList]at l2
      have MX:(cg H.o y.ids).map (·.1)=y.ids:=by rw[lG];simp[Function.comp_def]
      rcases oF hH hy EJ c3 with⟨rfl,rfl⟩|⟨a,c,evs,rfl,k1,k2,k3,k4⟩
      ·have hr:=run_copy_nil (P:=P) w t t' ty0 e ⟨b,off,none⟩ n n (ba ht) (by rw[dA];rfl)
       have same:H.put (cg H.o y.ids++[(id,ab.row (cs.take off++(([]:List D).take n |>.flatMap D.cells).map .d++cs.drop (off+(([]:List D).take n).length)))])=H.put (cg H.o y.ids):=by
        rw[dK]
        refine tP _ ((f5 id).2 dW) ?_
        rw[vA]
        simp
       refine⟨_,goInt 0,w,φ,_,_,_,hK,by simp only[Sem.run_bind,hr,Result.andThen_ok];rfl, .inl rfl,by rw[same];exact f1,by rw[same];exact f2,by simp[V.den,D.den,goInt],fun j hj=> .inl ?_⟩
       rw[List.map_append,MX]at hj
       simp only[List.map_cons,List.map_nil,List.mem_append,List.mem_singleton]at hj
       rcases hj with hj|rfl
       ·exact cE y _ hy j hj
       ·exact dW
      ·have hlen:evs.length=es.length:=D.aB _ _ k1
       have k1':=D.aP (f2.blocks (M:=M)) _ _ k1
       have CH:D.aD (ak M φ (H.put (cg H.o y.ids))) w (es.take n) (evs.take n):=D.dt n _ _ k1'
       have MY:∀ev∈evs.take n,ev.cells.size=1:=fun ev db=>by
        have:=k2 ev (List.mem_of_mem_take db);omega
       have kV:((evs.take n).flatMap (·.cells.toList)).length=Nat.min es.length n:=by
        rw[cR (sz:=1) _ MY];simp[hlen,Nat.min_comm]
       have pre:∀ (j:Nat) (u:Value),((evs.take n).flatMap (·.cells.toList))[j]? =some u->(evs.flatMap (·.cells.toList))[j]? =some u:=by
        intro j u hj
        have:evs.flatMap (·.cells.toList)=(evs.take n).flatMap (·.cells.toList)++(evs.drop n).flatMap (·.cells.toList):=by rw[<- List.flatMap_append,List.take_append_drop]
        rw[this]
        have ck:j<((evs.take n).flatMap (·.cells.toList)).length:=by
         rcases Nat.lt_or_ge j ((evs.take n).flatMap (·.cells.toList)).length with ck|zQ
         ·exact ck
         ·rw[List.getElem?_eq_none zQ]at hj;cases hj
        rw[List.getElem?_append_left ck];exact hj
       have qA:Flat ((evs.take n).flatMap (·.cells.toList)):=by
        intro u hu
        simp only[List.mem_flatMap]at hu
        obtain⟨ev,h1,h2⟩:=hu
        exact k4 u (by simp only[List.mem_flatMap];exact⟨ev,List.mem_of_mem_take h1,h2⟩)
       have hr:=run_copy_row (P:=P) w t t' ty0 e b off n n a es.length c dI ty (List.flatMap (fun x:Value=>x.cells.toList) (evs.take n)) (ba ht) dA g2 kV (fun j u hj=>k3 j u (pre j u hj)) (by rw[kV];have:Nat.min es.length n<=n:=Nat.min_le_right _ _;omega) qA
       have MT:V.aD (ak M φ (H.put (cg H.o y.ids))) φ (H.put (cg H.o y.ids)) w (((es.take n).flatMap D.cells).map .d) ((evs.take n).flatMap (·.cells.toList)):=by
        have flat:∀ (ds:List D) (us:List Value),D.aD (ak M φ (H.put (cg H.o y.ids))) w ds us->D.aD (ak M φ (H.put (cg H.o y.ids))) w (ds.flatMap D.cells) (us.flatMap (·.cells.toList)):=by
         intro ds
         induction ds with
         |nil=>intro us h;simp[D.aD]at h;subst h;rfl
         |cons d ds ih=>
          intro us h
          obtain⟨u,us,rfl,q1,q2⟩:=h
          simp only[List.flatMap_cons]
          exact D.bp _ _ _ _ (D.eM _ _ q1).1 (ih us q2)
        exact(V.b9 _ _).2 (flat _ _ CH)
       have tS:((evs.take n).flatMap (·.cells.toList)).length=(es.take n).length:=by rw[kV];simp[Nat.min_comm]
       obtain⟨t1,t2⟩:=Ao (cs':=cs.take off++((es.take n).flatMap D.cells).map .d++cs.drop (off+(es.take n).length)) f1 ((f5 id).2 dW) vA dT g2
        (dI.toList.take off++(evs.take n).flatMap (·.cells.toList)++dI.toList.drop (off+((evs.take n).flatMap (·.cells.toList)).length)).toArray (by
        simp only
        rw[tS]
        exact V.bp _ _ _ _ (V.bp _ _ _ _ (V.dt _ _ _ g3) MT) (V.dS _ _ _ g3)) (by
        intro u hu
        simp only[List.mem_append]at hu
        rcases hu with(hu|hu)|hu
        ·exact g4 u (List.mem_of_mem_take hu)
        ·exact qA u hu
        ·exact g4 u (List.mem_of_mem_drop hu))
       refine⟨_,_,_,φ,_,_,_,hK,by simp only[Sem.run_bind,hr,Result.andThen_ok];rfl, .inl rfl,by rw[dK];exact t1,by rw[dK];exact f2.trans t2, ?_,fun j hj=> .inl ?_⟩
       ·simp only[V.den,D.den,goInt,kV]
       ·rw[List.map_append,MX]at hj
        simp only[List.map_cons,List.map_nil,List.mem_append,List.mem_singleton]at hj
        rcases hj with hj|rfl
        ·exact cE y _ hy j hj
        ·exact dW
     ·cases h
   ·cases h
  ·cases h
 ·cases h
theorem x5{t u:TypeId}{f off:Nat}(h:xX P t f=some (off,u)):∃fs fd,P.underlying t=some (.struct fs)/\fs[f]? =some fd/\fd.offset=off/\fd.type=u:=by
 unfold xX at h
 split at h
 ·rename_i fs hu
  split at h
  ·rename_i fd hf
   injection h with h;injection h with h1 h2
   exact⟨fs,fd,hu,hf,h1,h2⟩
  ·cases h
 ·cases h
theorem Gh{t:TypeId}{cs:List V}{off:Nat}{x:V}(h:ew P t cs off=some x){arr:Array Value}(hd:V.aD (ak M φ H) φ H w cs arr.toList)(hf:Flat arr.toList):
 ∃u,(part t arr off).run P w= .ok u w/\V.den (ak M φ H) φ H w x u:=by
 unfold ew at h
 split at h
 ·rename_i ha
  split at h
  ·rename_i hl
   injection h with h;subst h
   obtain⟨i,hi⟩:=qV ha
   refine⟨.agg (arr.extract off (off+P.cellsOf t)), ?_,kU _ _ ?_ ?_⟩
   ·simp only[part,Sem.run_bind,qU ha w,Result.andThen_ok,if_true,dv hi w,Sem.run_pure]
   ·have:=V.dt (P.cellsOf t) _ _ (V.dS off _ _ hd)
    simpa[Array.toList_extract,List.extract]using this
   ·exact Yz
  ·cases h
 ·rename_i ha
  obtain⟨u,hu,MN⟩:=V.dq _ _ _ _ hd h
  refine⟨u, ?_,MN⟩
  have zY:arr[off]? =some u:=by simpa using hu
  simp only[part,Sem.run_bind,oE ha w,Result.andThen_ok,Bool.false_eq_true,if_false,zY,Sem.run_pure]
 ·cases h
theorem Gu(hH:ax M φ H w){t:TypeId}{x:V}{xv:Value}{f:Nat}(hx:V.den (ak M φ H) φ H w x xv)(h:cO ((tL P t x f).map fun v=>(v,[],[])) K):
 ct M φ H w fr ((do let z <- Instr.field t xv f;pure (Next.value z):Sem Next).run P w) K:=by
 have hg:=c7 h
 clear h
 obtain⟨v,Δ,rd,h,hK⟩:=hg
 simp only[Option.map_eq_some_iff,Prod.mk.injEq]at h
 have hg:=h
 clear h
 obtain⟨v',h,rfl,rfl,rfl⟩:=hg
 unfold tL at h
 split at h
 ·rename_i off u hf
  obtain⟨fs,fd,hu,zN,rfl,rfl⟩:=x5 hf
  have fin:∀ {arr:Array Value} {val:Value},(part fd.type arr fd.offset).run P w= .ok val w->V.den (ak M φ H) φ H w v' val->ct M φ H w fr ((do let z <- Instr.field t (.agg arr) f;pure (Next.value z):Sem Next).run P w) K:=by
   intro arr val r1 r2
   refine ct.same hH val hK ?_ r2
   simp[Instr.field,run_underlying hu,zN,asAgg,r1]
  split at h
  ·rename_i cs
   exact Yl
  ·rename_i cs
   exact Pr
  ·cases h
 ·cases h
theorem Gv(s:ByteArray)(n:Nat):s[n]? =s.data.toList[n]? :=by
 rw[getElem?_def]
 split
 ·rename_i h
  have h':n<s.data.toList.length:=by simpa using h
  rw[List.getElem?_eq_getElem h']
  rfl
 ·rename_i h
  have h':s.data.toList.length<=n:=by
   have: ¬n<s.data.size:=h
   simpa using this
  rw[List.getElem?_eq_none h']
theorem Gw(hH:ax M φ H w){t:TypeId}{x i:V}{xv iv:Value}(hx:V.den (ak M φ H) φ H w x xv)(hi:V.den (ak M φ H) φ H w i iv)(h:cO ((tM P t x i).map fun v=>(v,[],[])) K):
 ct M φ H w fr ((do let z <- Instr.index t xv iv;pure (Next.value z):Sem Next).run P w) K:=by
 have hg:=c7 h
 clear h
 obtain⟨v,Δ,rd,h,hK⟩:=hg
 simp only[Option.map_eq_some_iff,Prod.mk.injEq]at h
 have hg:=h
 clear h
 obtain⟨v',h,rfl,rfl,rfl⟩:=hg
 unfold tM at h
 split at h
 ·rename_i k i
  simp only[V.den,D.den]at hi
  subst hi
  split at h
  ·rename_i h0
   split at h
   ·rename_i hu
    split at h
    ·rename_i l
     split at h
     ·rename_i b hb
      injection h with h;subst h
      obtain⟨s,rfl,rfl⟩:=hx
      refine ct.same hH (.int .u8 b.toNat) hK ?_ rfl
      have ML:s[i.toNat]? =some b:=by rw[Gv];exact hb
      simp[Instr.index,asIntOf,run_underlying hu,h0,ML]
     ·cases h
    ·cases h
   ·rename_i n e hu
    split at h
    ·rename_i hn
     obtain⟨h1,h2⟩:=hn
     obtain⟨ie,Js⟩:=Option.isSome_iff_exists.1 h2
     have hc:0<=i/\i<(n:Int):=⟨h0,h1⟩
     have fin:∀ {arr:Array Value} {val:Value},(part e arr (i.toNat*P.cellsOf e)).run P w= .ok val w->V.den (ak M φ H) φ H w v' val->ct M φ H w fr ((do let z <- Instr.index t (.agg arr) (.int k i);pure (Next.value z):Sem Next).run P w) K:=by
      intro arr val r1 r2
      refine ct.same hH val hK ?_ r2
      simp[Instr.index,asIntOf,run_underlying hu,hc,dv Js,r1]
     split at h
     ·rename_i cs
      exact Yl
     ·rename_i cs
      exact Pr
     ·cases h
    ·cases h
   ·cases h
  ·cases h
 ·cases h
theorem AE{t:TypeId}(h:CW P t=true):∃d,P.underlying t=some d/\∀ms,d≠ .interface ms:=by
 unfold CW at h
 split at h
 ·cases h
 ·rename_i d hn hd
  exact⟨d,hd,fun ms e=>hn ms e⟩
 ·cases h
theorem qW{t:TypeId}{z:V}(hz:zeroV P t=some z):∃val,(zeroValue t).run P w= .ok val w/\V.den (ak M φ H) φ H w z val:=by
 unfold zeroV at hz
 split at hz
 ·rename_i i hi
  have hr:∀v,i.zero=some v->(zeroValue t).run P w= .ok v w:=fun v hv=>by simp[zeroValue,typeInfo,hi,hv]
  split at hz
  ·rename_i a hv
   split at hz
   ·rename_i hf
    injection hz with hz;subst hz
    have kC:Flat a.toList:=fun u hu=>List.all_eq_true.1 hf u hu
    exact⟨_,hr _ hv,kU _ _ (du _ kC) kC⟩
   ·cases hz
  ·rename_i v _ hv
   split at hz
   ·rename_i h1
    injection hz with hz;subst hz
    exact⟨_,hr _ hv,lD _ h1⟩
   ·cases hz
  ·cases hz
 ·cases hz
theorem C3(hH:ax M φ H w){t xt:TypeId}{ok:Bool}{x:V}{xv:Value}(hx:V.den (ak M φ H) φ H w x xv)(h:cO ((ph P t ok x).map fun v=>(v,[],[])) K):
 ct M φ H w fr ((do let z <- Instr.typeAssert xv xt t ok;pure (Next.value z):Sem Next).run P w) K:=by
 have hg:=c7 h
 clear h
 obtain⟨v,Δ,rd,h,hK⟩:=hg
 simp only[Option.map_eq_some_iff,Prod.mk.injEq]at h
 have hg:=h
 clear h
 obtain⟨v',h,rfl,rfl,rfl⟩:=hg
 unfold ph at h
 split at h
 ·rename_i hp
  obtain⟨d,hd,ml⟩:=AE hp
  split at h
  ·rename_i u y
   obtain⟨val,rfl,hdy⟩:=hx
   split at h
   ·rename_i e
    subst e
    injection h with h
    have hr:(Instr.typeAssert (.iface u val) xt u ok).run P w= .ok (if ok=true then .tuple #[val, .bool true]else val) w:=by
     cases d<;>first|exact absurd rfl (ml _)|(cases ok<;>simp[Instr.typeAssert,run_underlying hd])
    refine ct.same hH _ hK XS ?_
    subst h
    cases ok
    ·exact hdy
    ·exact⟨_,rfl,val,[.bool true],rfl,hdy, .bool true,[],rfl,rfl,rfl⟩
   ·rename_i j9
    split at h
    ·rename_i aW
     simp only[Option.map_eq_some_iff]at h
     obtain⟨z,hz,rfl⟩:=h
     obtain⟨zv,r1,r2⟩:=qW (w:=w) (M:=M) (φ:=φ) (H:=H) hz
     have hr:(Instr.typeAssert (.iface u val) xt t ok).run P w= .ok (.tuple #[zv, .bool false]) w:=by
      cases d<;>first|exact absurd rfl (ml _)|simp[Instr.typeAssert,run_underlying hd,j9,aW,r1]
     exact XI
    ·cases h
  ·simp only[V.den,D.den]at hx
   subst hx
   split at h
   ·rename_i aW
    simp only[Option.map_eq_some_iff]at h
    obtain⟨z,hz,rfl⟩:=h
    obtain⟨zv,r1,r2⟩:=qW (w:=w) (M:=M) (φ:=φ) (H:=H) hz
    have hr:(Instr.typeAssert .nilIface xt t ok).run P w= .ok (.tuple #[zv, .bool false]) w:=by
     cases d<;>first|exact absurd rfl (ml _)|simp[Instr.typeAssert,run_underlying hd,aW,r1]
    exact XI
   ·cases h
  ·cases h
 ·cases h
end
end
end Go.Proofs.YtnkamdiiakdkgaaGreat
