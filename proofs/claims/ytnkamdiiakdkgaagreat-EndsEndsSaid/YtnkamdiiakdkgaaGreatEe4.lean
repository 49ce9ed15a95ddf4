/-
  A PART. Conditions: none.
-/
import Derived.Laws.CopyRow
import Derived.Test.YtnkamdiiakdkgaaGreatEe3
set_option linter.unusedSimpArgs false
set_option linter.unusedVariables false
set_option maxHeartbeats 8000000
namespace Go.Proofs.YtnkamdiiakdkgaaGreat
section
section
variable {P:Program}{M:Nat->Prop}{φ:Place}{H:Hp}{w:World}{fr:Nat}{K:V->List (Nat×aa)->List Nat->Prop}
theorem dO{x:Option gM}(h:dx x K):∃v Δ rd,x=some (v,Δ,rd)/\K v Δ rd:=by
 unfold dx at h;split at h
 ·exact⟨_,_,_,rfl,h⟩
 ·exact h.elim
theorem DE{o:Nat->aa}{x:V}{id off:Nat}(h:qz o x=some (id,off)):x= .ptr id off/\(o id).bF=true:=by
 unfold qz at h
 split at h
 ·split at h
  ·simp only[Option.some.injEq,Prod.mk.injEq]at h;obtain⟨rfl,rfl⟩:=h;exact⟨rfl,by assumption⟩
  ·cases h
 ·cases h
theorem DF{o:Nat->aa}{x:V}{id off n:Nat}{cs:List V}(h:qA o x=some (id,off,n,cs)):(∃c,x= .jo id off n c)/\o id= .row cs:=by
 unfold qA at h
 split at h
 ·split at h
  ·rename_i ho
   simp only[Option.some.injEq,Prod.mk.injEq]at h;obtain⟨rfl,rfl,rfl,rfl⟩:=h;exact⟨⟨_,rfl⟩,ho⟩
  ·cases h
 ·cases h
theorem rF{x:Option V}{val:Option Value}{d n:Nat}(hx:match x,val with|none,none=>True|some v,some u=>V.den (ao M φ H) φ H w v u|_,_=>False)(h:KI x d=some n):
 (x=none/\val=none/\n=d)\/∃k,val=some (.int k n)/\x≠none:=by
 unfold KI at h
 split at h
 ·injection h with h
  left
  cases val with
  |none=>exact⟨rfl,rfl,h.symm⟩
  |some u=>exact hx.elim
 ·rename_i k i
  split at h
  ·injection h with h;subst h
   right
   cases val with
   |none=>exact hx.elim
   |some u=>
    simp only[V.den,D.den]at hx
    refine⟨k, ?_,aJ⟩
    rw[hx,Int.toNat_of_nonneg (by assumption)]
  ·cases h
 ·cases h
theorem IQ{B:Nat->Prop}{es:List D}{base:Option Addr}{len cap l h:Nat}(hd:D.den B w (.sl es) (.slice base len cap))(hl:l<=h)(hh:h<=es.length){m:Nat}(hm:m=cap\/h<=m/\m<=es.length){sz0:Nat}(dU:l=0\/∀y∈es,y.cells.length=sz0):
 D.den B w (.sl ((es.take h).drop l)) (.slice (if m=l then base else base.map (·.add (l*sz0))) (h - l) (m - l)):=by
 obtain⟨b',ajt,aju,he,h1,h2,h3,sz,h4⟩:=hd
 injection he with e1 e2 e3
 subst e1;subst e2;subst e3
 refine⟨_,_,_,rfl,by simp;omega,ae,fun hb=> ?_,sz,fun a ha=> ?_⟩
 ·split at hb
  ·omega
  ·cases base with
   |none=>have:=h3 rfl;omega
   |some a=>simp at hb
 ·have key:∀ (es:List D) (i:Nat) (a:Addr),D.elems B w sz a i es->∀l h,D.elems B w sz a (i+l) ((es.take h).drop l):=by
   intro es
   induction es with
   |nil=>intro i a _ l h;simp[D.elems]
   |cons e es ih=>
    intro i a he l h
    cases h with
    |zero=>simp[D.elems]
    |succ h=>
     cases l with
     |zero=>
      refine⟨he.1, ?_⟩
      simpa using ih (i+1) a he.2 0 h
     |succ l=>
      have:=ih (i+1) a he.2 l h
      rw[show i+1+l=i+(l+1) by omega]at this
      simpa using this
  split at ha
  ·
    rename_i IU
    have ajk:h - l=0:=ae
    have NX:(es.take h).drop l=[]:=List.eq_nil_of_length_eq_zero iA
    rw[NX]
    cases base with
    |none=>cases ha
    |some b=>injection ha with ha;subst ha;exact⟨fun hc=>ae,trivial⟩
  ·cases base with
   |none=>simp at ha
   |some b=>
    simp only[Option.map_some,Option.some.injEq]at ha
    subst ha
    obtain⟨h5,h6⟩:=h4 b rfl
    replace h5:=h5 ae
    refine⟨fun _=>Dv b h5 _, ?_⟩
    have h7:=key es 0 b h6 l h
    rw[Nat.zero_add]at h7
    have shift:∀ (ds:List D) (i:Nat),(∀y∈ds,y.cells.length=sz0\/l=0)->D.elems B w sz b (l+i) ds->D.elems B w sz (b.add (l*sz0)) i ds:=by
     intro ds
     induction ds with
     |nil=>intro i _ _;trivial
     |cons y ds ih=>
      intro i hy hd
      obtain⟨⟨ev,g1,g2,g3⟩,g4⟩:=hd
      have ahr:l*sz0=l*sz:=by
       rcases hy y aJ with hy|hy
       ·have:=D.aE _ _ (D.eR _ _ g3).1
        rw[hy]at this
        have e:ev.cells.size=sz0:=by simpa using this
        rw[<- e,g1]
       ·rw[hy];simp
      refine⟨⟨ev,g1, ?_,g3⟩,ih (i+1) (fun z hz=>hy z (by simp[hz])) (by rw[show l+(i+1)=l+i+1 by omega];exact g4)⟩
      rw[add_add b h5,ahr, <- Nat.add_mul]
      exact g2
    refine shift _ 0 (fun y hy=> ?_) (by simpa using h7)
    rcases dU with dU|dU
    ·exact .inr dU
    ·exact .inl (dU y (List.mem_of_mem_take (List.mem_of_mem_drop hy)))
theorem qC{len cap:Nat}{lo hi mx:Option Value}{l h m:Nat}(Bp:lo=none/\l=0\/∃k,lo=some (.int k l))(Io:hi=none/\h=len/\mx=none\/∃k,hi=some (.int k h))(C3:mx=none/\m=cap\/∃k,mx=some (.int k m))(h1:l<=h)(h2:h<=m)(h3:m<=cap):
 (Instr.sliceBounds true len cap lo hi mx).run P w= .ok (l,h,m) w:=by
 rcases Bp with⟨rfl,rfl⟩|⟨kl,rfl⟩<;>rcases Io with⟨rfl,rfl,rfl⟩|⟨kh,rfl⟩<;>rcases C3 with⟨e,rfl⟩|⟨km,e⟩<;>subst_vars<;>
  first
  |(simp[Instr.sliceBounds,run_sliceBound,h1,h2,h3];done)
  |(cases e;done)
  |(cases e;simp[Instr.sliceBounds,run_sliceBound,h1,h2,h3])
theorem Gz(hH:ay M φ H w){t:TypeId}{x:V}{xv:Value}{lo hi mx:Option V}{lov hiv mxv:Option Value}(hx:V.den (ao M φ H) φ H w x xv)
 (Bp:match lo,lov with|none,none=>True|some v,some u=>V.den (ao M φ H) φ H w v u|_,_=>False) (Io:match hi,hiv with|none,none=>True|some v,some u=>V.den (ao M φ H) φ H w v u|_,_=>False)
 (C3:match mx,mxv with|none,none=>True|some v,some u=>V.den (ao M φ H) φ H w v u|_,_=>False) (h:dx (rn P H.o t x lo hi mx) K):
 da M φ H w fr ((do let z <- Instr.sliceAt t xv lov hiv mxv;pure (Next.value z):Sem Next).run P w) K:=by
 have hg:=dO h
 clear h
 obtain⟨v,Δ,rd,h,hK⟩:=hg
 unfold rn at h
 split at h
 ·rename_i e ht
  have fj:=bd ht
  split at h
  ·rename_i es l IV hl
   split at h
   ·rename_i hh hhh
    split at h
    ·rename_i hc
     obtain⟨c1,c2,c3,c4⟩:=hc
     obtain⟨i,Yo⟩:=Option.isSome_iff_exists.1 c3
     have hD:dS H.o x=some (.sl es):=by
      unfold dA at IV
      split at IV
      ·rename_i es' hD;injection IV with IV;subst IV;exact hD
      ·cases IV
     obtain⟨f1,f2,f3,f4,f5⟩:=cW hH x.ids (b9 x _ hx)
     have hd:=eG f1 x (.sl es) xv f3 hD (V.aS f2 _ _ hx)
     obtain⟨base,len,cap,hxv,hlen,jb,_⟩:=id hd
     subst hxv
     have dU:l=0\/∀y∈es,y.cells.length=P.cellsOf e:=by
      rcases c4 with c4|c4
      ·exact .inl c4
      ·exact .inr fun y hy=>by simpa using List.all_eq_true.1 c4 y hy
     have elem:P.elem t=e:=by simp[Program.elem,fj]
     have fO:∀ {m:Nat},(Instr.sliceBounds true len cap lov hiv mxv).run P w= .ok (l,hh,m) w->
      (Instr.sliceAt t (.slice base len cap) lov hiv mxv).run P w= .ok (.slice (if m=l then base else base.map (·.add (l*P.cellsOf e))) (hh - l) (m - l)) w:=by
      intro m hm
      rw[run_sliceAt_slice w t _ _ _ _ (by rw[elem];exact fj),run_slice_any w t base len cap (by rw[elem];exact fj),hm]
      simp only[Result.andThen_ok,elem,eh Yo,sliced]
     have fin:∀ {val:Value} {v:V},(Instr.sliceAt t (.slice base len cap) lov hiv mxv).run P w= .ok val w->V.den (ao M φ (H.put (bY H.o x.ids))) φ (H.put (bY H.o x.ids)) w v val->K v (bY H.o x.ids) x.ids->
      da M φ H w fr ((do let z <- Instr.sliceAt t (.slice base len cap) lov hiv mxv;pure (Next.value z):Sem Next).run P w) K:=by
      intro val v r1 r2 r3
      exact⟨_,val,w,φ,v,_,_,r3,by simp only[Sem.run_bind,r1,Result.andThen_ok];rfl, .inl rfl,f1,f2,r2,fun id aq=> .inl (by
       have e:(bY H.o x.ids).map (·.1)=x.ids:=by rw[kK];simp[Function.comp_def]
       rw[e]at aq
       exact b9 x _ hx id aq)⟩
     have bl:lov=none/\l=0\/∃k,lov=some (.int k l):=by
      rcases rF Bp hl with⟨_,a,b⟩|⟨k,a,_⟩
      ·exact .inl ⟨a,b⟩
      ·exact .inr ⟨k,a⟩
     split at h
     ·injection h with h;injection h with e1 e2;injection e2 with e2 e3;subst e1;subst e2;subst e3
      have bm:mxv=none:=by
       cases mxv with
       |none=>rfl
       |some u=>exact C3.elim
      subst bm
      have bh:hiv=none/\hh=len/\(none:Option Value)=none\/∃k,hiv=some (.int k hh):=by
       rcases rF Io hhh with⟨_,a,b⟩|⟨k,a,_⟩
       ·exact .inl ⟨a,ae,rfl⟩
       ·exact .inr ⟨k,a⟩
      refine fin (fO (qC (m:=cap) bl bh (.inl ⟨rfl,rfl⟩) c1 ae (Nat.le_refl _))) ?_ hK
      exact IQ hd c1 c2 (.inl rfl) dU
     ·rename_i mv
      split at h
      ·rename_i hv m hm
       split at h
       ·rename_i uE
        injection h with h;injection h with e1 e2;injection e2 with e2 e3;subst e1;subst e2;subst e3
        have bm:∃k,mxv=some (.int k m):=by
         rcases rF C3 hm with⟨a,_⟩|⟨k,a,_⟩
         ·cases a
         ·exact⟨k,a⟩
        have bh:∃k,hiv=some (.int k hh):=by
         rcases rF Io hhh with⟨a,_⟩|⟨k,a,_⟩
         ·cases a
         ·exact⟨k,a⟩
        have hp:=IQ (m:=m) hd c1 c2 (.inr uE) dU
        refine fin (fO (qC (m:=m) bl (.inr bh) (.inr bm) c1 uE.1 ae)) ?_ hK
        split
        ·rename_i e;subst e
         exact⟨hp,_,_,rfl⟩
        ·exact hp
       ·cases h
      ·cases h
    ·cases h
   ·cases h
  ·cases h
 ·cases ha:yZ P t with
  |none=>rw[ha]at h;cases h
  |some p=>
  obtain⟨n,e⟩:=p
  rw[ha]at h
  split at h
  ·rename_i n' e' heq
   have e0:n=n'/\e=e':=by simpa using heq
   obtain⟨rfl,rfl⟩:=e0
   split at h
   ·rename_i id off vk
    obtain⟨rfl,bD⟩:=DE vk
    split at h
    ·rename_i hc
     injection h with h;injection h with e1 e2;injection e2 with e2 e3;subst e1;subst e2;subst e3
     obtain⟨i,Yo⟩:=Option.isSome_iff_exists.1 hc
     have e1:lov=none:=by cases lov with|none=>rfl|some u=>exact Bp.elim
     have e2:hiv=none:=by cases hiv with|none=>rfl|some u=>exact Io.elim
     have e3:mxv=none:=by cases mxv with|none=>rfl|some u=>exact C3.elim
     subst e1;subst e2;subst e3
     obtain⟨g1,g2,g3⟩:=hx
     obtain⟨b,k1,k2⟩:=g3 bD
     subst k2
     have hat:=zM ha
     have elem:P.elem t=e:=by simp[Program.elem,hat]
     have len:P.arrayLen t=n:=by simp[Program.arrayLen,hat]
     refine da.same hH (.slice (some ⟨b,off,none⟩) n n) hK ?_ ⟨rfl,g2,fun _=>⟨b,k1,rfl⟩⟩
     have:=run_sliceAt_array_all (P:=P) w t ⟨b,off,none⟩ (by rw[elem,len];exact hat)
     simp only[Sem.run_bind,this,elem,eh Yo,Result.andThen_ok,slicedAt,len]
     by_cases hn:n=0
     ·subst hn;rfl
     ·simp[hn,Addr.add]
    ·cases h
   ·cases h
  ·cases h
theorem KT(g:Nat):(⟨g,0,none⟩:Addr).add 0=⟨g,0,none⟩:=rfl
theorem cZ{B:Nat->Prop}{w:World}:∀ (es:List D) (vs:List Value) (n:Nat),D.aG B w es vs->D.aG B w (es.take n) (vs.take n)
 |[],vs,n,h=>by
  have h:vs=[]:=h
  subst h;simp only[List.take_nil];rfl
 |e::es,vs,0,h=>by simp only[List.take_zero];rfl
 |e::es,vs,n+1,h=>by
  obtain⟨u,us,rfl,h1,h2⟩:=h
  exact⟨u,us.take n,rfl,h1,cZ es us n h2⟩
theorem zR{sz:Nat}:∀ (evs:List Value) (n:Nat),(∀ev∈evs,ev.cells.size=sz)->(evs.flatMap (·.cells.toList)).take (n*sz)=(evs.take n).flatMap (·.cells.toList)
 |[],n,_=>aJ
 |e::evs,0,_=>aJ
 |e::evs,n+1,h=>by
  have he:=h e aJ
  have hl:e.cells.toList.length=sz:=by simpa using he
  rw[List.flatMap_cons,List.take_succ_cons,List.flatMap_cons,Nat.succ_mul,Nat.add_comm,List.take_append,hl,show sz+n*sz - sz=n*sz by omega,List.take_of_length_le (by omega),zR evs n fun ev dF=>h ev (by simp[dF])]
theorem eY.take {B:Nat->Prop}{w:World}{sz:Nat}{es:List D}{xs:List Value}(h:eY B w sz es xs)(n:Nat):eY B w sz (es.take n) (xs.take (n*sz)):=by
 obtain⟨evs,rfl,h2,h3⟩:=h
 exact⟨evs.take n,zR evs n h2,fun ev dF=>h2 ev (List.mem_of_mem_take dF),cZ es evs n h3⟩
theorem RT(hH:ay M φ H w){t:TypeId}{x:V}{xv:Value}{lo hi mx:Option V}{lov hiv mxv:Option Value}(hx:V.den (ao M φ H) φ H w x xv)
 (Bp:match lo,lov with|none,none=>True|some v,some u=>V.den (ao M φ H) φ H w v u|_,_=>False) (Io:match hi,hiv with|none,none=>True|some v,some u=>V.den (ao M φ H) φ H w v u|_,_=>False)
 (C3:match mx,mxv with|none,none=>True|some v,some u=>V.den (ao M φ H) φ H w v u|_,_=>False) {v:V} {Δ:List (Nat×aa)} {rd:List Nat} (h:Gu P H.o t x lo hi mx=some (v,Δ,rd)) (hK:K v Δ rd):
 da M φ H w fr ((do let z <- Instr.sliceAt t xv lov hiv mxv;pure (Next.value z):Sem Next).run P w) K:=by
 have IW:∀ {kk:IntKind} {e:TypeId} {base:Option Addr} {len cap n:Nat},bR P t=some e->(P.info? e).isSome=true->n<=cap->base=none\/(∃g,base=some ⟨g,0,none⟩)->
  (Instr.sliceAt t (.slice base len cap) none (some (.int kk n)) none).run P w= .ok (.slice base n cap) w:=by
  intro kk e base len cap n ht hi hn hb
  obtain⟨i,Yo⟩:=Option.isSome_iff_exists.1 hi
  have fj:=bd ht
  have elem:P.elem t=e:=by simp[Program.elem,fj]
  have hm:=qC (P:=P) (w:=w) (len:=len) (cap:=cap) (lo:=none) (hi:=some (.int kk n)) (mx:=none) (l:=0) (h:=n) (m:=cap) (.inl ⟨rfl,rfl⟩) (.inr ⟨kk,rfl⟩) (.inl ⟨rfl,rfl⟩) (Nat.zero_le _) hn (Nat.le_refl _)
  rw[run_sliceAt_slice w t _ _ _ _ (by rw[elem];exact fj),run_slice_any w t base len cap (by rw[elem];exact fj),hm]
  simp only[Result.andThen_ok,elem,eh Yo,sliced]
  rcases hb with rfl|⟨g,rfl⟩
  ·simp
  ·simp[KT]
 have bounds:∀ {kk:IntKind} {e:TypeId} {base:Option Addr} {len cap:Nat},bR P t=some e->(P.info? e).isSome=true->base=none\/(∃g,base=some ⟨g,0,none⟩)->
  (Instr.sliceAt t (.slice base len cap) none (some (.int kk 0)) none).run P w= .ok (.slice base 0 cap) w:=fun ht hi hb=>IW (n:=0) ht hi (Nat.zero_le _) hb
 unfold Gu at h
 split at h
 ·split at h
  ·rename_i kk k
   split at h
   ·rename_i e ht
    split at h
    ·rename_i hc
     simp only[Option.some.injEq,Prod.mk.injEq]at h;obtain⟨rfl,rfl,rfl⟩:=h
     obtain⟨rfl,hc⟩:=hc
     simp only[V.den]at hx;subst hx
     have e1:lov=none:=by cases lov with|none=>rfl|some u=>exact Bp.elim
     have e2:mxv=none:=by cases mxv with|none=>rfl|some u=>exact C3.elim
     have e3:hiv=some (.int kk 0):=by
      cases hiv with
      |none=>exact Io.elim
      |some u=>exact Ni
     subst e1;subst e2;subst e3
     exact da.same hH (.slice none 0 0) hK (by simp only[Sem.run_bind,bounds (base:=none) (len:=0) (cap:=0) ht hc (.inl rfl),Result.andThen_ok];rfl) rfl
    ·cases h
   ·cases h
  ·cases h
 ·rename_i id ep
  split at h
  ·rename_i kk k
   split at h
   ·rename_i e fq ty sz es ht ho
    split at h
    ·rename_i hc
     simp only[Option.some.injEq,Prod.mk.injEq]at h;obtain⟨rfl,rfl,rfl⟩:=h
     obtain⟨rfl,rfl,hc⟩:=hc
     have e1:lov=none:=by cases lov with|none=>rfl|some u=>exact Bp.elim
     have e2:mxv=none:=by cases mxv with|none=>rfl|some u=>exact C3.elim
     have e3:hiv=some (.int kk 0):=by
      cases hiv with
      |none=>exact Io.elim
      |some u=>exact Ni
     subst e1;subst e2;subst e3
     obtain⟨_,dg,wK⟩:=hx
     have hv:=(wK ep eL).2 rfl
     subst hv
     have bp:=hH.ok id
     simp only[aO,ho]at bp
     obtain⟨dU,xs,dI,nP⟩:=bp
     have adE:eY (ao M φ H) w sz [] []:=⟨[],rfl,aJ,rfl⟩
     rcases dI.2 with⟨h3,h4⟩|⟨g,cap,cur,h3,h4,h5,h6,h7,h8,h9⟩
     ·have wQ:w.ownsRow 0 ty sz (.slice none 0 0) ([]:List D).length []:=⟨aJ, .inl ⟨rfl,rfl⟩⟩
      obtain⟨s1,s2,s3⟩:=mu (m:=fun _=>False) hH dg ho (ed.refl _ _) (fun _ h=>h.elim) (fun b hb=>by simp[dG]at hb) wQ adE
      rw[h3]
      exact⟨_,_,_,_,_,_,_,hK,by simp only[Sem.run_bind,bounds (base:=none) (len:=0) (cap:=0) ht hc (.inl rfl),Result.andThen_ok];rfl, .inl rfl,s1,s2,s3,by simp[dg]⟩
     ·have wQ:w.ownsRow 0 ty sz (.slice (some ⟨g,0,none⟩) 0 cap) ([]:List D).length []:=⟨aJ, .inr ⟨g,cap,cur,rfl,h4,h5,Nat.zero_le _,h7,h8,aJ⟩⟩
      obtain⟨s1,s2,s3⟩:=mu (m:=fun _=>False) hH dg ho (ed.refl _ _) (fun _ h=>h.elim) (fun b hb=> .inl (by rw[h3];exact hb)) wQ adE
      rw[h3]
      exact⟨_,_,_,_,_,_,_,hK,by simp only[Sem.run_bind,bounds (base:=some ⟨g,0,none⟩) ht hc (.inr ⟨g,rfl⟩),Result.andThen_ok];rfl, .inl rfl,s1,s2,s3,by simp[dg]⟩
    ·split at h
     ·rename_i hc
      simp only[Option.some.injEq,Prod.mk.injEq]at h;obtain⟨rfl,rfl,rfl⟩:=h
      obtain⟨hk0,oj,rfl,hc⟩:=hc
      obtain⟨n,rfl⟩:∃n:Nat,k=n:=⟨k.toNat,ae⟩
      simp only[Int.toNat_natCast]at oj hK
      have hn0:0<n:=ae
      have e1:lov=none:=by cases lov with|none=>rfl|some u=>exact Bp.elim
      have e2:mxv=none:=by cases mxv with|none=>rfl|some u=>exact C3.elim
      have e3:hiv=some (.int kk n):=by
       cases hiv with
       |none=>exact Io.elim
       |some u=>exact Ni
      subst e1;subst e2;subst e3
      obtain⟨_,dg,wK⟩:=hx
      have hv:=(wK ep eL).2 rfl
      subst hv
      have bp:=hH.ok id
      simp only[aO,ho]at bp
      obtain⟨dU,xs,dI,nP⟩:=bp
      rcases dI.2 with⟨h3,h4⟩|⟨g,cap,cur,h3,h4,h5,h6,h7,h8,h9⟩
      ·omega
      ·have hlx:xs.length=es.length*sz:=dI.1
       have hle:n*sz<=es.length*sz:=Nat.mul_le_mul_right _ oj
       have cS:(es.take n).length=n:=by rw[List.length_take];omega
       have wQ:w.ownsRow 0 ty sz (.slice (some ⟨g,0,none⟩) (es.take n).length cap) (es.take n).length (xs.take (n*sz)):=by
        rw[cS]
        refine⟨by rw[List.length_take];omega, .inr ⟨g,cap,cur,rfl,h4,h5,ae,h7,h8, ?_⟩⟩
        rw[<- h9,List.take_take,Nat.min_eq_left hle]
       obtain⟨s1,s2,s3⟩:=mu (m:=fun _=>False) hH dg ho (ed.refl _ _) (fun _ h=>h.elim) (fun b hb=> .inl (by rw[h3];exact hb)) wQ (nP.take n)
       rw[h3]
       rw[cS]at s1 s2 s3
       exact⟨_,_,_,_,_,_,_,hK,by simp only[Sem.run_bind,IW (base:=some ⟨g,0,none⟩) ht hc (show n<=cap by omega) (.inr ⟨g,rfl⟩),Result.andThen_ok];rfl, .inl rfl,s1,s2,s3,by simp[dg]⟩
     ·cases h
   ·cases h
  ·cases h
 ·cases h
theorem KU(hH:ay M φ H w){t:TypeId}{x:V}{xv:Value}{lo hi mx:Option V}{lov hiv mxv:Option Value}(hx:V.den (ao M φ H) φ H w x xv)
 (Bp:match lo,lov with|none,none=>True|some v,some u=>V.den (ao M φ H) φ H w v u|_,_=>False) (Io:match hi,hiv with|none,none=>True|some v,some u=>V.den (ao M φ H) φ H w v u|_,_=>False)
 (C3:match mx,mxv with|none,none=>True|some v,some u=>V.den (ao M φ H) φ H w v u|_,_=>False) (h:dx (tt P H.o t x lo hi mx) K):
 da M φ H w fr ((do let z <- Instr.sliceAt t xv lov hiv mxv;pure (Next.value z):Sem Next).run P w) K:=by
 unfold tt at h
 split at h
 ·rename_i r hr
  obtain⟨v,Δ,rd⟩:=r
  exact RT hH hx Bp Io C3 hr h
 ·exact Gz hH hx Bp Io C3 h
theorem NY(hH:ay M φ H w){ts:Array TypeId}{ty0:TypeId}{x y:V}{xv yv:Value}(hx:V.den (ao M φ H) φ H w x xv)(hy:V.den (ao M φ H) φ H w y yv)(h:dx (zI P H.o ts x y) K):
 da M φ H w fr ((do let z <- Builtin.copy_ ts ty0 #[xv,yv];pure (Next.value z):Sem Next).run P w) K:=by
 have hg:=dO h
 clear h
 obtain⟨v,Δ,rd,h,hK⟩:=hg
 unfold zI at h
 split at h
 ·rename_i t t' pG
  have pG:ts=#[t,t']:=by apply Array.ext';simpa using pG
  subst pG
  split at h
  ·rename_i e ht
   split at h
   ·rename_i id off n cs es hrs IV
    obtain⟨⟨cp,rfl⟩,ho⟩:=DF hrs
    ·split at h
     ·rename_i hc
      obtain⟨c1,c2,c3,c4⟩:=hc
      injection h with h;injection h with e1 e2;injection e2 with e2 e3;subst e1;subst e2;subst e3
      have c3:∀z∈es,z.cells.length=1:=fun z hz=>by simpa using List.all_eq_true.1 c3 z hz
      obtain⟨i,hi⟩:=kL (P:=P) (e:=e) ae
      have dU:(P.info? e).map (·.size)=some 1:=by rw[hi];simp[<- bM hi,c1]
      obtain⟨_,dg,hp⟩:=hx
      obtain⟨b,dz,rfl⟩:=hp eL
      have me:id∉y.ids:=fun hm=>by have:=List.all_eq_true.1 c4 id hm;simp at this
      obtain⟨f1,f2,f3,f4,f5⟩:=cW hH y.ids (b9 y _ hy)
      have vf:=(f4 id me).trans ho
      have bp:=f1.ok id
      simp only[aO,vf]at bp
      obtain⟨b',dk,ty,g1,g2,g3,g4⟩:=bp
      rw[dz]at g1;simp at g1;subst g1
      have l2:=V.aE _ _ g3
      simp only[Array.length_toList]at l2
      have Bq:(bY H.o y.ids).map (·.1)=y.ids:=by rw[kK];simp[Function.comp_def]
      rcases kM hH hy IV c3 with⟨rfl,rfl⟩|⟨a,c,evs,rfl,k1,k2,k3,k4⟩
      ·have hr:=run_copy_nil (P:=P) w t t' ty0 e ⟨b,off,none⟩ n cp (bd ht) (by rw[dU];rfl)
       have same:H.put (bY H.o y.ids++[(id,aa.row (cs.take off++(([]:List D).take n |>.flatMap D.cells).map .d++cs.drop (off+(([]:List D).take n).length)))])=H.put (bY H.o y.ids):=by
        rw[bW]
        refine wN _ ((f5 id).2 dg) ?_
        rw[vf]
        simp
       refine⟨_,goInt 0,w,φ,_,_,_,hK,by simp only[Sem.run_bind,hr,Result.andThen_ok];rfl, .inl rfl,by rw[same];exact f1,by rw[same];exact f2,by simp[V.den,D.den,goInt],fun j hj=> .inl ?_⟩
       rw[List.map_append,Bq]at hj
       simp only[List.map_cons,List.map_nil,List.mem_append,List.mem_singleton]at hj
       rcases hj with hj|rfl
       ·exact b9 y _ hy j hj
       ·exact dg
      ·have hlen:evs.length=es.length:=D.aE _ _ k1
       have k1':=D.aQ (f2.blocks (M:=M)) _ _ k1
       have zS:D.aG (ao M φ (H.put (bY H.o y.ids))) w (es.take n) (evs.take n):=D.cZ n _ _ k1'
       have RU:∀ev∈evs.take n,ev.cells.size=1:=fun ev dF=>by
        have:=k2 ev (List.mem_of_mem_take dF);omega
       have mY:((evs.take n).flatMap (·.cells.toList)).length=Nat.min es.length n:=by
        rw[cQ (sz:=1) _ RU];simp[hlen,Nat.min_comm]
       have pre:∀ (j:Nat) (u:Value),((evs.take n).flatMap (·.cells.toList))[j]? =some u->(evs.flatMap (·.cells.toList))[j]? =some u:=by
        intro j u hj
        have:evs.flatMap (·.cells.toList)=(evs.take n).flatMap (·.cells.toList)++(evs.drop n).flatMap (·.cells.toList):=by rw[<- List.flatMap_append,List.take_append_drop]
        rw[this]
        have cS:j<((evs.take n).flatMap (·.cells.toList)).length:=by
         rcases Nat.lt_or_ge j ((evs.take n).flatMap (·.cells.toList)).length with cS|vM
         ·exact cS
         ·rw[List.getElem?_eq_none vM]at hj;cases hj
        rw[List.getElem?_append_left cS];exact hj
       have nX:Flat ((evs.take n).flatMap (·.cells.toList)):=by
        intro u hu
        simp only[List.mem_flatMap]at hu
        obtain⟨ev,h1,h2⟩:=hu
        exact k4 u (by simp only[List.mem_flatMap];exact⟨ev,List.mem_of_mem_take h1,h2⟩)
       have hr:=run_copy_row (P:=P) w t t' ty0 e b off n cp a es.length c dk ty (List.flatMap (fun x:Value=>x.cells.toList) (evs.take n)) (bd ht) dU g2 mY (fun j u hj=>k3 j u (pre j u hj)) (by rw[mY];have:Nat.min es.length n<=n:=Nat.min_le_right _ _;omega) nX
       have Gf:V.aG (ao M φ (H.put (bY H.o y.ids))) φ (H.put (bY H.o y.ids)) w (((es.take n).flatMap D.cells).map .d) ((evs.take n).flatMap (·.cells.toList)):=by
        have flat:∀ (ds:List D) (us:List Value),D.aG (ao M φ (H.put (bY H.o y.ids))) w ds us->D.aG (ao M φ (H.put (bY H.o y.ids))) w (ds.flatMap D.cells) (us.flatMap (·.cells.toList)):=by
         intro ds
         induction ds with
         |nil=>intro us h;simp[D.aG]at h;subst h;rfl
         |cons d ds ih=>
          intro us h
          obtain⟨u,us,rfl,q1,q2⟩:=h
          simp only[List.flatMap_cons]
          exact D.bc _ _ _ _ (D.eR _ _ q1).1 (ih us q2)
        exact(V.cA _ _).2 (flat _ _ zS)
       have wS:((evs.take n).flatMap (·.cells.toList)).length=(es.take n).length:=by rw[mY];simp[Nat.min_comm]
       obtain⟨t1,t2⟩:=wL (cs':=cs.take off++((es.take n).flatMap D.cells).map .d++cs.drop (off+(es.take n).length)) f1 ((f5 id).2 dg) vf dz g2
        (dk.toList.take off++(evs.take n).flatMap (·.cells.toList)++dk.toList.drop (off+((evs.take n).flatMap (·.cells.toList)).length)).toArray (by
        simp only
        rw[wS]
        exact V.bc _ _ _ _ (V.bc _ _ _ _ (V.cZ _ _ _ g3) Gf) (V.ee _ _ _ g3)) (by
        intro u hu
        simp only[List.mem_append]at hu
        rcases hu with(hu|hu)|hu
        ·exact Nq
        ·exact nX u hu
        ·exact g4 u (List.mem_of_mem_drop hu))
       refine⟨_,_,_,φ,_,_,_,hK,by simp only[Sem.run_bind,hr,Result.andThen_ok];rfl, .inl rfl,by rw[bW];exact t1,by rw[bW];exact f2.trans t2, ?_,fun j hj=> .inl ?_⟩
       ·simp only[V.den,D.den,goInt,mY]
       ·rw[List.map_append,Bq]at hj
        simp only[List.map_cons,List.map_nil,List.mem_append,List.mem_singleton]at hj
        rcases hj with hj|rfl
        ·exact b9 y _ hy j hj
        ·exact dg
     ·cases h
   ·cases h
  ·cases h
 ·cases h
theorem eT{w':World}(hH:ay M φ H w)(hk:ed (fun _=>False) w w'):ay M φ H w'/\Trans φ H w φ H w':=by
 have ht:Trans φ H w φ H w':=⟨⟨hk.os,hk.tape,hk.output,hk.size,fun k h _=>hk.block k h fun h=>h⟩,fun b hb=> .inl hb,eE.refl _ _⟩
 exact⟨hH.of ht (fun _=>False) (fun _ h=>h.elim) (fun id _=>⟨rfl,rfl,fun hl b hb=>hk.block b (hH.ours b ⟨id,hl,hb⟩).2 fun h=>h⟩) hH.fresh hH.apart (fun b hb=>Nat.lt_of_lt_of_le (hH.ours b hb).2 hk.size),ht⟩
theorem tA:∀ (us:List Value),V.aG (ao M φ H) φ H w (List.replicate us.length .ag) us
 |[]=>rfl
 |u::us=>⟨u,us,rfl,trivial,tA us⟩
theorem tC(w:World)(t ty e ty':TypeId)(i:TypeInfo)(ht:P.underlying t=some (.slice e))(hi:P.info? e=some i)
 (g GA Yp:Nat) (cur:Array Value) (hg:w.heap[g]? =some (.cells cur ty' (0,0)))
 (a:Addr) (m c:Nat) (news:List Value) (hl:news.length=m*i.size) (adF:∀j u,news[j]? =some u->w.cell? (a.add j)=some u) (h1:∀u∈news,u.oneCell'=true)
 (IP:GA+m<=Yp) (wT:GA*i.size+news.length<=cur.size):
 (Builtin.append_ #[t,t] ty #[.slice (some ⟨g,0,none⟩) GA Yp, .slice (some a) m c]).run P w=
  .ok (.slice (some ⟨g,0,none⟩) (GA+m) Yp) (w.setRow g (cur.toList.take (GA*i.size)++news++cur.toList.drop (GA*i.size+news.length)).toArray):=by
 have hf:=run_firstCells_some (P:=P) w i.size m a m c news hl adF
 have fj:=run_storeCells_at P g (GA*i.size) ty' news 0 cur w hg (by simpa using wT) h1
 simp only[Nat.add_zero]at fj
 simp[Builtin.append_,run_underlying ht,sizeOf,typeInfo,hi,Builtin.lenOf,IP,hf,Addr.add_lit,fj]
theorem NZ(hH:ay M φ H w)(c8: ¬H.us fr){ts:Array TypeId}{ty0:TypeId}{x y:V}{xv yv:Value}(hx:V.den (ao M φ H) φ H w x xv)(hy:V.den (ao M φ H) φ H w y yv)
 (h:wF P H.o fr ts x y K):da M φ H w fr ((do let z <- Builtin.append_ ts ty0 #[xv,yv];pure (Next.value z):Sem Next).run P w) K:=by
 unfold wF at h
 split at h
 ·split at h
  ·rename_i t t' d pG Bo
   have pG:ts=#[t,t']:=by apply Array.ext';simpa using pG
   subst pG
   split at h
   ·rename_i e ht
    obtain⟨rfl,et,hz,Yn,ahs,hgr⟩:=h
    obtain⟨zz,hz⟩:=Option.isSome_iff_exists.1 hz
    obtain⟨i,z,q1,q2,q3,q4,_⟩:=gP hz
    have hi:=bM q1
    have UH:=iE q1
    have hx:xv= .slice none 0 0:=hx
    subst hx
    obtain⟨f1,f2,f3,f4,f5⟩:=cW hH y.ids (b9 y _ hy)
    have Bq:(bY H.o y.ids).map (·.1)=y.ids:=by rw[kK];simp[Function.comp_def]
    rcases kM (sz:=P.cellsOf e) hH hy Bo (by simpa using Yn)with⟨_,h0⟩|⟨a,c',evs,rfl,k1,k2,k3,k4⟩
    ·cases h0
    have hlen:(evs.flatMap (·.cells.toList)).length=1*i.size:=by rw[cQ evs k2,D.aE _ _ k1,hi];rfl
    have Gf:V.aG (ao M φ (H.put (bY H.o y.ids))) φ (H.put (bY H.o y.ids)) w (d.cells.map .d) (evs.flatMap (·.cells.toList)):=by
     have k1':=D.aQ (f2.blocks (M:=M)) _ _ k1
     obtain⟨u,us,rfl,p1,p2⟩:=k1'
     have p2:us=[]:=p2
     exact adu
    have hr:=run_append_nil (P:=P) w t ty0 e i z (bd ht) q1 q2 a 1 c' _ hlen (fun j u hj=>k3 j u hj) ae ae Ix
    obtain⟨d1,d2⟩:=eT (w':=w.drew) f1 ⟨rfl,rfl,rfl,Nat.le_refl _,fun _ _ _=>rfl⟩
    have vM:=grownCap_ge w 1 0 e
    have C3:=grownCap_le_maxLen w 1 0 e (by simp[maxLen])
    generalize hG:grownCap w 1 0 e=G at hr vM C3
    obtain⟨u1,u2,u3⟩:=Bm (w:=w.drew) d1 (fr:=fr) (fun hu=>c8 ((f5 fr).1 hu)) (d.cells.map .d++List.replicate ((G - 1)*P.cellsOf e) .ag)
     ((evs.flatMap (·.cells.toList)).toArray++Builtin.zeroCells z.cells (G - 1)) e (by
       have hzl:(Builtin.zeroCells z.cells (G - 1)).toList.length=(G - 1)*P.cellsOf e:=by rw[Array.length_toList,size_zeroCells,q3,hi]
       simp only[Array.toList_append]
       rw[<- hzl]
       exact V.bc _ _ _ _ (V.aQ d2 _ _ Gf) (tA _)) (by
       intro u hu
       simp only[Array.toList_append,List.mem_append]at hu
       rcases hu with hu|hu
       ·exact k4 u hu
       ·simp only[Builtin.zeroCells]at hu
        simp at hu
        obtain⟨j,hj,rfl⟩:=hu
        have h0:0<z.cells.size:=by rw[q3, <- hi];exact et
        have cS:j%z.cells.size<z.cells.size:=Nat.mod_lt _ h0
        rw[getElem!_pos z.cells _ cS]
        exact q4 _ aJ)
    refine⟨_,_,_,_,_,_,_,hgr G vM (by simpa[maxLen]using C3),by rw[show([d]:List D).length=1 from rfl];simp only[Sem.run_bind,hr,Result.andThen_ok];rfl, .inl rfl,by rw[bW];exact u1,by rw[bW];exact f2.trans (d2.trans u2), ?_,fun j hj=> ?_⟩
    ·refine⟨rfl,by rw[bW];simp,fun _=>⟨w.heap.size,aJ,rfl⟩⟩
    ·rw[List.map_append,Bq]at hj
     simp only[List.map_cons,List.map_nil,List.mem_append,List.mem_singleton]at hj
     rcases hj with hj|rfl
     ·exact .inl (b9 y _ hy j hj)
     ·exact .inr rfl
   ·exact h.elim
  ·exact h.elim
 ·rename_i id off n c
  split at h
  ·rename_i cs t t' d ho pG Bo
   have pG:ts=#[t,t']:=by apply Array.ext';simpa using pG
   subst pG
   split at h
   ·rename_i e ht
    obtain⟨rfl,rfl,et,hz,Yn,mY,hnc,me,ajv,ahs,fY,hgr⟩:=h
    obtain⟨zz,hz⟩:=Option.isSome_iff_exists.1 hz
    obtain⟨i,z,q1,q2,q3,q4,_⟩:=gP hz
    have hi:=bM q1
    have UH:=iE q1
    obtain⟨_,dg,hp⟩:=hx
    obtain⟨b,dz,rfl⟩:=hp eL
    have me:id∉y.ids:=fun hm=>by have:=List.all_eq_true.1 me id hm;simp at this
    obtain⟨f1,f2,f3,f4,f5⟩:=cW hH y.ids (b9 y _ hy)
    have vf:=(f4 id me).trans ho
    have bp:=f1.ok id
    simp only[aO,vf]at bp
    obtain⟨b',dk,ty,g1,g2,g3,g4⟩:=bp
    rw[dz]at g1;simp at g1;subst g1
    have l2:=V.aE _ _ g3
    simp only[Array.length_toList]at l2
    have Bq:(bY H.o y.ids).map (·.1)=y.ids:=by rw[kK];simp[Function.comp_def]
    rcases kM (sz:=P.cellsOf e) hH hy Bo (by simpa using Yn)with⟨_,h0⟩|⟨a,c',evs,rfl,k1,k2,k3,k4⟩
    ·cases h0
    have hlen:(evs.flatMap (·.cells.toList)).length=1*i.size:=by rw[cQ evs k2,D.aE _ _ k1,hi];rfl
    have Gf:V.aG (ao M φ (H.put (bY H.o y.ids))) φ (H.put (bY H.o y.ids)) w (d.cells.map .d) (evs.flatMap (·.cells.toList)):=by
     have k1':=D.aQ (f2.blocks (M:=M)) _ _ k1
     obtain⟨u,us,rfl,p1,p2⟩:=k1'
     have p2:us=[]:=p2
     exact adu
    by_cases hn:n<c
    ·have wT:n*i.size+(evs.flatMap (·.cells.toList)).length<=dk.size:=by
      rw[hlen,l2,mY,hi, <- Nat.add_mul]
      exact Nat.mul_le_mul_right _ hn
     have hr:=tC (P:=P) w t ty0 e ty i (bd ht) q1 b n c dk g2 a 1 c' _ hlen (fun j u hj=>k3 j u hj) k4 hn wT
     obtain⟨t1,t2⟩:=wL (cs':=cs.take (n*P.cellsOf e)++d.cells.map .d++cs.drop ((n+1)*P.cellsOf e)) f1 ((f5 id).2 dg) vf dz g2
      (dk.toList.take (n*i.size)++evs.flatMap (·.cells.toList)++dk.toList.drop (n*i.size+(evs.flatMap (·.cells.toList)).length)).toArray (by
       simp only
       rw[hlen, <- hi, <- Nat.add_mul]
       exact V.bc _ _ _ _ (V.bc _ _ _ _ (V.cZ _ _ _ g3) Gf) (V.ee _ _ _ g3)) (by
       intro u hu
       simp only[List.mem_append]at hu
       rcases hu with(hu|hu)|hu
       ·exact Nq
       ·exact k4 u hu
       ·exact g4 u (List.mem_of_mem_drop hu))
     refine⟨_,_,_,φ,_,_,_,fY hn,by rw[show([d]:List D).length=1 from rfl];simp only[Sem.run_bind,hr,Result.andThen_ok];rfl, .inl rfl,by rw[bW];exact t1,by rw[bW];exact f2.trans t2, ?_,fun j hj=> .inl ?_⟩
     ·refine⟨rfl,by rw[bW];simp[(f5 id).2 dg],fun _=>⟨b,dz,rfl⟩⟩
     ·rw[List.map_append,Bq]at hj
      simp only[List.map_cons,List.map_nil,List.mem_append,List.mem_singleton]at hj
      rcases hj with hj|rfl
      ·exact b9 y _ hy j hj
      ·exact dg
    ·have hn:n=c:=ae
     have hold:∀j u,dk.toList[j]? =some u->w.cell? ((⟨b,0,none⟩:Addr).add j)=some u:=fun j u hj=>by
      rw[Addr.add_lit,Nat.zero_add]
      unfold World.cell?
      simp only[g2]
      simpa using hj
     have wP:n+1<=maxLen:=by simp[maxLen];omega
     have hr:=run_append_grow (P:=P) w t ty0 e i z (bd ht) q1 q2 ⟨b,0,none⟩ n c dk.toList (by rw[Array.length_toList,l2,mY,hi,hn]) hold a 1 c' _ hlen (fun j u hj=>k3 j u hj) ae ae
      (growslice_fits ae Ix)
     obtain⟨d1,d2⟩:=eT (w':=w.drew) f1 ⟨rfl,rfl,rfl,Nat.le_refl _,fun _ _ _=>rfl⟩
     have vM:=grownCap_ge w (n+1) c e
     have C3:=grownCap_le_maxLen w (n+1) c e wP
     generalize hG:grownCap w (n+1) c e=G at hr vM C3
     obtain⟨u1,u2,u3⟩:=Bm (w:=w.drew) d1 (fr:=fr) (fun hu=>c8 ((f5 fr).1 hu)) (cs++d.cells.map .d++List.replicate ((G - (n+1))*P.cellsOf e) .ag)
      (dk.toList.toArray++(evs.flatMap (·.cells.toList)).toArray++Builtin.zeroCells z.cells (G - (n+1))) e (by
       have hzl:(Builtin.zeroCells z.cells (G - (n+1))).toList.length=(G - (n+1))*P.cellsOf e:=by rw[Array.length_toList,size_zeroCells,q3,hi]
       simp only[Array.toList_append]
       rw[<- hzl]
       exact V.bc _ _ _ _ (V.bc _ _ _ _ (V.aQ d2 _ _ g3) (V.aQ d2 _ _ Gf)) (tA _)) (by
       intro u hu
       simp only[Array.toList_append,List.mem_append]at hu
       rcases hu with(hu|hu)|hu
       ·exact g4 u hu
       ·exact k4 u hu
       ·simp only[Builtin.zeroCells]at hu
        simp at hu
        obtain⟨j,hj,rfl⟩:=hu
        have h0:0<z.cells.size:=by rw[q3, <- hi];exact et
        have cS:j%z.cells.size<z.cells.size:=Nat.mod_lt _ h0
        rw[getElem!_pos z.cells _ cS]
        exact q4 _ aJ)
     refine⟨_,_,_,_,_,_,_,hgr hn G vM (by simpa[maxLen]using C3),by rw[show([d]:List D).length=1 from rfl];simp only[Sem.run_bind,hr,Result.andThen_ok];rfl, .inl rfl,by rw[bW];exact u1,by rw[bW];exact f2.trans (d2.trans u2), ?_,fun j hj=> ?_⟩
     ·refine⟨rfl,by rw[bW];simp,fun _=>⟨w.heap.size,aJ,rfl⟩⟩
     ·rw[List.map_append,Bq]at hj
      simp only[List.map_cons,List.map_nil,List.mem_append,List.mem_singleton]at hj
      rcases hj with hj|rfl
      ·exact .inl (b9 y _ hy j hj)
      ·exact .inr rfl
   ·exact h.elim
  ·exact h.elim
 ·exact h.elim
theorem Br{t u:TypeId}{f off:Nat}(h:Bk P t f=some (off,u)):∃fs fd,P.underlying t=some (.struct fs)/\fs[f]? =some fd/\fd.offset=off/\fd.type=u:=by
 unfold Bk at h
 split at h
 ·rename_i fs hu
  split at h
  ·rename_i fd hf
   injection h with h;injection h with h1 h2
   exact⟨fs,fd,hu,hf,h1,h2⟩
  ·cases h
 ·cases h
theorem KF{t:TypeId}{cs:List V}{off:Nat}{x:V}(h:fw P t cs off=some x){arr:Array Value}(hd:V.aG (ao M φ H) φ H w cs arr.toList)(hf:Flat arr.toList):
 ∃u,(part t arr off).run P w= .ok u w/\V.den (ao M φ H) φ H w x u:=by
 unfold fw at h
 split at h
 ·rename_i ha
  split at h
  ·rename_i hl
   injection h with h;subst h
   obtain⟨i,hi⟩:=tz ha
   refine⟨.agg (arr.extract off (off+P.cellsOf t)), ?_,mq _ _ ?_ ?_⟩
   ·simp only[part,Sem.run_bind,tx ha w,Result.andThen_ok,if_true,eh hi w,Sem.run_pure]
   ·have:=V.cZ (P.cellsOf t) _ _ (V.ee off _ _ hd)
    simpa[Array.toList_extract,List.extract]using this
   ·exact adt
  ·cases h
 ·rename_i ha
  obtain⟨u,hu,RM⟩:=V.dL _ _ _ _ hd h
  refine⟨u, ?_,RM⟩
  have Dc:arr[off]? =some u:=by simpa using hu
  simp only[part,Sem.run_bind,qB ha w,Result.andThen_ok,Bool.false_eq_true,if_false,Dc,Sem.run_pure]
 ·cases h
theorem KW(hH:ay M φ H w){t:TypeId}{x:V}{xv:Value}{f:Nat}(hx:V.den (ao M φ H) φ H w x xv)(h:dx ((wH P t x f).map fun v=>(v,[],[])) K):
 da M φ H w fr ((do let z <- Instr.field t xv f;pure (Next.value z):Sem Next).run P w) K:=by
 have hg:=dO h
 clear h
 obtain⟨v,Δ,rd,h,hK⟩:=hg
 simp only[Option.map_eq_some_iff,Prod.mk.injEq]at h
 have hg:=h
 clear h
 obtain⟨v',h,rfl,rfl,rfl⟩:=hg
 unfold wH at h
 split at h
 ·rename_i off u hf
  obtain⟨fs,fd,hu,C0,rfl,rfl⟩:=Br hf
  have fin:∀ {arr:Array Value} {val:Value},(part fd.type arr fd.offset).run P w= .ok val w->V.den (ao M φ H) φ H w v' val->da M φ H w fr ((do let z <- Instr.field t (.agg arr) f;pure (Next.value z):Sem Next).run P w) K:=by
   intro arr val r1 r2
   refine da.same hH val hK ?_ r2
   simp[Instr.field,run_underlying hu,C0,asAgg,r1]
  split at h
  ·rename_i cs
   exact adg
  ·rename_i cs
   exact UZ
  ·cases h
 ·cases h
theorem KY(s:ByteArray)(n:Nat):s[n]? =s.data.toList[n]? :=by
 rw[getElem?_def]
 split
 ·rename_i h
  have h':n<s.data.toList.length:=by simpa using h
  rw[List.getElem?_eq_getElem h']
  rfl
 ·rename_i h
  have h':s.data.toList.length<=n:=by
   have: ¬n<s.data.size:=h
   simpa using this
  rw[List.getElem?_eq_none h']
theorem KZ(hH:ay M φ H w){t:TypeId}{x i:V}{xv iv:Value}(hx:V.den (ao M φ H) φ H w x xv)(hi:V.den (ao M φ H) φ H w i iv)(h:dx ((wI P t x i).map fun v=>(v,[],[])) K):
 da M φ H w fr ((do let z <- Instr.index t xv iv;pure (Next.value z):Sem Next).run P w) K:=by
 have hg:=dO h
 clear h
 obtain⟨v,Δ,rd,h,hK⟩:=hg
 simp only[Option.map_eq_some_iff,Prod.mk.injEq]at h
 have hg:=h
 clear h
 obtain⟨v',h,rfl,rfl,rfl⟩:=hg
 unfold wI at h
 split at h
 ·rename_i k i
  simp only[V.den,D.den]at hi
  subst hi
  split at h
  ·rename_i h0
   split at h
   ·rename_i hu
    split at h
    ·rename_i l
     split at h
     ·rename_i b hb
      injection h with h;subst h
      obtain⟨s,rfl,rfl⟩:=hx
      refine da.same hH (.int .u8 b.toNat) hK ?_ rfl
      have RK:s[i.toNat]? =some b:=by rw[KY];exact hb
      simp[Instr.index,asIntOf,run_underlying hu,h0,RK]
     ·cases h
    ·cases h
   ·rename_i n e hu
    split at h
    ·rename_i hn
     obtain⟨h1,h2⟩:=hn
     obtain⟨ie,RV⟩:=Option.isSome_iff_exists.1 h2
     have hc:0<=i/\i<(n:Int):=⟨h0,h1⟩
     have fin:∀ {arr:Array Value} {val:Value},(part e arr (i.toNat*P.cellsOf e)).run P w= .ok val w->V.den (ao M φ H) φ H w v' val->da M φ H w fr ((do let z <- Instr.index t (.agg arr) (.int k i);pure (Next.value z):Sem Next).run P w) K:=by
      intro arr val r1 r2
      refine da.same hH val hK ?_ r2
      simp[Instr.index,asIntOf,run_underlying hu,hc,eh RV,r1]
     split at h
     ·rename_i cs
      exact adg
     ·rename_i cs
      exact UZ
     ·cases h
    ·cases h
   ·cases h
  ·cases h
 ·cases h
theorem DG{t:TypeId}(h:Bl P t=true):∃d,P.underlying t=some d/\∀ms,d≠ .interface ms:=by
 unfold Bl at h
 split at h
 ·cases h
 ·rename_i d hn hd
  exact⟨d,hd,fun ms e=>hn ms e⟩
 ·cases h
theorem tD{t:TypeId}{z:V}(hz:zeroV P t=some z):∃val,(zeroValue t).run P w= .ok val w/\V.den (ao M φ H) φ H w z val:=by
 unfold zeroV at hz
 split at hz
 ·rename_i i hi
  have hr:∀v,i.zero=some v->(zeroValue t).run P w= .ok v w:=fun v hv=>by simp[zeroValue,typeInfo,hi,hv]
  split at hz
  ·rename_i a hv
   split at hz
   ·rename_i hf
    injection hz with hz;subst hz
    have l0:Flat a.toList:=fun u hu=>List.all_eq_true.1 hf u hu
    exact⟨_,hr _ hv,mq _ _ (ef _ l0) l0⟩
   ·cases hz
  ·rename_i v _ hv
   split at hz
   ·rename_i h1
    injection hz with hz;subst hz
    exact⟨_,hr _ hv,m9 _ h1⟩
   ·cases hz
  ·cases hz
 ·cases hz
theorem GC(hH:ay M φ H w){t xt:TypeId}{ok:Bool}{x:V}{xv:Value}(hx:V.den (ao M φ H) φ H w x xv)(h:dx ((rp P t ok x).map fun v=>(v,[],[])) K):
 da M φ H w fr ((do let z <- Instr.typeAssert xv xt t ok;pure (Next.value z):Sem Next).run P w) K:=by
 have hg:=dO h
 clear h
 obtain⟨v,Δ,rd,h,hK⟩:=hg
 simp only[Option.map_eq_some_iff,Prod.mk.injEq]at h
 have hg:=h
 clear h
 obtain⟨v',h,rfl,rfl,rfl⟩:=hg
 unfold rp at h
 split at h
 ·rename_i hp
  obtain⟨d,hd,me⟩:=DG hp
  split at h
  ·rename_i u y
   obtain⟨val,rfl,hdy⟩:=hx
   split at h
   ·rename_i e
    subst e
    injection h with h
    have hr:(Instr.typeAssert (.iface u val) xt u ok).run P w= .ok (if ok=true then .tuple #[val, .bool true]else val) w:=by
     cases d<;>first|exact absurd rfl (me _)|(cases ok<;>simp[Instr.typeAssert,run_underlying hd])
    refine da.same hH _ hK acL ?_
    subst h
    cases ok
    ·exact hdy
    ·exact⟨_,rfl,val,[.bool true],rfl,hdy, .bool true,[],rfl,rfl,rfl⟩
   ·rename_i iz
    split at h
    ·rename_i bp
     simp only[Option.map_eq_some_iff]at h
     obtain⟨z,hz,rfl⟩:=h
     obtain⟨zv,r1,r2⟩:=tD (w:=w) (M:=M) (φ:=φ) (H:=H) hz
     have hr:(Instr.typeAssert (.iface u val) xt t ok).run P w= .ok (.tuple #[zv, .bool false]) w:=by
      cases d<;>first|exact absurd rfl (me _)|simp[Instr.typeAssert,run_underlying hd,iz,bp,r1]
     exact acB
    ·cases h
  ·simp only[V.den,D.den]at hx
   subst hx
   split at h
   ·rename_i bp
    simp only[Option.map_eq_some_iff]at h
    obtain⟨z,hz,rfl⟩:=h
    obtain⟨zv,r1,r2⟩:=tD (w:=w) (M:=M) (φ:=φ) (H:=H) hz
    have hr:(Instr.typeAssert .nilIface xt t ok).run P w= .ok (.tuple #[zv, .bool false]) w:=by
     cases d<;>first|exact absurd rfl (me _)|simp[Instr.typeAssert,run_underlying hd,bp,r1]
    exact acB
   ·cases h
  ·cases h
 ·cases h
end
end
end Go.Proofs.YtnkamdiiakdkgaaGreat
