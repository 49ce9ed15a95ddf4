/-
  A PART OF THE PROOF. Conditions: none.
-/
import Derived.ChangeKeysEq
import Derived.Laws.CopyRow
import Derived.Test.YtpkobkdgcanmjaaGreatLk2
set_option linter.unusedSimpArgs false
set_option linter.unusedVariables false
namespace Go.Proofs.YtpkobkdgcanmjaaGreat
section
variable {P:Program}{B:Nat->Prop}{w:World}
theorem cV{t:TypeId}{xs:List D}{off:Nat}{x:D}(h:eB P t xs off=some x){arr:Array Value}(hd:D.ak B w xs arr.toList)(hf:Flat arr.toList):
 ∃u,(∀w',(part t arr off).run P w'= .ok u w')/\D.den B w x u:=by
 unfold eB at h
 split at h
 ·rename_i ha
  split at h
  ·rename_i hl
   injection h with h;subst h
   obtain⟨i,hi⟩:=jA ha
   refine⟨.agg (arr.extract off (off+P.cellsOf t)),fun w'=> ?_,_,rfl, ?_, ?_⟩
   ·simp only[part,Sem.run_bind,jz ha w',Result.andThen_ok,if_true,b5 hi w',Sem.run_pure]
   ·have:=D.bP (P.cellsOf t) _ _ (D.b9 off _ _ hd)
    simpa[Array.toList_extract,List.extract]using this
   ·intro u hu
    simp only[Array.toList_extract,List.extract]at hu
    exact hf u (List.mem_of_mem_drop (List.mem_of_mem_take hu))
  ·cases h
 ·rename_i ha
  obtain⟨u,hu,vb⟩:=D.b4 _ _ _ _ hd h
  refine⟨u,fun w'=> ?_,vb⟩
  have nn:arr[off]? =some u:=by simpa using hu
  simp only[part,Sem.run_bind,hG ha w',Result.andThen_ok,Bool.false_eq_true,if_false,nn,Sem.run_pure]
 ·cases h
theorem mC{a b:Option Bool}{r:Bool}(h:u5 a b=some r):∃x y,a=some x/\b=some y/\r=(x&&y):=by
 unfold u5 at h
 split at h
 ·injection h with h;exact⟨_,_,rfl,rfl,h.symm⟩
 ·cases h
def FR(P:Program)(m:Nat)(t:TypeId)(x y:D)(r:Bool):Prop:=
 ∀ (B:Nat->Prop) (w:World) (u v:Value),D.den B w x u->D.den B w y v->(Op.equalIn m t u v).run P w= .ok r w
theorem iQ{d m:Nat}(IH:∀t x y r,mc P d t x y=some r->FR P m t x y r){xs ys:List D}{aP bs:Array Value}(ha:D.ak B w xs aP.toList)(pY:Flat aP.toList)(hb:D.ak B w ys bs.toList)(vi:Flat bs.toList):
 ∀ (fs:List Field) (r:Bool),(∀f∈fs,f.name≠ "_")->qK (fun u off=>zB (mc P d u) (eB P u xs off) (eB P u ys off)) (fs.map fun f=>(f.type,f.offset))=some r->
   (Op.eqFields m aP bs fs).run P w= .ok r w
 |[],r,_,h=>by simp[qK]at h;subst h;simp[Op.eqFields]
 |f::fs,r,hn,h=>by
  obtain⟨x,y,h1,h2,rfl⟩:=mC h
  simp only[zB]at h1
  split at h1
  ·rename_i p q hp hq
   obtain⟨u,k1,k2⟩:=cV hp ha pY
   obtain⟨v,k3,k4⟩:=cV hq hb vi
   have h3:=IH _ _ _ _ h1 B w u v k2 k4
   have h4:=iQ IH ha pY hb vi fs y (fun g hg=>hn g (by simp[hg])) h2
   have iO:=hn f (by simp)
   simp only[Op.eqFields,iO,ne_eq,not_false_eq_true,if_true,Sem.run_bind,k1,k3,h3,Result.andThen_ok]
   cases x
   ·simp
   ·simpa using h4
  ·cases h1
theorem jT{d m:Nat}{e:TypeId}(IH:∀t x y r,mc P d t x y=some r->FR P m t x y r){xs ys:List D}{aP bs:Array Value}(ha:D.ak B w xs aP.toList)(pY:Flat aP.toList)(hb:D.ak B w ys bs.toList)(vi:Flat bs.toList):
 ∀ (n i:Nat) (r:Bool),qL (fun i=>zB (mc P d e) (eB P e xs (i*P.cellsOf e)) (eB P e ys (i*P.cellsOf e))) n i=some r->
   (Op.eqItems m e (P.cellsOf e) aP bs (List.range' i n)).run P w= .ok r w
 |0,i,r,h=>by simp[qL]at h;subst h;simp[Op.eqItems]
 |n+1,i,r,h=>by
  obtain⟨x,y,h1,h2,rfl⟩:=mC h
  simp only[zB]at h1
  split at h1
  ·rename_i p q hp hq
   obtain⟨u,k1,k2⟩:=cV hp ha pY
   obtain⟨v,k3,k4⟩:=cV hq hb vi
   have h3:=IH _ _ _ _ h1 B w u v k2 k4
   have h4:=jT IH ha pY hb vi n (i+1) y h2
   simp only[List.range'_succ,Op.eqItems,Sem.run_bind,k1,k3,h3,Result.andThen_ok]
   cases x
   ·simp
   ·simpa using h4
  ·cases h1
theorem kG:∀ (d:Nat) (t:TypeId) (x y:D) (r:Bool),mc P d t x y=some r->∀m,d<=m->FR P m t x y r
 |0,_,_,_,_,h=>by simp[mc]at h
 |d+1,t,x,y,r,h=>by
  intro m hm B w u v hu hv
  obtain⟨m,rfl⟩:∃k,m=k+1:=⟨m - 1,by omega⟩
  have IH:∀t x y r,mc P d t x y=some r->FR P m t x y r:=fun t x y r h=>kG d t x y r h m (by omega)
  unfold mc at h
  cases hs:dg P t with
  |none=>rw[hs]at h;cases h
  |some sh=>
   rw[hs]at h
   unfold dg at hs
   cases ht:P.underlying t with
   |none=>rw[ht]at hs;cases hs
   |some td=>
    rw[ht]at hs
    cases td<;>simp only[Option.some.injEq,reduceCtorEq]at hs
    case int k0=>
     subst hs
     simp only at h
     split at h
     ·split at h
      ·rename_i e;subst e;injection h with h;subst h
       simp only[D.den]at hu hv;subst hu;subst hv
       exact run_equalIn_int w m t _ _ _ _ ht
      ·cases h
     ·cases h
    case bool=>
     subst hs
     simp only at h
     split at h
     ·injection h with h;subst h
      simp only[D.den]at hu hv;subst hu;subst hv
      exact run_equalIn_bool' w m t _ _ ht
     ·cases h
    case string=>
     subst hs
     simp only at h
     split at h
     ·injection h with h;subst h
      obtain⟨s1,rfl,rfl⟩:=hu
      obtain⟨s2,rfl,rfl⟩:=hv
      rw[run_equalIn_string w m t _ _ ht]
      rw[ByteArray.toList_eq,ByteArray.toList_eq]
     ·cases h
    case struct fs=>
     split at hs
     ·rename_i hc
      injection hs with hs;subst hs
      simp only[Bool.and_eq_true,Bool.not_eq_true',List.all_eq_true,bne_iff_ne]at hc
      simp only at h
      split at h
      ·obtain⟨aP,rfl,ha,pY⟩:=hu
       obtain⟨bs,rfl,hb,vi⟩:=hv
       have JE:P.fieldsOf t=fs:=by simp[Program.fieldsOf,ht]
       rw[run_equalIn_struct w m t aP bs (by rw[JE];exact ht) hc.1,JE]
       exact iQ IH ha pY hb vi _ _ hc.2 h
      ·cases h
     ·cases hs
    case array n e=>
     split at hs
     ·rename_i hc
      injection hs with hs;subst hs
      simp only at h
      split at h
      ·obtain⟨aP,rfl,ha,pY⟩:=hu
       obtain⟨bs,rfl,hb,vi⟩:=hv
       obtain⟨i,hi⟩:=Option.isSome_iff_exists.1 hc
       rw[run_equalIn_array w m aP bs ht hi,List.range_eq_range']
       exact jT IH ha pY hb vi _ _ _ h
      ·cases h
     ·cases hs
theorem tc{t:TypeId}{aP bs:List D}{r:Bool}(h:mc P 100 t (.agg aP) (.agg bs)=some r)(hg:P.eqGuardType P.depth t=false):sS P t (.agg aP) (.agg bs) r:=by
 intro B w u v hu hv
 refine⟨kG 100 t _ _ _ h _ (by decide) B w u v hu hv,fun op a b=> ?_⟩
 obtain⟨aP,rfl,_⟩:=hu
 obtain⟨bs,rfl,_⟩:=hv
 exact run_eqGuard_agg w op t a b aP bs hg
end
end Go.Proofs.YtpkobkdgcanmjaaGreat
namespace Go.Proofs.YtpkobkdgcanmjaaGreat
section
variable {P:Program}{M:Nat->Prop}{φ:Place}{H:Hp}{w:World}{fr:Nat}{K:V->List (Nat×ab)->List Nat->Prop}
theorem bE{x:Option dH}(h:bz x K):∃v Δ rd,x=some (v,Δ,rd)/\K v Δ rd:=by
 unfold bz at h;split at h
 ·exact⟨_,_,_,rfl,h⟩
 ·exact h.elim
theorem oH{o:Nat->ab}{x:V}{id off:Nat}(h:gY o x=some (id,off)):x= .ptr id off/\(o id).aN=true:=by
 unfold gY at h
 split at h
 ·split at h
  ·simp only[Option.some.injEq,Prod.mk.injEq]at h;obtain⟨rfl,rfl⟩:=h;exact⟨rfl,by assumption⟩
  ·cases h
 ·cases h
theorem oI{o:Nat->ab}{x:V}{id off n:Nat}{cs:List V}(h:gZ o x=some (id,off,n,cs)):x= .mb id off n/\o id= .row cs:=by
 unfold gZ at h
 split at h
 ·split at h
  ·rename_i ho
   simp only[Option.some.injEq,Prod.mk.injEq]at h;obtain⟨rfl,rfl,rfl,rfl⟩:=h;exact⟨rfl,ho⟩
  ·cases h
 ·cases h
theorem iR{x:Option V}{val:Option Value}{d n:Nat}(hx:match x,val with|none,none=>True|some v,some u=>V.den (ad M φ H) φ H w v u|_,_=>False)(h:rH x d=some n):
 (x=none/\val=none/\n=d)\/∃k,val=some (.int k n)/\x≠none:=by
 unfold rH at h
 split at h
 ·injection h with h
  left
  cases val with
  |none=>exact⟨rfl,rfl,h.symm⟩
  |some u=>exact hx.elim
 ·rename_i k i
  split at h
  ·injection h with h;subst h
   right
   cases val with
   |none=>exact hx.elim
   |some u=>
    simp only[V.den,D.den]at hx
    refine⟨k, ?_,by simp⟩
    rw[hx,Int.toNat_of_nonneg (by assumption)]
  ·cases h
 ·cases h
theorem qR{B:Nat->Prop}{es:List D}{base:Option Addr}{len cap l h:Nat}(hd:D.den B w (.sl es) (.slice base len cap))(hl:l<=h)(hh:h<=es.length){m:Nat}(hm:m=cap\/h<=m/\m<=es.length){zC:Nat}(cG:l=0\/∀y∈es,y.cells.length=zC):
 D.den B w (.sl ((es.take h).drop l)) (.slice (if m=l then base else base.map (·.add (l*zC))) (h - l) (m - l)):=by
 obtain⟨b',LU,LV,he,h1,h2,h3,sz,h4⟩:=hd
 injection he with e1 e2 e3
 subst e1;subst e2;subst e3
 refine⟨_,_,_,rfl,by simp;omega,by omega,fun hb=> ?_,sz,fun a ha=> ?_⟩
 ·split at hb
  ·omega
  ·cases base with
   |none=>have:=h3 rfl;omega
   |some a=>simp at hb
 ·have key:∀ (es:List D) (i:Nat) (a:Addr),D.elems B w sz a i es->∀l h,D.elems B w sz a (i+l) ((es.take h).drop l):=by
   intro es
   induction es with
   |nil=>intro i a _ l h;simp[D.elems]
   |cons e es ih=>
    intro i a he l h
    cases h with
    |zero=>simp[D.elems]
    |succ h=>
     cases l with
     |zero=>
      refine⟨he.1, ?_⟩
      simpa using ih (i+1) a he.2 0 h
     |succ l=>
      have:=ih (i+1) a he.2 l h
      rw[show i+1+l=i+(l+1) by omega]at this
      simpa using this
  split at ha
  ·
    rename_i vj
    have JF:h - l=0:=by omega
    have Gw:(es.take h).drop l=[]:=List.eq_nil_of_length_eq_zero (by simp;omega)
    rw[Gw]
    cases base with
    |none=>cases ha
    |some b=>injection ha with ha;subst ha;exact⟨fun hc=>by omega,trivial⟩
  ·cases base with
   |none=>simp at ha
   |some b=>
    simp only[Option.map_some,Option.some.injEq]at ha
    subst ha
    obtain⟨h5,h6⟩:=h4 b rfl
    replace h5:=h5 (by omega)
    refine⟨fun _=>oy b h5 _, ?_⟩
    have h7:=key es 0 b h6 l h
    rw[Nat.zero_add]at h7
    have shift:∀ (ds:List D) (i:Nat),(∀y∈ds,y.cells.length=zC\/l=0)->D.elems B w sz b (l+i) ds->D.elems B w sz (b.add (l*zC)) i ds:=by
     intro ds
     induction ds with
     |nil=>intro i _ _;trivial
     |cons y ds ih=>
      intro i hy hd
      obtain⟨⟨ev,g1,g2,g3⟩,g4⟩:=hd
      have Gx:l*zC=l*sz:=by
       rcases hy y (by simp)with hy|hy
       ·have:=D.ah _ _ (D.cy _ _ g3).1
        rw[hy]at this
        have e:ev.cells.size=zC:=by simpa using this
        rw[<- e,g1]
       ·rw[hy];simp
      refine⟨⟨ev,g1, ?_,g3⟩,ih (i+1) (fun z hz=>hy z (by simp[hz])) (by rw[show l+(i+1)=l+i+1 by omega];exact g4)⟩
      rw[add_add b h5,Gx, <- Nat.add_mul]
      exact g2
    refine shift _ 0 (fun y hy=> ?_) (by simpa using h7)
    rcases cG with cG|cG
    ·exact .inr cG
    ·exact .inl (cG y (List.mem_of_mem_take (List.mem_of_mem_drop hy)))
theorem lg{len cap:Nat}{lo hi mx:Option Value}{l h m:Nat}(FT:lo=none/\l=0\/∃k,lo=some (.int k l))(AF:hi=none/\h=len/\mx=none\/∃k,hi=some (.int k h))(AG:mx=none/\m=cap\/∃k,mx=some (.int k m))(h1:l<=h)(h2:h<=m)(h3:m<=cap):
 (Instr.sliceBounds true len cap lo hi mx).run P w= .ok (l,h,m) w:=by
 rcases FT with⟨rfl,rfl⟩|⟨kl,rfl⟩<;>rcases AF with⟨rfl,rfl,rfl⟩|⟨kh,rfl⟩<;>rcases AG with⟨e,rfl⟩|⟨km,e⟩<;>subst_vars<;>
  first
  |(simp[Instr.sliceBounds,run_sliceBound,h1,h2,h3];done)
  |(cases e;done)
  |(cases e;simp[Instr.sliceBounds,run_sliceBound,h1,h2,h3])
theorem rP(hH:af M φ H w){t:TypeId}{x:V}{xv:Value}{lo hi mx:Option V}{lov hiv mxv:Option Value}(hx:V.den (ad M φ H) φ H w x xv)
 (FT:match lo,lov with|none,none=>True|some v,some u=>V.den (ad M φ H) φ H w v u|_,_=>False) (AF:match hi,hiv with|none,none=>True|some v,some u=>V.den (ad M φ H) φ H w v u|_,_=>False)
 (AG:match mx,mxv with|none,none=>True|some v,some u=>V.den (ad M φ H) φ H w v u|_,_=>False) (h:bz (jv P H.o t x lo hi mx) K):
 a9 M φ H w fr ((do let z <- Instr.sliceAt t xv lov hiv mxv;pure (Next.value z):Sem Next).run P w) K:=by
 have hg:=bE h
 clear h
 obtain⟨v,Δ,rd,h,hK⟩:=hg
 unfold jv at h
 split at h
 ·rename_i e ht
  have kp:=aD ht
  split at h
  ·rename_i es l sK hl
   split at h
   ·rename_i hh JG
    split at h
    ·rename_i hc
     obtain⟨c1,c2,c3,c4⟩:=hc
     obtain⟨i,AH⟩:=Option.isSome_iff_exists.1 c3
     have hD:cD H.o x=some (.sl es):=by
      unfold cp at sK
      split at sK
      ·rename_i es' hD;injection sK with sK;subst sK;exact hD
      ·cases sK
     obtain⟨f1,f2,f3,f4,f5⟩:=bN hH x.ids (bS x _ hx)
     have hd:=dh f1 x (.sl es) xv f3 hD (V.au f2 _ _ hx)
     obtain⟨base,len,cap,Gs,hlen,Gy,_⟩:=id hd
     subst Gs
     have cG:l=0\/∀y∈es,y.cells.length=P.cellsOf e:=by
      rcases c4 with c4|c4
      ·exact .inl c4
      ·exact .inr fun y hy=>by simpa using List.all_eq_true.1 c4 y hy
     have elem:P.elem t=e:=by simp[Program.elem,kp]
     have cB:∀ {m:Nat},(Instr.sliceBounds true len cap lov hiv mxv).run P w= .ok (l,hh,m) w->
      (Instr.sliceAt t (.slice base len cap) lov hiv mxv).run P w= .ok (.slice (if m=l then base else base.map (·.add (l*P.cellsOf e))) (hh - l) (m - l)) w:=by
      intro m hm
      rw[run_sliceAt_slice w t _ _ _ _ (by rw[elem];exact kp),run_slice_any w t base len cap (by rw[elem];exact kp),hm]
      simp only[Result.andThen_ok,elem,b5 AH,sliced]
     have fin:∀ {val:Value} {v:V},(Instr.sliceAt t (.slice base len cap) lov hiv mxv).run P w= .ok val w->V.den (ad M φ (H.put (bH H.o x.ids))) φ (H.put (bH H.o x.ids)) w v val->K v (bH H.o x.ids) x.ids->
      a9 M φ H w fr ((do let z <- Instr.sliceAt t (.slice base len cap) lov hiv mxv;pure (Next.value z):Sem Next).run P w) K:=by
      intro val v r1 r2 r3
      exact⟨_,val,w,φ,v,_,_,r3,by simp only[Sem.run_bind,r1,Result.andThen_ok];rfl, .inl rfl,f1,f2,r2,fun id ai=> .inl (by
       have e:(bH H.o x.ids).map (·.1)=x.ids:=by rw[fm];simp[Function.comp_def]
       rw[e]at ai
       exact bS x _ hx id ai)⟩
     have bl:lov=none/\l=0\/∃k,lov=some (.int k l):=by
      rcases iR FT hl with⟨_,a,b⟩|⟨k,a,_⟩
      ·exact .inl ⟨a,b⟩
      ·exact .inr ⟨k,a⟩
     split at h
     ·injection h with h;injection h with e1 e2;injection e2 with e2 e3;subst e1;subst e2;subst e3
      have bm:mxv=none:=by
       cases mxv with
       |none=>rfl
       |some u=>exact AG.elim
      subst bm
      have bh:hiv=none/\hh=len/\(none:Option Value)=none\/∃k,hiv=some (.int k hh):=by
       rcases iR AF JG with⟨_,a,b⟩|⟨k,a,_⟩
       ·exact .inl ⟨a,by omega,rfl⟩
       ·exact .inr ⟨k,a⟩
      refine fin (cB (lg (m:=cap) bl bh (.inl ⟨rfl,rfl⟩) c1 (by omega) (Nat.le_refl _))) ?_ hK
      exact qR hd c1 c2 (.inl rfl) cG
     ·rename_i mv
      split at h
      ·rename_i hv m hm
       split at h
       ·rename_i pN
        injection h with h;injection h with e1 e2;injection e2 with e2 e3;subst e1;subst e2;subst e3
        have bm:∃k,mxv=some (.int k m):=by
         rcases iR AG hm with⟨a,_⟩|⟨k,a,_⟩
         ·cases a
         ·exact⟨k,a⟩
        have bh:∃k,hiv=some (.int k hh):=by
         rcases iR AF JG with⟨a,_⟩|⟨k,a,_⟩
         ·cases a
         ·exact⟨k,a⟩
        have hp:=qR (m:=m) hd c1 c2 (.inr pN) cG
        refine fin (cB (lg (m:=m) bl (.inr bh) (.inr bm) c1 pN.1 (by omega))) ?_ hK
        split
        ·rename_i e;subst e
         exact⟨hp,_,_,rfl⟩
        ·exact hp
       ·cases h
      ·cases h
    ·cases h
   ·cases h
  ·cases h
 ·cases ha:pS P t with
  |none=>rw[ha]at h;cases h
  |some p=>
  obtain⟨n,e⟩:=p
  rw[ha]at h
  split at h
  ·rename_i n' e' heq
   have e0:n=n'/\e=e':=by simpa using heq
   obtain⟨rfl,rfl⟩:=e0
   split at h
   ·rename_i id off kH
    obtain⟨rfl,aM⟩:=oH kH
    split at h
    ·rename_i hc
     injection h with h;injection h with e1 e2;injection e2 with e2 e3;subst e1;subst e2;subst e3
     obtain⟨i,AH⟩:=Option.isSome_iff_exists.1 hc
     have e1:lov=none:=by cases lov with|none=>rfl|some u=>exact FT.elim
     have e2:hiv=none:=by cases hiv with|none=>rfl|some u=>exact AF.elim
     have e3:mxv=none:=by cases mxv with|none=>rfl|some u=>exact AG.elim
     subst e1;subst e2;subst e3
     obtain⟨g1,g2,g3⟩:=hx
     obtain⟨b,k1,k2⟩:=g3 aM
     subst k2
     have Gz:=mz ha
     have elem:P.elem t=e:=by simp[Program.elem,Gz]
     have len:P.arrayLen t=n:=by simp[Program.arrayLen,Gz]
     refine a9.same hH (.slice (some ⟨b,off,none⟩) n n) hK ?_ ⟨rfl,g2,fun _=>⟨b,k1,rfl⟩⟩
     have:=run_sliceAt_array_all (P:=P) w t ⟨b,off,none⟩ (by rw[elem,len];exact Gz)
     simp only[Sem.run_bind,this,elem,b5 AH,Result.andThen_ok,slicedAt,len]
     by_cases hn:n=0
     ·subst hn;rfl
     ·simp[hn,Addr.add]
    ·cases h
   ·cases h
  ·cases h
theorem te(hH:af M φ H w){ts:Array TypeId}{ty0:TypeId}{x y:V}{xv yv:Value}(hx:V.den (ad M φ H) φ H w x xv)(hy:V.den (ad M φ H) φ H w y yv)(h:bz (mu P H.o ts x y) K):
 a9 M φ H w fr ((do let z <- Builtin.copy_ ts ty0 #[xv,yv];pure (Next.value z):Sem Next).run P w) K:=by
 have hg:=bE h
 clear h
 obtain⟨v,Δ,rd,h,hK⟩:=hg
 unfold mu at h
 split at h
 ·rename_i t t' pX
  have pX:ts=#[t,t']:=by apply Array.ext';simpa using pX
  subst pX
  split at h
  ·rename_i e ht
   split at h
   ·rename_i id off n cs es AJ sK
    obtain⟨rfl,ho⟩:=oI AJ
    ·split at h
     ·rename_i hc
      obtain⟨c1,c2,c3,c4⟩:=hc
      injection h with h;injection h with e1 e2;injection e2 with e2 e3;subst e1;subst e2;subst e3
      have c3:∀z∈es,z.cells.length=1:=fun z hz=>by simpa using List.all_eq_true.1 c3 z hz
      obtain⟨i,hi⟩:=ej (P:=P) (e:=e) (by omega)
      have cG:(P.info? e).map (·.size)=some 1:=by rw[hi];simp[<- aS hi,c1]
      obtain⟨_,cl,hp⟩:=hx
      obtain⟨b,bJ,rfl⟩:=hp (by rw[ho];rfl)
      have fN:id∉y.ids:=fun hm=>by have:=List.all_eq_true.1 c4 id hm;simp at this
      obtain⟨f1,f2,f3,f4,f5⟩:=bN hH y.ids (bS y _ hy)
      have iP:=(f4 id fN).trans ho
      have aI:=f1.ok id
      simp only[aw,iP]at aI
      obtain⟨b',cd,ty,g1,g2,g3,g4⟩:=aI
      rw[bJ]at g1;simp at g1;subst g1
      have l2:=V.ah _ _ g3
      simp only[Array.length_toList]at l2
      have vk:(bH H.o y.ids).map (·.1)=y.ids:=by rw[fm];simp[Function.comp_def]
      rcases hO hH hy sK c3 with⟨rfl,rfl⟩|⟨a,c,evs,rfl,k1,k2,k3,k4⟩
      ·have hr:=run_copy_nil (P:=P) w t t' ty0 e ⟨b,off,none⟩ n n (aD ht) (by rw[cG];rfl)
       have same:H.put (bH H.o y.ids++[(id,ab.row (cs.take off++(([]:List D).take n |>.flatMap D.cells).map .d++cs.drop (off+(([]:List D).take n).length)))])=H.put (bH H.o y.ids):=by
        rw[bW]
        refine la _ ((f5 id).2 cl) ?_
        rw[iP]
        simp
       refine⟨_,goInt 0,w,φ,_,_,_,hK,by simp only[Sem.run_bind,hr,Result.andThen_ok];rfl, .inl rfl,by rw[same];exact f1,by rw[same];exact f2,by simp[V.den,D.den,goInt],fun j hj=> .inl ?_⟩
       rw[List.map_append,vk]at hj
       simp only[List.map_cons,List.map_nil,List.mem_append,List.mem_singleton]at hj
       rcases hj with hj|rfl
       ·exact bS y _ hy j hj
       ·exact cl
      ·have hlen:evs.length=es.length:=D.ah _ _ k1
       have LW:=D.ax (f2.blocks (M:=M)) _ _ k1
       have pO:D.ak (ad M φ (H.put (bH H.o y.ids))) w (es.take n) (evs.take n):=D.bP n _ _ LW
       have vl:∀ev∈evs.take n,ev.cells.size=1:=fun ev bT=>by
        have:=k2 ev (List.mem_of_mem_take bT);omega
       have kq:((evs.take n).flatMap (·.cells.toList)).length=Nat.min es.length n:=by
        rw[bn (sz:=1) _ vl];simp[hlen,Nat.min_comm]
       have pre:∀ (j:Nat) (u:Value),((evs.take n).flatMap (·.cells.toList))[j]? =some u->(evs.flatMap (·.cells.toList))[j]? =some u:=by
        intro j u hj
        have:evs.flatMap (·.cells.toList)=(evs.take n).flatMap (·.cells.toList)++(evs.drop n).flatMap (·.cells.toList):=by rw[<- List.flatMap_append,List.take_append_drop]
        rw[this]
        have cm:j<((evs.take n).flatMap (·.cells.toList)).length:=by
         rcases Nat.lt_or_ge j ((evs.take n).flatMap (·.cells.toList)).length with cm|s9
         ·exact cm
         ·rw[List.getElem?_eq_none s9]at hj;cases hj
        rw[List.getElem?_append_left cm];exact hj
       have im:Flat ((evs.take n).flatMap (·.cells.toList)):=by
        intro u hu
        simp only[List.mem_flatMap]at hu
        obtain⟨ev,h1,h2⟩:=hu
        exact k4 u (by simp only[List.mem_flatMap];exact⟨ev,List.mem_of_mem_take h1,h2⟩)
       have hr:=run_copy_row (P:=P) w t t' ty0 e b off n n a es.length c cd ty (List.flatMap (fun x:Value=>x.cells.toList) (evs.take n)) (aD ht) cG g2 kq (fun j u hj=>k3 j u (pre j u hj)) (by rw[kq];have:Nat.min es.length n<=n:=Nat.min_le_right _ _;omega) im
       have xT:V.ak (ad M φ (H.put (bH H.o y.ids))) φ (H.put (bH H.o y.ids)) w (((es.take n).flatMap D.cells).map .d) ((evs.take n).flatMap (·.cells.toList)):=by
        have flat:∀ (ds:List D) (us:List Value),D.ak (ad M φ (H.put (bH H.o y.ids))) w ds us->D.ak (ad M φ (H.put (bH H.o y.ids))) w (ds.flatMap D.cells) (us.flatMap (·.cells.toList)):=by
         intro ds
         induction ds with
         |nil=>intro us h;simp[D.ak]at h;subst h;rfl
         |cons d ds ih=>
          intro us h
          obtain⟨u,us,rfl,q1,q2⟩:=h
          simp only[List.flatMap_cons]
          exact D.az _ _ _ _ (D.cy _ _ q1).1 (ih us q2)
        exact(V.aX _ _).2 (flat _ _ pO)
       have np:((evs.take n).flatMap (·.cells.toList)).length=(es.take n).length:=by rw[kq];simp[Nat.min_comm]
       obtain⟨t1,t2⟩:=ox (cs':=cs.take off++((es.take n).flatMap D.cells).map .d++cs.drop (off+(es.take n).length)) f1 ((f5 id).2 cl) iP bJ g2
        (cd.toList.take off++(evs.take n).flatMap (·.cells.toList)++cd.toList.drop (off+((evs.take n).flatMap (·.cells.toList)).length)).toArray (by
        simp only
        rw[np]
        exact V.az _ _ _ _ (V.az _ _ _ _ (V.bP _ _ _ g3) xT) (V.b9 _ _ _ g3)) (by
        intro u hu
        simp only[List.mem_append]at hu
        rcases hu with(hu|hu)|hu
        ·exact g4 u (List.mem_of_mem_take hu)
        ·exact im u hu
        ·exact g4 u (List.mem_of_mem_drop hu))
       refine⟨_,_,_,φ,_,_,_,hK,by simp only[Sem.run_bind,hr,Result.andThen_ok];rfl, .inl rfl,by rw[bW];exact t1,by rw[bW];exact f2.trans t2, ?_,fun j hj=> .inl ?_⟩
       ·simp only[V.den,D.den,goInt,kq]
       ·rw[List.map_append,vk]at hj
        simp only[List.map_cons,List.map_nil,List.mem_append,List.mem_singleton]at hj
        rcases hj with hj|rfl
        ·exact bS y _ hy j hj
        ·exact cl
     ·cases h
   ·cases h
  ·cases h
 ·cases h
theorem nq{t u:TypeId}{f off:Nat}(h:nk P t f=some (off,u)):∃fs fd,P.underlying t=some (.struct fs)/\fs[f]? =some fd/\fd.offset=off/\fd.type=u:=by
 unfold nk at h
 split at h
 ·rename_i fs hu
  split at h
  ·rename_i fd hf
   injection h with h;injection h with h1 h2
   exact⟨fs,fd,hu,hf,h1,h2⟩
  ·cases h
 ·cases h
theorem mD{t:TypeId}{cs:List V}{off:Nat}{x:V}(h:cn P t cs off=some x){arr:Array Value}(hd:V.ak (ad M φ H) φ H w cs arr.toList)(hf:Flat arr.toList):
 ∃u,(part t arr off).run P w= .ok u w/\V.den (ad M φ H) φ H w x u:=by
 unfold cn at h
 split at h
 ·rename_i ha
  split at h
  ·rename_i hl
   injection h with h;subst h
   obtain⟨i,hi⟩:=jA ha
   refine⟨.agg (arr.extract off (off+P.cellsOf t)), ?_,e7 _ _ ?_ ?_⟩
   ·simp only[part,Sem.run_bind,jz ha w,Result.andThen_ok,if_true,b5 hi w,Sem.run_pure]
   ·have:=V.bP (P.cellsOf t) _ _ (V.b9 off _ _ hd)
    simpa[Array.toList_extract,List.extract]using this
   ·intro u hu
    simp only[Array.toList_extract,List.extract]at hu
    exact hf u (List.mem_of_mem_drop (List.mem_of_mem_take hu))
  ·cases h
 ·rename_i ha
  obtain⟨u,hu,vb⟩:=V.b4 _ _ _ _ hd h
  refine⟨u, ?_,vb⟩
  have nn:arr[off]? =some u:=by simpa using hu
  simp only[part,Sem.run_bind,hG ha w,Result.andThen_ok,Bool.false_eq_true,if_false,nn,Sem.run_pure]
 ·cases h
theorem rQ(hH:af M φ H w){t:TypeId}{x:V}{xv:Value}{f:Nat}(hx:V.den (ad M φ H) φ H w x xv)(h:bz ((kV P t x f).map fun v=>(v,[],[])) K):
 a9 M φ H w fr ((do let z <- Instr.field t xv f;pure (Next.value z):Sem Next).run P w) K:=by
 have hg:=bE h
 clear h
 obtain⟨v,Δ,rd,h,hK⟩:=hg
 simp only[Option.map_eq_some_iff,Prod.mk.injEq]at h
 have hg:=h
 clear h
 obtain⟨v',h,rfl,rfl,rfl⟩:=hg
 unfold kV at h
 split at h
 ·rename_i off u hf
  obtain⟨fs,fd,hu,LX,rfl,rfl⟩:=nq hf
  have fin:∀ {arr:Array Value} {val:Value},(part fd.type arr fd.offset).run P w= .ok val w->V.den (ad M φ H) φ H w v' val->a9 M φ H w fr ((do let z <- Instr.field t (.agg arr) f;pure (Next.value z):Sem Next).run P w) K:=by
   intro arr val r1 r2
   refine a9.same hH val hK ?_ r2
   simp[Instr.field,run_underlying hu,LX,asAgg,r1]
  split at h
  ·rename_i cs
   simp only[Option.map_eq_some_iff]at h
   obtain⟨d,h1,rfl⟩:=h
   obtain⟨arr,rfl,g1,g2⟩:=hx
   obtain⟨val,r1,r2⟩:=cV h1 g1 g2
   exact fin (r1 w) r2
  ·rename_i cs
   obtain⟨arr,rfl,g1,g2⟩:=hx
   obtain⟨val,r1,r2⟩:=mD h g1 g2
   exact fin r1 r2
  ·cases h
 ·cases h
theorem rR(s:ByteArray)(n:Nat):s[n]? =s.data.toList[n]? :=by
 rw[getElem?_def]
 split
 ·rename_i h
  have h':n<s.data.toList.length:=by simpa using h
  rw[List.getElem?_eq_getElem h']
  rfl
 ·rename_i h
  have h':s.data.toList.length<=n:=by
   have: ¬n<s.data.size:=h
   simpa using this
  rw[List.getElem?_eq_none h']
theorem rS(hH:af M φ H w){t:TypeId}{x i:V}{xv iv:Value}(hx:V.den (ad M φ H) φ H w x xv)(hi:V.den (ad M φ H) φ H w i iv)(h:bz ((kW P t x i).map fun v=>(v,[],[])) K):
 a9 M φ H w fr ((do let z <- Instr.index t xv iv;pure (Next.value z):Sem Next).run P w) K:=by
 have hg:=bE h
 clear h
 obtain⟨v,Δ,rd,h,hK⟩:=hg
 simp only[Option.map_eq_some_iff,Prod.mk.injEq]at h
 have hg:=h
 clear h
 obtain⟨v',h,rfl,rfl,rfl⟩:=hg
 unfold kW at h
 split at h
 ·rename_i k i
  simp only[V.den,D.den]at hi
  subst hi
  split at h
  ·rename_i h0
   split at h
   ·rename_i hu
    split at h
    ·rename_i l
     split at h
     ·rename_i b hb
      injection h with h;subst h
      obtain⟨s,rfl,rfl⟩:=hx
      refine a9.same hH (.int .u8 b.toNat) hK ?_ rfl
      have FN:s[i.toNat]? =some b:=by rw[rR];exact hb
      simp[Instr.index,asIntOf,run_underlying hu,h0,FN]
     ·cases h
    ·cases h
   ·rename_i n e hu
    split at h
    ·rename_i hn
     obtain⟨h1,h2⟩:=hn
     obtain⟨ie,GA⟩:=Option.isSome_iff_exists.1 h2
     have hc:0<=i/\i<(n:Int):=⟨h0,h1⟩
     have fin:∀ {arr:Array Value} {val:Value},(part e arr (i.toNat*P.cellsOf e)).run P w= .ok val w->V.den (ad M φ H) φ H w v' val->a9 M φ H w fr ((do let z <- Instr.index t (.agg arr) (.int k i);pure (Next.value z):Sem Next).run P w) K:=by
      intro arr val r1 r2
      refine a9.same hH val hK ?_ r2
      simp[Instr.index,asIntOf,run_underlying hu,hc,b5 GA,r1]
     split at h
     ·rename_i cs
      simp only[Option.map_eq_some_iff]at h
      obtain⟨d,h1,rfl⟩:=h
      obtain⟨arr,rfl,g1,g2⟩:=hx
      obtain⟨val,r1,r2⟩:=cV h1 g1 g2
      exact fin (r1 w) r2
     ·rename_i cs
      obtain⟨arr,rfl,g1,g2⟩:=hx
      obtain⟨val,r1,r2⟩:=mD h g1 g2
      exact fin r1 r2
     ·cases h
    ·cases h
   ·cases h
  ·cases h
 ·cases h
theorem oJ{t:TypeId}(h:pT P t=true):∃d,P.underlying t=some d/\∀ms,d≠ .interface ms:=by
 unfold pT at h
 split at h
 ·cases h
 ·rename_i d hn hd
  exact⟨d,hd,fun ms e=>hn ms e⟩
 ·cases h
theorem jB{t:TypeId}{z:V}(hz:zeroV P t=some z):∃val,(zeroValue t).run P w= .ok val w/\V.den (ad M φ H) φ H w z val:=by
 unfold zeroV at hz
 split at hz
 ·rename_i i hi
  have hr:∀v,i.zero=some v->(zeroValue t).run P w= .ok v w:=fun v hv=>by simp[zeroValue,typeInfo,hi,hv]
  split at hz
  ·rename_i a hv
   split at hz
   ·rename_i hf
    injection hz with hz;subst hz
    have JH:Flat a.toList:=fun u hu=>List.all_eq_true.1 hf u hu
    exact⟨_,hr _ hv,e7 _ _ (bQ _ JH) JH⟩
   ·cases hz
  ·rename_i v _ hv
   split at hz
   ·rename_i h1
    injection hz with hz;subst hz
    exact⟨_,hr _ hv,fk _ h1⟩
   ·cases hz
  ·cases hz
 ·cases hz
theorem pZ(hH:af M φ H w){t xt:TypeId}{ok:Bool}{x:V}{xv:Value}(hx:V.den (ad M φ H) φ H w x xv)(h:bz ((iB P t ok x).map fun v=>(v,[],[])) K):
 a9 M φ H w fr ((do let z <- Instr.typeAssert xv xt t ok;pure (Next.value z):Sem Next).run P w) K:=by
 have hg:=bE h
 clear h
 obtain⟨v,Δ,rd,h,hK⟩:=hg
 simp only[Option.map_eq_some_iff,Prod.mk.injEq]at h
 have hg:=h
 clear h
 obtain⟨v',h,rfl,rfl,rfl⟩:=hg
 unfold iB at h
 split at h
 ·rename_i hp
  obtain⟨d,hd,fN⟩:=oJ hp
  split at h
  ·rename_i u y
   obtain⟨val,rfl,JI⟩:=hx
   split at h
   ·rename_i e
    subst e
    injection h with h
    have hr:(Instr.typeAssert (.iface u val) xt u ok).run P w= .ok (if ok=true then .tuple #[val, .bool true]else val) w:=by
     cases d<;>first|exact absurd rfl (fN _)|(cases ok<;>simp[Instr.typeAssert,run_underlying hd])
    refine a9.same hH _ hK (by simp only[Sem.run_bind,hr,Result.andThen_ok];rfl) ?_
    subst h
    cases ok
    ·exact JI
    ·exact⟨_,rfl,val,[.bool true],rfl,JI, .bool true,[],rfl,rfl,rfl⟩
   ·rename_i iO
    split at h
    ·rename_i aI
     simp only[Option.map_eq_some_iff]at h
     obtain⟨z,hz,rfl⟩:=h
     obtain⟨zv,r1,r2⟩:=jB (w:=w) (M:=M) (φ:=φ) (H:=H) hz
     have hr:(Instr.typeAssert (.iface u val) xt t ok).run P w= .ok (.tuple #[zv, .bool false]) w:=by
      cases d<;>first|exact absurd rfl (fN _)|simp[Instr.typeAssert,run_underlying hd,iO,aI,r1]
     exact a9.same hH _ hK (by simp only[Sem.run_bind,hr,Result.andThen_ok];rfl) ⟨_,rfl,zv,[.bool false],rfl,r2, .bool false,[],rfl,rfl,rfl⟩
    ·cases h
  ·simp only[V.den,D.den]at hx
   subst hx
   split at h
   ·rename_i aI
    simp only[Option.map_eq_some_iff]at h
    obtain⟨z,hz,rfl⟩:=h
    obtain⟨zv,r1,r2⟩:=jB (w:=w) (M:=M) (φ:=φ) (H:=H) hz
    have hr:(Instr.typeAssert .nilIface xt t ok).run P w= .ok (.tuple #[zv, .bool false]) w:=by
     cases d<;>first|exact absurd rfl (fN _)|simp[Instr.typeAssert,run_underlying hd,aI,r1]
    exact a9.same hH _ hK (by simp only[Sem.run_bind,hr,Result.andThen_ok];rfl) ⟨_,rfl,zv,[.bool false],rfl,r2, .bool false,[],rfl,rfl,rfl⟩
   ·cases h
  ·cases h
 ·cases h
end
end Go.Proofs.YtpkobkdgcanmjaaGreat
