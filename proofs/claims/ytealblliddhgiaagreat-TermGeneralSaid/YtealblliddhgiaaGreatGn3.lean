/-
  A PART OF THE PROOF. Conditions: none.
-/
import Derived.ChangeKeysEq
import Derived.Laws.CopyRow
import Derived.Test.YtealblliddhgiaaGreatGn2
set_option linter.unusedSimpArgs false
set_option linter.unusedVariables false
namespace Go.Proofs.YtealblliddhgiaaGreat
section
variable {P:Program}{B:Nat->Prop}{w:World}
theorem fW{t:TypeId}{xs:List D}{off:Nat}{x:D}(h:jz P t xs off=some x){arr:Array Value}(hd:D.aE B w xs arr.toList)(hf:Flat arr.toList):
 ∃u,(∀w',(part t arr off).run P w'= .ok u w')/\D.den B w x u:=by
 unfold jz at h
 split at h
 ·rename_i ha
  split at h
  ·rename_i hl
   injection h with h;subst h
   obtain⟨i,hi⟩:=qA ha
   refine⟨.agg (arr.extract off (off+P.cellsOf t)),fun w'=> ?_,_,rfl, ?_, ?_⟩
   ·simp only[part,Sem.run_bind,qz ha w',Result.andThen_ok,if_true,eh hi w',Sem.run_pure]
   ·have:=D.dH (P.cellsOf t) _ _ (D.ew off _ _ hd)
    simpa[Array.toList_extract,List.extract]using this
   ·intro u hu
    simp only[Array.toList_extract,List.extract]at hu
    exact hf u (List.mem_of_mem_drop (List.mem_of_mem_take hu))
  ·cases h
 ·rename_i ha
  obtain⟨u,hu,Jo⟩:=D.ef _ _ _ _ hd h
  refine⟨u,fun w'=> ?_,Jo⟩
  have xn:arr[off]? =some u:=by simpa using hu
  simp only[part,Sem.run_bind,oD ha w',Result.andThen_ok,Bool.false_eq_true,if_false,xn,Sem.run_pure]
 ·cases h
theorem vO{a b:Option Bool}{r:Bool}(h:Gm a b=some r):∃x y,a=some x/\b=some y/\r=(x&&y):=by
 unfold Gm at h
 split at h
 ·injection h with h;exact⟨_,_,rfl,rfl,h.symm⟩
 ·cases h
def Vo(P:Program)(m:Nat)(t:TypeId)(x y:D)(r:Bool):Prop:=
 ∀ (B:Nat->Prop) (w:World) (u v:Value),D.den B w x u->D.den B w y v->(Op.equalIn m t u v).run P w= .ok r w
theorem pB{d m:Nat}(IH:∀t x y r,qm P d t x y=some r->Vo P m t x y r){xs ys:List D}{cd bs:Array Value}(ha:D.aE B w xs cd.toList)(BZ:Flat cd.toList)(hb:D.aE B w ys bs.toList)(Jt:Flat bs.toList):
 ∀ (fs:List Field) (r:Bool),(∀f∈fs,f.name≠ "_")->zd (fun u off=>Ng (qm P d u) (jz P u xs off) (jz P u ys off)) (fs.map fun f=>(f.type,f.offset))=some r->
   (Op.eqFields m cd bs fs).run P w= .ok r w
 |[],r,_,h=>by simp[zd]at h;subst h;simp[Op.eqFields]
 |f::fs,r,hn,h=>by
  obtain⟨x,y,h1,h2,rfl⟩:=vO h
  simp only[Ng]at h1
  split at h1
  ·rename_i p q hp hq
   obtain⟨u,k1,k2⟩:=fW hp ha BZ
   obtain⟨v,k3,k4⟩:=fW hq hb Jt
   have h3:=IH _ _ _ _ h1 B w u v k2 k4
   have h4:=pB IH ha BZ hb Jt fs y (fun g hg=>hn g (by simp[hg])) h2
   have gv:=hn f (by simp)
   simp only[Op.eqFields,gv,ne_eq,not_false_eq_true,if_true,Sem.run_bind,k1,k3,h3,Result.andThen_ok]
   cases x
   ·simp
   ·simpa using h4
  ·cases h1
theorem rv{d m:Nat}{e:TypeId}(IH:∀t x y r,qm P d t x y=some r->Vo P m t x y r){xs ys:List D}{cd bs:Array Value}(ha:D.aE B w xs cd.toList)(BZ:Flat cd.toList)(hb:D.aE B w ys bs.toList)(Jt:Flat bs.toList):
 ∀ (n i:Nat) (r:Bool),De (fun i=>Ng (qm P d e) (jz P e xs (i*P.cellsOf e)) (jz P e ys (i*P.cellsOf e))) n i=some r->
   (Op.eqItems m e (P.cellsOf e) cd bs (List.range' i n)).run P w= .ok r w
 |0,i,r,h=>by simp[De]at h;subst h;simp[Op.eqItems]
 |n+1,i,r,h=>by
  obtain⟨x,y,h1,h2,rfl⟩:=vO h
  simp only[Ng]at h1
  split at h1
  ·rename_i p q hp hq
   obtain⟨u,k1,k2⟩:=fW hp ha BZ
   obtain⟨v,k3,k4⟩:=fW hq hb Jt
   have h3:=IH _ _ _ _ h1 B w u v k2 k4
   have h4:=rv IH ha BZ hb Jt n (i+1) y h2
   simp only[List.range'_succ,Op.eqItems,Sem.run_bind,k1,k3,h3,Result.andThen_ok]
   cases x
   ·simp
   ·simpa using h4
  ·cases h1
theorem sC:∀ (d:Nat) (t:TypeId) (x y:D) (r:Bool),qm P d t x y=some r->∀m,d<=m->Vo P m t x y r
 |0,_,_,_,_,h=>by simp[qm]at h
 |d+1,t,x,y,r,h=>by
  intro m hm B w u v hu hv
  obtain⟨m,rfl⟩:∃k,m=k+1:=⟨m - 1,by omega⟩
  have IH:∀t x y r,qm P d t x y=some r->Vo P m t x y r:=fun t x y r h=>sC d t x y r h m (by omega)
  unfold qm at h
  cases hs:bg P t with
  |none=>rw[hs]at h;cases h
  |some sh=>
   rw[hs]at h
   unfold bg at hs
   cases ht:P.underlying t with
   |none=>rw[ht]at hs;cases hs
   |some td=>
    rw[ht]at hs
    cases td<;>simp only[Option.some.injEq,reduceCtorEq]at hs
    case int k0=>
     subst hs
     simp only at h
     split at h
     ·split at h
      ·rename_i e;subst e;injection h with h;subst h
       simp only[D.den]at hu hv;subst hu;subst hv
       exact run_equalIn_int w m t _ _ _ _ ht
      ·cases h
     ·cases h
    case bool=>
     subst hs
     simp only at h
     split at h
     ·injection h with h;subst h
      simp only[D.den]at hu hv;subst hu;subst hv
      exact run_equalIn_bool' w m t _ _ ht
     ·cases h
    case string=>
     subst hs
     simp only at h
     split at h
     ·injection h with h;subst h
      obtain⟨s1,rfl,rfl⟩:=hu
      obtain⟨s2,rfl,rfl⟩:=hv
      rw[run_equalIn_string w m t _ _ ht]
      rw[ByteArray.toList_eq,ByteArray.toList_eq]
     ·cases h
    case struct fs=>
     split at hs
     ·rename_i hc
      injection hs with hs;subst hs
      simp only[Bool.and_eq_true,Bool.not_eq_true',List.all_eq_true,bne_iff_ne]at hc
      simp only at h
      split at h
      ·obtain⟨cd,rfl,ha,BZ⟩:=hu
       obtain⟨bs,rfl,hb,Jt⟩:=hv
       have ZE:P.fieldsOf t=fs:=by simp[Program.fieldsOf,ht]
       rw[run_equalIn_struct w m t cd bs (by rw[ZE];exact ht) hc.1,ZE]
       exact pB IH ha BZ hb Jt _ _ hc.2 h
      ·cases h
     ·cases hs
    case array n e=>
     split at hs
     ·rename_i hc
      injection hs with hs;subst hs
      simp only at h
      split at h
      ·obtain⟨cd,rfl,ha,BZ⟩:=hu
       obtain⟨bs,rfl,hb,Jt⟩:=hv
       obtain⟨i,hi⟩:=Option.isSome_iff_exists.1 hc
       rw[run_equalIn_array w m cd bs ht hi,List.range_eq_range']
       exact rv IH ha BZ hb Jt _ _ _ h
      ·cases h
     ·cases hs
theorem Gz{t:TypeId}{cd bs:List D}{r:Bool}(h:qm P 100 t (.agg cd) (.agg bs)=some r)(hg:P.eqGuardType P.depth t=false):Gj P t (.agg cd) (.agg bs) r:=by
 intro B w u v hu hv
 refine⟨sC 100 t _ _ _ h _ (by decide) B w u v hu hv,fun op a b=> ?_⟩
 obtain⟨cd,rfl,_⟩:=hu
 obtain⟨bs,rfl,_⟩:=hv
 exact run_eqGuard_agg w op t a b cd bs hg
end
end Go.Proofs.YtealblliddhgiaaGreat
namespace Go.Proofs.YtealblliddhgiaaGreat
section
variable {P:Program}{M:Nat->Prop}{φ:Place}{H:Hp}{w:World}{fr:Nat}{K:V->List (Nat×ae)->List Nat->Prop}
theorem dt{x:Option gz}(h:dm x K):∃v Δ rd,x=some (v,Δ,rd)/\K v Δ rd:=by
 unfold dm at h;split at h
 ·exact⟨_,_,_,rfl,h⟩
 ·exact h.elim
theorem zr{o:Nat->ae}{x:V}{id off:Nat}(h:oz o x=some (id,off)):x= .ptr id off/\(o id).bM=true:=by
 unfold oz at h
 split at h
 ·split at h
  ·simp only[Option.some.injEq,Prod.mk.injEq]at h;obtain⟨rfl,rfl⟩:=h;exact⟨rfl,by assumption⟩
  ·cases h
 ·cases h
theorem zt{o:Nat->ae}{x:V}{id off n:Nat}{cs:List V}(h:oA o x=some (id,off,n,cs)):x= .sX id off n/\o id= .row cs:=by
 unfold oA at h
 split at h
 ·split at h
  ·rename_i ho
   simp only[Option.some.injEq,Prod.mk.injEq]at h;obtain⟨rfl,rfl,rfl,rfl⟩:=h;exact⟨rfl,ho⟩
  ·cases h
 ·cases h
theorem pC{x:Option V}{val:Option Value}{d n:Nat}(hx:match x,val with|none,none=>True|some v,some u=>V.den (ao M φ H) φ H w v u|_,_=>False)(h:EF x d=some n):
 (x=none/\val=none/\n=d)\/∃k,val=some (.int k n)/\x≠none:=by
 unfold EF at h
 split at h
 ·injection h with h
  left
  cases val with
  |none=>exact⟨rfl,rfl,h.symm⟩
  |some u=>exact hx.elim
 ·rename_i k i
  split at h
  ·injection h with h;subst h
   right
   cases val with
   |none=>exact hx.elim
   |some u=>
    simp only[V.den,D.den]at hx
    refine⟨k, ?_,by simp⟩
    rw[hx,Int.toNat_of_nonneg (by assumption)]
  ·cases h
 ·cases h
theorem Dl{B:Nat->Prop}{es:List D}{base:Option Addr}{len cap l h:Nat}(hd:D.den B w (.sl es) (.slice base len cap))(hl:l<=h)(hh:h<=es.length){m:Nat}(hm:m=cap\/h<=m/\m<=es.length){PV:Nat}(eg:l=0\/∀y∈es,y.cells.length=PV):
 D.den B w (.sl ((es.take h).drop l)) (.slice (if m=l then base else base.map (·.add (l*PV))) (h - l) (m - l)):=by
 obtain⟨b',aad,aae,he,h1,h2,h3,sz,h4⟩:=hd
 injection he with e1 e2 e3
 subst e1;subst e2;subst e3
 refine⟨_,_,_,rfl,by simp;omega,by omega,fun hb=> ?_,sz,fun a ha=> ?_⟩
 ·split at hb
  ·omega
  ·cases base with
   |none=>have:=h3 rfl;omega
   |some a=>simp at hb
 ·have key:∀ (es:List D) (i:Nat) (a:Addr),D.elems B w sz a i es->∀l h,D.elems B w sz a (i+l) ((es.take h).drop l):=by
   intro es
   induction es with
   |nil=>intro i a _ l h;simp[D.elems]
   |cons e es ih=>
    intro i a he l h
    cases h with
    |zero=>simp[D.elems]
    |succ h=>
     cases l with
     |zero=>
      refine⟨he.1, ?_⟩
      simpa using ih (i+1) a he.2 0 h
     |succ l=>
      have:=ih (i+1) a he.2 l h
      rw[show i+1+l=i+(l+1) by omega]at this
      simpa using this
  split at ha
  ·
    rename_i Ju
    have ZF:h - l=0:=by omega
    have Np:(es.take h).drop l=[]:=List.eq_nil_of_length_eq_zero (by simp;omega)
    rw[Np]
    cases base with
    |none=>cases ha
    |some b=>injection ha with ha;subst ha;exact⟨fun hc=>by omega,trivial⟩
  ·cases base with
   |none=>simp at ha
   |some b=>
    simp only[Option.map_some,Option.some.injEq]at ha
    subst ha
    obtain⟨h5,h6⟩:=h4 b rfl
    replace h5:=h5 (by omega)
    refine⟨fun _=>zi b h5 _, ?_⟩
    have h7:=key es 0 b h6 l h
    rw[Nat.zero_add]at h7
    have shift:∀ (ds:List D) (i:Nat),(∀y∈ds,y.cells.length=PV\/l=0)->D.elems B w sz b (l+i) ds->D.elems B w sz (b.add (l*PV)) i ds:=by
     intro ds
     induction ds with
     |nil=>intro i _ _;trivial
     |cons y ds ih=>
      intro i hy hd
      obtain⟨⟨ev,g1,g2,g3⟩,g4⟩:=hd
      have Wj:l*PV=l*sz:=by
       rcases hy y (by simp)with hy|hy
       ·have:=D.aG _ _ (D.e8 _ _ g3).1
        rw[hy]at this
        have e:ev.cells.size=PV:=by simpa using this
        rw[<- e,g1]
       ·rw[hy];simp
      refine⟨⟨ev,g1, ?_,g3⟩,ih (i+1) (fun z hz=>hy z (by simp[hz])) (by rw[show l+(i+1)=l+i+1 by omega];exact g4)⟩
      rw[add_add b h5,Wj, <- Nat.add_mul]
      exact g2
    refine shift _ 0 (fun y hy=> ?_) (by simpa using h7)
    rcases eg with eg|eg
    ·exact .inr eg
    ·exact .inl (eg y (List.mem_of_mem_take (List.mem_of_mem_drop hy)))
theorem tj{len cap:Nat}{lo hi mx:Option Value}{l h m:Nat}(Vp:lo=none/\l=0\/∃k,lo=some (.int k l))(Ra:hi=none/\h=len/\mx=none\/∃k,hi=some (.int k h))(yU:mx=none/\m=cap\/∃k,mx=some (.int k m))(h1:l<=h)(h2:h<=m)(h3:m<=cap):
 (Instr.sliceBounds true len cap lo hi mx).run P w= .ok (l,h,m) w:=by
 rcases Vp with⟨rfl,rfl⟩|⟨kl,rfl⟩<;>rcases Ra with⟨rfl,rfl,rfl⟩|⟨kh,rfl⟩<;>rcases yU with⟨e,rfl⟩|⟨km,e⟩<;>subst_vars<;>
  first
  |(simp[Instr.sliceBounds,run_sliceBound,h1,h2,h3];done)
  |(cases e;done)
  |(cases e;simp[Instr.sliceBounds,run_sliceBound,h1,h2,h3])
theorem EO(hH:az M φ H w){t:TypeId}{x:V}{xv:Value}{lo hi mx:Option V}{lov hiv mxv:Option Value}(hx:V.den (ao M φ H) φ H w x xv)
 (Vp:match lo,lov with|none,none=>True|some v,some u=>V.den (ao M φ H) φ H w v u|_,_=>False) (Ra:match hi,hiv with|none,none=>True|some v,some u=>V.den (ao M φ H) φ H w v u|_,_=>False)
 (yU:match mx,mxv with|none,none=>True|some v,some u=>V.den (ao M φ H) φ H w v u|_,_=>False) (h:dm (qt P H.o t x lo hi mx) K):
 cJ M φ H w fr ((do let z <- Instr.sliceAt t xv lov hiv mxv;pure (Next.value z):Sem Next).run P w) K:=by
 have hg:=dt h
 clear h
 obtain⟨v,Δ,rd,h,hK⟩:=hg
 unfold qt at h
 split at h
 ·rename_i e ht
  have rY:=bD ht
  split at h
  ·rename_i es l Dm hl
   split at h
   ·rename_i hh ZG
    split at h
    ·rename_i hc
     obtain⟨c1,c2,c3,c4⟩:=hc
     obtain⟨i,Nq⟩:=Option.isSome_iff_exists.1 c3
     have hD:dO H.o x=some (.sl es):=by
      unfold eR at Dm
      split at Dm
      ·rename_i es' hD;injection Dm with Dm;subst Dm;exact hD
      ·cases Dm
     obtain⟨f1,f2,f3,f4,f5⟩:=cT hH x.ids (cN x _ hx)
     have hd:=eI f1 x (.sl es) xv f3 hD (V.aF f2 _ _ hx)
     obtain⟨base,len,cap,EL,hlen,xo,_⟩:=id hd
     subst EL
     have eg:l=0\/∀y∈es,y.cells.length=P.cellsOf e:=by
      rcases c4 with c4|c4
      ·exact .inl c4
      ·exact .inr fun y hy=>by simpa using List.all_eq_true.1 c4 y hy
     have elem:P.elem t=e:=by simp[Program.elem,rY]
     have fg:∀ {m:Nat},(Instr.sliceBounds true len cap lov hiv mxv).run P w= .ok (l,hh,m) w->
      (Instr.sliceAt t (.slice base len cap) lov hiv mxv).run P w= .ok (.slice (if m=l then base else base.map (·.add (l*P.cellsOf e))) (hh - l) (m - l)) w:=by
      intro m hm
      rw[run_sliceAt_slice w t _ _ _ _ (by rw[elem];exact rY),run_slice_any w t base len cap (by rw[elem];exact rY),hm]
      simp only[Result.andThen_ok,elem,eh Nq,sliced]
     have fin:∀ {val:Value} {v:V},(Instr.sliceAt t (.slice base len cap) lov hiv mxv).run P w= .ok val w->V.den (ao M φ (H.put (cQ H.o x.ids))) φ (H.put (cQ H.o x.ids)) w v val->K v (cQ H.o x.ids) x.ids->
      cJ M φ H w fr ((do let z <- Instr.sliceAt t (.slice base len cap) lov hiv mxv;pure (Next.value z):Sem Next).run P w) K:=by
      intro val v r1 r2 r3
      exact⟨_,val,w,φ,v,_,_,r3,by simp only[Sem.run_bind,r1,Result.andThen_ok];rfl, .inl rfl,f1,f2,r2,fun id ax=> .inl (by
       have e:(cQ H.o x.ids).map (·.1)=x.ids:=by rw[lT];simp[Function.comp_def]
       rw[e]at ax
       exact cN x _ hx id ax)⟩
     have bl:lov=none/\l=0\/∃k,lov=some (.int k l):=by
      rcases pC Vp hl with⟨_,a,b⟩|⟨k,a,_⟩
      ·exact .inl ⟨a,b⟩
      ·exact .inr ⟨k,a⟩
     split at h
     ·injection h with h;injection h with e1 e2;injection e2 with e2 e3;subst e1;subst e2;subst e3
      have bm:mxv=none:=by
       cases mxv with
       |none=>rfl
       |some u=>exact yU.elim
      subst bm
      have bh:hiv=none/\hh=len/\(none:Option Value)=none\/∃k,hiv=some (.int k hh):=by
       rcases pC Ra ZG with⟨_,a,b⟩|⟨k,a,_⟩
       ·exact .inl ⟨a,by omega,rfl⟩
       ·exact .inr ⟨k,a⟩
      refine fin (fg (tj (m:=cap) bl bh (.inl ⟨rfl,rfl⟩) c1 (by omega) (Nat.le_refl _))) ?_ hK
      exact Dl hd c1 c2 (.inl rfl) eg
     ·rename_i mv
      split at h
      ·rename_i hv m hm
       split at h
       ·rename_i tk
        injection h with h;injection h with e1 e2;injection e2 with e2 e3;subst e1;subst e2;subst e3
        have bm:∃k,mxv=some (.int k m):=by
         rcases pC yU hm with⟨a,_⟩|⟨k,a,_⟩
         ·cases a
         ·exact⟨k,a⟩
        have bh:∃k,hiv=some (.int k hh):=by
         rcases pC Ra ZG with⟨a,_⟩|⟨k,a,_⟩
         ·cases a
         ·exact⟨k,a⟩
        have hp:=Dl (m:=m) hd c1 c2 (.inr tk) eg
        refine fin (fg (tj (m:=m) bl (.inr bh) (.inr bm) c1 tk.1 (by omega))) ?_ hK
        split
        ·rename_i e;subst e
         exact⟨hp,_,_,rfl⟩
        ·exact hp
       ·cases h
      ·cases h
    ·cases h
   ·cases h
  ·cases h
 ·cases ha:cH P t with
  |none=>rw[ha]at h;cases h
  |some p=>
  obtain⟨n,e⟩:=p
  rw[ha]at h
  split at h
  ·rename_i n' e' heq
   have e0:n=n'/\e=e':=by simpa using heq
   obtain⟨rfl,rfl⟩:=e0
   split at h
   ·rename_i id off sD
    obtain⟨rfl,br⟩:=zr sD
    split at h
    ·rename_i hc
     injection h with h;injection h with e1 e2;injection e2 with e2 e3;subst e1;subst e2;subst e3
     obtain⟨i,Nq⟩:=Option.isSome_iff_exists.1 hc
     have e1:lov=none:=by cases lov with|none=>rfl|some u=>exact Vp.elim
     have e2:hiv=none:=by cases hiv with|none=>rfl|some u=>exact Ra.elim
     have e3:mxv=none:=by cases mxv with|none=>rfl|some u=>exact yU.elim
     subst e1;subst e2;subst e3
     obtain⟨g1,g2,g3⟩:=hx
     obtain⟨b,k1,k2⟩:=g3 br
     subst k2
     have Wk:=vL ha
     have elem:P.elem t=e:=by simp[Program.elem,Wk]
     have len:P.arrayLen t=n:=by simp[Program.arrayLen,Wk]
     refine cJ.same hH (.slice (some ⟨b,off,none⟩) n n) hK ?_ ⟨rfl,g2,fun _=>⟨b,k1,rfl⟩⟩
     have:=run_sliceAt_array_all (P:=P) w t ⟨b,off,none⟩ (by rw[elem,len];exact Wk)
     simp only[Sem.run_bind,this,elem,eh Nq,Result.andThen_ok,slicedAt,len]
     by_cases hn:n=0
     ·subst hn;rfl
     ·simp[hn,Addr.add]
    ·cases h
   ·cases h
  ·cases h
theorem GA(hH:az M φ H w){ts:Array TypeId}{ty0:TypeId}{x y:V}{xv yv:Value}(hx:V.den (ao M φ H) φ H w x xv)(hy:V.den (ao M φ H) φ H w y yv)(h:dm (vI P H.o ts x y) K):
 cJ M φ H w fr ((do let z <- Builtin.copy_ ts ty0 #[xv,yv];pure (Next.value z):Sem Next).run P w) K:=by
 have hg:=dt h
 clear h
 obtain⟨v,Δ,rd,h,hK⟩:=hg
 unfold vI at h
 split at h
 ·rename_i t t' BW
  have BW:ts=#[t,t']:=by apply Array.ext';simpa using BW
  subst BW
  split at h
  ·rename_i e ht
   split at h
   ·rename_i id off n cs es Rb Dm
    obtain⟨rfl,ho⟩:=zt Rb
    ·split at h
     ·rename_i hc
      obtain⟨c1,c2,c3,c4⟩:=hc
      injection h with h;injection h with e1 e2;injection e2 with e2 e3;subst e1;subst e2;subst e3
      have c3:∀z∈es,z.cells.length=1:=fun z hz=>by simpa using List.all_eq_true.1 c3 z hz
      obtain⟨i,hi⟩:=jD (P:=P) (e:=e) (by omega)
      have eg:(P.info? e).map (·.size)=some 1:=by rw[hi];simp[<- cn hi,c1]
      obtain⟨_,dA,hp⟩:=hx
      obtain⟨b,dq,rfl⟩:=hp (by rw[ho];rfl)
      have jZ:id∉y.ids:=fun hm=>by have:=List.all_eq_true.1 c4 id hm;simp at this
      obtain⟨f1,f2,f3,f4,f5⟩:=cT hH y.ids (cN y _ hy)
      have lP:=(f4 id jZ).trans ho
      have bA:=f1.ok id
      simp only[aK,lP]at bA
      obtain⟨b',cR,ty,g1,g2,g3,g4⟩:=bA
      rw[dq]at g1;simp at g1;subst g1
      have l2:=V.aG _ _ g3
      simp only[Array.length_toList]at l2
      have Jv:(cQ H.o y.ids).map (·.1)=y.ids:=by rw[lT];simp[Function.comp_def]
      rcases oE hH hy Dm c3 with⟨rfl,rfl⟩|⟨a,c,evs,rfl,k1,k2,k3,k4⟩
      ·have hr:=run_copy_nil (P:=P) w t t' ty0 e ⟨b,off,none⟩ n n (bD ht) (by rw[eg];rfl)
       have same:H.put (cQ H.o y.ids++[(id,ae.row (cs.take off++(([]:List D).take n |>.flatMap D.cells).map .d++cs.drop (off+(([]:List D).take n).length)))])=H.put (cQ H.o y.ids):=by
        rw[dU]
        refine tf _ ((f5 id).2 dA) ?_
        rw[lP]
        simp
       refine⟨_,goInt 0,w,φ,_,_,_,hK,by simp only[Sem.run_bind,hr,Result.andThen_ok];rfl, .inl rfl,by rw[same];exact f1,by rw[same];exact f2,by simp[V.den,D.den,goInt],fun j hj=> .inl ?_⟩
       rw[List.map_append,Jv]at hj
       simp only[List.map_cons,List.map_nil,List.mem_append,List.mem_singleton]at hj
       rcases hj with hj|rfl
       ·exact cN y _ hy j hj
       ·exact dA
      ·have hlen:evs.length=es.length:=D.aG _ _ k1
       have k1':=D.aI (f2.blocks (M:=M)) _ _ k1
       have yV:D.aE (ao M φ (H.put (cQ H.o y.ids))) w (es.take n) (evs.take n):=D.dH n _ _ k1'
       have Jw:∀ev∈evs.take n,ev.cells.size=1:=fun ev dG=>by
        have:=k2 ev (List.mem_of_mem_take dG);omega
       have mE:((evs.take n).flatMap (·.cells.toList)).length=Nat.min es.length n:=by
        rw[da (sz:=1) _ Jw];simp[hlen,Nat.min_comm]
       have pre:∀ (j:Nat) (u:Value),((evs.take n).flatMap (·.cells.toList))[j]? =some u->(evs.flatMap (·.cells.toList))[j]? =some u:=by
        intro j u hj
        have:evs.flatMap (·.cells.toList)=(evs.take n).flatMap (·.cells.toList)++(evs.drop n).flatMap (·.cells.toList):=by rw[<- List.flatMap_append,List.take_append_drop]
        rw[this]
        have bC:j<((evs.take n).flatMap (·.cells.toList)).length:=by
         rcases Nat.lt_or_ge j ((evs.take n).flatMap (·.cells.toList)).length with bC|BX
         ·exact bC
         ·rw[List.getElem?_eq_none BX]at hj;cases hj
        rw[List.getElem?_append_left bC];exact hj
       have o9:Flat ((evs.take n).flatMap (·.cells.toList)):=by
        intro u hu
        simp only[List.mem_flatMap]at hu
        obtain⟨ev,h1,h2⟩:=hu
        exact k4 u (by simp only[List.mem_flatMap];exact⟨ev,List.mem_of_mem_take h1,h2⟩)
       have hr:=run_copy_row (P:=P) w t t' ty0 e b off n n a es.length c cR ty (List.flatMap (fun x:Value=>x.cells.toList) (evs.take n)) (bD ht) eg g2 mE (fun j u hj=>k3 j u (pre j u hj)) (by rw[mE];have:Nat.min es.length n<=n:=Nat.min_le_right _ _;omega) o9
       have Nk:V.aE (ao M φ (H.put (cQ H.o y.ids))) φ (H.put (cQ H.o y.ids)) w (((es.take n).flatMap D.cells).map .d) ((evs.take n).flatMap (·.cells.toList)):=by
        have flat:∀ (ds:List D) (us:List Value),D.aE (ao M φ (H.put (cQ H.o y.ids))) w ds us->D.aE (ao M φ (H.put (cQ H.o y.ids))) w (ds.flatMap D.cells) (us.flatMap (·.cells.toList)):=by
         intro ds
         induction ds with
         |nil=>intro us h;simp[D.aE]at h;subst h;rfl
         |cons d ds ih=>
          intro us h
          obtain⟨u,us,rfl,q1,q2⟩:=h
          simp only[List.flatMap_cons]
          exact D.bq _ _ _ _ (D.e8 _ _ q1).1 (ih us q2)
        exact(V.cm _ _).2 (flat _ _ yV)
       have qn:((evs.take n).flatMap (·.cells.toList)).length=(es.take n).length:=by rw[mE];simp[Nat.min_comm]
       obtain⟨t1,t2⟩:=zh (cs':=cs.take off++((es.take n).flatMap D.cells).map .d++cs.drop (off+(es.take n).length)) f1 ((f5 id).2 dA) lP dq g2
        (cR.toList.take off++(evs.take n).flatMap (·.cells.toList)++cR.toList.drop (off+((evs.take n).flatMap (·.cells.toList)).length)).toArray (by
        simp only
        rw[qn]
        exact V.bq _ _ _ _ (V.bq _ _ _ _ (V.dH _ _ _ g3) Nk) (V.ew _ _ _ g3)) (by
        intro u hu
        simp only[List.mem_append]at hu
        rcases hu with(hu|hu)|hu
        ·exact g4 u (List.mem_of_mem_take hu)
        ·exact o9 u hu
        ·exact g4 u (List.mem_of_mem_drop hu))
       refine⟨_,_,_,φ,_,_,_,hK,by simp only[Sem.run_bind,hr,Result.andThen_ok];rfl, .inl rfl,by rw[dU];exact t1,by rw[dU];exact f2.trans t2, ?_,fun j hj=> .inl ?_⟩
       ·simp only[V.den,D.den,goInt,mE]
       ·rw[List.map_append,Jv]at hj
        simp only[List.map_cons,List.map_nil,List.mem_append,List.mem_singleton]at hj
        rcases hj with hj|rfl
        ·exact cN y _ hy j hj
        ·exact dA
     ·cases h
   ·cases h
  ·cases h
 ·cases h
theorem xp{t u:TypeId}{f off:Nat}(h:xj P t f=some (off,u)):∃fs fd,P.underlying t=some (.struct fs)/\fs[f]? =some fd/\fd.offset=off/\fd.type=u:=by
 unfold xj at h
 split at h
 ·rename_i fs hu
  split at h
  ·rename_i fd hf
   injection h with h;injection h with h1 h2
   exact⟨fs,fd,hu,hf,h1,h2⟩
  ·cases h
 ·cases h
theorem vP{t:TypeId}{cs:List V}{off:Nat}{x:V}(h:eQ P t cs off=some x){arr:Array Value}(hd:V.aE (ao M φ H) φ H w cs arr.toList)(hf:Flat arr.toList):
 ∃u,(part t arr off).run P w= .ok u w/\V.den (ao M φ H) φ H w x u:=by
 unfold eQ at h
 split at h
 ·rename_i ha
  split at h
  ·rename_i hl
   injection h with h;subst h
   obtain⟨i,hi⟩:=qA ha
   refine⟨.agg (arr.extract off (off+P.cellsOf t)), ?_,la _ _ ?_ ?_⟩
   ·simp only[part,Sem.run_bind,qz ha w,Result.andThen_ok,if_true,eh hi w,Sem.run_pure]
   ·have:=V.dH (P.cellsOf t) _ _ (V.ew off _ _ hd)
    simpa[Array.toList_extract,List.extract]using this
   ·intro u hu
    simp only[Array.toList_extract,List.extract]at hu
    exact hf u (List.mem_of_mem_drop (List.mem_of_mem_take hu))
  ·cases h
 ·rename_i ha
  obtain⟨u,hu,Jo⟩:=V.ef _ _ _ _ hd h
  refine⟨u, ?_,Jo⟩
  have xn:arr[off]? =some u:=by simpa using hu
  simp only[part,Sem.run_bind,oD ha w,Result.andThen_ok,Bool.false_eq_true,if_false,xn,Sem.run_pure]
 ·cases h
theorem EP(hH:az M φ H w){t:TypeId}{x:V}{xv:Value}{f:Nat}(hx:V.den (ao M φ H) φ H w x xv)(h:dm ((s8 P t x f).map fun v=>(v,[],[])) K):
 cJ M φ H w fr ((do let z <- Instr.field t xv f;pure (Next.value z):Sem Next).run P w) K:=by
 have hg:=dt h
 clear h
 obtain⟨v,Δ,rd,h,hK⟩:=hg
 simp only[Option.map_eq_some_iff,Prod.mk.injEq]at h
 have hg:=h
 clear h
 obtain⟨v',h,rfl,rfl,rfl⟩:=hg
 unfold s8 at h
 split at h
 ·rename_i off u hf
  obtain⟨fs,fd,hu,hfd,rfl,rfl⟩:=xp hf
  have fin:∀ {arr:Array Value} {val:Value},(part fd.type arr fd.offset).run P w= .ok val w->V.den (ao M φ H) φ H w v' val->cJ M φ H w fr ((do let z <- Instr.field t (.agg arr) f;pure (Next.value z):Sem Next).run P w) K:=by
   intro arr val r1 r2
   refine cJ.same hH val hK ?_ r2
   simp[Instr.field,run_underlying hu,hfd,asAgg,r1]
  split at h
  ·rename_i cs
   simp only[Option.map_eq_some_iff]at h
   obtain⟨d,h1,rfl⟩:=h
   obtain⟨arr,rfl,g1,g2⟩:=hx
   obtain⟨val,r1,r2⟩:=fW h1 g1 g2
   exact fin (r1 w) r2
  ·rename_i cs
   obtain⟨arr,rfl,g1,g2⟩:=hx
   obtain⟨val,r1,r2⟩:=vP h g1 g2
   exact fin r1 r2
  ·cases h
 ·cases h
theorem ER(s:ByteArray)(n:Nat):s[n]? =s.data.toList[n]? :=by
 rw[getElem?_def]
 split
 ·rename_i h
  have h':n<s.data.toList.length:=by simpa using h
  rw[List.getElem?_eq_getElem h']
  rfl
 ·rename_i h
  have h':s.data.toList.length<=n:=by
   have: ¬n<s.data.size:=h
   simpa using this
  rw[List.getElem?_eq_none h']
theorem ES(hH:az M φ H w){t:TypeId}{x i:V}{xv iv:Value}(hx:V.den (ao M φ H) φ H w x xv)(hi:V.den (ao M φ H) φ H w i iv)(h:dm ((s9 P t x i).map fun v=>(v,[],[])) K):
 cJ M φ H w fr ((do let z <- Instr.index t xv iv;pure (Next.value z):Sem Next).run P w) K:=by
 have hg:=dt h
 clear h
 obtain⟨v,Δ,rd,h,hK⟩:=hg
 simp only[Option.map_eq_some_iff,Prod.mk.injEq]at h
 have hg:=h
 clear h
 obtain⟨v',h,rfl,rfl,rfl⟩:=hg
 unfold s9 at h
 split at h
 ·rename_i k i
  simp only[V.den,D.den]at hi
  subst hi
  split at h
  ·rename_i h0
   split at h
   ·rename_i hu
    split at h
    ·rename_i l
     split at h
     ·rename_i b hb
      injection h with h;subst h
      obtain⟨s,rfl,rfl⟩:=hx
      refine cJ.same hH (.int .u8 b.toNat) hK ?_ rfl
      have Gp:s[i.toNat]? =some b:=by rw[ER];exact hb
      simp[Instr.index,asIntOf,run_underlying hu,h0,Gp]
     ·cases h
    ·cases h
   ·rename_i n e hu
    split at h
    ·rename_i hn
     obtain⟨h1,h2⟩:=hn
     obtain⟨ie,Wl⟩:=Option.isSome_iff_exists.1 h2
     have hc:0<=i/\i<(n:Int):=⟨h0,h1⟩
     have fin:∀ {arr:Array Value} {val:Value},(part e arr (i.toNat*P.cellsOf e)).run P w= .ok val w->V.den (ao M φ H) φ H w v' val->cJ M φ H w fr ((do let z <- Instr.index t (.agg arr) (.int k i);pure (Next.value z):Sem Next).run P w) K:=by
      intro arr val r1 r2
      refine cJ.same hH val hK ?_ r2
      simp[Instr.index,asIntOf,run_underlying hu,hc,eh Wl,r1]
     split at h
     ·rename_i cs
      simp only[Option.map_eq_some_iff]at h
      obtain⟨d,h1,rfl⟩:=h
      obtain⟨arr,rfl,g1,g2⟩:=hx
      obtain⟨val,r1,r2⟩:=fW h1 g1 g2
      exact fin (r1 w) r2
     ·rename_i cs
      obtain⟨arr,rfl,g1,g2⟩:=hx
      obtain⟨val,r1,r2⟩:=vP h g1 g2
      exact fin r1 r2
     ·cases h
    ·cases h
   ·cases h
  ·cases h
 ·cases h
theorem zu{t:TypeId}(h:qu P t=true):∃d,P.underlying t=some d/\∀ms,d≠ .interface ms:=by
 unfold qu at h
 split at h
 ·cases h
 ·rename_i d hn hd
  exact⟨d,hd,fun ms e=>hn ms e⟩
 ·cases h
theorem qB{t:TypeId}{z:V}(hz:zeroV P t=some z):∃val,(zeroValue t).run P w= .ok val w/\V.den (ao M φ H) φ H w z val:=by
 unfold zeroV at hz
 split at hz
 ·rename_i i hi
  have hr:∀v,i.zero=some v->(zeroValue t).run P w= .ok v w:=fun v hv=>by simp[zeroValue,typeInfo,hi,hv]
  split at hz
  ·rename_i a hv
   split at hz
   ·rename_i hf
    injection hz with hz;subst hz
    have vQ:Flat a.toList:=fun u hu=>List.all_eq_true.1 hf u hu
    exact⟨_,hr _ hv,la _ _ (dI _ vQ) vQ⟩
   ·cases hz
  ·rename_i v _ hv
   split at hz
   ·rename_i h1
    injection hz with hz;subst hz
    exact⟨_,hr _ hv,lR _ h1⟩
   ·cases hz
  ·cases hz
 ·cases hz
theorem B0(hH:az M φ H w){t xt:TypeId}{ok:Bool}{x:V}{xv:Value}(hx:V.den (ao M φ H) φ H w x xv)(h:dm ((pn P t ok x).map fun v=>(v,[],[])) K):
 cJ M φ H w fr ((do let z <- Instr.typeAssert xv xt t ok;pure (Next.value z):Sem Next).run P w) K:=by
 have hg:=dt h
 clear h
 obtain⟨v,Δ,rd,h,hK⟩:=hg
 simp only[Option.map_eq_some_iff,Prod.mk.injEq]at h
 have hg:=h
 clear h
 obtain⟨v',h,rfl,rfl,rfl⟩:=hg
 unfold pn at h
 split at h
 ·rename_i hp
  obtain⟨d,hd,jZ⟩:=zu hp
  split at h
  ·rename_i u y
   obtain⟨val,rfl,ZH⟩:=hx
   split at h
   ·rename_i e
    subst e
    injection h with h
    have hr:(Instr.typeAssert (.iface u val) xt u ok).run P w= .ok (if ok=true then .tuple #[val, .bool true]else val) w:=by
     cases d<;>first|exact absurd rfl (jZ _)|(cases ok<;>simp[Instr.typeAssert,run_underlying hd])
    refine cJ.same hH _ hK (by simp only[Sem.run_bind,hr,Result.andThen_ok];rfl) ?_
    subst h
    cases ok
    ·exact ZH
    ·exact⟨_,rfl,val,[.bool true],rfl,ZH, .bool true,[],rfl,rfl,rfl⟩
   ·rename_i gv
    split at h
    ·rename_i bA
     simp only[Option.map_eq_some_iff]at h
     obtain⟨z,hz,rfl⟩:=h
     obtain⟨zv,r1,r2⟩:=qB (w:=w) (M:=M) (φ:=φ) (H:=H) hz
     have hr:(Instr.typeAssert (.iface u val) xt t ok).run P w= .ok (.tuple #[zv, .bool false]) w:=by
      cases d<;>first|exact absurd rfl (jZ _)|simp[Instr.typeAssert,run_underlying hd,gv,bA,r1]
     exact cJ.same hH _ hK (by simp only[Sem.run_bind,hr,Result.andThen_ok];rfl) ⟨_,rfl,zv,[.bool false],rfl,r2, .bool false,[],rfl,rfl,rfl⟩
    ·cases h
  ·simp only[V.den,D.den]at hx
   subst hx
   split at h
   ·rename_i bA
    simp only[Option.map_eq_some_iff]at h
    obtain⟨z,hz,rfl⟩:=h
    obtain⟨zv,r1,r2⟩:=qB (w:=w) (M:=M) (φ:=φ) (H:=H) hz
    have hr:(Instr.typeAssert .nilIface xt t ok).run P w= .ok (.tuple #[zv, .bool false]) w:=by
     cases d<;>first|exact absurd rfl (jZ _)|simp[Instr.typeAssert,run_underlying hd,bA,r1]
    exact cJ.same hH _ hK (by simp only[Sem.run_bind,hr,Result.andThen_ok];rfl) ⟨_,rfl,zv,[.bool false],rfl,r2, .bool false,[],rfl,rfl,rfl⟩
   ·cases h
  ·cases h
 ·cases h
end
end Go.Proofs.YtealblliddhgiaaGreat
