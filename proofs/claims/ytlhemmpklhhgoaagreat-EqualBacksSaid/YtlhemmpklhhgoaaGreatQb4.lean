/-
  A PART OF THE PROOF. Conditions: none.
-/
import Derived.Laws.CopyRow
import Derived.Test.YtlhemmpklhhgoaaGreatQb3
set_option linter.unusedSimpArgs false
set_option linter.unusedVariables false
namespace Go.Proofs.YtlhemmpklhhgoaaGreat
section
section
variable {P:Program}{M:Nat->Prop}{φ:Place}{H:Hp}{w:World}{fr:Nat}{K:V->List (Nat×ab)->List Nat->Prop}
theorem cR{x:Option eD}(h:cB x K):∃v Δ rd,x=some (v,Δ,rd)/\K v Δ rd:=by
 unfold cB at h;split at h
 ·exact⟨_,_,_,rfl,h⟩
 ·exact h.elim
theorem xU{o:Nat->ab}{x:V}{id off:Nat}(h:mI o x=some (id,off)):x= .ptr id off/\(o id).bM=true:=by
 unfold mI at h
 split at h
 ·split at h
  ·simp only[Option.some.injEq,Prod.mk.injEq]at h;obtain⟨rfl,rfl⟩:=h;exact⟨rfl,by assumption⟩
  ·cases h
 ·cases h
theorem xV{o:Nat->ab}{x:V}{id off n:Nat}{cs:List V}(h:mJ o x=some (id,off,n,cs)):x= .uc id off n/\o id= .row cs:=by
 unfold mJ at h
 split at h
 ·split at h
  ·rename_i ho
   simp only[Option.some.injEq,Prod.mk.injEq]at h;obtain⟨rfl,rfl,rfl,rfl⟩:=h;exact⟨rfl,ho⟩
  ·cases h
 ·cases h
theorem nK{x:Option V}{val:Option Value}{d n:Nat}(hx:match x,val with|none,none=>True|some v,some u=>V.den (ai M φ H) φ H w v u|_,_=>False)(h:Dl x d=some n):
 (x=none/\val=none/\n=d)\/∃k,val=some (.int k n)/\x≠none:=by
 unfold Dl at h
 split at h
 ·injection h with h
  left
  cases val with
  |none=>exact⟨rfl,rfl,h.symm⟩
  |some u=>exact hx.elim
 ·rename_i k i
  split at h
  ·injection h with h;subst h
   right
   cases val with
   |none=>exact hx.elim
   |some u=>
    simp only[V.den,D.den]at hx
    refine⟨k, ?_,aK⟩
    rw[hx,Int.toNat_of_nonneg (by assumption)]
  ·cases h
 ·cases h
theorem B4{B:Nat->Prop}{es:List D}{base:Option Addr}{len cap l h:Nat}(hd:D.den B w (.sl es) (.slice base len cap))(hl:l<=h)(hh:h<=es.length){m:Nat}(hm:m=cap\/h<=m/\m<=es.length){QF:Nat}(du:l=0\/∀y∈es,y.cells.length=QF):
 D.den B w (.sl ((es.take h).drop l)) (.slice (if m=l then base else base.map (·.add (l*QF))) (h - l) (m - l)):=by
 obtain⟨b',aaS,aaT,he,h1,h2,h3,sz,h4⟩:=hd
 injection he with e1 e2 e3
 subst e1;subst e2;subst e3
 refine⟨_,_,_,rfl,by simp;omega,af,fun hb=> ?_,sz,fun a ha=> ?_⟩
 ·split at hb
  ·omega
  ·cases base with
   |none=>have:=h3 rfl;omega
   |some a=>simp at hb
 ·have key:∀ (es:List D) (i:Nat) (a:Addr),D.elems B w sz a i es->∀l h,D.elems B w sz a (i+l) ((es.take h).drop l):=by
   intro es
   induction es with
   |nil=>intro i a _ l h;simp[D.elems]
   |cons e es ih=>
    intro i a he l h
    cases h with
    |zero=>simp[D.elems]
    |succ h=>
     cases l with
     |zero=>
      refine⟨he.1, ?_⟩
      simpa using ih (i+1) a he.2 0 h
     |succ l=>
      have:=ih (i+1) a he.2 l h
      rw[show i+1+l=i+(l+1) by omega]at this
      simpa using this
  split at ha
  ·
    rename_i B5
    have aaM:h - l=0:=af
    have Ap:(es.take h).drop l=[]:=List.eq_nil_of_length_eq_zero tZ
    rw[Ap]
    cases base with
    |none=>cases ha
    |some b=>injection ha with ha;subst ha;exact⟨fun hc=>af,trivial⟩
  ·cases base with
   |none=>simp at ha
   |some b=>
    simp only[Option.map_some,Option.some.injEq]at ha
    subst ha
    obtain⟨h5,h6⟩:=h4 b rfl
    replace h5:=h5 af
    refine⟨fun _=>xL b h5 _, ?_⟩
    have h7:=key es 0 b h6 l h
    rw[Nat.zero_add]at h7
    have shift:∀ (ds:List D) (i:Nat),(∀y∈ds,y.cells.length=QF\/l=0)->D.elems B w sz b (l+i) ds->D.elems B w sz (b.add (l*QF)) i ds:=by
     intro ds
     induction ds with
     |nil=>intro i _ _;trivial
     |cons y ds ih=>
      intro i hy hd
      obtain⟨⟨ev,g1,g2,g3⟩,g4⟩:=hd
      have YO:l*QF=l*sz:=by
       rcases hy y aK with hy|hy
       ·have:=D.ax _ _ (D.dV _ _ g3).1
        rw[hy]at this
        have e:ev.cells.size=QF:=by simpa using this
        rw[<- e,g1]
       ·rw[hy];simp
      refine⟨⟨ev,g1, ?_,g3⟩,ih (i+1) (fun z hz=>hy z (by simp[hz])) (by rw[show l+(i+1)=l+i+1 by omega];exact g4)⟩
      rw[add_add b h5,YO, <- Nat.add_mul]
      exact g2
    refine shift _ 0 (fun y hy=> ?_) (by simpa using h7)
    rcases du with du|du
    ·exact .inr du
    ·exact .inl (du y (List.mem_of_mem_take (List.mem_of_mem_drop hy)))
theorem mM{len cap:Nat}{lo hi mx:Option Value}{l h m:Nat}(FF:lo=none/\l=0\/∃k,lo=some (.int k l))(BJ:hi=none/\h=len/\mx=none\/∃k,hi=some (.int k h))(EL:mx=none/\m=cap\/∃k,mx=some (.int k m))(h1:l<=h)(h2:h<=m)(h3:m<=cap):
 (Instr.sliceBounds true len cap lo hi mx).run P w= .ok (l,h,m) w:=by
 rcases FF with⟨rfl,rfl⟩|⟨kl,rfl⟩<;>rcases BJ with⟨rfl,rfl,rfl⟩|⟨kh,rfl⟩<;>rcases EL with⟨e,rfl⟩|⟨km,e⟩<;>subst_vars<;>
  first
  |(simp[Instr.sliceBounds,run_sliceBound,h1,h2,h3];done)
  |(cases e;done)
  |(cases e;simp[Instr.sliceBounds,run_sliceBound,h1,h2,h3])
theorem Aq(hH:aq M φ H w){t:TypeId}{x:V}{xv:Value}{lo hi mx:Option V}{lov hiv mxv:Option Value}(hx:V.den (ai M φ H) φ H w x xv)
 (FF:match lo,lov with|none,none=>True|some v,some u=>V.den (ai M φ H) φ H w v u|_,_=>False) (BJ:match hi,hiv with|none,none=>True|some v,some u=>V.den (ai M φ H) φ H w v u|_,_=>False)
 (EL:match mx,mxv with|none,none=>True|some v,some u=>V.den (ai M φ H) φ H w v u|_,_=>False) (h:cB (nz P H.o t x lo hi mx) K):
 b9 M φ H w fr ((do let z <- Instr.sliceAt t xv lov hiv mxv;pure (Next.value z):Sem Next).run P w) K:=by
 have hg:=cR h
 clear h
 obtain⟨v,Δ,rd,h,hK⟩:=hg
 unfold nz at h
 split at h
 ·rename_i e ht
  have ky:=aW ht
  split at h
  ·rename_i es l B6 hl
   split at h
   ·rename_i hh hhh
    split at h
    ·rename_i hc
     obtain⟨c1,c2,c3,c4⟩:=hc
     obtain⟨i,NA⟩:=Option.isSome_iff_exists.1 c3
     have hD:dv H.o x=some (.sl es):=by
      unfold dN at B6
      split at B6
      ·rename_i es' hD;injection B6 with B6;subst B6;exact hD
      ·cases B6
     obtain⟨f1,f2,f3,f4,f5⟩:=cG hH x.ids (cD x _ hx)
     have hd:=ey f1 x (.sl es) xv f3 hD (V.aL f2 _ _ hx)
     obtain⟨base,len,cap,YK,hlen,jB,_⟩:=id hd
     subst YK
     have du:l=0\/∀y∈es,y.cells.length=P.cellsOf e:=by
      rcases c4 with c4|c4
      ·exact .inl c4
      ·exact .inr fun y hy=>by simpa using List.all_eq_true.1 c4 y hy
     have elem:P.elem t=e:=by simp[Program.elem,ky]
     have dW:∀ {m:Nat},(Instr.sliceBounds true len cap lov hiv mxv).run P w= .ok (l,hh,m) w->
      (Instr.sliceAt t (.slice base len cap) lov hiv mxv).run P w= .ok (.slice (if m=l then base else base.map (·.add (l*P.cellsOf e))) (hh - l) (m - l)) w:=by
      intro m hm
      rw[run_sliceAt_slice w t _ _ _ _ (by rw[elem];exact ky),run_slice_any w t base len cap (by rw[elem];exact ky),hm]
      simp only[Result.andThen_ok,elem,c0 NA,sliced]
     have fin:∀ {val:Value} {v:V},(Instr.sliceAt t (.slice base len cap) lov hiv mxv).run P w= .ok val w->V.den (ai M φ (H.put (bP H.o x.ids))) φ (H.put (bP H.o x.ids)) w v val->K v (bP H.o x.ids) x.ids->
      b9 M φ H w fr ((do let z <- Instr.sliceAt t (.slice base len cap) lov hiv mxv;pure (Next.value z):Sem Next).run P w) K:=by
      intro val v r1 r2 r3
      exact⟨_,val,w,φ,v,_,_,r3,by simp only[Sem.run_bind,r1,Result.andThen_ok];rfl, .inl rfl,f1,f2,r2,fun id au=> .inl (by
       have e:(bP H.o x.ids).map (·.1)=x.ids:=by rw[jP];simp[Function.comp_def]
       rw[e]at au
       exact cD x _ hx id au)⟩
     have bl:lov=none/\l=0\/∃k,lov=some (.int k l):=by
      rcases nK FF hl with⟨_,a,b⟩|⟨k,a,_⟩
      ·exact .inl ⟨a,b⟩
      ·exact .inr ⟨k,a⟩
     split at h
     ·injection h with h;injection h with e1 e2;injection e2 with e2 e3;subst e1;subst e2;subst e3
      have bm:mxv=none:=by
       cases mxv with
       |none=>rfl
       |some u=>exact EL.elim
      subst bm
      have bh:hiv=none/\hh=len/\(none:Option Value)=none\/∃k,hiv=some (.int k hh):=by
       rcases nK BJ hhh with⟨_,a,b⟩|⟨k,a,_⟩
       ·exact .inl ⟨a,af,rfl⟩
       ·exact .inr ⟨k,a⟩
      refine fin (dW (mM (m:=cap) bl bh (.inl ⟨rfl,rfl⟩) c1 af (Nat.le_refl _))) ?_ hK
      exact B4 hd c1 c2 (.inl rfl) du
     ·rename_i mv
      split at h
      ·rename_i hv m hm
       split at h
       ·rename_i rC
        injection h with h;injection h with e1 e2;injection e2 with e2 e3;subst e1;subst e2;subst e3
        have bm:∃k,mxv=some (.int k m):=by
         rcases nK EL hm with⟨a,_⟩|⟨k,a,_⟩
         ·cases a
         ·exact⟨k,a⟩
        have bh:∃k,hiv=some (.int k hh):=by
         rcases nK BJ hhh with⟨a,_⟩|⟨k,a,_⟩
         ·cases a
         ·exact⟨k,a⟩
        have hp:=B4 (m:=m) hd c1 c2 (.inr rC) du
        refine fin (dW (mM (m:=m) bl (.inr bh) (.inr bm) c1 rC.1 af)) ?_ hK
        split
        ·rename_i e;subst e
         exact⟨hp,_,_,rfl⟩
        ·exact hp
       ·cases h
      ·cases h
    ·cases h
   ·cases h
  ·cases h
 ·cases ha:xD P t with
  |none=>rw[ha]at h;cases h
  |some p=>
  obtain⟨n,e⟩:=p
  rw[ha]at h
  split at h
  ·rename_i n' e' heq
   have e0:n=n'/\e=e':=by simpa using heq
   obtain⟨rfl,rfl⟩:=e0
   split at h
   ·rename_i id off pY
    obtain⟨rfl,cy⟩:=xU pY
    split at h
    ·rename_i hc
     injection h with h;injection h with e1 e2;injection e2 with e2 e3;subst e1;subst e2;subst e3
     obtain⟨i,NA⟩:=Option.isSome_iff_exists.1 hc
     have e1:lov=none:=by cases lov with|none=>rfl|some u=>exact FF.elim
     have e2:hiv=none:=by cases hiv with|none=>rfl|some u=>exact BJ.elim
     have e3:mxv=none:=by cases mxv with|none=>rfl|some u=>exact EL.elim
     subst e1;subst e2;subst e3
     obtain⟨g1,g2,g3⟩:=hx
     obtain⟨b,k1,k2⟩:=g3 cy
     subst k2
     have EM:=ui ha
     have elem:P.elem t=e:=by simp[Program.elem,EM]
     have len:P.arrayLen t=n:=by simp[Program.arrayLen,EM]
     refine b9.same hH (.slice (some ⟨b,off,none⟩) n n) hK ?_ ⟨rfl,g2,fun _=>⟨b,k1,rfl⟩⟩
     have:=run_sliceAt_array_all (P:=P) w t ⟨b,off,none⟩ (by rw[elem,len];exact EM)
     simp only[Sem.run_bind,this,elem,c0 NA,Result.andThen_ok,slicedAt,len]
     by_cases hn:n=0
     ·subst hn;rfl
     ·simp[hn,Addr.add]
    ·cases h
   ·cases h
  ·cases h
theorem Dt(g:Nat):(⟨g,0,none⟩:Addr).add 0=⟨g,0,none⟩:=rfl
theorem cg{B:Nat->Prop}{w:World}:∀ (es:List D) (vs:List Value) (n:Nat),D.az B w es vs->D.az B w (es.take n) (vs.take n)
 |[],vs,n,h=>by
  have h:vs=[]:=h
  subst h;simp only[List.take_nil];rfl
 |e::es,vs,0,h=>by simp only[List.take_zero];rfl
 |e::es,vs,n+1,h=>by
  obtain⟨u,us,rfl,h1,h2⟩:=h
  exact⟨u,us.take n,rfl,h1,cg es us n h2⟩
theorem uq{sz:Nat}:∀ (evs:List Value) (n:Nat),(∀ev∈evs,ev.cells.size=sz)->(evs.flatMap (·.cells.toList)).take (n*sz)=(evs.take n).flatMap (·.cells.toList)
 |[],n,_=>aK
 |e::evs,0,_=>aK
 |e::evs,n+1,h=>by
  have he:=h e aK
  have hl:e.cells.toList.length=sz:=by simpa using he
  rw[List.flatMap_cons,List.take_succ_cons,List.flatMap_cons,Nat.succ_mul,Nat.add_comm,List.take_append,hl,show sz+n*sz - sz=n*sz by omega,List.take_of_length_le (by omega),uq evs n fun ev cP=>h ev (by simp[cP])]
theorem dL.take {B:Nat->Prop}{w:World}{sz:Nat}{es:List D}{xs:List Value}(h:dL B w sz es xs)(n:Nat):dL B w sz (es.take n) (xs.take (n*sz)):=by
 obtain⟨evs,rfl,h2,h3⟩:=h
 exact⟨evs.take n,uq evs n h2,fun ev cP=>h2 ev (List.mem_of_mem_take cP),cg es evs n h3⟩
theorem IA(hH:aq M φ H w){t:TypeId}{x:V}{xv:Value}{lo hi mx:Option V}{lov hiv mxv:Option Value}(hx:V.den (ai M φ H) φ H w x xv)
 (FF:match lo,lov with|none,none=>True|some v,some u=>V.den (ai M φ H) φ H w v u|_,_=>False) (BJ:match hi,hiv with|none,none=>True|some v,some u=>V.den (ai M φ H) φ H w v u|_,_=>False)
 (EL:match mx,mxv with|none,none=>True|some v,some u=>V.den (ai M φ H) φ H w v u|_,_=>False) {v:V} {Δ:List (Nat×ab)} {rd:List Nat} (h:Aj P H.o t x lo hi mx=some (v,Δ,rd)) (hK:K v Δ rd):
 b9 M φ H w fr ((do let z <- Instr.sliceAt t xv lov hiv mxv;pure (Next.value z):Sem Next).run P w) K:=by
 have B7:∀ {kk:IntKind} {e:TypeId} {base:Option Addr} {len cap n:Nat},bN P t=some e->(P.info? e).isSome=true->n<=cap->base=none\/(∃g,base=some ⟨g,0,none⟩)->
  (Instr.sliceAt t (.slice base len cap) none (some (.int kk n)) none).run P w= .ok (.slice base n cap) w:=by
  intro kk e base len cap n ht hi hn hb
  obtain⟨i,NA⟩:=Option.isSome_iff_exists.1 hi
  have ky:=aW ht
  have elem:P.elem t=e:=by simp[Program.elem,ky]
  have hm:=mM (P:=P) (w:=w) (len:=len) (cap:=cap) (lo:=none) (hi:=some (.int kk n)) (mx:=none) (l:=0) (h:=n) (m:=cap) (.inl ⟨rfl,rfl⟩) (.inr ⟨kk,rfl⟩) (.inl ⟨rfl,rfl⟩) (Nat.zero_le _) hn (Nat.le_refl _)
  rw[run_sliceAt_slice w t _ _ _ _ (by rw[elem];exact ky),run_slice_any w t base len cap (by rw[elem];exact ky),hm]
  simp only[Result.andThen_ok,elem,c0 NA,sliced]
  rcases hb with rfl|⟨g,rfl⟩
  ·simp
  ·simp[Dt]
 have bounds:∀ {kk:IntKind} {e:TypeId} {base:Option Addr} {len cap:Nat},bN P t=some e->(P.info? e).isSome=true->base=none\/(∃g,base=some ⟨g,0,none⟩)->
  (Instr.sliceAt t (.slice base len cap) none (some (.int kk 0)) none).run P w= .ok (.slice base 0 cap) w:=fun ht hi hb=>B7 (n:=0) ht hi (Nat.zero_le _) hb
 unfold Aj at h
 split at h
 ·split at h
  ·rename_i kk k
   split at h
   ·rename_i e ht
    split at h
    ·rename_i hc
     simp only[Option.some.injEq,Prod.mk.injEq]at h;obtain⟨rfl,rfl,rfl⟩:=h
     obtain⟨rfl,hc⟩:=hc
     simp only[V.den]at hx;subst hx
     have e1:lov=none:=by cases lov with|none=>rfl|some u=>exact FF.elim
     have e2:mxv=none:=by cases mxv with|none=>rfl|some u=>exact EL.elim
     have e3:hiv=some (.int kk 0):=by
      cases hiv with
      |none=>exact BJ.elim
      |some u=>exact E6
     subst e1;subst e2;subst e3
     exact b9.same hH (.slice none 0 0) hK (by simp only[Sem.run_bind,bounds (base:=none) (len:=0) (cap:=0) ht hc (.inl rfl),Result.andThen_ok];rfl) rfl
    ·cases h
   ·cases h
  ·cases h
 ·rename_i id ep
  split at h
  ·rename_i kk k
   split at h
   ·rename_i e fU ty sz es ht ho
    split at h
    ·rename_i hc
     simp only[Option.some.injEq,Prod.mk.injEq]at h;obtain⟨rfl,rfl,rfl⟩:=h
     obtain⟨rfl,rfl,hc⟩:=hc
     have e1:lov=none:=by cases lov with|none=>rfl|some u=>exact FF.elim
     have e2:mxv=none:=by cases mxv with|none=>rfl|some u=>exact EL.elim
     have e3:hiv=some (.int kk 0):=by
      cases hiv with
      |none=>exact BJ.elim
      |some u=>exact E6
     subst e1;subst e2;subst e3
     obtain⟨_,ee,ry⟩:=hx
     have hv:=(ry ep dB).2 rfl
     subst hv
     have aQ:=hH.ok id
     simp only[aJ,ho]at aQ
     obtain⟨du,xs,dn,l6⟩:=aQ
     have Ts:dL (ai M φ H) w sz [] []:=⟨[],rfl,aK,rfl⟩
     rcases dn.2 with⟨h3,h4⟩|⟨g,cap,cur,h3,h4,h5,h6,h7,h8,h9⟩
     ·have rB:w.ownsRow 0 ty sz (.slice none 0 0) ([]:List D).length []:=⟨aK, .inl ⟨rfl,rfl⟩⟩
      obtain⟨s1,s2,s3⟩:=nI (m:=fun _=>False) hH ee ho (dD.refl _ _) (fun _ h=>h.elim) (fun b hb=>by simp[dR]at hb) rB Ts
      rw[h3]
      exact⟨_,_,_,_,_,_,_,hK,by simp only[Sem.run_bind,bounds (base:=none) (len:=0) (cap:=0) ht hc (.inl rfl),Result.andThen_ok];rfl, .inl rfl,s1,s2,s3,by simp[ee]⟩
     ·have rB:w.ownsRow 0 ty sz (.slice (some ⟨g,0,none⟩) 0 cap) ([]:List D).length []:=⟨aK, .inr ⟨g,cap,cur,rfl,h4,h5,Nat.zero_le _,h7,h8,aK⟩⟩
      obtain⟨s1,s2,s3⟩:=nI (m:=fun _=>False) hH ee ho (dD.refl _ _) (fun _ h=>h.elim) (fun b hb=> .inl (by rw[h3];exact hb)) rB Ts
      rw[h3]
      exact⟨_,_,_,_,_,_,_,hK,by simp only[Sem.run_bind,bounds (base:=some ⟨g,0,none⟩) ht hc (.inr ⟨g,rfl⟩),Result.andThen_ok];rfl, .inl rfl,s1,s2,s3,by simp[ee]⟩
    ·split at h
     ·rename_i hc
      simp only[Option.some.injEq,Prod.mk.injEq]at h;obtain⟨rfl,rfl,rfl⟩:=h
      obtain⟨hk0,IB,rfl,hc⟩:=hc
      obtain⟨n,rfl⟩:∃n:Nat,k=n:=⟨k.toNat,af⟩
      simp only[Int.toNat_natCast]at IB hK
      have hn0:0<n:=af
      have e1:lov=none:=by cases lov with|none=>rfl|some u=>exact FF.elim
      have e2:mxv=none:=by cases mxv with|none=>rfl|some u=>exact EL.elim
      have e3:hiv=some (.int kk n):=by
       cases hiv with
       |none=>exact BJ.elim
       |some u=>exact E6
      subst e1;subst e2;subst e3
      obtain⟨_,ee,ry⟩:=hx
      have hv:=(ry ep dB).2 rfl
      subst hv
      have aQ:=hH.ok id
      simp only[aJ,ho]at aQ
      obtain⟨du,xs,dn,l6⟩:=aQ
      rcases dn.2 with⟨h3,h4⟩|⟨g,cap,cur,h3,h4,h5,h6,h7,h8,h9⟩
      ·omega
      ·have hlx:xs.length=es.length*sz:=dn.1
       have hle:n*sz<=es.length*sz:=Nat.mul_le_mul_right _ IB
       have bR:(es.take n).length=n:=by rw[List.length_take];omega
       have rB:w.ownsRow 0 ty sz (.slice (some ⟨g,0,none⟩) (es.take n).length cap) (es.take n).length (xs.take (n*sz)):=by
        rw[bR]
        refine⟨by rw[List.length_take];omega, .inr ⟨g,cap,cur,rfl,h4,h5,af,h7,h8, ?_⟩⟩
        rw[<- h9,List.take_take,Nat.min_eq_left hle]
       obtain⟨s1,s2,s3⟩:=nI (m:=fun _=>False) hH ee ho (dD.refl _ _) (fun _ h=>h.elim) (fun b hb=> .inl (by rw[h3];exact hb)) rB (l6.take n)
       rw[h3]
       rw[bR]at s1 s2 s3
       exact⟨_,_,_,_,_,_,_,hK,by simp only[Sem.run_bind,B7 (base:=some ⟨g,0,none⟩) ht hc (show n<=cap by omega) (.inr ⟨g,rfl⟩),Result.andThen_ok];rfl, .inl rfl,s1,s2,s3,by simp[ee]⟩
     ·cases h
   ·cases h
  ·cases h
 ·cases h
theorem Du(hH:aq M φ H w){t:TypeId}{x:V}{xv:Value}{lo hi mx:Option V}{lov hiv mxv:Option Value}(hx:V.den (ai M φ H) φ H w x xv)
 (FF:match lo,lov with|none,none=>True|some v,some u=>V.den (ai M φ H) φ H w v u|_,_=>False) (BJ:match hi,hiv with|none,none=>True|some v,some u=>V.den (ai M φ H) φ H w v u|_,_=>False)
 (EL:match mx,mxv with|none,none=>True|some v,some u=>V.den (ai M φ H) φ H w v u|_,_=>False) (h:cB (o6 P H.o t x lo hi mx) K):
 b9 M φ H w fr ((do let z <- Instr.sliceAt t xv lov hiv mxv;pure (Next.value z):Sem Next).run P w) K:=by
 unfold o6 at h
 split at h
 ·rename_i r hr
  obtain⟨v,Δ,rd⟩:=r
  exact IA hH hx FF BJ EL hr h
 ·exact Aq hH hx FF BJ EL h
theorem FG(hH:aq M φ H w){ts:Array TypeId}{ty0:TypeId}{x y:V}{xv yv:Value}(hx:V.den (ai M φ H) φ H w x xv)(hy:V.den (ai M φ H) φ H w y yv)(h:cB (uf P H.o ts x y) K):
 b9 M φ H w fr ((do let z <- Builtin.copy_ ts ty0 #[xv,yv];pure (Next.value z):Sem Next).run P w) K:=by
 have hg:=cR h
 clear h
 obtain⟨v,Δ,rd,h,hK⟩:=hg
 unfold uf at h
 split at h
 ·rename_i t t' tH
  have tH:ts=#[t,t']:=by apply Array.ext';simpa using tH
  subst tH
  split at h
  ·rename_i e ht
   split at h
   ·rename_i id off n cs es Tt B6
    obtain⟨rfl,ho⟩:=xV Tt
    ·split at h
     ·rename_i hc
      obtain⟨c1,c2,c3,c4⟩:=hc
      injection h with h;injection h with e1 e2;injection e2 with e2 e3;subst e1;subst e2;subst e3
      have c3:∀z∈es,z.cells.length=1:=fun z hz=>by simpa using List.all_eq_true.1 c3 z hz
      obtain⟨i,hi⟩:=il (P:=P) (e:=e) af
      have du:(P.info? e).map (·.size)=some 1:=by rw[hi];simp[<- bz hi,c1]
      obtain⟨_,ee,hp⟩:=hx
      obtain⟨b,ef,rfl⟩:=hp dB
      have kC:id∉y.ids:=fun hm=>by have:=List.all_eq_true.1 c4 id hm;simp at this
      obtain⟨f1,f2,f3,f4,f5⟩:=cG hH y.ids (cD y _ hy)
      have tf:=(f4 id kC).trans ho
      have aQ:=f1.ok id
      simp only[aJ,tf]at aQ
      obtain⟨b',df,ty,g1,g2,g3,g4⟩:=aQ
      rw[ef]at g1;simp at g1;subst g1
      have l2:=V.ax _ _ g3
      simp only[Array.length_toList]at l2
      have ID:(bP H.o y.ids).map (·.1)=y.ids:=by rw[jP];simp[Function.comp_def]
      rcases mL hH hy B6 c3 with⟨rfl,rfl⟩|⟨a,c,evs,rfl,k1,k2,k3,k4⟩
      ·have hr:=run_copy_nil (P:=P) w t t' ty0 e ⟨b,off,none⟩ n n (aW ht) (by rw[du];rfl)
       have same:H.put (bP H.o y.ids++[(id,ab.row (cs.take off++(([]:List D).take n |>.flatMap D.cells).map .d++cs.drop (off+(([]:List D).take n).length)))])=H.put (bP H.o y.ids):=by
        rw[dk]
        refine rz _ ((f5 id).2 ee) ?_
        rw[tf]
        simp
       refine⟨_,goInt 0,w,φ,_,_,_,hK,by simp only[Sem.run_bind,hr,Result.andThen_ok];rfl, .inl rfl,by rw[same];exact f1,by rw[same];exact f2,by simp[V.den,D.den,goInt],fun j hj=> .inl ?_⟩
       rw[List.map_append,ID]at hj
       simp only[List.map_cons,List.map_nil,List.mem_append,List.mem_singleton]at hj
       rcases hj with hj|rfl
       ·exact cD y _ hy j hj
       ·exact ee
      ·have hlen:evs.length=es.length:=D.ax _ _ k1
       have k1':=D.aO (f2.blocks (M:=M)) _ _ k1
       have z8:D.az (ai M φ (H.put (bP H.o y.ids))) w (es.take n) (evs.take n):=D.cg n _ _ k1'
       have IE:∀ev∈evs.take n,ev.cells.size=1:=fun ev cP=>by
        have:=k2 ev (List.mem_of_mem_take cP);omega
       have qA:((evs.take n).flatMap (·.cells.toList)).length=Nat.min es.length n:=by
        rw[cE (sz:=1) _ IE];simp[hlen,Nat.min_comm]
       have pre:∀ (j:Nat) (u:Value),((evs.take n).flatMap (·.cells.toList))[j]? =some u->(evs.flatMap (·.cells.toList))[j]? =some u:=by
        intro j u hj
        have:evs.flatMap (·.cells.toList)=(evs.take n).flatMap (·.cells.toList)++(evs.drop n).flatMap (·.cells.toList):=by rw[<- List.flatMap_append,List.take_append_drop]
        rw[this]
        have bR:j<((evs.take n).flatMap (·.cells.toList)).length:=by
         rcases Nat.lt_or_ge j ((evs.take n).flatMap (·.cells.toList)).length with bR|xi
         ·exact bR
         ·rw[List.getElem?_eq_none xi]at hj;cases hj
        rw[List.getElem?_append_left bR];exact hj
       have nj:Flat ((evs.take n).flatMap (·.cells.toList)):=by
        intro u hu
        simp only[List.mem_flatMap]at hu
        obtain⟨ev,h1,h2⟩:=hu
        exact k4 u (by simp only[List.mem_flatMap];exact⟨ev,List.mem_of_mem_take h1,h2⟩)
       have hr:=run_copy_row (P:=P) w t t' ty0 e b off n n a es.length c df ty (List.flatMap (fun x:Value=>x.cells.toList) (evs.take n)) (aW ht) du g2 qA (fun j u hj=>k3 j u (pre j u hj)) (by rw[qA];have:Nat.min es.length n<=n:=Nat.min_le_right _ _;omega) nj
       have Fx:V.az (ai M φ (H.put (bP H.o y.ids))) φ (H.put (bP H.o y.ids)) w (((es.take n).flatMap D.cells).map .d) ((evs.take n).flatMap (·.cells.toList)):=by
        have flat:∀ (ds:List D) (us:List Value),D.az (ai M φ (H.put (bP H.o y.ids))) w ds us->D.az (ai M φ (H.put (bP H.o y.ids))) w (ds.flatMap D.cells) (us.flatMap (·.cells.toList)):=by
         intro ds
         induction ds with
         |nil=>intro us h;simp[D.az]at h;subst h;rfl
         |cons d ds ih=>
          intro us h
          obtain⟨u,us,rfl,q1,q2⟩:=h
          simp only[List.flatMap_cons]
          exact D.a7 _ _ _ _ (D.dV _ _ q1).1 (ih us q2)
        exact(V.bW _ _).2 (flat _ _ z8)
       have vG:((evs.take n).flatMap (·.cells.toList)).length=(es.take n).length:=by rw[qA];simp[Nat.min_comm]
       obtain⟨t1,t2⟩:=xK (cs':=cs.take off++((es.take n).flatMap D.cells).map .d++cs.drop (off+(es.take n).length)) f1 ((f5 id).2 ee) tf ef g2
        (df.toList.take off++(evs.take n).flatMap (·.cells.toList)++df.toList.drop (off+((evs.take n).flatMap (·.cells.toList)).length)).toArray (by
        simp only
        rw[vG]
        exact V.a7 _ _ _ _ (V.a7 _ _ _ _ (V.cg _ _ _ g3) Fx) (V.dz _ _ _ g3)) (by
        intro u hu
        simp only[List.mem_append]at hu
        rcases hu with(hu|hu)|hu
        ·exact g4 u (List.mem_of_mem_take hu)
        ·exact nj u hu
        ·exact g4 u (List.mem_of_mem_drop hu))
       refine⟨_,_,_,φ,_,_,_,hK,by simp only[Sem.run_bind,hr,Result.andThen_ok];rfl, .inl rfl,by rw[dk];exact t1,by rw[dk];exact f2.trans t2, ?_,fun j hj=> .inl ?_⟩
       ·simp only[V.den,D.den,goInt,qA]
       ·rw[List.map_append,ID]at hj
        simp only[List.map_cons,List.map_nil,List.mem_append,List.mem_singleton]at hj
        rcases hj with hj|rfl
        ·exact cD y _ hy j hj
        ·exact ee
     ·cases h
   ·cases h
  ·cases h
 ·cases h
theorem vH{t u:TypeId}{f off:Nat}(h:vB P t f=some (off,u)):∃fs fd,P.underlying t=some (.struct fs)/\fs[f]? =some fd/\fd.offset=off/\fd.type=u:=by
 unfold vB at h
 split at h
 ·rename_i fs hu
  split at h
  ·rename_i fd hf
   injection h with h;injection h with h1 h2
   exact⟨fs,fd,hu,hf,h1,h2⟩
  ·cases h
 ·cases h
theorem Di{t:TypeId}{cs:List V}{off:Nat}{x:V}(h:dM P t cs off=some x){arr:Array Value}(hd:V.az (ai M φ H) φ H w cs arr.toList)(hf:Flat arr.toList):
 ∃u,(part t arr off).run P w= .ok u w/\V.den (ai M φ H) φ H w x u:=by
 unfold dM at h
 split at h
 ·rename_i ha
  split at h
  ·rename_i hl
   injection h with h;subst h
   obtain⟨i,hi⟩:=pc ha
   refine⟨.agg (arr.extract off (off+P.cellsOf t)), ?_,jA _ _ ?_ ?_⟩
   ·simp only[part,Sem.run_bind,pb ha w,Result.andThen_ok,if_true,c0 hi w,Sem.run_pure]
   ·have:=V.cg (P.cellsOf t) _ _ (V.dz off _ _ hd)
    simpa[Array.toList_extract,List.extract]using this
   ·exact S0
  ·cases h
 ·rename_i ha
  obtain⟨u,hu,It⟩:=V.cN _ _ _ _ hd h
  refine⟨u, ?_,It⟩
  have xr:arr[off]? =some u:=by simpa using hu
  simp only[part,Sem.run_bind,mK ha w,Result.andThen_ok,Bool.false_eq_true,if_false,xr,Sem.run_pure]
 ·cases h
theorem Dv(hH:aq M φ H w){t:TypeId}{x:V}{xv:Value}{f:Nat}(hx:V.den (ai M φ H) φ H w x xv)(h:cB ((rq P t x f).map fun v=>(v,[],[])) K):
 b9 M φ H w fr ((do let z <- Instr.field t xv f;pure (Next.value z):Sem Next).run P w) K:=by
 have hg:=cR h
 clear h
 obtain⟨v,Δ,rd,h,hK⟩:=hg
 simp only[Option.map_eq_some_iff,Prod.mk.injEq]at h
 have hg:=h
 clear h
 obtain⟨v',h,rfl,rfl,rfl⟩:=hg
 unfold rq at h
 split at h
 ·rename_i off u hf
  obtain⟨fs,fd,hu,hfd,rfl,rfl⟩:=vH hf
  have fin:∀ {arr:Array Value} {val:Value},(part fd.type arr fd.offset).run P w= .ok val w->V.den (ai M φ H) φ H w v' val->b9 M φ H w fr ((do let z <- Instr.field t (.agg arr) f;pure (Next.value z):Sem Next).run P w) K:=by
   intro arr val r1 r2
   refine b9.same hH val hK ?_ r2
   simp[Instr.field,run_underlying hu,hfd,asAgg,r1]
  split at h
  ·rename_i cs
   exact SO
  ·rename_i cs
   exact Tf
  ·cases h
 ·cases h
theorem Dw(s:ByteArray)(n:Nat):s[n]? =s.data.toList[n]? :=by
 rw[getElem?_def]
 split
 ·rename_i h
  have h':n<s.data.toList.length:=by simpa using h
  rw[List.getElem?_eq_getElem h']
  rfl
 ·rename_i h
  have h':s.data.toList.length<=n:=by
   have: ¬n<s.data.size:=h
   simpa using this
  rw[List.getElem?_eq_none h']
theorem Dx(hH:aq M φ H w){t:TypeId}{x i:V}{xv iv:Value}(hx:V.den (ai M φ H) φ H w x xv)(hi:V.den (ai M φ H) φ H w i iv)(h:cB ((rr P t x i).map fun v=>(v,[],[])) K):
 b9 M φ H w fr ((do let z <- Instr.index t xv iv;pure (Next.value z):Sem Next).run P w) K:=by
 have hg:=cR h
 clear h
 obtain⟨v,Δ,rd,h,hK⟩:=hg
 simp only[Option.map_eq_some_iff,Prod.mk.injEq]at h
 have hg:=h
 clear h
 obtain⟨v',h,rfl,rfl,rfl⟩:=hg
 unfold rr at h
 split at h
 ·rename_i k i
  simp only[V.den,D.den]at hi
  subst hi
  split at h
  ·rename_i h0
   split at h
   ·rename_i hu
    split at h
    ·rename_i l
     split at h
     ·rename_i b hb
      injection h with h;subst h
      obtain⟨s,rfl,rfl⟩:=hx
      refine b9.same hH (.int .u8 b.toNat) hK ?_ rfl
      have Fs:s[i.toNat]? =some b:=by rw[Dw];exact hb
      simp[Instr.index,asIntOf,run_underlying hu,h0,Fs]
     ·cases h
    ·cases h
   ·rename_i n e hu
    split at h
    ·rename_i hn
     obtain⟨h1,h2⟩:=hn
     obtain⟨ie,YP⟩:=Option.isSome_iff_exists.1 h2
     have hc:0<=i/\i<(n:Int):=⟨h0,h1⟩
     have fin:∀ {arr:Array Value} {val:Value},(part e arr (i.toNat*P.cellsOf e)).run P w= .ok val w->V.den (ai M φ H) φ H w v' val->b9 M φ H w fr ((do let z <- Instr.index t (.agg arr) (.int k i);pure (Next.value z):Sem Next).run P w) K:=by
      intro arr val r1 r2
      refine b9.same hH val hK ?_ r2
      simp[Instr.index,asIntOf,run_underlying hu,hc,c0 YP,r1]
     split at h
     ·rename_i cs
      exact SO
     ·rename_i cs
      exact Tf
     ·cases h
    ·cases h
   ·cases h
  ·cases h
 ·cases h
theorem xW{t:TypeId}(h:Ak P t=true):∃d,P.underlying t=some d/\∀ms,d≠ .interface ms:=by
 unfold Ak at h
 split at h
 ·cases h
 ·rename_i d hn hd
  exact⟨d,hd,fun ms e=>hn ms e⟩
 ·cases h
theorem pf{t:TypeId}{z:V}(hz:zeroV P t=some z):∃val,(zeroValue t).run P w= .ok val w/\V.den (ai M φ H) φ H w z val:=by
 unfold zeroV at hz
 split at hz
 ·rename_i i hi
  have hr:∀v,i.zero=some v->(zeroValue t).run P w= .ok v w:=fun v hv=>by simp[zeroValue,typeInfo,hi,hv]
  split at hz
  ·rename_i a hv
   split at hz
   ·rename_i hf
    injection hz with hz;subst hz
    have tI:Flat a.toList:=fun u hu=>List.all_eq_true.1 hf u hu
    exact⟨_,hr _ hv,jA _ _ (cY _ tI) tI⟩
   ·cases hz
  ·rename_i v _ hv
   split at hz
   ·rename_i h1
    injection hz with hz;subst hz
    exact⟨_,hr _ hv,jM _ h1⟩
   ·cases hz
  ·cases hz
 ·cases hz
theorem Ar(hH:aq M φ H w){t xt:TypeId}{ok:Bool}{x:V}{xv:Value}(hx:V.den (ai M φ H) φ H w x xv)(h:cB ((nA P t ok x).map fun v=>(v,[],[])) K):
 b9 M φ H w fr ((do let z <- Instr.typeAssert xv xt t ok;pure (Next.value z):Sem Next).run P w) K:=by
 have hg:=cR h
 clear h
 obtain⟨v,Δ,rd,h,hK⟩:=hg
 simp only[Option.map_eq_some_iff,Prod.mk.injEq]at h
 have hg:=h
 clear h
 obtain⟨v',h,rfl,rfl,rfl⟩:=hg
 unfold nA at h
 split at h
 ·rename_i hp
  obtain⟨d,hd,kC⟩:=xW hp
  split at h
  ·rename_i u y
   obtain⟨val,rfl,hdy⟩:=hx
   split at h
   ·rename_i e
    subst e
    injection h with h
    have hr:(Instr.typeAssert (.iface u val) xt u ok).run P w= .ok (if ok=true then .tuple #[val, .bool true]else val) w:=by
     cases d<;>first|exact absurd rfl (kC _)|(cases ok<;>simp[Instr.typeAssert,run_underlying hd])
    refine b9.same hH _ hK R7 ?_
    subst h
    cases ok
    ·exact hdy
    ·exact⟨_,rfl,val,[.bool true],rfl,hdy, .bool true,[],rfl,rfl,rfl⟩
   ·rename_i kA
    split at h
    ·rename_i aQ
     simp only[Option.map_eq_some_iff]at h
     obtain⟨z,hz,rfl⟩:=h
     obtain⟨zv,r1,r2⟩:=pf (w:=w) (M:=M) (φ:=φ) (H:=H) hz
     have hr:(Instr.typeAssert (.iface u val) xt t ok).run P w= .ok (.tuple #[zv, .bool false]) w:=by
      cases d<;>first|exact absurd rfl (kC _)|simp[Instr.typeAssert,run_underlying hd,kA,aQ,r1]
     exact R3
    ·cases h
  ·simp only[V.den,D.den]at hx
   subst hx
   split at h
   ·rename_i aQ
    simp only[Option.map_eq_some_iff]at h
    obtain⟨z,hz,rfl⟩:=h
    obtain⟨zv,r1,r2⟩:=pf (w:=w) (M:=M) (φ:=φ) (H:=H) hz
    have hr:(Instr.typeAssert .nilIface xt t ok).run P w= .ok (.tuple #[zv, .bool false]) w:=by
     cases d<;>first|exact absurd rfl (kC _)|simp[Instr.typeAssert,run_underlying hd,aQ,r1]
    exact R3
   ·cases h
  ·cases h
 ·cases h
end
end
end Go.Proofs.YtlhemmpklhhgoaaGreat
