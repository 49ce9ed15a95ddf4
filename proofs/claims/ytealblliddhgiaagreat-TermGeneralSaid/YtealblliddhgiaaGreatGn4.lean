/-
  A PART OF THE PROOF. Conditions: none.
-/
import Derived.WideKeyRuns
import Derived.Laws.IdiomRangeMap
import Derived.Test.YtealblliddhgiaaGreatGn3
set_option linter.unusedSimpArgs false
set_option linter.unusedVariables false
namespace Go.Proofs.YtealblliddhgiaaGreat
mutual
theorem D.dW:∀ (x y:D),x.same y=true->x=y
 | .int k a,y,h=>by cases y<;>simp_all[D.same]
 | .bool a,y,h=>by cases y<;>simp_all[D.same]
 | .str a,y,h=>by cases y<;>simp_all[D.same]
 | .eC,y,h=>by cases y<;>simp_all[D.same]
 | .gY,y,h=>by cases y<;>simp_all[D.same]
 | .a7,y,h=>by cases y<;>simp_all[D.same]
 | .dk,y,h=>by cases y<;>simp_all[D.same]
 | .agg cd,y,h=>by
   cases y<;>simp only[D.same,Bool.false_eq_true]at h
   rw[D.du cd _ h]
 | .sl cd,y,h=>by
   cases y<;>simp only[D.same,Bool.false_eq_true]at h
   rw[D.du cd _ h]
 | .iface t a,y,h=>by
   cases y<;>simp only[D.same,Bool.false_eq_true,Bool.and_eq_true,beq_iff_eq]at h
   rw[h.1,D.dW a _ h.2]
 | .mp ks vs,y,h=>by
   cases y<;>simp only[D.same,Bool.false_eq_true,Bool.and_eq_true]at h
   rw[D.du ks _ h.1,D.du vs _ h.2]
theorem D.du:∀ (xs ys:List D),D.fT xs ys=true->xs=ys
 |[],ys,h=>by cases ys<;>simp_all[D.fT]
 |a::cd,ys,h=>by
  cases ys<;>simp only[D.fT,Bool.false_eq_true,Bool.and_eq_true]at h
  rw[D.dW a _ h.1,D.du cd _ h.2]
end
section
variable {P:Program}{M:Nat->Prop}{φ:Place}{H:Hp}{w w':World}{fr:Nat}{K:V->List (Nat×ae)->List Nat->Prop}{B:Nat->Prop}
theorem qC{t kt vt:TypeId}(h:oC P t=some (kt,vt)):P.underlying t=some (.map kt vt):=by
 unfold oC at h
 cases hd:P.underlying t with
 |none=>simp[hd]at h
 |some d=>cases d<;>simp_all
theorem vR{x:D}(h:nW x=true){u v:Value}(hu:D.den B w x u)(hv:D.den B w x v):u=v:=by
 cases x<;>simp only[nW,Bool.false_eq_true]at h<;>simp only[D.den]at hu hv
 ·rw[hu,hv]
 ·rw[hu,hv]
 ·obtain⟨⟨⟨a⟩⟩,rfl,h1⟩:=hu
  obtain⟨⟨⟨b⟩⟩,rfl,h2⟩:=hv
  simp only at h1 h2
  rw[h1,h2]
theorem vS:∀ {xs:List D} (_:xs.all nW=true) {us vs:List Value} (_:D.aE B w xs us) (_:D.aE B w xs vs),us=vs
 |[],_,us,vs,hu,hv=>by simp only[D.aE]at hu hv;rw[hu,hv]
 |x::xs,h,us,vs,hu,hv=>by
  simp only[List.all_cons,Bool.and_eq_true]at h
  obtain⟨u,us,rfl,h1,h2⟩:=hu
  obtain⟨v,vs,rfl,h3,h4⟩:=hv
  rw[vR h.1 h1 h3,vS h.2 h2 h4]
theorem B1{x:D}(h:kE x=true){u v:Value}(hu:D.den B w x u)(hv:D.den B w x v):u=v:=by
 cases x with
 |agg cs=>
  simp only[kE]at h
  obtain⟨a,rfl,h1,_⟩:=hu
  obtain⟨b,rfl,h2,_⟩:=hv
  have:=vS h h1 h2
  congr 1
  exact Array.ext' this
 |_=>exact vR (by simpa[kE]using h) hu hv
theorem vT{x:D}(h:nW x=true){u:Value}(hu:D.den B w x u)(n:Nat):Instr.sameBits n u u=true:=by
 cases x<;>simp only[nW,Bool.false_eq_true]at h<;>simp only[D.den]at hu
 ·subst hu;cases n<;>simp[Instr.sameBits]
 ·subst hu;cases n<;>simp[Instr.sameBits]
 ·obtain⟨s,rfl,h1⟩:=hu
  have:(s==s)=true:=(MapKept.bytes_beq s s).2 rfl
  cases n<;>simp[Instr.sameBits,this]
theorem tl:∀ {xs:List D} (_:xs.all nW=true) {us:List Value} (_:D.aE B w xs us) (n:Nat),(us.zip us).all (fun(x,y)=>Instr.sameBits n x y)=true
 |[],_,us,hu,n=>by simp only[D.aE]at hu;subst hu;rfl
 |x::xs,h,us,hu,n=>by
  simp only[List.all_cons,Bool.and_eq_true]at h
  obtain⟨u,us,rfl,h1,h2⟩:=hu
  simp only[List.zip_cons_cons,List.all_cons,vT h.1 h1 n,Bool.true_and]
  exact tl h.2 h2 n
theorem B2{x:D}(h:kE x=true){u:Value}(hu:D.den B w x u)(n:Nat):Instr.sameBits (n+1) u u=true:=by
 cases x with
 |agg cs=>
  simp only[kE]at h
  obtain⟨a,rfl,h1,_⟩:=hu
  have:=tl h h1 n
  simp only[Instr.sameBits,beq_self_eq_true,Bool.true_and]
  exact this
 |_=>exact vT (by simpa[kE]using h) hu (n+1)
theorem ET{x:D}(h:kE x=true){u:Value}(hu:D.den B w x u):(Instr.keyThatStays u u).run P w'= .ok u w':=by
 simp[Instr.keyThatStays,B2 h hu 9999]
theorem pD(em:Bool):∀ (d:Nat) (t:TypeId) (x:D),nQ P d t x=true->∀m,d<=m->∀u,D.den B w x u->(Instr.checkKey em m t u).run P w= .ok () w
 |0,_,_,h=>by simp[nQ]at h
 |d+1,t,x,h=>by
  intro m hm u hu
  obtain⟨m,rfl⟩:∃k,m=k+1:=⟨m - 1,by omega⟩
  have IH:=fun t x h u hu=>pD em d t x h m (by omega) u hu
  unfold nQ at h
  rw[Instr.checkKey]
  cases hs:bg P t with
  |none=>rw[hs]at h;cases h
  |some sh=>
   rw[hs]at h
   unfold bg at hs
   cases ht:P.underlying t with
   |none=>rw[ht]at hs;cases hs
   |some td=>
    rw[ht]at hs
    simp only[Sem.run_bind,run_underlying ht,Result.andThen_ok]
    cases td<;>simp only[Option.some.injEq,reduceCtorEq]at hs
    case int k0=>simp
    case bool=>simp
    case string=>simp
    case struct fs=>
     split at hs
     ·injection hs with hs;subst hs
      simp only at h
      cases x<;>simp only[Bool.false_eq_true]at h
      rename_i xs
      obtain⟨arr,rfl,ha,hf⟩:=hu
      simp only
      rw[<- Array.forIn_toList]
      rw[List.all_map]at h
      generalize fs.toList=L at h
      induction L with
      |nil=>simp
      |cons f L ih=>
       simp only[List.all_cons,Bool.and_eq_true,Function.comp]at h
       obtain⟨h1,h2⟩:=h
       split at h1
       ·rename_i y hy
        obtain⟨v,k1,k2⟩:=fW hy ha hf
        have k3:=IH _ _ h1 v k2
        by_cases hn:f.name= "_"
        ·simp only[List.forIn_cons,Sem.run_bind,hn,ne_eq,not_true_eq_false,if_false,Result.andThen_ok,Sem.run_pure]
         have:=ih h2
         simp only[Sem.run_bind,Sem.run_pure,ne_eq]at this
         exact this
        ·simp only[List.forIn_cons,Sem.run_bind,hn,ne_eq,not_false_eq_true,if_true,Result.andThen_ok,k1,k3,Sem.run_pure]
         have:=ih h2
         simp only[Sem.run_bind,Sem.run_pure,ne_eq]at this
         exact this
       ·cases h1
     ·cases hs
    case array n e=>
     split at hs
     ·rename_i hi
      injection hs with hs;subst hs
      simp only at h
      cases x<;>simp only[Bool.false_eq_true]at h
      rename_i xs
      obtain⟨arr,rfl,ha,hf⟩:=hu
      obtain⟨i,hi⟩:=Option.isSome_iff_exists.1 hi
      simp only[Std.Legacy.Range.forIn_eq_forIn_range',Std.Legacy.Range.size,Nat.sub_zero,Nat.add_one_sub_one,Nat.div_one]
      rw[List.range_eq_range']at h
      generalize List.range' 0 n=is at h
      induction is with
      |nil=>simp
      |cons j is ih=>
       simp only[List.all_cons,Bool.and_eq_true]at h
       obtain⟨h1,h2⟩:=h
       split at h1
       ·rename_i y hy
        obtain⟨v,k1,k2⟩:=fW hy ha hf
        have k3:=IH _ _ h1 v k2
        simp only[List.forIn_cons,Sem.run_bind,eh hi,Result.andThen_ok,k1,k3,Sem.run_pure]
        have:=ih h2
        simp only[Sem.run_bind,Sem.run_pure]at this
        exact this
       ·cases h1
     ·cases hs
def ke(B:Nat->Prop)(w:World)(es:List MapEntry)(i:Nat):Option (Nat×D×D)->Option (Nat×Value)->Prop
 |none,none=>True
 |some (j,k,x),some (j',v)=>j=j'/\i<=j/\D.den B w x v/\∃e,es[j - i]? =some e/\e.val=v/\D.den B w k e.key
 |_,_=>False
theorem ke.succ {es:List MapEntry}{e:MapEntry}{i:Nat}{r:Option (Nat×D×D)}{r':Option (Nat×Value)}(h:ke B w es (i+1) r r'):ke B w (e::es) i r r':=by
 cases r with
 |none=>cases r'<;>exact h
 |some p=>
  obtain⟨j,k,x⟩:=p
  cases r' with
  |none=>exact h
  |some q=>
   obtain⟨j',v⟩:=q
   obtain⟨h1,h2,h3,e',h4,h5⟩:=h
   refine⟨h1,by omega,h3,e', ?_,h5⟩
   rw[show j - i=(j - (i+1))+1 by omega]
   simpa using h4
theorem rz{kt:TypeId}{kd:D}{kv:Value}(hk:D.den B w kd kv):∀ (l:List (D×D)) (es:List MapEntry) (i:Nat) (r:Option (Nat×D×D)),aH B w l es->findD P kt kd l i=some r->
 ∃r',(Instr.findAsking kt kv es i).run P w= .ok r' w/\ke B w es i r r'
 |[],es,i,r,he,h=>by
  simp only[aH]at he;subst he
  simp only[findD,Option.some.injEq]at h;subst h
  exact⟨none,by simp[Instr.findAsking],trivial⟩
 |(k',x)::l,es,i,r,he,h=>by
  obtain⟨e,es,rfl,h1,h2,h3⟩:=he
  simp only[findD]at h
  split at h
  ·rename_i hq
   injection h with h;subst h
   have:=sC 100 kt _ _ _ hq 10000 (by decide) B w _ _ hk h1
   refine⟨some (i,e.val),by simp[Instr.findAsking,Op.equal,Op.maxDepth,this],rfl,Nat.le_refl _,h2,e,by simp,rfl,h1⟩
  ·rename_i hq
   have:=sC 100 kt _ _ _ hq 10000 (by decide) B w _ _ hk h1
   obtain⟨r',g1,g2⟩:=rz hk l es (i+1) r h3 h
   exact⟨r',by simp[Instr.findAsking,Op.equal,Op.maxDepth,this,g1],g2.succ⟩
  ·cases h
theorem rA{td:TypeDesc}{kt:TypeId}(ht:P.underlying kt=some td)(hn:(match td with| .int _| .bool| .string=>true|_=>false)=true){x y:D}{r:Bool}(h:qm P 100 kt x y=some r){u v:Value}(hu:D.den B w x u)(hv:D.den B w y v):
 Instr.sameNow td u v=some r:=by
 unfold qm bg at h
 rw[ht]at h
 cases td<;>simp only[Bool.false_eq_true]at hn<;>simp only at h
 ·split at h
  ·injection h with h;subst h
   simp only[D.den]at hu hv;subst hu;subst hv;rfl
  ·cases h
 ·split at h
  ·split at h
   ·rename_i e;subst e;injection h with h;subst h
    simp only[D.den]at hu hv;subst hu;subst hv;simp[Instr.sameNow]
   ·cases h
  ·cases h
 ·split at h
  ·injection h with h;subst h
   obtain⟨s1,rfl,rfl⟩:=hu
   obtain⟨s2,rfl,rfl⟩:=hv
   simp only[Instr.sameNow,Option.some.injEq]
   obtain⟨⟨a⟩⟩:=s1
   obtain⟨⟨b⟩⟩:=s2
   rw[Bool.eq_iff_iff,MapKept.bytes_beq]
   simp
  ·cases h
theorem rB{td:TypeDesc}{kt:TypeId}(ht:P.underlying kt=some td)(hn:(match td with| .int _| .bool| .string=>true|_=>false)=true){kd:D}{kv:Value}(hk:D.den B w kd kv):∀ (l:List (D×D)) (es:List MapEntry) (i:Nat) (r:Option (Nat×D×D)),aH B w l es->findD P kt kd l i=some r->
 ∃r',Instr.findNow td kv es i=some r'/\ke B w es i r r'
 |[],es,i,r,he,h=>by
  simp only[aH]at he;subst he
  simp only[findD,Option.some.injEq]at h;subst h
  exact⟨none,by simp[Instr.findNow],trivial⟩
 |(k',x)::l,es,i,r,he,h=>by
  obtain⟨e,es,rfl,h1,h2,h3⟩:=he
  simp only[findD]at h
  split at h
  ·rename_i hq
   injection h with h;subst h
   have:=rA ht hn hq hk h1
   refine⟨some (i,e.val),by simp[Instr.findNow,this],rfl,Nat.le_refl _,h2,e,by simp,rfl,h1⟩
  ·rename_i hq
   have:=rA ht hn hq hk h1
   obtain⟨r',g1,g2⟩:=rB ht hn hk l es (i+1) r h3 h
   exact⟨r',by simp[Instr.findNow,this,g1],g2.succ⟩
  ·cases h
theorem fX{kt:TypeId}{kd:D}{kv:Value}(hk:D.den B w kd kv)(hc:nQ P 100 kt kd=true){l:List (D×D)}{es:List MapEntry}{r:Option (Nat×D×D)}(he:aH B w l es)(h:findD P kt kd l 0=some r):
 ∃r',(Instr.findKey kt kv es).run P w= .ok r' w/\ke B w es 0 r r':=by
 unfold nQ bg at hc
 cases ht:P.underlying kt with
 |none=>simp[ht]at hc
 |some td=>
  have now:(match td with| .int _| .bool| .string=>true|_=>false)=true->∃r',(Instr.findKey kt kv es).run P w= .ok r' w/\ke B w es 0 r r':=by
   intro hn
   obtain⟨r',g1,g2⟩:=rB ht hn hk l es 0 r he h
   exact⟨r',MapKept.run_findKey ht g1,g2⟩
  have ask:(match P.underlying kt with|some (.array _ _)|some (.struct _)=>true|_=>false)=true->∃r',(Instr.findKey kt kv es).run P w= .ok r' w/\ke B w es 0 r r':=by
   intro hn
   obtain⟨r',g1,g2⟩:=rz hk l es 0 r he h
   exact⟨r',(run_findKey_eq w hn kv es).trans g1,g2⟩
  cases td<;>first
   |exact now rfl
   |(refine ask ?_;rw[ht];done)
   |(exfalso;simp[ht]at hc)
theorem aH.get:∀ {l:List (D×D)} {es:List MapEntry} {i:Nat} {e:MapEntry},aH B w l es->es[i]? =some e->∃p,l[i]? =some p/\D.den B w p.1 e.key/\D.den B w p.2 e.val
 |[],es,i,e,h,hi=>by simp only[aH]at h;subst h;simp at hi
 |(k,x)::l,es,i,e,h,hi=>by
  obtain⟨e',es,rfl,h1,h2,h3⟩:=h
  cases i with
  |zero=>simp at hi;subst hi;exact⟨(k,x),by simp,h1,h2⟩
  |succ i=>simpa using aH.get h3 (by simpa using hi)
theorem aH.push:∀ {l:List (D×D)} {es:List MapEntry} {k x:D} {e:MapEntry},aH B w l es->D.den B w k e.key->D.den B w x e.val->aH B w (l++[(k,x)]) (es++[e])
 |[],es,k,x,e,h,h1,h2=>by simp only[aH]at h;subst h;exact⟨e,[],rfl,h1,h2,rfl⟩
 |(k',x')::l,es,k,x,e,h,h1,h2=>by
  obtain⟨e',es,rfl,g1,g2,g3⟩:=h
  exact⟨e',es++[e],rfl,g1,g2,aH.push g3 h1 h2⟩
theorem aH.set:∀ {l:List (D×D)} {es:List MapEntry} {i:Nat} {k x:D} {e:MapEntry},aH B w l es->D.den B w k e.key->D.den B w x e.val->aH B w (l.set i (k,x)) (es.set i e)
 |[],es,i,k,x,e,h,h1,h2=>by simp only[aH]at h;subst h;rfl
 |(k',x')::l,es,i,k,x,e,h,h1,h2=>by
  obtain⟨e',es,rfl,g1,g2,g3⟩:=h
  cases i with
  |zero=>exact⟨e,es,rfl,h1,h2,g3⟩
  |succ i=>exact⟨e',es.set i e,rfl,g1,g2,aH.set g3 h1 h2⟩
theorem zw(hH:az M φ H w)(cS: ¬H.us fr){t:TypeId}(h:dm (mG P fr t) K):cJ M φ H w fr ((do let v <- Instr.makeMap t none;pure (Next.value v):Sem Next).run P w) K:=by
 have hg:=dt h
 clear h
 obtain⟨v,Δ,rd,h,hK⟩:=hg
 unfold mG at h
 split at h
 ·rename_i kt vt ht
  injection h with h;injection h with e1 e2;injection e2 with e2 e3;subst e1;subst e2;subst e3
  have hv:∀b,dN (.map (some w.heap.size))=some b->w.heap.size<=b/\b<(w.alloc (.map #[] 0)).heap.size:=by
   intro b hb;simp[dN]at hb;subst hb;simp
  have EU:=fe (φ:=φ) (H:=H) (cZ w (.map #[] 0)) cS (.map kt vt []) (.map (some w.heap.size)) fun b hb=>(hv b hb).1
  refine⟨_, .map (some w.heap.size),w.alloc (.map #[] 0),ak φ fr (.map (some w.heap.size)),_,_,_,hK,by simp[Instr.makeMap], .inl rfl,jB hH (cZ w _) cS _ _ hv ?_,EU,⟨rfl,by simp,fun _=>by simp⟩,fun j hj=> .inr (by simpa using hj)⟩
  unfold aK
  simp only[bF,aJ,if_true]
  exact⟨w.heap.size,#[],0,rfl,heap_alloc_new w _,⟨fun e he=>by simp at he,by simp⟩,rfl⟩
 ·cases h
theorem tn{o:Nat->ae}{m:V}{r:Option (Nat×TypeId×TypeId)}{l:List (D×D)}(h:nX o m=some (r,l)):(∃id kt vt,m= .mp id/\o id= .map kt vt l/\r=some (id,kt,vt))\/(m= .d .dk/\r=none/\l=[]):=by
 unfold nX at h
 split at h
 ·split at h
  ·rename_i ho
   simp only[Option.some.injEq,Prod.mk.injEq]at h;obtain⟨rfl,rfl⟩:=h;exact .inl ⟨_,_,_,rfl,ho,rfl⟩
  ·cases h
 ·simp only[Option.some.injEq,Prod.mk.injEq]at h;obtain⟨rfl,rfl⟩:=h;exact .inr ⟨rfl,rfl,rfl⟩
 ·cases h
theorem GC{ks vs:List D}{es:List MapEntry}(h1:D.aE B w ks (es.map (·.key)))(h2:D.aE B w vs (es.map (·.val))):aH B w (ks.zip vs) es:=by
 have e1:=D.aG _ _ h1
 have e2:=D.aG _ _ h2
 simp only[List.length_map]at e1 e2
 refine(jn _ _).2 ?_
 rw[List.map_fst_zip (by omega),List.map_snd_zip (by omega)]
 exact⟨h1,h2⟩
def tp(l l':List (D×D)):Prop:=l'=l\/(l'.Perm l/\pg (l.map (·.1)))
theorem tp.perm {l l':List (D×D)}(h:tp l l'):l'.Perm l:=by
 rcases h with rfl|h
 ·exact List.Perm.refl _
 ·exact h.1
theorem EV{p q:List MapEntry}(hpq:p.Perm q):∀ {l:List (D×D)},aH B w l p->∃l',l'.Perm l/\aH B w l' q:=by
 induction hpq with
 |nil=>intro l h;exact⟨l,List.Perm.refl _,h⟩
 |cons x _ ih=>
  intro l h
  cases l with
  |nil=>cases h
  |cons y l=>
   obtain⟨k,v⟩:=y
   obtain⟨e,es,h0,h1,h2,h3⟩:=h
   injection h0 with h0 Nr;subst h0;subst Nr
   obtain⟨l',g1,g2⟩:=ih h3
   exact⟨(k,v)::l',g1.cons _,_,_,rfl,h1,h2,g2⟩
 |swap x y t=>
  intro l h
  match l,h with
  |[],h=>cases h
  |[(_,_)],h=>obtain⟨e,es,h0,_,_,h3⟩:=h;injection h0 with _ h0;have h3:es=[]:=h3;rw[h3]at h0;cases h0
  |(k,v)::(k',v')::l,h=>
   obtain⟨e,es,h0,h1,h2,e',es',Nr,nI,u6,h3⟩:=h
   subst Nr
   injection h0 with a b;subst a;injection b with b c;subst b;subst c
   exact⟨(k',v')::(k,v)::l,List.Perm.swap _ _ _,_,_,rfl,nI,u6,_,_,rfl,h1,h2,h3⟩
 |trans _ _ Wm Wn=>
  intro l h
  obtain⟨l1,g1,g2⟩:=Wm h
  obtain⟨l2,g3,g4⟩:=Wn g2
  exact⟨l2,g3.trans g1,g4⟩
theorem qD{l:List (D×D)}{p:List MapEntry}{es:Array MapEntry}(hp:p=es.toList\/(p.Perm es.toList/\pg (l.map (·.1))))(h:aH B w l p):∃l',tp l l'/\aH B w l' es.toList:=by
 rcases hp with rfl|⟨h1,h2⟩
 ·exact⟨l, .inl rfl,h⟩
 ·obtain⟨l',g1,g2⟩:=EV h1 h
  exact⟨l', .inr ⟨g1,h2⟩,g2⟩
theorem lV{l:List (D×D)}{v:Value}(h:D.den B w (.mp (l.map (·.1)) (l.map (·.2))) v):∃m es clock l',v= .map (some m)/\w.heap[m]? =some (.map es clock)/\ ¬B m/\ja es clock/\tp l l'/\aH B w l' es.toList:=by
 obtain⟨m,es,clock,p,h1,h2,h3,h4,hp,h5,h6⟩:=h
 obtain⟨l',g1,g2⟩:=qD hp ((jn _ _).2 ⟨h5,h6⟩)
 exact⟨m,es,clock,l',h1,h2,h3,h4,g1,g2⟩
theorem zy{ks vs:List D}{p:List MapEntry}(h1:D.aE B w ks (p.map (·.key)))(h2:D.aE B w vs (p.map (·.val))):(ks.zip vs).map (·.1)=ks:=by
 have e1:=D.aG _ _ h1
 have e2:=D.aG _ _ h2
 simp only[List.length_map]at e1 e2
 exact List.map_fst_zip (by omega)
theorem Jx{P:Program}{kt:TypeId}{kd:D}{n:Int}{b:Bool}(h:qm P 100 kt kd (.int .i64 n)=some b):bg P kt=some .int/\∃m,kd= .int .i64 m/\b=(m==n):=by
 unfold qm at h
 cases hs:bg P kt with
 |none=>simp[hs]at h
 |some sh=>
  cases sh<;>simp only[hs]at h
  case int=>
   cases kd<;>simp only at h
   all_goals first
    |(cases h;done)
    |(split at h
      ·rename_i e;subst e;injection h with h;exact⟨rfl,_,rfl,h.symm⟩
      ·cases h)
  all_goals first
   |(cases kd<;>simp at h;done)
   |(simp at h;done)
theorem oF{P:Program}{kt:TypeId}{m:Int}(hs:bg P kt=some .int):∀ (l:List (D×D)) (i:Nat),(∀k∈l.map (·.1),∃n,k= .int .i64 n)->∃r,findD P kt (.int .i64 m) l i=some r/\(match r with|some (_,_,x)=>(D.int .i64 m,x)∈l|none=>∀x,(D.int .i64 m,x)∉l)
 |[],i,_=>⟨none,rfl,by simp⟩
 |(k,x)::l,i,h=>by
  obtain⟨n,rfl⟩:=h k (by simp)
  have he:qm P 100 kt (.int .i64 m) (.int .i64 n)=some (m==n):=by simp[qm,hs]
  simp only[findD,he]
  by_cases e:m=n
  ·subst e
   exact⟨some (i, .int .i64 m,x),by simp,by simp⟩
  ·have e2:(m==n)=false:=by simpa using e
   obtain⟨r,h1,h2⟩:=oF hs l (i+1) (fun k hk=>h k (by simp at hk|-;exact .inr hk))
   refine⟨r,by simp only[e2];exact h1, ?_⟩
   cases r with
   |none=>intro y hy;rcases List.mem_cons.1 hy with hy|hy
          ·injection hy with hy _;injection hy with _ hy;exact e hy
          ·exact h2 y hy
   |some p=>exact List.mem_cons_of_mem _ h2
theorem EW{L:List (D×D)}(hn:(L.map (·.1)).Nodup){k x x':D}(f2:(k,x)∈L)(f4:(k,x')∈L):x'=x:=by
 induction L with
 |nil=>cases f2
 |cons y L ih=>
  rw[List.map_cons,List.nodup_cons]at hn
  rcases List.mem_cons.1 f2 with e1|e1<;>rcases List.mem_cons.1 f4 with e2|e2
  ·rw[<- e1]at e2;injection e2
  ·exact absurd (by rw[<- e1];exact List.mem_map.2 ⟨_,e2,rfl⟩) hn.1
  ·exact absurd (by rw[<- e2];exact List.mem_map.2 ⟨_,e1,rfl⟩) hn.1
  ·exact ih hn.2 e1 e2
theorem vU{P:Program}{kt:TypeId}{kd:D}{l l':List (D×D)}{r:Option (Nat×D×D)}(hl:tp l l')(h:findD P kt kd l 0=some r):∃r',findD P kt kd l' 0=some r'/\(match r,r' with|some (_,_,x),some (_,_,x')=>x'=x|none,none=>True|_,_=>False):=by
 rcases hl with rfl|⟨hp,hk⟩
 ·refine⟨r,h, ?_⟩
  cases r<;>trivial
 ·cases l with
  |nil=>
   have:l'=[]:=hp.eq_nil
   subst this
   refine⟨r,h, ?_⟩
   cases r<;>trivial
  |cons p l=>
   obtain⟨k0,x0⟩:=p
   obtain⟨n0,rfl⟩:=hk.2 k0 (by simp)
   have hb:∃b,qm P 100 kt kd (.int .i64 n0)=some b:=by
    simp only[findD]at h
    cases he:qm P 100 kt kd (.int .i64 n0)with
    |none=>rw[he]at h;cases h
    |some b=>exact⟨b,rfl⟩
   obtain⟨b,hb⟩:=hb
   obtain⟨hs,m,rfl,_⟩:=Jx hb
   obtain⟨r1,f1,f2⟩:=oF (m:=m) hs ((.int .i64 n0,x0)::l) 0 hk.2
   rw[h]at f1;injection f1 with f1;subst f1
   obtain⟨r',f3,f4⟩:=oF (m:=m) hs l' 0 (fun k Wo=>hk.2 k ((hp.map _).mem_iff.1 Wo))
   refine⟨r',f3, ?_⟩
   cases r with
   |none=>
    cases r' with
    |none=>trivial
    |some q=>obtain⟨_,_,x'⟩:=q;exact f2 x' (hp.mem_iff.1 f4)
   |some q=>
    obtain⟨_,_,x⟩:=q
    cases r' with
    |none=>exact f4 x (hp.mem_iff.2 f2)
    |some q'=>
     obtain⟨_,_,x'⟩:=q'
     exact EW hk.1 f2 (hp.mem_iff.1 f4)
theorem vV{ks vs:List D}{p:List MapEntry}(h1:D.aE B w ks (p.map (·.key)))(h2:D.aE B w vs (p.map (·.val))):aH B w (ks.zip vs) p:=GC h1 h2
theorem B3(hH:az M φ H w){m:V}{mv:Value}{rd:List Nat}{l:List (D×D)}(hm:V.den (ao M φ H) φ H w m mv)(h:pq H.o m=some (rd,l)):
 (mv= .map none/\l=[])\/∃b es clock l',mv= .map (some b)/\w.heap[b]? =some (.map es clock)/\ja es clock/\tp l l'/\aH (ao M φ H) w l' es.toList:=by
 unfold pq at h
 split at h
 ·rename_i id
  obtain⟨xq,zA,vW⟩:=hm
  have bA:=hH.ok id
  split at h
  ·rename_i ho
   simp only[Option.some.injEq,Prod.mk.injEq]at h;obtain⟨rfl,rfl⟩:=h
   simp only[aK,ho]at bA
   obtain⟨b,es,clock,g1,g2,g0,g3⟩:=bA
   exact .inr ⟨b,es,clock,_,(vW (by rw[ho];rfl)).trans g1,g2,g0, .inl rfl,g3⟩
  ·rename_i ho
   simp only[Option.some.injEq,Prod.mk.injEq]at h;obtain⟨rfl,rfl⟩:=h
   simp only[aK,ho]at bA
   obtain⟨b,es,clock,l',g1,g2,_,g0,g3⟩:=lV bA
   exact .inr ⟨b,es,clock,l',(vW (by rw[ho];rfl)).trans g1,g2,g0,g3⟩
  ·cases h
 ·simp only[Option.some.injEq,Prod.mk.injEq]at h;obtain⟨rfl,rfl⟩:=h
  simp only[V.den,D.den]at hm
  exact .inl ⟨hm,rfl⟩
 ·simp only[Option.some.injEq,Prod.mk.injEq]at h;obtain⟨rfl,rfl⟩:=h
  obtain⟨b,es,clock,p,g1,g2,_,g0,gp,g3,g4⟩:=hm
  obtain⟨l',g5,g6⟩:=qD (by rw[zy g3 g4];exact gp) (vV g3 g4)
  exact .inr ⟨b,es,clock,l',g1,g2,g0,g5,g6⟩
 ·cases h
theorem B4(hH:az M φ H w){t:TypeId}{m k:V}{mv kv:Value}{ok:Bool}(hm:V.den (ao M φ H) φ H w m mv)(hk:V.den (ao M φ H) φ H w k kv)(h:dm (iE P H.o t m k ok) K):
 cJ M φ H w fr ((do let v <- Instr.lookup t mv kv ok;pure (Next.value v):Sem Next).run P w) K:=by
 have hg:=dt h
 clear h
 obtain⟨v,Δ,rd,h,hK⟩:=hg
 unfold iE at h
 split at h
 ·rename_i kt vt kd rd0 l ht Rc Ju
  split at h
  ·rename_i hc
   have kg:D.den (ao M φ H) w kd kv:=eI hH k kd kv (fun id ax=>by rw[hc.1]at ax;cases ax) Rc hk
   have Jf:∀em,(Instr.checkKey em 10000 kt kv).run P w= .ok () w:=fun em=>pD em 100 kt kd hc.2 10000 (by decide) kv kg
   have Dn:=qC ht
   have Wp:∃ (es:Array MapEntry) (l':List (D×D)),tp l l'/\aH (ao M φ H) w l' es.toList/\∀ (r':Option (Nat×Value)) (val:Value),(Instr.findKey kt kv es.toList).run P w= .ok r' w->(match r' with|some (_,u)=>val=(if ok=true then .tuple #[u, .bool true]else u)|none=>∃z,(zeroValue vt).run P w= .ok z w/\val=(if ok=true then .tuple #[z, .bool false]else z))->(Instr.lookup t mv kv ok).run P w= .ok val w:=by
    rcases B3 hH hm Ju with⟨rfl,rfl⟩|⟨b,es,clock,l',rfl,g2,_,gl,g3⟩
    case inr=>
     have pE:=MapKept.run_getObj_map (P:=P) g2
     refine⟨es,l',gl,g3,fun r' val q1 q2=> ?_⟩
     cases r' with
     |some p=>obtain⟨j,u⟩:=p;simp only at q2;subst q2;cases ok<;>simp[Instr.lookup,run_underlying Dn,pE,Jf,q1]
     |none=>obtain⟨z,z1,rfl⟩:=q2;cases ok<;>simp[Instr.lookup,run_underlying Dn,pE,Jf,q1,z1]
    case inl=>
     refine⟨#[],[], .inl rfl,rfl,fun r' val q1 q2=> ?_⟩
     cases r' with
     |some p=>obtain⟨j,u⟩:=p;simp only at q2;subst q2;cases ok<;>simp[Instr.lookup,run_underlying Dn,Jf,q1]
     |none=>obtain⟨z,z1,rfl⟩:=q2;cases ok<;>simp[Instr.lookup,run_underlying Dn,Jf,q1,z1]
   obtain⟨es,l',gl,g3,run⟩:=Wp
   split at h
   ·rename_i j kk x hf
    injection h with h;injection h with e1 e2;injection e2 with e2 e3;subst e1;subst e2;subst e3
    obtain⟨r2,GD,tq⟩:=vU gl hf
    obtain⟨r',q1,q2⟩:=fX kg hc.2 g3 GD
    cases r2 with
    |none=>exact tq.elim
    |some p2=>
    obtain⟨_,_,x2⟩:=p2
    have Dp:x2=x:=tq
    obtain rfl:=Dp
    cases r' with
    |none=>exact q2.elim
    |some p=>
     obtain⟨j',u⟩:=p
     obtain⟨_,_,Vq,_⟩:=q2
     refine cJ.plain (v:=(if ok=true then .bS [.d x2, .d (.bool true)]else .d x2)) hH (if ok=true then .tuple #[u, .bool true]else u) hK (run _ _ q1 rfl) ?_
     cases ok
     ·exact Vq
     ·exact⟨#[u, .bool true],rfl,u,[.bool true],rfl,Vq, .bool true,[],rfl,rfl,rfl⟩
   ·rename_i hf
    split at h
    ·rename_i z hz
     injection h with h;injection h with e1 e2;injection e2 with e2 e3;subst e1;subst e2;subst e3
     obtain⟨r2,GD,tq⟩:=vU gl hf
     obtain⟨r',q1,q2⟩:=fX kg hc.2 g3 GD
     cases r2 with
     |some p2=>exact tq.elim
     |none=>
     cases r' with
     |some p=>exact q2.elim
     |none=>
      obtain⟨val,z1,z2⟩:=qB (M:=M) (φ:=φ) (H:=H) (w:=w) hz
      refine cJ.plain hH (if ok=true then .tuple #[val, .bool false]else val) hK (run _ _ q1 ⟨val,z1,rfl⟩) ?_
      cases ok
      ·exact z2
      ·exact⟨#[val, .bool false],rfl,val,[.bool false],rfl,z2, .bool false,[],rfl,rfl,rfl⟩
    ·cases h
   ·cases h
  ·cases h
 ·cases h
theorem iH{es:Array MapEntry}{i:Nat}{e:MapEntry}(f:MapEntry->MapEntry)(h:es.toList[i]? =some e):(es.modify i f).toList=es.toList.set i (f e):=by
 apply List.ext_getElem?
 intro j
 simp only[Array.getElem?_toList,Array.getElem?_modify]
 rw[List.getElem?_set]
 have h':es[i]? =some e:=by simpa using h
 by_cases hj:i=j
 ·subst hj
  have bC:i<es.toList.length:=by
   rw[List.getElem?_eq_some_iff]at h;exact h.1
  simp only[if_true,h',Option.map_some,bC]
 ·simp[hj]
theorem B5{es:Array MapEntry}{clock:Nat}(h:ja es clock){e:MapEntry}(he:e.born=clock):ja (es.push e) (clock+1):=by
 obtain⟨h1,h2⟩:=h
 refine⟨fun x hx=> ?_, ?_⟩
 ·rw[Array.toList_push]at hx
  rcases List.mem_append.1 hx with hx|hx
  ·have:=h1 x hx;omega
  ·simp at hx;subst hx;omega
 ·rw[Array.toList_push,List.map_append,List.nodup_append]
  refine⟨h2,by simp,fun a ha b hb=> ?_⟩
  obtain⟨x,hx,rfl⟩:=List.mem_map.1 ha
  simp only[List.map_cons,List.map_nil,List.mem_singleton]at hb
  have:=h1 x hx
  omega
theorem xr{es:Array MapEntry}{clock i:Nat}(h:ja es clock){e:MapEntry}(hi:es.toList[i]? =some e){f:MapEntry->MapEntry}(hf:(f e).born=e.born):ja (es.modify i f) clock:=by
 obtain⟨h1,h2⟩:=h
 unfold ja
 rw[iH f hi]
 have e1:(es.toList.set i (f e)).map (·.born)=es.toList.map (·.born):=by
  rw[List.map_set,hf]
  apply List.ext_getElem?
  intro j
  rw[List.getElem?_set]
  by_cases hj:i=j
  ·subst hj
   have bC:=(List.getElem?_eq_some_iff.1 hi).1
   rw[if_pos rfl,if_pos (by simpa using bC),List.getElem?_map,hi];rfl
  ·rw[if_neg hj]
 refine⟨fun x hx=> ?_,by rw[e1];exact h2⟩
 obtain⟨j,hj⟩:=List.mem_iff_getElem?.1 (List.mem_map.2 ⟨x,hx,rfl⟩:x.born∈(es.toList.set i (f e)).map (·.born))
 rw[e1]at hj
 obtain⟨y,hy,e2⟩:=List.mem_map.1 (List.mem_of_getElem? hj)
 have:=h1 y hy
 omega
theorem zB{es:Array MapEntry}{clock i:Nat}(h:ja es clock):ja (es.eraseIdxIfInBounds i) clock:=by
 obtain⟨h1,h2⟩:=h
 have e:(es.eraseIdxIfInBounds i).toList=es.toList.eraseIdx i:=by simp
 unfold ja
 rw[e]
 exact⟨fun x hx=>h1 x (List.mem_of_mem_eraseIdx hx),h2.sublist (List.Sublist.map _ (List.eraseIdx_sublist ..))⟩
theorem aH.erase:∀ {l:List (D×D)} {es:List MapEntry} {i:Nat},aH B w l es->aH B w (l.eraseIdx i) (es.eraseIdx i)
 |[],es,i,h=>by simp only[aH]at h;subst h;simp[aH]
 |(k',x')::l,es,i,h=>by
  obtain⟨e',es,rfl,g1,g2,g3⟩:=h
  cases i with
  |zero=>exact g3
  |succ i=>exact⟨e',es.eraseIdx i,rfl,g1,g2,aH.erase g3⟩
theorem GF(hH:az M φ H w){id b clock clock':Nat}{kt vt:TypeId}{l l':List (D×D)}{es es':Array MapEntry}(dA:H.us id)(ho:H.o id= .map kt vt l)(dq:φ id= .map (some b))(g2:w.heap[b]? =some (.map es clock))(h0:ja es' clock')(hl:aH (ao M φ H) w l' es'.toList):
 az M φ (H.put [(id, .map kt vt l')]) {w with heap:=w.heap.setIfInBounds b (.map es' clock')}/\Trans φ H w φ (H.put [(id, .map kt vt l')]) {w with heap:=w.heap.setIfInBounds b (.map es' clock')}:=by
 have GG:eM (· =b) w {w with heap:=w.heap.setIfInBounds b (.map es' clock')}:=
  ⟨rfl,rfl,rfl,by simp,fun j _ hj=>(MapKept.heap_set g2).2 j hj⟩
 have qn:(H.o id).live=true:=by rw[ho];rfl
 have sE:dN (φ id)=some b:=by rw[dq];rfl
 have yV:=eS (w:=w) (w':={w with heap:=w.heap.setIfInBounds b (.map es' clock')}) dA qn sE GG (.map kt vt l') (by rw[ho];rfl) (by rw[ho];rfl)
 refine⟨gZ hH dA qn sE GG _ (by rw[ho];rfl) (by rw[ho];rfl) ?_,yV⟩
 unfold aK
 simp only[bF,aJ,if_true]
 exact⟨b,es',clock',dq,(MapKept.heap_set g2).1,h0,aH.mono (yV.blocks (M:=M)) l' _ hl⟩
theorem B6(hH:az M φ H w){t:TypeId}{ts:Array TypeId}{m k:V}{mv kv:Value}(BW:ts.toList.head?=some t)(hm:V.den (ao M φ H) φ H w m mv)(hk:V.den (ao M φ H) φ H w k kv){ty0:TypeId}
 (h:dm (nF P H.o t m k) K):cJ M φ H w fr ((do let v <- Builtin.delete_ ts ty0 #[mv,kv];pure (Next.value v):Sem Next).run P w) K:=by
 have hg:=dt h
 clear h
 obtain⟨v',Δ,rd,h,hK⟩:=hg
 have Vr:ts[0]? =some t:=by rw[<- Array.getElem?_toList, <- List.head?_eq_getElem?];exact BW
 unfold nF at h
 split at h
 ·rename_i kt vt kd id BH BI l ht Rc Ju
  rcases tn Ju with⟨id2,kt2,vt2,rfl,ho,hr⟩|⟨rfl,hr,rfl⟩
  case inr=>cases hr
  injection hr with hr;injection hr with e1 e2;injection e2 with e2 e3;subst e1;subst e2;subst e3
  split at h
  ·rename_i hc
   obtain⟨c1,c2⟩:=hc
   have kg:D.den (ao M φ H) w kd kv:=eI hH k kd kv (fun id ax=>by rw[c1]at ax;cases ax) Rc hk
   have Jf:∀em,(Instr.checkKey em 10000 kt kv).run P w= .ok () w:=fun em=>pD em 100 kt kd c2 10000 (by decide) kv kg
   have Dn:=qC ht
   obtain⟨xq,dA,vW⟩:=hm
   have dq:=vW (by rw[ho];rfl)
   have bA:=hH.ok id
   simp only[aK,ho]at bA
   obtain⟨b,es,clock,g1,g2,g0,g3⟩:=bA
   rw[<- dq]at g1;subst g1
   have pE:=MapKept.run_getObj_map (P:=P) g2
   split at h
   ·rename_i i k' x hf
    injection h with h;injection h with e1 e2;injection e2 with e2 e3;subst e1;subst e2;subst e3
    obtain⟨r',q1,q2⟩:=fX kg c2 g3 hf
    cases r' with
    |none=>exact q2.elim
    |some p=>
     obtain⟨j',u⟩:=p
     obtain⟨rfl,_,Vq,e,h4,h5,h6⟩:=q2
     have e:(es.eraseIdxIfInBounds i).toList=es.toList.eraseIdx i:=by simp
     obtain⟨t1,t2⟩:=GF (clock':=clock) (es':=es.eraseIdxIfInBounds i) (l':=l.eraseIdx i) hH dA ho dq.symm g2 (zB g0) (by rw[e];exact g3.erase)
     refine⟨.value (.tuple #[]), .tuple #[],_,φ,_,_,_,hK, ?_, .inl rfl,t1,t2,⟨#[],rfl,rfl⟩,fun j hj=> .inl (by simp at hj;subst hj;exact dA)⟩
     simp only[Builtin.delete_,Vr,Sem.run_bind,run_underlying Dn,Result.andThen_ok,pE,Jf,q1,List.getElem?_toArray,List.getElem?_cons_zero,List.getElem?_cons_succ,MapKept.run_setObj_map _ g2,Sem.run_pure]
   ·rename_i hf
    injection h with h;injection h with e1 e2;injection e2 with e2 e3;subst e1;subst e2;subst e3
    obtain⟨r',q1,q2⟩:=fX kg c2 g3 hf
    cases r' with
    |some p=>exact q2.elim
    |none=>
     have hw:{w with heap:=w.heap.setIfInBounds b (.map es clock)}=w:=by
      have bC:b<w.heap.size:=by
       rcases Nat.lt_or_ge b w.heap.size with h|h
       ·exact h
       ·simp[Array.getElem?_eq_none h]at g2
      have:w.heap.setIfInBounds b (.map es clock)=w.heap:=by
       apply Array.ext_getElem?
       intro j
       rw[Array.getElem?_setIfInBounds]
       by_cases hj:b=j
       ·subst hj;rw[if_pos rfl,if_pos bC,g2]
       ·rw[if_neg hj]
      rw[this]
     refine⟨.value (.tuple #[]), .tuple #[],w,φ,_,_,_,hK, ?_, .inl rfl,by rw[nH];exact hH,by rw[nH];exact Trans.refl _ _ _,⟨#[],rfl,rfl⟩,by simp⟩
     simp only[Builtin.delete_,Vr,Sem.run_bind,run_underlying Dn,Result.andThen_ok,pE,Jf,q1,List.getElem?_toArray,List.getElem?_cons_zero,List.getElem?_cons_succ,MapKept.run_setObj_map _ g2,Sem.run_pure,hw]
   ·cases h
  ·cases h
 ·cases h
theorem xu(H:Hp)(i j:Nat)(x y:ae):H.put [(i,x),(j,y)]=(H.put [(i,x)]).put [(j,y)]:=by rw[<- dU];rfl
theorem EX(hH:az M φ H w)(cS: ¬H.us fr){t:TypeId}{x:V}{xv:Value}(hx:V.den (ao M φ H) φ H w x xv)(h:dm (mH P H.o fr t x) K):
 cJ M φ H w fr ((do let v <- Instr.range t xv;pure (Next.value v):Sem Next).run P w) K:=by
 have hg:=dt h
 clear h
 obtain⟨v,Δ,rd,h,hK⟩:=hg
 have new:∀ (iV:Place) (H1:Hp) (obj:ae) (ob:Obj),az M iV H1 w-> ¬H1.us fr->aK M (ak iV fr (.pointer (some ⟨w.heap.size,0,none⟩))) (H1.put [(fr,obj)]) (w.alloc ob) fr->
  az M (ak iV fr (.pointer (some ⟨w.heap.size,0,none⟩))) (H1.put [(fr,obj)]) (w.alloc ob)/\Trans iV H1 w (ak iV fr (.pointer (some ⟨w.heap.size,0,none⟩))) (H1.put [(fr,obj)]) (w.alloc ob):=by
  intro iV H1 obj ob h1 h2 h3
  have hv:∀b,dN (.pointer (some ⟨w.heap.size,0,none⟩))=some b->w.heap.size<=b/\b<(w.alloc ob).heap.size:=by
   intro b hb;simp[dN]at hb;subst hb;simp
  exact⟨jB h1 (cZ w _) h2 _ _ hv h3,fe (cZ w _) h2 _ _ fun b hb=>(hv b hb).1⟩
 have frozen:∀ (H1:Hp) (l:List (D×D)) (b:Nat) (es:Array MapEntry) (clock:Nat),az M φ H1 w-> ¬H1.us fr->w.heap[b]? =some (.map es clock)-> ¬ao M φ H1 b->ja es clock->(∃l',l'.Perm l/\aH (ao M φ H1) w l' es.toList)->
  aK M (ak φ fr (.pointer (some ⟨w.heap.size,0,none⟩))) (H1.put [(fr, .kW l none)]) (w.alloc (.mapIter (some b) clock #[] clock)) fr:=by
  intro H1 l b es clock h1 h2 h3 h4 h5 h6
  have ht:=fe (φ:=φ) (H:=H1) (w:=w) (w':=w.alloc (.mapIter (some b) clock #[] clock)) (cZ w _) h2 (.kW l none) (.pointer (some ⟨w.heap.size,0,none⟩)) (fun b hb=>by simp[dN]at hb;omega)
  obtain⟨k1,k2⟩:=ht.blocks (M:=M) b (.inr ⟨es,clock,h3⟩) h4
  unfold aK
  simp only[bF,aJ,if_true]
  refine⟨w.heap.size,rfl, .inr ⟨b,clock,#[],es,heap_alloc_new w _,k1.trans h3,k2,h5, ?_,fun k x e=>by cases e⟩⟩
  have e:(es.toList.filter fun e=> !(#[]:Array Nat).contains e.born)=es.toList:=List.filter_eq_self.2 (fun a _=>by simp)
  rw[e]
  obtain⟨l',h6,h7⟩:=h6
  exact⟨l',h6,aH.mono (ht.blocks (M:=M)) l' _ h7⟩
 unfold mH at h
 split at h
 ·rename_i ht
  split at h
  ·rename_i s
   injection h with h;injection h with e1 e2;injection e2 with e2 e3;subst e1;subst e2;subst e3
   obtain⟨st,rfl,hs⟩:=hx
   have rY:st=⟨⟨s⟩⟩:=by obtain⟨⟨a⟩⟩:=st;simp at hs;subst hs;rfl
   subst rY
   obtain⟨n1,n2⟩:=new φ H (.sY s 0) (.stringIter ⟨⟨s⟩⟩ 0) hH cS (by
    unfold aK
    simp only[bF,aJ,if_true]
    exact⟨w.heap.size,rfl,heap_alloc_new w _⟩)
   exact⟨_,_,_,_,_,_,_,hK,by simp[Instr.range,run_underlying ht], .inl rfl,n1,n2,⟨rfl,by simp,fun _=>⟨w.heap.size,by simp,rfl⟩⟩,fun j hj=> .inr (by simpa using hj)⟩
  ·cases h
 ·rename_i ht
  split at h
  ·injection h with h;injection h with e1 e2;injection e2 with e2 e3;subst e1;subst e2;subst e3
   simp only[V.den,D.den]at hx;subst hx
   obtain⟨n1,n2⟩:=new φ H (.kW [] none) (.mapIter none 0 #[] 0) hH cS (by
    unfold aK
    simp only[bF,aJ,if_true]
    exact⟨w.heap.size,rfl, .inl ⟨heap_alloc_new w _,rfl,rfl⟩⟩)
   exact⟨_,_,_,_,_,_,_,hK,by simp[Instr.range,run_underlying ht], .inl rfl,n1,n2,⟨rfl,by simp,fun _=>⟨w.heap.size,by simp,rfl⟩⟩,fun j hj=> .inr (by simpa using hj)⟩
  ·rename_i ks vs
   injection h with h;injection h with e1 e2;injection e2 with e2 e3;subst e1;subst e2;subst e3
   obtain⟨b,es,clock,p,rfl,g2,g4,g0,gp,g3,g5⟩:=hx
   have pE:=MapKept.run_getObj_map (P:=P) g2
   obtain⟨l',g6,g7⟩:=qD (by rw[zy g3 g5];exact gp) (vV g3 g5)
   obtain⟨n1,n2⟩:=new φ H _ _ hH cS (frozen H (ks.zip vs) b es clock hH cS g2 g4 g0 ⟨l',g6.perm,g7⟩)
   exact⟨_,_,_,_,_,_,_,hK,by simp[Instr.range,run_underlying ht,pE], .inl rfl,n1,n2,⟨rfl,by simp,fun _=>⟨w.heap.size,by simp,rfl⟩⟩,fun j hj=> .inr (by simpa using hj)⟩
  ·rename_i id
   obtain⟨xq,dA,vW⟩:=hx
   have bA:=hH.ok id
   split at h
   ·rename_i kt vt l ho
    injection h with h;injection h with e1 e2;injection e2 with e2 e3;subst e1;subst e2;subst e3
    obtain⟨f1,f2⟩:=Dg hH dA ho
    have lP:(H.put [(id, .fq l)]).o id= .fq l:=by simp
    have Re:=f1.ok id
    simp only[aK,lP]at Re
    obtain⟨b,es,clock,l',g1,g2,g4,g0,gl,g3⟩:=lV Re
    have dq:=vW (by rw[ho];rfl)
    rw[<- dq]at g1;subst g1
    have pE:=MapKept.run_getObj_map (P:=P) g2
    have Rf: ¬ (H.put [(id, .fq l)]).us fr:=by
     rw[dV]
     rintro(h|h)
     ·exact cS h
     ·exact cS (h ▸ dA)
    obtain⟨n1,n2⟩:=new φ _ _ _ f1 Rf (frozen _ l b es clock f1 Rf g2 g4 g0 ⟨l',gl.perm,g3⟩)
    refine⟨.value (.pointer (some ⟨w.heap.size,0,none⟩)), .pointer (some ⟨w.heap.size,0,none⟩),w.alloc (.mapIter (some b) clock #[] clock),_,_,_,_,hK,by simp[Instr.range,run_underlying ht,pE], .inl rfl,by rw[xu];exact n1,by rw[xu];exact f2.trans n2, ?_,fun j hj=> ?_⟩
    ·rw[xu]
     exact⟨rfl,by simp,fun _=>⟨w.heap.size,by simp,rfl⟩⟩
    ·simp at hj
     rcases hj with rfl|rfl
     ·exact .inl dA
     ·exact .inr rfl
   ·rename_i l ho
    injection h with h;injection h with e1 e2;injection e2 with e2 e3;subst e1;subst e2;subst e3
    simp only[aK,ho]at bA
    obtain⟨b,es,clock,l',g1,g2,g4,g0,gl,g3⟩:=lV bA
    have dq:=vW (by rw[ho];rfl)
    rw[<- dq]at g1;subst g1
    have pE:=MapKept.run_getObj_map (P:=P) g2
    obtain⟨n1,n2⟩:=new φ H _ _ hH cS (frozen H l b es clock hH cS g2 g4 g0 ⟨l',gl.perm,g3⟩)
    exact⟨_,_,_,_,_,_,_,hK,by simp[Instr.range,run_underlying ht,pE], .inl rfl,n1,n2,⟨rfl,by simp,fun _=>⟨w.heap.size,by simp,rfl⟩⟩,fun j hj=> .inr (by simpa using hj)⟩
   ·cases h
  ·cases h
 ·cases h
theorem Dq(hH:az M φ H w){id b:Nat}{obj obj':ae}{x y:Obj}(dA:H.us id)(ho:H.o id=obj)(hl:obj.live=true)(hr:obj.bM=true)(he:obj.ba=none)(EY:obj'.bM=true)(fw:obj'.ba=none)(dq:φ id= .pointer (some ⟨b,0,none⟩))(g2:w.heap[b]? =some x){w1:World}(Wq:w1.os=w.os/\w1.tape=w.tape/\w1.output=w.output/\w1.heap=w.heap)
 (qy:Trans φ H w φ (H.put [(id,obj')]) {w1 with heap:=w.heap.setIfInBounds b y}->aK M φ (H.put [(id,obj')]) {w1 with heap:=w.heap.setIfInBounds b y} id):
 az M φ (H.put [(id,obj')]) {w1 with heap:=w.heap.setIfInBounds b y}/\Trans φ H w φ (H.put [(id,obj')]) {w1 with heap:=w.heap.setIfInBounds b y}:=by
 have GG:eM (· =b) w {w1 with heap:=w.heap.setIfInBounds b y}:=
  ⟨Wq.1,Wq.2.1,Wq.2.2.1,by simp,fun j _ hj=>by
   show(w.heap.setIfInBounds b y)[j]? =_
   rw[Array.getElem?_setIfInBounds,if_neg (fun e=>hj e.symm)]⟩
 have qn:(H.o id).live=true:=by rw[ho];exact hl
 have sE:dN (φ id)=some b:=by rw[dq];rfl
 have yV:=eS (w:=w) dA qn sE GG obj' (by rw[ho,hr,EY]) (by rw[ho,he,fw])
 exact⟨gZ hH dA qn sE GG _ (by rw[ho,hr,EY]) (by rw[ho,he,fw]) (qy yV),yV⟩
theorem zC(hH:az M φ H w){x:V}{xv:Value}{str:Bool}{ty:TypeId}(hx:V.den (ao M φ H) φ H w x xv)(h:dm (nY H.o x str) K):
 cJ M φ H w fr ((do let v <- Instr.next xv str ty;pure (Next.value v):Sem Next).run P w) K:=by
 have hg:=dt h
 clear h
 obtain⟨v,Δ,rd,h,hK⟩:=hg
 unfold nY at h
 split at h
 ·rename_i id
  obtain⟨_,dA,vW⟩:=hx
  split at h
  ·rename_i s pos ho
   split at h
   ·rename_i Wr
    subst Wr
    obtain⟨b0,q1,rfl⟩:=vW (by rw[ho];rfl)
    have bA:=hH.ok id
    simp only[aK,ho]at bA
    obtain⟨b,g1,g2⟩:=bA
    rw[q1]at g1;injection g1 with g1;injection g1 with g1;injection g1 with g1;subst g1
    have eg:(ByteArray.mk ⟨s⟩).size=s.length:=rfl
    split at h
    ·rename_i bC
     injection h with h;injection h with e1 e2;injection e2 with e2 e3;subst e1;subst e2;subst e3
     obtain⟨n1,n2⟩:=Dq (w1:=w) (y:= .stringIter ⟨⟨s⟩⟩ (pos+(Utf8.decode ⟨⟨s⟩⟩ pos).2)) (obj':= .sY s (pos+(Utf8.decode ⟨⟨s⟩⟩ pos).2)) hH dA ho rfl rfl rfl rfl rfl q1 g2 ⟨rfl,rfl,rfl,rfl⟩ (fun _=>by
      unfold aK
      simp only[bF,aJ,if_true]
      refine⟨b0,q1, ?_⟩
      have bC:b0<w.heap.size:=by
       rcases Nat.lt_or_ge b0 w.heap.size with h|h
       ·exact h
       ·simp[Array.getElem?_eq_none h]at g2
      show(w.heap.setIfInBounds b0 _)[b0]? =_
      rw[Array.getElem?_setIfInBounds,if_pos rfl,if_pos bC])
     refine⟨.value (.tuple #[.bool true,goInt pos, .int .i32 (Utf8.decode ⟨⟨s⟩⟩ pos).1]),_,_,φ,_,_,_,hK, ?_, .inl rfl,n1,n2,⟨_,rfl, .bool true,_,rfl,rfl,_,_,rfl,rfl,_,_,rfl,rfl,rfl⟩,fun j hj=> .inl (by simp at hj;subst hj;exact dA)⟩
     simp only[Instr.next,getObj,setObj,Sem.run_bind,Sem.run,g2,Result.andThen,eg,bC,if_true]
     rfl
    ·rename_i bC
     injection h with h;injection h with e1 e2;injection e2 with e2 e3;subst e1;subst e2;subst e3
     refine cJ.same hH (.tuple #[.bool false]) hK ?_ ⟨_,rfl, .bool false,_,rfl,rfl,rfl⟩
     simp only[Instr.next,getObj,Sem.run_bind,Sem.run,g2,Result.andThen,eg,bC,if_false]
     rfl
   ·cases h
  ·cases h
 ·cases h
theorem zD{es:List MapEntry}(hn:(es.map (·.born)).Nodup)(seen:Array Nat){e:MapEntry}{i:Nat}(hi:(es.filter fun e=> !seen.contains e.born)[i]? =some e):
 (es.filter fun x=> !(seen.push e.born).contains x.born)=(es.filter fun e=> !seen.contains e.born).eraseIdx i:=by
 have e1:(es.filter fun x=> !(seen.push e.born).contains x.born)=(es.filter fun e=> !seen.contains e.born).filter (fun x=>x.born !=e.born):=by
  rw[List.filter_filter]
  refine List.filter_congr fun x _=> ?_
  simp only[Array.contains_push]
  cases h1:seen.contains x.born<;>cases h2:(x.born==e.born)<;>simp_all[bne]
 rw[e1]
 have u9:((es.filter fun e=> !seen.contains e.born).map (·.born)).Nodup:=hn.sublist (List.Sublist.map _ (List.filter_sublist ..))
 generalize (es.filter fun e=> !seen.contains e.born)=L at hi u9|-
 induction L generalizing i with
 |nil=>simp at hi
 |cons y L ih=>
  obtain⟨n1,n2⟩:=List.nodup_cons.1 u9
  cases i with
  |zero=>
   simp at hi;subst hi
   simp only[List.filter_cons,bne_self_eq_false,Bool.false_eq_true,if_false,List.eraseIdx_zero,List.tail_cons]
   refine List.filter_eq_self.2 fun x hx=> ?_
   simp only[bne_iff_ne,ne_eq]
   exact fun h=>n1 (by show y.born∈_;rw[<- h];exact List.mem_map.2 ⟨x,hx,rfl⟩)
  |succ i=>
   simp only[List.getElem?_cons_succ]at hi
   have hm:=List.mem_of_getElem? hi
   have gv:(y.born !=e.born)=true:=by
    simp only[bne_iff_ne,ne_eq]
    exact fun h=>n1 (by show y.born∈_;rw[h];exact List.mem_map.2 ⟨e,hm,rfl⟩)
   rw[List.filter_cons,gv,if_pos rfl,List.eraseIdx_cons_succ,ih hi n2]
theorem zE(hH:az M φ H w){x:V}{xv:Value}{ty:TypeId}(hx:V.den (ao M φ H) φ H w x xv){id:Nat}{l:List (D×D)}(h:nZ H.o x=some (id,l))(hK:Df id l K):
 cJ M φ H w fr ((do let v <- Instr.next xv false ty;pure (Next.value v):Sem Next).run P w) K:=by
 unfold nZ at h
 split at h
 ·rename_i cO
  obtain⟨_,dA,vW⟩:=hx
  split at h
  ·rename_i l' last ho
   simp only[Option.some.injEq,Prod.mk.injEq]at h
   obtain⟨rfl,rfl⟩:=h
   obtain⟨b0,q1,rfl⟩:=vW (by rw[ho];rfl)
   have bA:=hH.ok cO
   simp only[aK,ho]at bA
   obtain⟨b,g1,g2⟩:=bA
   rw[q1]at g1;injection g1 with g1;injection g1 with g1;injection g1 with g1;subst g1
   rcases g2 with⟨g2,rfl,_⟩|⟨m,since,seen,es,g2,g3,g4,g5,g6,_⟩
   ·refine cJ.same hH (.tuple #[.bool false]) (hK.1 rfl) ?_ ⟨_,rfl, .bool false,_,rfl,rfl,rfl⟩
    simp only[Instr.next,getObj,Sem.run_bind,Sem.run,g2,Result.andThen]
    rfl
   ·have Ly:=next_test_false seen es since since g5.1 (Nat.le_refl _)
    have o9:(es.filter fun e=> !seen.contains e.born).toList=es.toList.filter fun e=> !seen.contains e.born:=by simp
    obtain⟨l1,gp,g6⟩:=g6
    rw[<- o9]at g6
    have oG:∀x∈(es.filter fun e=> !seen.contains e.born).toList,x.born<since:=fun x hx=>g5.1 x (by simp at hx|-;exact hx.1)
    have Ws:b0<w.heap.size:=by
     rcases Nat.lt_or_ge b0 w.heap.size with h|h
     ·exact h
     ·simp[Array.getElem?_eq_none h]at g2
    by_cases h0:(es.filter fun e=> !seen.contains e.born).size=0
    ·have hL:(es.filter fun e=> !seen.contains e.born)=#[]:=Array.eq_empty_of_size_eq_zero h0
     rw[hL]at g6
     have qn:l1=[]:=by cases l1 with|nil=>rfl|cons p l1=>obtain⟨e,es',h,_⟩:=g6;simp at h
     have Jg:l'=[]:=by rw[qn]at gp;exact gp.symm.eq_nil
     refine cJ.same hH (.tuple #[.bool false]) (hK.1 Jg) ?_ ⟨_,rfl, .bool false,_,rfl,rfl,rfl⟩
     simp only[Instr.next,getObj,Sem.run_bind,Sem.run,g2,g3,Result.andThen,Ly,Bool.false_eq_true,if_false,hL]
     simp[choose,Sem.run,Question.forced]
    ·have fg:∃ (j:Nat) (e:MapEntry) (w1:World),(es.filter fun e=> !seen.contains e.born).toList[j]? =some e/\(w1.os=w.os/\w1.tape=w.tape/\w1.output=w.output/\w1.heap=w.heap)/\
      (Instr.next (.pointer (some ⟨b0,0,none⟩)) false ty).run P w= .ok (.tuple #[.bool true,e.key,e.val]) {w1 with heap:=w.heap.setIfInBounds b0 (.mapIter (some m) since (seen.push e.born) since)}:=by
      simp only[Instr.next,getObj,Sem.run_bind,Sem.run,g2,g3,Result.andThen,Ly,Bool.false_eq_true,if_false]
      generalize es.filter (fun e=> !seen.contains e.born)=L at oG h0|-
      have e1:L.filter (fun x=>decide (x.born<since))=L:=Array.filter_eq_self.2 (fun x hx=>by simpa using oG x (by simpa using hx))
      have e2:L.filter (fun x=>decide (x.born≥since))=#[]:=by
       rw[Array.filter_eq_empty_iff]
       intro x hx
       have:=oG x (by simpa using hx)
       simp
       omega
      have gv:L.isEmpty=false:=by simp[Array.isEmpty,h0]
      simp only[e1,e2,Array.append_empty,gv,Bool.false_eq_true,if_false,Array.empty_append,Array.size_map]
      have hch:∃ (j:Nat) (w1:World),j<L.size/\(w1.os=w.os/\w1.tape=w.tape/\w1.output=w.output/\w1.heap=w.heap)/\(choose (Question.mapNext L.size)).run P w= .ok j w1:=by
       by_cases hf:L.size<=1
       ·exact⟨0,w,by omega,⟨rfl,rfl,rfl,rfl⟩,by simp[choose,Sem.run,Question.forced,hf]⟩
       ·exact⟨_,w.drew,Nat.mod_lt _ (by omega),⟨rfl,rfl,rfl,rfl⟩,by
         simp only[choose,Sem.run,Question.forced,decide_eq_true_eq,hf,if_false,Question.cut]
         rfl⟩
      obtain⟨j,w1,hj,B7,fg⟩:=hch
      refine⟨j,L[j],w1,by simp[hj],B7, ?_⟩
      have g2':w1.heap[b0]? =some (.mapIter (some m) since seen since):=by rw[B7.2.2.2];exact g2
      simp only[fg,Array.getElem?_map,Array.getElem?_eq_getElem hj,Option.map_some,Sem.run_bind,setObj,Sem.run,g2',g2,Result.andThen,B7.2.2.2]
      rfl
     obtain⟨j,e,w1,Vt,B7,fg⟩:=fg
     obtain⟨⟨k,x⟩,Q5,Ga,ZI⟩:=g6.get Vt
     obtain⟨j2,GH,xw⟩:=List.getElem_of_mem (gp.mem_iff.1 (List.mem_of_getElem? Q5))
     have xw:l'[j2]? =some (k,x):=by rw[List.getElem?_eq_getElem GH,xw]
     have gpe:(l1.eraseIdx j).Perm (l'.eraseIdx j2):=by
      have Lz:∀ {L:List (D×D)} {i:Nat} {n:D×D},L[i]? =some n->L.Perm (n::L.eraseIdx i):=by
       intro L i n h
       obtain⟨hi,e⟩:=List.getElem?_eq_some_iff.1 h
       have BU:L=L.take i++n::L.drop (i+1):=by rw[<- e,List.getElem_cons_drop,List.take_append_drop]
       rw[List.eraseIdx_eq_take_drop_succ]
       conv=>lhs;rw[BU]
       exact List.perm_middle
      exact List.Perm.cons_inv (((Lz Q5).symm.trans gp).trans (Lz xw))
     have Dm:e∈es.toList:=by
      have:=List.mem_of_getElem? Vt
      rw[o9]at this
      exact(List.mem_filter.1 this).1
     obtain⟨n1,n2⟩:=Dq (w1:=w1) (y:= .mapIter (some m) since (seen.push e.born) since) (obj':= .kW (l'.eraseIdx j2) (some (k,x))) hH dA ho rfl rfl rfl rfl rfl q1 g2 B7 (fun ht=>by
      unfold aK
      simp only[bF,aJ,if_true]
      obtain⟨k1,k2⟩:=ht.blocks (M:=M) m (.inr ⟨es,since,g3⟩) g4
      refine⟨b0,q1, .inr ⟨m,since,seen.push e.born,es, ?_,k1.trans g3,k2,g5, ?_,fun k' x' Ns=> ?_⟩⟩
      ·show(w.heap.setIfInBounds b0 _)[b0]? =_
       rw[Array.getElem?_setIfInBounds,if_pos rfl,if_pos Ws]
      ·rw[o9]at Vt g6
       rw[zD g5.2 seen Vt]
       exact⟨_,gpe,aH.mono (ht.blocks (M:=M)) _ _ g6.erase⟩
      ·injection Ns with Ns;injection Ns with h1 h2;subst h1;subst h2
       exact⟨e,Dm,by simp,D.aF (ht.blocks (M:=M)) _ _ Ga,D.aF (ht.blocks (M:=M)) _ _ ZI⟩)
     refine⟨.value (.tuple #[.bool true,e.key,e.val]),_,_,φ,_,_,_,hK.2 j2 k x xw, ?_, .inl rfl,n1,n2,⟨_,rfl, .bool true,_,rfl,rfl,e.key,_,rfl,D.aF (n2.blocks (M:=M)) _ _ Ga,e.val,_,rfl,D.aF (n2.blocks (M:=M)) _ _ ZI,rfl⟩,fun j hj=> .inl (by simp at hj;subst hj;exact dA)⟩
     simp only[Sem.run_bind,fg,Result.andThen_ok,Sem.run_pure]
  ·cases h
 ·cases h
theorem EZ(hH:az M φ H w){x:V}{xv:Value}(hx:V.den (ao M φ H) φ H w x xv)(h:dm (mI H.o x) K):
 cJ M φ H w fr ((do let v <- Instr.entry xv;pure (Next.value v):Sem Next).run P w) K:=by
 have hg:=dt h
 clear h
 obtain⟨v,Δ,rd,h,hK⟩:=hg
 unfold mI at h
 split at h
 ·rename_i id
  obtain⟨_,dA,vW⟩:=hx
  split at h
  ·rename_i l k x ho
   injection h with h;injection h with e1 e2;injection e2 with e2 e3;subst e1;subst e2;subst e3
   obtain⟨b0,q1,rfl⟩:=vW (by rw[ho];rfl)
   have bA:=hH.ok id
   simp only[aK,ho]at bA
   obtain⟨b,g1,g2⟩:=bA
   rw[q1]at g1;injection g1 with g1;injection g1 with g1;injection g1 with g1;subst g1
   rcases g2 with⟨_,_,g2⟩|⟨m,since,seen,es,g2,g3,g4,g5,g6,g7⟩
   ·cases g2
   ·obtain⟨e,h1,h2,h3,h4⟩:=g7 k x rfl
    have hf:es.find? (·.born==e.born)=some e:=by rw[<- Array.find?_toList];exact find_born e es.toList g5.2 h1
    refine cJ.same hH (.tuple #[e.key,e.val]) hK ?_ ⟨_,rfl,e.key,_,rfl,h3,e.val,_,rfl,h4,rfl⟩
    simp only[Instr.entry,getObj,Sem.run_bind,Sem.run,g2,g3,Result.andThen,h2,bne_self_eq_false,Bool.false_eq_true,if_false,hf]
    rfl
  ·cases h
 ·cases h
theorem n7(hH:az M φ H w){t:TypeId}{m k v:V}{mv kv vv:Value}(hm:V.den (ao M φ H) φ H w m mv)(hk:V.den (ao M φ H) φ H w k kv)(hv:V.den (ao M φ H) φ H w v vv)
 (h:dm (fI P H.o t m k v) K):cJ M φ H w fr ((do Instr.mapUpdate t mv kv vv;pure Next.skip:Sem Next).run P w) K:=by
 have hg:=dt h
 clear h
 obtain⟨v',Δ,rd,h,hK⟩:=hg
 unfold fI at h
 split at h
 ·rename_i kt vt kd vd id BH BI l ht Rc Wg Ju
  rcases tn Ju with⟨id2,kt2,vt2,rfl,ho,hr⟩|⟨rfl,hr,rfl⟩
  case inr=>cases hr
  injection hr with hr;injection hr with e1 e2;injection e2 with e2 e3;subst e1;subst e2;subst e3
  split at h
  ·rename_i hc
   obtain⟨c1,c2,c3,c4⟩:=hc
   have kg:D.den (ao M φ H) w kd kv:=eI hH k kd kv (fun id ax=>by rw[c1]at ax;cases ax) Rc hk
   have Jf:∀em,(Instr.checkKey em 10000 kt kv).run P w= .ok () w:=fun em=>pD em 100 kt kd c2 10000 (by decide) kv kg
   have Dn:=qC ht
   ·obtain⟨xq,dA,vW⟩:=hm
    have dq:=vW (by rw[ho];rfl)
    have bA:=hH.ok id
    simp only[aK,ho]at bA
    obtain⟨b,es,clock,g1,g2,g0,g3⟩:=bA
    rw[<- dq]at g1;subst g1
    have pE:=MapKept.run_getObj_map (P:=P) g2
    have jZ:id∉v.ids:=fun hm=>by have:=List.all_eq_true.1 c4 id hm;simp at this
    obtain⟨f1,f2,f3,f4,f5⟩:=cT hH v.ids (cN v _ hv)
    have lP:=(f4 id jZ).trans ho
    have LA:=eI f1 v vd vv f3 Wg (V.aF f2 _ _ hv)
    have GI:=D.aF (f2.blocks (M:=M)) kd kv kg
    have ZJ:=aH.mono (f2.blocks (M:=M)) l _ g3
    have Jv:(cQ H.o v.ids).map (·.1)=v.ids:=by rw[lT];simp[Function.comp_def]
    have turn:∀ (l':List (D×D)) (es':Array MapEntry) (clock':Nat),ja es' clock'->aH (ao M φ (H.put (cQ H.o v.ids))) w l' es'.toList->K (.bS []) (cQ H.o v.ids++[(id, .map BH BI l')]) (id::v.ids)->
     (Instr.mapUpdate t (.map (some b)) kv vv).run P w= .ok () {w with heap:=w.heap.setIfInBounds b (.map es' clock')}->
     cJ M φ H w fr ((do Instr.mapUpdate t (.map (some b)) kv vv;pure Next.skip:Sem Next).run P w) K:=by
     intro l' es' clock' Vu hl hK hr
     have GG:eM (· =b) w {w with heap:=w.heap.setIfInBounds b (.map es' clock')}:=
      ⟨rfl,rfl,rfl,by simp,fun j _ hj=>(MapKept.heap_set g2).2 j hj⟩
     have qn:((H.put (cQ H.o v.ids)).o id).live=true:=by rw[lP];rfl
     have sE:dN (φ id)=some b:=by rw[<- dq];rfl
     have yV:=eS (w:=w) (w':={w with heap:=w.heap.setIfInBounds b (.map es' clock')}) ((f5 id).2 dA) qn sE GG (.map BH BI l') (by rw[lP];rfl) (by rw[lP];rfl)
     refine⟨.skip,undef,_,φ,_,_,_,hK,by simp only[Sem.run_bind,hr,Result.andThen_ok];rfl, .inr ⟨rfl,rfl⟩, ?_, ?_, ?_,fun j hj=> .inl ?_⟩
     ·rw[dU]
      refine gZ f1 ((f5 id).2 dA) qn sE GG _ (by rw[lP];rfl) (by rw[lP];rfl) ?_
      unfold aK
      simp only[bF,aJ,if_true]
      exact⟨b,es',clock',dq.symm,(MapKept.heap_set g2).1,Vu,aH.mono (yV.blocks (M:=M)) l' _ hl⟩
     ·rw[dU];exact f2.trans yV
     ·exact⟨#[],rfl,rfl⟩
     ·rw[List.map_append,Jv]at hj
      simp only[List.map_cons,List.map_nil,List.mem_append,List.mem_singleton]at hj
      rcases hj with hj|rfl
      ·exact cN v _ hv j hj
      ·exact dA
    split at h
    ·rename_i i k' x hf
     split at h
     ·rename_i GJ
      injection h with h;injection h with e1 e2;injection e2 with e2 e3;subst e1;subst e2;subst e3
      have hke:=D.dW _ _ GJ
      subst hke
      obtain⟨r',q1,q2⟩:=fX kg c2 g3 hf
      cases r' with
      |none=>exact q2.elim
      |some p=>
       obtain⟨j',u⟩:=p
       obtain⟨rfl,_,Vq,e,h4,h5,h6⟩:=q2
       rw[Nat.sub_zero]at h4
       have hkv:=B1 c3 h6 kg
       have h4':es[i]? =some e:=by simpa using h4
       refine turn _ (es.modify i fun e=>{e with key:=kv,val:=vv}) clock (xr g0 h4 rfl) ?_ hK ?_
       ·rw[iH _ h4]
        exact aH.set ZJ GI LA
       ·have hs:=ET (P:=P) (w':=w) c3 kg
        simp only[Instr.mapUpdate,Sem.run_bind,run_underlying Dn,Result.andThen_ok,pE,Jf,q1,h4',Option.map_some,Option.getD_some,hkv,hs]
        exact MapKept.run_setObj_map _ g2
     ·cases h
    ·rename_i hf
     injection h with h;injection h with e1 e2;injection e2 with e2 e3;subst e1;subst e2;subst e3
     obtain⟨r',q1,q2⟩:=fX kg c2 g3 hf
     cases r' with
     |some p=>exact q2.elim
     |none=>
      refine turn _ (es.push {key:=kv,val:=vv,born:=clock}) (clock+1) (B5 g0 rfl) ?_ hK ?_
      ·rw[Array.toList_push]
       exact aH.push ZJ GI LA
      ·simp only[Instr.mapUpdate,Sem.run_bind,run_underlying Dn,Result.andThen_ok,pE,Jf,q1]
       exact MapKept.run_setObj_map _ g2
    ·cases h
  ·cases h
 ·cases h
end
end Go.Proofs.YtealblliddhgiaaGreat
namespace Go.Proofs.YtealblliddhgiaaGreat
section
variable {P:Program}(w:World)(d:Nat){t:TypeId}
theorem Rg{ms}(ht:P.underlying t=some (.interface ms)):(Op.equalIn (d+1) t .nilIface .nilIface).run P w= .ok true w:=by simp[Op.equalIn,run_underlying ht]
theorem LB{ms}(ht:P.underlying t=some (.interface ms))(u:TypeId)(v:Value):(Op.equalIn (d+1) t (.iface u v) .nilIface).run P w= .ok false w:=by simp[Op.equalIn,run_underlying ht]
theorem LC{ms}(ht:P.underlying t=some (.interface ms))(u:TypeId)(v:Value):(Op.equalIn (d+1) t .nilIface (.iface u v)).run P w= .ok false w:=by simp[Op.equalIn,run_underlying ht]
theorem Rh{a b c}(ht:P.underlying t=some (.func a b c)):(Op.equalIn (d+1) t .nilFunc .nilFunc).run P w= .ok true w:=by simp[Op.equalIn,run_underlying ht]
theorem Ri{a b c}(ht:P.underlying t=some (.func a b c))(f x y):(Op.equalIn (d+1) t (.func f x y) .nilFunc).run P w= .ok false w:=by simp[Op.equalIn,run_underlying ht]
theorem Rj{a b}(ht:P.underlying t=some (.map a b)):(Op.equalIn (d+1) t (.map none) (.map none)).run P w= .ok true w:=by simp[Op.equalIn,run_underlying ht]
theorem GK{a b}(ht:P.underlying t=some (.map a b))(x):(Op.equalIn (d+1) t (.map (some x)) (.map none)).run P w= .ok false w:=by simp[Op.equalIn,run_underlying ht]
theorem Rk{e}(ht:P.underlying t=some (.pointer e)):(Op.equalIn (d+1) t (.pointer none) (.pointer none)).run P w= .ok true w:=by simp[Op.equalIn,run_underlying ht]
theorem LD{e}(ht:P.underlying t=some (.pointer e))(a):(Op.equalIn (d+1) t (.pointer (some a)) (.pointer none)).run P w= .ok false w:=by simp[Op.equalIn,run_underlying ht]
theorem Rl{e}(ht:P.underlying t=some (.slice e))(b n c):(Op.equalIn (d+1) t (.slice b n c) (.slice none 0 0)).run P w= .ok b.isNone w:=by cases b<;>simp[Op.equalIn,run_underlying ht]
end
section
variable {P:Program}{M:Nat->Prop}{φ:Place}{H:Hp}{w w':World}{fr:Nat}{K:V->List (Nat×ae)->List Nat->Prop}{B:Nat->Prop}
theorem B8(hH:az M φ H w){x:V}{xv:Value}{es:List D}(h:eR H.o x=some es)(hx:V.den (ao M φ H) φ H w x xv):∃base n c,xv= .slice base n c/\(es≠[]->base≠none):=by
 have hd:∃x',dO H.o x=some x'/\x'= .sl es:=by
  unfold eR at h
  split at h
  ·rename_i es' hd;injection h with h;subst h;exact⟨_,hd,rfl⟩
  ·cases h
 obtain⟨x',hd,rfl⟩:=hd
 obtain⟨f1,f2,f3,f4,f5⟩:=cT hH x.ids (cN x _ hx)
 have:=eI f1 x (.sl es) xv f3 hd (V.aF f2 _ _ hx)
 obtain⟨base,len,cap,rfl,h1,h2,h3,_⟩:=this
 refine⟨base,len,cap,rfl,fun gv hb=> ?_⟩
 have:=h3 hb
 have:es.length=0:=by omega
 exact gv (List.length_eq_zero_iff.1 this)
def GL:Value->Bool
 | .int _ _| .float _ _| .complex _ _ _| .string _=>false
 |_=>true
theorem Dr(hH:az M φ H w){t:TypeId}{p q:Operand}{x y v:V}{xv yv:Value}(hx:V.den (ao M φ H) φ H w x xv)(hy:V.den (ao M φ H) φ H w y yv)(h:BQ P H.o t (isConst p||isConst q) x y=some v):
 ∃r:Bool,(v= .d (.bool r)\/v= .eZ)/\GL xv=true/\(∀op,(eqGuard op t p q xv yv).run P w= .ok () w)/\(Op.equal t xv yv).run P w= .ok r w:=by
 have fQ:(∀a b, ¬ (xv= .agg a/\yv= .agg b))-> ¬ (xv= .nilIface/\yv= .nilIface)->∀op,(eqGuard op t p q xv yv).run P w= .ok () w:=by
  intro h1 h2 op
  unfold eqGuard
  cases op<;>cases xv<;>cases yv<;>first
   |(simp;done)
   |(exact absurd ⟨rfl,rfl⟩ (h1 _ _))
   |(exact absurd ⟨rfl,rfl⟩ h2)
 unfold BQ at h
 cases ht:P.underlying t with
 |none=>simp[ht]at h
 |some td=>
  simp only[ht]at h
  have eq:∀r,(∀d,(Op.equalIn (d+1) t xv yv).run P w= .ok r w)->(Op.equal t xv yv).run P w= .ok r w:=fun r h=>h 9999
  cases td<;>simp only[reduceCtorEq]at h
  case interface ms=>
   split at h
   ·split at h
    ·rename_i hc
     injection h with h;subst h
     simp only[V.den,D.den]at hx hy;subst hx;subst hy
     refine⟨true, .inl rfl,rfl,fun op=> ?_,eq _ (fun d=>by rw[Rg w d ht])⟩
     simp only[Bool.or_eq_true]at hc
     unfold eqGuard
     rcases hc with hc|hc
     ·cases p<;>simp only[isConst,Bool.false_eq_true]at hc
      cases op<;>simp
     ·cases q<;>simp only[isConst,Bool.false_eq_true]at hc
      cases op<;>simp
    ·cases h
   ·injection h with h;subst h
    obtain⟨u,rfl,_⟩:=hx
    simp only[V.den,D.den]at hy;subst hy
    exact⟨false, .inl rfl,rfl,fQ (fun _ _ h=>by cases h.1) (by rintro⟨h1,h2⟩;first|(cases h1;done)|(cases h2;done)),eq _ (fun d=>by rw[LB w d ht])⟩
   ·injection h with h;subst h
    obtain⟨u,rfl,_⟩:=hx
    simp only[V.den,D.den]at hy;subst hy
    exact⟨false, .inl rfl,rfl,fQ (fun _ _ h=>by cases h.1) (by rintro⟨h1,h2⟩;first|(cases h1;done)|(cases h2;done)),eq _ (fun d=>by rw[LB w d ht])⟩
   ·injection h with h;subst h
    obtain⟨u,rfl,_⟩:=hy
    simp only[V.den,D.den]at hx;subst hx
    exact⟨false, .inl rfl,rfl,fQ (fun _ _ h=>by cases h.1) (by rintro⟨h1,h2⟩;first|(cases h1;done)|(cases h2;done)),eq _ (fun d=>by rw[LC w d ht])⟩
   ·injection h with h;subst h
    obtain⟨u,rfl,_⟩:=hy
    simp only[V.den,D.den]at hx;subst hx
    exact⟨false, .inl rfl,rfl,fQ (fun _ _ h=>by cases h.1) (by rintro⟨h1,h2⟩;first|(cases h1;done)|(cases h2;done)),eq _ (fun d=>by rw[LC w d ht])⟩
   ·cases h
  case func a b c=>
   split at h
   ·injection h with h;subst h
    simp only[V.den,D.den]at hx hy;subst hx;subst hy
    exact⟨true, .inl rfl,rfl,fQ (fun _ _ h=>by cases h.1) (by rintro⟨h1,h2⟩;first|(cases h1;done)|(cases h2;done)),eq _ (fun d=>by rw[Rh w d ht])⟩
   ·injection h with h;subst h
    obtain⟨f,c',rfl,_⟩:=hx
    simp only[V.den,D.den]at hy;subst hy
    exact⟨false, .inl rfl,rfl,fQ (fun _ _ h=>by cases h.1) (by rintro⟨h1,h2⟩;first|(cases h1;done)|(cases h2;done)),eq _ (fun d=>by rw[Ri w d ht])⟩
   ·cases h
  case map a b=>
   split at h
   ·simp only[V.den,D.den]at hy;subst hy
    unfold qv at h
    split at h
    ·injection h with h;subst h
     simp only[V.den,D.den]at hx;subst hx
     exact⟨true, .inl rfl,rfl,fQ (fun _ _ h=>by cases h.1) (by rintro⟨h1,h2⟩;first|(cases h1;done)|(cases h2;done)),eq _ (fun d=>by rw[Rj w d ht])⟩
    ·injection h with h;subst h
     obtain⟨bk,es,clock,_,rfl,_⟩:=hx
     exact⟨false, .inl rfl,rfl,fQ (fun _ _ h=>by cases h.1) (by rintro⟨h1,h2⟩;first|(cases h1;done)|(cases h2;done)),eq _ (fun d=>by rw[GK w d ht])⟩
    ·rename_i id
     split at h
     ·rename_i ho
      injection h with h;subst h
      obtain⟨_,_,h3⟩:=hx
      have dq:=h3 (by rw[ho];rfl)
      have bA:=hH.ok id
      simp only[aK,ho]at bA
      obtain⟨bk,es,clock,g1,_⟩:=bA
      rw[<- dq]at g1;subst g1
      exact⟨false, .inl rfl,rfl,fQ (fun _ _ h=>by cases h.1) (by rintro⟨h1,h2⟩;first|(cases h1;done)|(cases h2;done)),eq _ (fun d=>by rw[GK w d ht])⟩
     ·rename_i ho
      injection h with h;subst h
      obtain⟨_,_,h3⟩:=hx
      have dq:=h3 (by rw[ho];rfl)
      have bA:=hH.ok id
      simp only[aK,ho]at bA
      obtain⟨bk,es,clock,_,g1,_⟩:=bA
      rw[<- dq]at g1;subst g1
      exact⟨false, .inl rfl,rfl,fQ (fun _ _ h=>by cases h.1) (by rintro⟨h1,h2⟩;first|(cases h1;done)|(cases h2;done)),eq _ (fun d=>by rw[GK w d ht])⟩
     ·cases h
    ·cases h
   ·cases h
  case pointer e=>
   split at h
   ·simp only[V.den,D.den]at hy;subst hy
    unfold qw at h
    split at h
    ·injection h with h;subst h
     simp only[V.den,D.den]at hx;subst hx
     exact⟨true, .inl rfl,rfl,fQ (fun _ _ h=>by cases h.1) (by rintro⟨h1,h2⟩;first|(cases h1;done)|(cases h2;done)),eq _ (fun d=>by rw[Rk w d ht])⟩
    ·split at h
     ·rename_i hr
      injection h with h;subst h
      obtain⟨_,_,h3⟩:=hx
      obtain⟨bk,_,rfl⟩:=h3 hr
      exact⟨false, .inl rfl,rfl,fQ (fun _ _ h=>by cases h.1) (by rintro⟨h1,h2⟩;first|(cases h1;done)|(cases h2;done)),eq _ (fun d=>by rw[LD w d ht])⟩
     ·cases h
    ·injection h with h;subst h
     obtain⟨a,ev,_,rfl,_⟩:=hx
     exact⟨false, .inl rfl,rfl,fQ (fun _ _ h=>by cases h.1) (by rintro⟨h1,h2⟩;first|(cases h1;done)|(cases h2;done)),eq _ (fun d=>by rw[LD w d ht])⟩
    ·cases h
   ·cases h
  case slice e=>
   split at h
   ·simp only[V.den]at hy;subst hy
    unfold ze at h
    split at h
    ·injection h with h;subst h
     simp only[V.den]at hx;subst hx
     exact⟨true, .inl rfl,rfl,fQ (fun _ _ h=>by cases h.1) (by rintro⟨h1,h2⟩;first|(cases h1;done)|(cases h2;done)),eq _ (fun d=>by rw[Rl w d ht];rfl)⟩
    ·split at h
     ·rename_i es hl
      obtain⟨base,n,c,rfl,hb⟩:=B8 hH hl hx
      refine⟨base.isNone, ?_,rfl,fQ (fun _ _ h=>by cases h.1) (by rintro⟨h1,h2⟩;first|(cases h1;done)|(cases h2;done)),eq _ ?_⟩
      ·split at h
       ·injection h with h;exact .inr h.symm
       ·rename_i gv
        injection h with h
        have:=hb gv
        cases base with
        |none=>exact absurd rfl this
        |some a=>exact .inl h.symm
      ·intro d
       rw[Rl w d ht]
     ·cases h
   ·cases h
  case struct fs=>
   split at h
   ·split at h
    ·rename_i hg
     simp only[Option.map_eq_some_iff]at h
     obtain⟨r,h1,rfl⟩:=h
     obtain⟨g1,g2⟩:=Gz h1 hg (ao M φ H) w xv yv hx hy
     exact⟨r, .inl rfl,by obtain⟨_,rfl,_⟩:=hx;rfl,fun op=>g2 op p q,g1⟩
    ·cases h
   ·cases h
  case array n e=>
   split at h
   ·split at h
    ·rename_i hg
     simp only[Option.map_eq_some_iff]at h
     obtain⟨r,h1,rfl⟩:=h
     obtain⟨g1,g2⟩:=Gz h1 hg (ao M φ H) w xv yv hx hy
     exact⟨r, .inl rfl,by obtain⟨_,rfl,_⟩:=hx;rfl,fun op=>g2 op p q,g1⟩
    ·cases h
   ·cases h
theorem Jy(hH:az M φ H w){op:BinOp}{t:TypeId}{p q:Operand}{x y:V}{xv yv:Value}(hx:V.den (ao M φ H) φ H w x xv)(hy:V.den (ao M φ H) φ H w y yv)
 (h:dm (qx P H.o op t (isConst p||isConst q) x y) K):
 cJ M φ H w fr ((do let y <- (do eqGuard op t p q xv yv;binOp op t xv yv);pure (Next.value y):Sem Next).run P w) K:=by
 have hg:=dt h
 clear h
 obtain⟨v,Δ,rd,h,hK⟩:=hg
 unfold qx at h
 split at h
 ·simp only[Option.map_eq_some_iff]at h
  obtain⟨u,h1,h2⟩:=h
  injection h2 with e1 e2;injection e2 with e2 e3;subst e1;subst e2;subst e3
  obtain⟨r,hv,Wt,Wu,he⟩:=Dr (p:=p) (q:=q) hH hx hy h1
  refine cJ.plain hH (.bool r) hK ?_ ?_
  ·have hb:(binOp .eql t xv yv).run P w= .ok (.bool r) w:=by
    unfold binOp
    cases xv<;>first|(simp[GL]at Wt;done)|(cases yv<;>simp[he])
   simp[Wu,hb]
  ·rcases hv with rfl|rfl
   ·rfl
   ·exact⟨r,rfl⟩
 ·simp only[Option.map_eq_some_iff,Option.bind_eq_some_iff]at h
  obtain⟨u',⟨u,h1,h3⟩,h2⟩:=h
  injection h2 with e1 e2;injection e2 with e2 e3;subst e1;subst e2;subst e3
  obtain⟨r,hv,Wt,Wu,he⟩:=Dr (p:=p) (q:=q) hH hx hy h1
  refine cJ.plain hH (.bool !r) hK ?_ ?_
  ·have hb:(binOp .neq t xv yv).run P w= .ok (.bool !r) w:=by
    unfold binOp
    cases xv<;>first|(simp[GL]at Wt;done)|(cases yv<;>simp[he])
   simp[Wu,hb]
  ·rcases hv with rfl|rfl
   ·simp only[Jk,Option.some.injEq]at h3;subst h3;rfl
   ·simp only[Jk,Option.some.injEq]at h3;subst h3;exact⟨!r,rfl⟩
 ·cases h
end
end Go.Proofs.YtealblliddhgiaaGreat
namespace Go.Proofs.YtealblliddhgiaaGreat
section
variable {P:Program}{M:Nat->Prop}{φ:Place}{H:Hp}{w w':World}{fr:Nat}{K:V->List (Nat×ae)->List Nat->Prop}
theorem xy(hH:az M φ H w){o:Oper}{a:Act}{q:Operand}(ho:o.op= .nilCheck q){x:V}(hx:V.den (ao M φ H) φ H w x (a.eval q))
 (h:kZ H.o x fun v=>K v [] []):cJ M φ H w fr ((execOp a.eval o).run P w) K:=by
 unfold kZ at h
 have nR:=hx
 split at h
 ·rename_i id off
  obtain⟨h1,hK⟩:=h
  obtain⟨_,hu,hp⟩:=nR
  obtain⟨b,dq,hv⟩:=hp h1
  exact cJ.same hH _ hK (by simp[execOp,ho,hv]) (hv ▸ hx)
 ·rename_i cs off
  obtain⟨b,ev,_,hv,_⟩:=nR
  exact cJ.same hH _ h (by simp[execOp,ho,hv]) (hv ▸ hx)
 ·rename_i f first cap
  obtain⟨b,c,hv,_⟩:=nR
  exact cJ.same hH _ h (by simp[execOp,ho,hv]) (hv ▸ hx)
 ·exact h.elim
theorem E0{t:TypeId}{k:IntKind}(h:cM P t=some k):P.underlying t=some (.int k):=by
 unfold cM at h
 cases hd:P.underlying t with
 |none=>simp[hd]at h
 |some d=>cases d<;>simp_all
theorem pF(s:S)(a:Act)(dC:∀i,V.den (ao M φ H) φ H w (s.env i) (a.tmps.getD i undef))(xs:Array Operand):
 V.aE (ao M φ H) φ H w (xs.toList.map s.ev) (xs.map a.eval).toList:=by
 simpa using j8 s a dC xs.toList
theorem vX(hH:az M φ H w){s:S}(kS:s.o=H.o){a:Act}(dC:∀i,V.den (ao M φ H) φ H w (s.env i) (a.tmps.getD i undef))(cS: ¬H.us fr){o:Oper}{op:Op}(dD:o.op=op)(h:Ls P s fr op K):
 cJ M φ H w fr ((execOp a.eval o).run P w) K:=by
 have dG:=mJ (M:=M) (φ:=φ) (H:=H) (w:=w) s a dC
 cases op<;>simp only[Ls]at h<;>try (exact h.elim)
 case move x=>exact cJ.same hH _ h (by simp[execOp,dD]) (dG x)
 case assign x=>exact cJ.same hH _ h (by simp[execOp,dD]) (dG x)
 case pick c x y=>
  have:=Gu (P:=P) (fr:=fr) hH (dG c) (dG x) (dG y) h
  simpa[execOp,dD]using this
 case alloc t=>
  have:=EH (P:=P) (fr:=fr) hH cS h
  simpa[execOp,dD]using this
 case box t x=>
  have:=Jr (P:=P) (fr:=fr) (t:=t) hH cS (dG x) h
  simpa[execOp,dD]using this
 case build t parts=>
  have:=EJ (P:=P) (fr:=fr) hH dC h
  simpa[execOp,dD]using this
 case buildSlice t len parts=>
  rw[kS]at h
  have:=tg (P:=P) (fr:=fr) hH cS dC h
  simpa[execOp,dD]using this
 case load t x=>
  rw[kS]at h
  have:=Gt (P:=P) (fr:=fr) hH (dG x) h
  simpa[execOp,dD]using this
 case store t x y=>
  rw[kS]at h
  have:=EN (P:=P) (fr:=fr) hH (dG x) (dG y) h
  simpa[execOp,dD]using this
 case nilCheck x=>
  rw[kS]at h
  exact xy hH dD (dG x) h
 case binOp op t x y yt=>
  rw[kS]at h
  rcases h with h|h
  ·have:=Jp (P:=P) (fr:=fr) (p:=x) (q:=y) hH (dG x) (dG y) h
   simpa[execOp,dD]using this
  ·have:=Jy (P:=P) (fr:=fr) (p:=x) (q:=y) hH (dG x) (dG y) h
   simpa[execOp,dD]using this
 case unOp op t x=>
  rcases h with h|⟨rfl,hx,hK⟩
  ·have:=Ni (P:=P) (fr:=fr) hH (dG x) h
   simpa[execOp,dD]using this
  ·have hv:=dG x
   rw[hx]at hv
   obtain⟨b,hb⟩:=hv
   exact cJ.same hH (.bool !b) hK (by simp[execOp,dD,hb,Op.unary]) ⟨_,rfl⟩
 case convert t u x=>
  obtain⟨Wv,h⟩:=h
  split at h
  ·rename_i k k' n hk hx
   have hv:=dG x
   rw[hx]at hv
   simp only[V.den,D.den]at hv
   have hu:=E0 hk
   obtain⟨d,hd⟩:=Option.isSome_iff_exists.1 Wv
   refine cJ.same hH (.int k (k.wrap n)) h ?_ rfl
   cases d<;>simp[execOp,dD,hv,convert,run_underlying hd,run_underlying hu,Conv.intToInt]
  ·exact h.elim
 case makeInterface t x=>
  obtain⟨⟨d,hd,jZ⟩,h⟩:=h
  have hr:∀v,(Instr.makeInterface t v).run P w= .ok (.iface t v) w:=by
   intro v
   cases d<;>first|(simp at jZ;done)|simp[Instr.makeInterface,run_underlying hd]
  have hv:=dG x
  split at h
  ·rename_i y hy
   rw[hy]at hv
   exact cJ.same hH _ h (by simp[execOp,dD,hr]) ⟨_,rfl,hv⟩
  ·exact cJ.same hH _ h (by simp[execOp,dD,hr]) ⟨_,rfl,hv⟩
 case makeFunc fn first cap=>
  exact cJ.same hH _ h (by simp[execOp,dD,Instr.makeFunc]) ⟨_,_,rfl,pF s a dC first,pF s a dC cap⟩
 case makeSlice t l c=>
  have:=vo (P:=P) (fr:=fr) hH cS (dG l) (dG c) h
  simpa[execOp,dD]using this
 case fieldAddr t x f=>
  rw[kS]at h
  have:=vl (P:=P) (fr:=fr) hH (dG x) h
  simpa[execOp,dD]using this
 case indexAddr t x i=>
  rw[kS]at h
  have:=vn (P:=P) (fr:=fr) hH (dG x) (dG i) h
  simpa[execOp,dD]using this
 case extract x i=>
  split at h
  ·rename_i vs hx
   obtain⟨v,hv,hK⟩:=h
   have hd:=dG x
   rw[hx]at hd
   obtain⟨c,hc,hd⟩:=hd
   obtain⟨u,hu,Jo⟩:=V.ef _ _ _ _ hd hv
   refine cJ.same hH u hK ?_ Jo
   have xn:c[i]? =some u:=by simpa using hu
   simp[execOp,dD,hc,Instr.extract,xn]
  ·exact h.elim
 case call c=>
  obtain⟨GM,args,ts⟩:=c
  cases GM<;>simp only at h<;>try (exact h.elim)
  rename_i b
  unfold tc at h
  split at h
  ·rename_i x ei
   obtain⟨t,BW,h⟩:=h
   rw[kS]at h
   have e1:args=#[x]:=by apply Array.ext';simpa using ei
   have e2:ts=#[t]:=by apply Array.ext';simpa using BW
   subst e1;subst e2
   have:=Jq (P:=P) (fr:=fr) (ty:=o.type) hH (dG x) h
   simpa[execOp,dD,resolve,invoke,builtin]using this
  ·rename_i x y ei
   have e1:args=#[x,y]:=by apply Array.ext';simpa using ei
   subst e1
   rw[kS]at h
   have:=BV (P:=P) (fr:=fr) (ty0:=o.type) hH cS (dG x) (dG y) h
   simpa[execOp,dD,resolve,invoke,builtin]using this
  ·rename_i x y ei
   have e1:args=#[x,y]:=by apply Array.ext';simpa using ei
   subst e1
   unfold nE at h
   split at h
   ·rename_i k u k' v heq
    simp only[List.cons.injEq,and_true]at heq
    obtain⟨rfl,hK⟩:=h
    have h1:=dG x
    have h2:=dG y
    rw[heq.1]at h1;rw[heq.2]at h2
    simp only[V.den,D.den]at h1 h2
    exact cJ.same hH _ hK (by simp[execOp,dD,resolve,invoke,builtin,h1,h2,run_max_int2]) rfl
   ·exact h.elim
  ·rename_i x y ei
   have e1:args=#[x,y]:=by apply Array.ext';simpa using ei
   subst e1
   unfold nE at h
   split at h
   ·rename_i k u k' v heq
    simp only[List.cons.injEq,and_true]at heq
    obtain⟨rfl,hK⟩:=h
    have h1:=dG x
    have h2:=dG y
    rw[heq.1]at h1;rw[heq.2]at h2
    simp only[V.den,D.den]at h1 h2
    exact cJ.same hH _ hK (by simp[execOp,dD,resolve,invoke,builtin,h1,h2,run_min_int2]) rfl
   ·exact h.elim
  ·rename_i x y z ei
   have e1:args=#[x,y,z]:=by apply Array.ext';simpa using ei
   subst e1
   have hg:=dt h
   clear h
   obtain⟨v,Δ,rd,h,hK⟩:=hg
   simp only[Option.map_eq_some_iff,Prod.mk.injEq]at h
   obtain⟨v',h,rfl,rfl,rfl⟩:=h
   unfold Gn at h
   split at h
   ·rename_i k u k' v Zz t q1 q2 q3
    split at h
    ·rename_i hk
     obtain⟨rfl,rfl⟩:=hk
     injection h with h;subst h
     have h1:=dG x
     have h2:=dG y
     have h3:=dG z
     rw[q1]at h1;rw[q2]at h2;rw[q3]at h3
     simp only[V.den,D.den]at h1 h2 h3
     exact cJ.same hH _ hK (by simp[execOp,dD,resolve,invoke,builtin,h1,h2,h3,Builtin.max_,Builtin.max2]) rfl
    ·cases h
   ·cases h
  ·rename_i x y ei
   have e1:args=#[x,y]:=by apply Array.ext';simpa using ei
   subst e1
   rw[kS]at h
   have:=GA (P:=P) (fr:=fr) (ty0:=o.type) hH (dG x) (dG y) h
   simpa[execOp,dD,resolve,invoke,builtin]using this
  ·rename_i x y ei
   have e1:args=#[x,y]:=by apply Array.ext';simpa using ei
   subst e1
   obtain⟨t,ht,h⟩:=h
   rw[kS]at h
   have:=B6 (P:=P) (fr:=fr) (ty0:=o.type) hH ht (dG x) (dG y) h
   simpa[execOp,dD,resolve,invoke,builtin]using this
  ·exact h.elim
 case slice t x lo hi mx=>
  rw[kS]at h
  have:=EO (P:=P) (fr:=fr) (lov:=lo.map a.eval) (hiv:=hi.map a.eval) (mxv:=mx.map a.eval) hH (dG x) (by cases lo<;>simp[dG]) (by cases hi<;>simp[dG]) (by cases mx<;>simp[dG]) h
  simpa[execOp,dD]using this
 case field t x f=>
  have:=EP (P:=P) (fr:=fr) hH (dG x) h
  simpa[execOp,dD]using this
 case index t x i=>
  have:=ES (P:=P) (fr:=fr) hH (dG x) (dG i) h
  simpa[execOp,dD]using this
 case insert t m k v=>
  rw[kS]at h
  have:=n7 (P:=P) (fr:=fr) hH (dG m) (dG k) (dG v) h
  simpa[execOp,dD]using this
 case typeAssert x xt t ok=>
  have:=B0 (P:=P) (fr:=fr) (xt:=xt) hH (dG x) h
  simpa[execOp,dD]using this
 case makeMap t r=>
  cases r with
  |some x=>exact h.elim
  |none=>
   have:=zw (P:=P) (fr:=fr) hH cS h
   simpa[execOp,dD]using this
 case lookup t m k ok=>
  rw[kS]at h
  have:=B4 (P:=P) (fr:=fr) hH (dG m) (dG k) h
  simpa[execOp,dD]using this
 case mapUpdate t m k v=>
  rw[kS]at h
  have:=n7 (P:=P) (fr:=fr) hH (dG m) (dG k) (dG v) h
  simpa[execOp,dD]using this
 case range t x=>
  rw[kS]at h
  have:=EX (P:=P) (fr:=fr) hH cS (dG x) h
  simpa[execOp,dD]using this
 case next x str=>
  rw[kS]at h
  rcases h with h|⟨rfl,id,l,h1,h2⟩
  ·have:=zC (P:=P) (fr:=fr) (ty:=o.type) hH (dG x) h
   simpa[execOp,dD]using this
  ·have:=zE (P:=P) (fr:=fr) (ty:=o.type) hH (dG x) h1 h2
   simpa[execOp,dD]using this
 case entry x=>
  rw[kS]at h
  have:=EZ (P:=P) (fr:=fr) hH (dG x) h
  simpa[execOp,dD]using this
end
end Go.Proofs.YtealblliddhgiaaGreat
