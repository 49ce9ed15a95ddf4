/-
  A PART OF THE PROOF. Conditions: none.
-/
import Derived.WideKeyRuns
import Derived.Laws.IdiomRangeMap
import Derived.Test.YtlhemmpklhhgoaaGreatQb4
set_option linter.unusedSimpArgs false
set_option linter.unusedVariables false
namespace Go.Proofs.YtlhemmpklhhgoaaGreat
section
mutual
theorem D.dp:∀ (x y:D),x.same y=true->x=y
 | .int k a,y,h=>by cases y<;>simp_all[D.same]
 | .bool a,y,h=>by cases y<;>simp_all[D.same]
 | .str a,y,h=>by cases y<;>simp_all[D.same]
 | .fi,y,h=>by cases y<;>simp_all[D.same]
 | .kz,y,h=>by cases y<;>simp_all[D.same]
 | .bO,y,h=>by cases y<;>simp_all[D.same]
 | .eQ,y,h=>by cases y<;>simp_all[D.same]
 | .agg bK,y,h=>by
   exact KA
 | .sl bK,y,h=>by
   exact KA
 | .iface t a,y,h=>by
   cases y<;>simp only[D.same,Bool.false_eq_true,Bool.and_eq_true,beq_iff_eq]at h
   rw[h.1,D.dp a _ h.2]
 | .mp ks vs,y,h=>by
   cases y<;>simp only[D.same,Bool.false_eq_true,Bool.and_eq_true]at h
   rw[D.cW ks _ h.1,D.cW vs _ h.2]
theorem D.cW:∀ (xs ys:List D),D.eI xs ys=true->xs=ys
 |[],ys,h=>by cases ys<;>simp_all[D.eI]
 |a::bK,ys,h=>by
  cases ys<;>simp only[D.eI,Bool.false_eq_true,Bool.and_eq_true]at h
  rw[D.dp a _ h.1,D.cW bK _ h.2]
end
section
variable {P:Program}{M:Nat->Prop}{φ:Place}{H:Hp}{w w':World}{fr:Nat}{K:V->List (Nat×ab)->List Nat->Prop}{B:Nat->Prop}
theorem pg{t kt vt:TypeId}(h:pa P t=some (kt,vt)):P.underlying t=some (.map kt vt):=by
 unfold pa at h
 cases hd:P.underlying t with
 |none=>simp[hd]at h
 |some d=>cases d<;>simp_all
theorem ur{x:D}(h:mq x=true){u v:Value}(hu:D.den B w x u)(hv:D.den B w x v):u=v:=by
 cases x<;>simp only[mq,Bool.false_eq_true]at h<;>simp only[D.den]at hu hv
 ·rw[hu,hv]
 ·rw[hu,hv]
 ·obtain⟨⟨⟨a⟩⟩,rfl,h1⟩:=hu
  obtain⟨⟨⟨b⟩⟩,rfl,h2⟩:=hv
  simp only at h1 h2
  rw[h1,h2]
theorem uu:∀ {xs:List D} (_:xs.all mq=true) {us vs:List Value} (_:D.az B w xs us) (_:D.az B w xs vs),us=vs
 |[],_,us,vs,hu,hv=>by simp only[D.az]at hu hv;rw[hu,hv]
 |x::xs,h,us,vs,hu,hv=>by
  simp only[List.all_cons,Bool.and_eq_true]at h
  obtain⟨u,us,rfl,h1,h2⟩:=hu
  obtain⟨v,vs,rfl,h3,h4⟩:=hv
  rw[ur h.1 h1 h3,uu h.2 h2 h4]
theorem As{x:D}(h:jh x=true){u v:Value}(hu:D.den B w x u)(hv:D.den B w x v):u=v:=by
 cases x with
 |agg cs=>
  simp only[jh]at h
  obtain⟨a,rfl,h1,_⟩:=hu
  obtain⟨b,rfl,h2,_⟩:=hv
  have:=uu h h1 h2
  congr 1
  exact Array.ext' this
 |_=>exact ur (by simpa[jh]using h) hu hv
theorem uv{x:D}(h:mq x=true){u:Value}(hu:D.den B w x u)(n:Nat):Instr.sameBits n u u=true:=by
 cases x<;>simp only[mq,Bool.false_eq_true]at h<;>simp only[D.den]at hu
 ·subst hu;cases n<;>simp[Instr.sameBits]
 ·subst hu;cases n<;>simp[Instr.sameBits]
 ·obtain⟨s,rfl,h1⟩:=hu
  have:(s==s)=true:=(MapKept.bytes_beq s s).2 rfl
  cases n<;>simp[Instr.sameBits,this]
theorem rD:∀ {xs:List D} (_:xs.all mq=true) {us:List Value} (_:D.az B w xs us) (n:Nat),(us.zip us).all (fun(x,y)=>Instr.sameBits n x y)=true
 |[],_,us,hu,n=>by simp only[D.az]at hu;subst hu;rfl
 |x::xs,h,us,hu,n=>by
  simp only[List.all_cons,Bool.and_eq_true]at h
  obtain⟨u,us,rfl,h1,h2⟩:=hu
  simp only[List.zip_cons_cons,List.all_cons,uv h.1 h1 n,Bool.true_and]
  exact rD h.2 h2 n
theorem Au{x:D}(h:jh x=true){u:Value}(hu:D.den B w x u)(n:Nat):Instr.sameBits (n+1) u u=true:=by
 cases x with
 |agg cs=>
  simp only[jh]at h
  obtain⟨a,rfl,h1,_⟩:=hu
  have:=rD h h1 n
  simp only[Instr.sameBits,beq_self_eq_true,Bool.true_and]
  exact this
 |_=>exact uv (by simpa[jh]using h) hu (n+1)
theorem Dy{x:D}(h:jh x=true){u:Value}(hu:D.den B w x u):(Instr.keyThatStays u u).run P w'= .ok u w':=by
 simp[Instr.keyThatStays,Au h hu 9999]
theorem nL(em:Bool):∀ (d:Nat) (t:TypeId) (x:D),l8 P d t x=true->∀m,d<=m->∀u,D.den B w x u->(Instr.checkKey em m t u).run P w= .ok () w
 |0,_,_,h=>by simp[l8]at h
 |d+1,t,x,h=>by
  intro m hm u hu
  obtain⟨m,rfl⟩:∃k,m=k+1:=⟨m - 1,af⟩
  have IH:=fun t x h u hu=>nL em d t x h m af u hu
  unfold l8 at h
  rw[Instr.checkKey]
  cases hs:bw P t with
  |none=>rw[hs]at h;cases h
  |some sh=>
   rw[hs]at h
   unfold bw at hs
   cases ht:P.underlying t with
   |none=>rw[ht]at hs;cases hs
   |some td=>
    rw[ht]at hs
    simp only[Sem.run_bind,run_underlying ht,Result.andThen_ok]
    cases td<;>simp only[Option.some.injEq,reduceCtorEq]at hs
    case int k0=>simp
    case bool=>simp
    case string=>simp
    case struct fs=>
     split at hs
     ·injection hs with hs;subst hs
      simp only at h
      cases x<;>simp only[Bool.false_eq_true]at h
      rename_i xs
      obtain⟨arr,rfl,ha,hf⟩:=hu
      simp only
      rw[<- Array.forIn_toList]
      rw[List.all_map]at h
      generalize fs.toList=L at h
      induction L with
      |nil=>simp
      |cons f L ih=>
       simp only[List.all_cons,Bool.and_eq_true,Function.comp]at h
       obtain⟨h1,h2⟩:=h
       split at h1
       ·rename_i y hy
        obtain⟨v,k1,k2⟩:=ft hy ha hf
        have k3:=IH _ _ h1 v k2
        by_cases hn:f.name= "_"
        ·simp only[List.forIn_cons,Sem.run_bind,hn,ne_eq,not_true_eq_false,if_false,Result.andThen_ok,Sem.run_pure]
         have:=ih h2
         simp only[Sem.run_bind,Sem.run_pure,ne_eq]at this
         exact this
        ·simp only[List.forIn_cons,Sem.run_bind,hn,ne_eq,not_false_eq_true,if_true,Result.andThen_ok,k1,k3,Sem.run_pure]
         have:=ih h2
         simp only[Sem.run_bind,Sem.run_pure,ne_eq]at this
         exact this
       ·cases h1
     ·cases hs
    case array n e=>
     split at hs
     ·rename_i hi
      injection hs with hs;subst hs
      simp only at h
      cases x<;>simp only[Bool.false_eq_true]at h
      rename_i xs
      obtain⟨arr,rfl,ha,hf⟩:=hu
      obtain⟨i,hi⟩:=Option.isSome_iff_exists.1 hi
      simp only[Std.Legacy.Range.forIn_eq_forIn_range',Std.Legacy.Range.size,Nat.sub_zero,Nat.add_one_sub_one,Nat.div_one]
      rw[List.range_eq_range']at h
      generalize List.range' 0 n=is at h
      induction is with
      |nil=>simp
      |cons j is ih=>
       simp only[List.all_cons,Bool.and_eq_true]at h
       obtain⟨h1,h2⟩:=h
       split at h1
       ·rename_i y hy
        obtain⟨v,k1,k2⟩:=ft hy ha hf
        have k3:=IH _ _ h1 v k2
        simp only[List.forIn_cons,Sem.run_bind,c0 hi,Result.andThen_ok,k1,k3,Sem.run_pure]
        have:=ih h2
        simp only[Sem.run_bind,Sem.run_pure]at this
        exact this
       ·cases h1
     ·cases hs
def iQ(B:Nat->Prop)(w:World)(es:List MapEntry)(i:Nat):Option (Nat×D×D)->Option (Nat×Value)->Prop
 |none,none=>True
 |some (j,k,x),some (j',v)=>j=j'/\i<=j/\D.den B w x v/\∃e,es[j - i]? =some e/\e.val=v/\D.den B w k e.key
 |_,_=>False
theorem iQ.succ {es:List MapEntry}{e:MapEntry}{i:Nat}{r:Option (Nat×D×D)}{r':Option (Nat×Value)}(h:iQ B w es (i+1) r r'):iQ B w (e::es) i r r':=by
 cases r with
 |none=>cases r'<;>exact h
 |some p=>
  obtain⟨j,k,x⟩:=p
  cases r' with
  |none=>exact h
  |some q=>
   obtain⟨j',v⟩:=q
   obtain⟨h1,h2,h3,e',h4,h5⟩:=h
   refine⟨h1,af,h3,e', ?_,h5⟩
   rw[show j - i=(j - (i+1))+1 by omega]
   simpa using h4
theorem pZ{kt:TypeId}{kd:D}{kv:Value}(hk:D.den B w kd kv):∀ (l:List (D×D)) (es:List MapEntry) (i:Nat) (r:Option (Nat×D×D)),aB B w l es->findD P kt kd l i=some r->
 ∃r',(Instr.findAsking kt kv es i).run P w= .ok r' w/\iQ B w es i r r'
 |[],es,i,r,he,h=>by
  simp only[aB]at he;subst he
  simp only[findD,Option.some.injEq]at h;subst h
  exact⟨none,by simp[Instr.findAsking],trivial⟩
 |(k',x)::l,es,i,r,he,h=>by
  obtain⟨e,es,rfl,h1,h2,h3⟩:=he
  simp only[findD]at h
  split at h
  ·rename_i hq
   injection h with h;subst h
   have:=qP 100 kt _ _ _ hq 10000 cA B w _ _ hk h1
   refine⟨some (i,e.val),by simp[Instr.findAsking,Op.equal,Op.maxDepth,this],rfl,Nat.le_refl _,h2,e,aK,rfl,h1⟩
  ·rename_i hq
   have:=qP 100 kt _ _ _ hq 10000 cA B w _ _ hk h1
   obtain⟨r',g1,g2⟩:=pZ hk l es (i+1) r h3 h
   exact⟨r',by simp[Instr.findAsking,Op.equal,Op.maxDepth,this,g1],g2.succ⟩
  ·cases h
theorem p8{td:TypeDesc}{kt:TypeId}(ht:P.underlying kt=some td)(hn:(match td with| .int _| .bool| .string=>true|_=>false)=true){x y:D}{r:Bool}(h:nk P 100 kt x y=some r){u v:Value}(hu:D.den B w x u)(hv:D.den B w y v):
 Instr.sameNow td u v=some r:=by
 unfold nk bw at h
 rw[ht]at h
 cases td<;>simp only[Bool.false_eq_true]at hn<;>simp only at h
 ·split at h
  ·injection h with h;subst h
   simp only[D.den]at hu hv;subst hu;subst hv;rfl
  ·cases h
 ·split at h
  ·split at h
   ·rename_i e;subst e;injection h with h;subst h
    simp only[D.den]at hu hv;subst hu;subst hv;simp[Instr.sameNow]
   ·cases h
  ·cases h
 ·split at h
  ·injection h with h;subst h
   obtain⟨s1,rfl,rfl⟩:=hu
   obtain⟨s2,rfl,rfl⟩:=hv
   simp only[Instr.sameNow,Option.some.injEq]
   obtain⟨⟨a⟩⟩:=s1
   obtain⟨⟨b⟩⟩:=s2
   rw[Bool.eq_iff_iff,MapKept.bytes_beq]
   simp
  ·cases h
theorem p9{td:TypeDesc}{kt:TypeId}(ht:P.underlying kt=some td)(hn:(match td with| .int _| .bool| .string=>true|_=>false)=true){kd:D}{kv:Value}(hk:D.den B w kd kv):∀ (l:List (D×D)) (es:List MapEntry) (i:Nat) (r:Option (Nat×D×D)),aB B w l es->findD P kt kd l i=some r->
 ∃r',Instr.findNow td kv es i=some r'/\iQ B w es i r r'
 |[],es,i,r,he,h=>by
  simp only[aB]at he;subst he
  simp only[findD,Option.some.injEq]at h;subst h
  exact⟨none,by simp[Instr.findNow],trivial⟩
 |(k',x)::l,es,i,r,he,h=>by
  obtain⟨e,es,rfl,h1,h2,h3⟩:=he
  simp only[findD]at h
  split at h
  ·rename_i hq
   injection h with h;subst h
   have:=p8 ht hn hq hk h1
   refine⟨some (i,e.val),by simp[Instr.findNow,this],rfl,Nat.le_refl _,h2,e,aK,rfl,h1⟩
  ·rename_i hq
   have:=p8 ht hn hq hk h1
   obtain⟨r',g1,g2⟩:=p9 ht hn hk l es (i+1) r h3 h
   exact⟨r',by simp[Instr.findNow,this,g1],g2.succ⟩
  ·cases h
theorem eJ{kt:TypeId}{kd:D}{kv:Value}(hk:D.den B w kd kv)(hc:l8 P 100 kt kd=true){l:List (D×D)}{es:List MapEntry}{r:Option (Nat×D×D)}(he:aB B w l es)(h:findD P kt kd l 0=some r):
 ∃r',(Instr.findKey kt kv es).run P w= .ok r' w/\iQ B w es 0 r r':=by
 unfold l8 bw at hc
 cases ht:P.underlying kt with
 |none=>simp[ht]at hc
 |some td=>
  have now:(match td with| .int _| .bool| .string=>true|_=>false)=true->∃r',(Instr.findKey kt kv es).run P w= .ok r' w/\iQ B w es 0 r r':=by
   intro hn
   obtain⟨r',g1,g2⟩:=p9 ht hn hk l es 0 r he h
   exact⟨r',MapKept.run_findKey ht g1,g2⟩
  have ask:(match P.underlying kt with|some (.array _ _)|some (.struct _)=>true|_=>false)=true->∃r',(Instr.findKey kt kv es).run P w= .ok r' w/\iQ B w es 0 r r':=by
   intro hn
   obtain⟨r',g1,g2⟩:=pZ hk l es 0 r he h
   exact⟨r',(run_findKey_eq w hn kv es).trans g1,g2⟩
  cases td<;>first
   |exact now rfl
   |(refine ask ?_;rw[ht];done)
   |(exfalso;simp[ht]at hc)
theorem aB.get:∀ {l:List (D×D)} {es:List MapEntry} {i:Nat} {e:MapEntry},aB B w l es->es[i]? =some e->∃p,l[i]? =some p/\D.den B w p.1 e.key/\D.den B w p.2 e.val
 |[],es,i,e,h,hi=>by simp only[aB]at h;subst h;simp at hi
 |(k,x)::l,es,i,e,h,hi=>by
  obtain⟨e',es,rfl,h1,h2,h3⟩:=h
  cases i with
  |zero=>simp at hi;subst hi;exact⟨(k,x),aK,h1,h2⟩
  |succ i=>simpa using aB.get h3 (by simpa using hi)
theorem aB.push:∀ {l:List (D×D)} {es:List MapEntry} {k x:D} {e:MapEntry},aB B w l es->D.den B w k e.key->D.den B w x e.val->aB B w (l++[(k,x)]) (es++[e])
 |[],es,k,x,e,h,h1,h2=>by simp only[aB]at h;subst h;exact⟨e,[],rfl,h1,h2,rfl⟩
 |(k',x')::l,es,k,x,e,h,h1,h2=>by
  obtain⟨e',es,rfl,g1,g2,g3⟩:=h
  exact⟨e',es++[e],rfl,g1,g2,aB.push g3 h1 h2⟩
theorem aB.set:∀ {l:List (D×D)} {es:List MapEntry} {i:Nat} {k x:D} {e:MapEntry},aB B w l es->D.den B w k e.key->D.den B w x e.val->aB B w (l.set i (k,x)) (es.set i e)
 |[],es,i,k,x,e,h,h1,h2=>by simp only[aB]at h;subst h;rfl
 |(k',x')::l,es,i,k,x,e,h,h1,h2=>by
  obtain⟨e',es,rfl,g1,g2,g3⟩:=h
  cases i with
  |zero=>exact⟨e,es,rfl,h1,h2,g3⟩
  |succ i=>exact⟨e',es.set i e,rfl,g1,g2,aB.set g3 h1 h2⟩
theorem xX(hH:aq M φ H w)(cI: ¬H.us fr){t:TypeId}(h:cB (kH P fr t) K):b9 M φ H w fr ((do let v <- Instr.makeMap t none;pure (Next.value v):Sem Next).run P w) K:=by
 have hg:=cR h
 clear h
 obtain⟨v,Δ,rd,h,hK⟩:=hg
 unfold kH at h
 split at h
 ·rename_i kt vt ht
  injection h with h;injection h with e1 e2;injection e2 with e2 e3;subst e1;subst e2;subst e3
  have hv:∀b,dR (.map (some w.heap.size))=some b->w.heap.size<=b/\b<(w.alloc (.map #[] 0)).heap.size:=by
   intro b hb;simp[dR]at hb;subst hb;simp
  have Ii:=cZ (φ:=φ) (H:=H) (bL w (.map #[] 0)) cI (.map kt vt []) (.map (some w.heap.size)) fun b hb=>(hv b hb).1
  refine⟨_, .map (some w.heap.size),w.alloc (.map #[] 0),aI φ fr (.map (some w.heap.size)),_,_,_,hK,by simp[Instr.makeMap], .inl rfl,fW hH (bL w _) cI _ _ hv ?_,Ii,⟨rfl,aK,fun _=>aK⟩,fun j hj=> .inr kF⟩
  unfold aJ
  simp only[bn,aC,if_true]
  exact⟨w.heap.size,#[],0,rfl,heap_alloc_new w _,⟨fun e he=>by simp at he,aK⟩,rfl⟩
 ·cases h
theorem rE{o:Nat->ab}{m:V}{r:Option (Nat×TypeId×TypeId)}{l:List (D×D)}(h:mu o m=some (r,l)):(∃id kt vt,m= .mp id/\o id= .map kt vt l/\r=some (id,kt,vt))\/(m= .d .eQ/\r=none/\l=[]):=by
 unfold mu at h
 split at h
 ·split at h
  ·rename_i ho
   simp only[Option.some.injEq,Prod.mk.injEq]at h;obtain⟨rfl,rfl⟩:=h;exact .inl ⟨_,_,_,rfl,ho,rfl⟩
  ·cases h
 ·simp only[Option.some.injEq,Prod.mk.injEq]at h;obtain⟨rfl,rfl⟩:=h;exact .inr ⟨rfl,rfl,rfl⟩
 ·cases h
theorem FH{ks vs:List D}{es:List MapEntry}(h1:D.az B w ks (es.map (·.key)))(h2:D.az B w vs (es.map (·.val))):aB B w (ks.zip vs) es:=by
 have e1:=D.ax _ _ h1
 have e2:=D.ax _ _ h2
 simp only[List.length_map]at e1 e2
 refine(jv _ _).2 ?_
 rw[List.map_fst_zip (by omega),List.map_snd_zip (by omega)]
 exact⟨h1,h2⟩
def rF(l l':List (D×D)):Prop:=l'=l\/(l'.Perm l/\vw (l.map (·.1)))
theorem rF.perm {l l':List (D×D)}(h:rF l l'):l'.Perm l:=by
 rcases h with rfl|h
 ·exact List.Perm.refl _
 ·exact h.1
theorem Dz{p q:List MapEntry}(hpq:p.Perm q):∀ {l:List (D×D)},aB B w l p->∃l',l'.Perm l/\aB B w l' q:=by
 induction hpq with
 |nil=>intro l h;exact⟨l,List.Perm.refl _,h⟩
 |cons x _ ih=>
  intro l h
  cases l with
  |nil=>cases h
  |cons y l=>
   obtain⟨k,v⟩:=y
   obtain⟨e,es,h0,h1,h2,h3⟩:=h
   injection h0 with h0 vI;subst h0;subst vI
   obtain⟨l',g1,g2⟩:=ih h3
   exact⟨(k,v)::l',g1.cons _,_,_,rfl,h1,h2,g2⟩
 |swap x y t=>
  intro l h
  match l,h with
  |[],h=>cases h
  |[(_,_)],h=>obtain⟨e,es,h0,_,_,h3⟩:=h;injection h0 with _ h0;have h3:es=[]:=h3;rw[h3]at h0;cases h0
  |(k,v)::(k',v')::l,h=>
   obtain⟨e,es,h0,h1,h2,e',es',vI,jR,qa,h3⟩:=h
   subst vI
   injection h0 with a b;subst a;injection b with b c;subst b;subst c
   exact⟨(k',v')::(k,v)::l,List.Perm.swap _ _ _,_,_,rfl,jR,qa,_,_,rfl,h1,h2,h3⟩
 |trans _ _ ih1 ih2=>
  intro l h
  obtain⟨l1,g1,g2⟩:=ih1 h
  obtain⟨l2,g3,g4⟩:=ih2 g2
  exact⟨l2,g3.trans g1,g4⟩
theorem pk{l:List (D×D)}{p:List MapEntry}{es:Array MapEntry}(hp:p=es.toList\/(p.Perm es.toList/\vw (l.map (·.1))))(h:aB B w l p):∃l',rF l l'/\aB B w l' es.toList:=by
 rcases hp with rfl|⟨h1,h2⟩
 ·exact⟨l, .inl rfl,h⟩
 ·obtain⟨l',g1,g2⟩:=Dz h1 h
  exact⟨l', .inr ⟨g1,h2⟩,g2⟩
theorem mN{l:List (D×D)}{v:Value}(h:D.den B w (.mp (l.map (·.1)) (l.map (·.2))) v):∃m es clock l',v= .map (some m)/\w.heap[m]? =some (.map es clock)/\ ¬B m/\fX es clock/\rF l l'/\aB B w l' es.toList:=by
 obtain⟨m,es,clock,p,h1,h2,h3,h4,hp,h5,h6⟩:=h
 obtain⟨l',g1,g2⟩:=pk hp ((jv _ _).2 ⟨h5,h6⟩)
 exact⟨m,es,clock,l',h1,h2,h3,h4,g1,g2⟩
theorem xY{ks vs:List D}{p:List MapEntry}(h1:D.az B w ks (p.map (·.key)))(h2:D.az B w vs (p.map (·.val))):(ks.zip vs).map (·.1)=ks:=by
 have e1:=D.ax _ _ h1
 have e2:=D.ax _ _ h2
 simp only[List.length_map]at e1 e2
 exact List.map_fst_zip af
theorem IF{P:Program}{kt:TypeId}{kd:D}{n:Int}{b:Bool}(h:nk P 100 kt kd (.int .i64 n)=some b):bw P kt=some .int/\∃m,kd= .int .i64 m/\b=(m==n):=by
 unfold nk at h
 cases hs:bw P kt with
 |none=>simp[hs]at h
 |some sh=>
  cases sh<;>simp only[hs]at h
  case int=>
   cases kd<;>simp only at h
   all_goals first
    |(cases h;done)
    |(split at h
      ·rename_i e;subst e;injection h with h;exact⟨rfl,_,rfl,h.symm⟩
      ·cases h)
  all_goals first
   |(cases kd<;>simp at h;done)
   |(simp at h;done)
theorem mO{P:Program}{kt:TypeId}{m:Int}(hs:bw P kt=some .int):∀ (l:List (D×D)) (i:Nat),(∀k∈l.map (·.1),∃n,k= .int .i64 n)->∃r,findD P kt (.int .i64 m) l i=some r/\(match r with|some (_,_,x)=>(D.int .i64 m,x)∈l|none=>∀x,(D.int .i64 m,x)∉l)
 |[],i,_=>⟨none,rfl,aK⟩
 |(k,x)::l,i,h=>by
  obtain⟨n,rfl⟩:=h k aK
  have he:nk P 100 kt (.int .i64 m) (.int .i64 n)=some (m==n):=by simp[nk,hs]
  simp only[findD,he]
  by_cases e:m=n
  ·subst e
   exact⟨some (i, .int .i64 m,x),aK,aK⟩
  ·have e2:(m==n)=false:=by simpa using e
   obtain⟨r,h1,h2⟩:=mO hs l (i+1) (fun k hk=>h k (by simp at hk|-;exact .inr hk))
   refine⟨r,by simp only[e2];exact h1, ?_⟩
   cases r with
   |none=>intro y hy;rcases List.mem_cons.1 hy with hy|hy
          ·injection hy with hy _;injection hy with _ hy;exact e hy
          ·exact h2 y hy
   |some p=>exact List.mem_cons_of_mem _ h2
theorem DA{L:List (D×D)}(hn:(L.map (·.1)).Nodup){k x x':D}(f2:(k,x)∈L)(f4:(k,x')∈L):x'=x:=by
 induction L with
 |nil=>cases f2
 |cons y L ih=>
  rw[List.map_cons,List.nodup_cons]at hn
  rcases List.mem_cons.1 f2 with e1|e1<;>rcases List.mem_cons.1 f4 with e2|e2
  ·rw[<- e1]at e2;injection e2
  ·exact absurd (by rw[<- e1];exact List.mem_map.2 ⟨_,e2,rfl⟩) hn.1
  ·exact absurd (by rw[<- e2];exact List.mem_map.2 ⟨_,e1,rfl⟩) hn.1
  ·exact ih hn.2 e1 e2
theorem uw{P:Program}{kt:TypeId}{kd:D}{l l':List (D×D)}{r:Option (Nat×D×D)}(hl:rF l l')(h:findD P kt kd l 0=some r):∃r',findD P kt kd l' 0=some r'/\(match r,r' with|some (_,_,x),some (_,_,x')=>x'=x|none,none=>True|_,_=>False):=by
 rcases hl with rfl|⟨hp,hk⟩
 ·refine⟨r,h, ?_⟩
  cases r<;>trivial
 ·cases l with
  |nil=>
   have:l'=[]:=hp.eq_nil
   subst this
   refine⟨r,h, ?_⟩
   cases r<;>trivial
  |cons p l=>
   obtain⟨k0,x0⟩:=p
   obtain⟨n0,rfl⟩:=hk.2 k0 aK
   have hb:∃b,nk P 100 kt kd (.int .i64 n0)=some b:=by
    simp only[findD]at h
    cases he:nk P 100 kt kd (.int .i64 n0)with
    |none=>rw[he]at h;cases h
    |some b=>exact⟨b,rfl⟩
   obtain⟨b,hb⟩:=hb
   obtain⟨hs,m,rfl,_⟩:=IF hb
   obtain⟨r1,f1,f2⟩:=mO (m:=m) hs ((.int .i64 n0,x0)::l) 0 hk.2
   rw[h]at f1;injection f1 with f1;subst f1
   obtain⟨r',f3,f4⟩:=mO (m:=m) hs l' 0 (fun k YQ=>hk.2 k ((hp.map _).mem_iff.1 YQ))
   refine⟨r',f3, ?_⟩
   cases r with
   |none=>
    cases r' with
    |none=>trivial
    |some q=>obtain⟨_,_,x'⟩:=q;exact f2 x' (hp.mem_iff.1 f4)
   |some q=>
    obtain⟨_,_,x⟩:=q
    cases r' with
    |none=>exact f4 x (hp.mem_iff.2 f2)
    |some q'=>
     obtain⟨_,_,x'⟩:=q'
     exact DA hk.1 f2 (hp.mem_iff.1 f4)
theorem ux{ks vs:List D}{p:List MapEntry}(h1:D.az B w ks (p.map (·.key)))(h2:D.az B w vs (p.map (·.val))):aB B w (ks.zip vs) p:=FH h1 h2
theorem Av(hH:aq M φ H w){m:V}{mv:Value}{rd:List Nat}{l:List (D×D)}(hm:V.den (ai M φ H) φ H w m mv)(h:nB H.o m=some (rd,l)):
 (mv= .map none/\l=[])\/∃b es clock l',mv= .map (some b)/\w.heap[b]? =some (.map es clock)/\fX es clock/\rF l l'/\aB (ai M φ H) w l' es.toList:=by
 unfold nB at h
 split at h
 ·rename_i id
  obtain⟨HX,K0,xj⟩:=hm
  have aQ:=hH.ok id
  split at h
  ·rename_i ho
   simp only[Option.some.injEq,Prod.mk.injEq]at h;obtain⟨rfl,rfl⟩:=h
   simp only[aJ,ho]at aQ
   obtain⟨b,es,clock,g1,g2,g0,g3⟩:=aQ
   exact .inr ⟨b,es,clock,_,(xj dB).trans g1,g2,g0, .inl rfl,g3⟩
  ·rename_i ho
   simp only[Option.some.injEq,Prod.mk.injEq]at h;obtain⟨rfl,rfl⟩:=h
   simp only[aJ,ho]at aQ
   obtain⟨b,es,clock,l',g1,g2,_,g0,g3⟩:=mN aQ.den
   exact .inr ⟨b,es,clock,l',(xj dB).trans g1,g2,g0,g3⟩
  ·cases h
 ·simp only[Option.some.injEq,Prod.mk.injEq]at h;obtain⟨rfl,rfl⟩:=h
  simp only[V.den,D.den]at hm
  exact .inl ⟨hm,rfl⟩
 ·simp only[Option.some.injEq,Prod.mk.injEq]at h;obtain⟨rfl,rfl⟩:=h
  obtain⟨b,es,clock,p,g1,g2,_,g0,gp,g3,g4⟩:=hm
  obtain⟨l',g5,g6⟩:=pk (by rw[xY g3 g4];exact gp) (ux g3 g4)
  exact .inr ⟨b,es,clock,l',g1,g2,g0,g5,g6⟩
 ·cases h
theorem Aw(hH:aq M φ H w){t:TypeId}{m k:V}{mv kv:Value}{ok:Bool}(hm:V.den (ai M φ H) φ H w m mv)(hk:V.den (ai M φ H) φ H w k kv)(h:cB (gK P H.o t m k ok) K):
 b9 M φ H w fr ((do let v <- Instr.lookup t mv kv ok;pure (Next.value v):Sem Next).run P w) K:=by
 have hg:=cR h
 clear h
 obtain⟨v,Δ,rd,h,hK⟩:=hg
 unfold gK at h
 split at h
 ·rename_i kt vt kd rd0 l ht Tu B5
  split at h
  ·rename_i hc
   have iR:D.den (ai M φ H) w kd kv:=ey hH k kd kv (fun id au=>by rw[hc.1]at au;cases au) Tu hk
   have HY:∀em,(Instr.checkKey em 10000 kt kv).run P w= .ok () w:=fun em=>nL em 100 kt kd hc.2 10000 cA kv iR
   have EN:=pg ht
   have YR:∃ (es:Array MapEntry) (l':List (D×D)),rF l l'/\aB (ai M φ H) w l' es.toList/\∀ (r':Option (Nat×Value)) (val:Value),(Instr.findKey kt kv es.toList).run P w= .ok r' w->(match r' with|some (_,u)=>val=(if ok=true then .tuple #[u, .bool true]else u)|none=>∃z,(zeroValue vt).run P w= .ok z w/\val=(if ok=true then .tuple #[z, .bool false]else z))->(Instr.lookup t mv kv ok).run P w= .ok val w:=by
    rcases Av hH hm B5 with⟨rfl,rfl⟩|⟨b,es,clock,l',rfl,g2,_,gl,g3⟩
    case inr=>
     have kE:=MapKept.run_getObj_map (P:=P) g2
     refine⟨es,l',gl,g3,fun r' val q1 q2=> ?_⟩
     cases r' with
     |some p=>obtain⟨j,u⟩:=p;simp only at q2;subst q2;cases ok<;>simp[Instr.lookup,run_underlying EN,kE,HY,q1]
     |none=>obtain⟨z,z1,rfl⟩:=q2;cases ok<;>simp[Instr.lookup,run_underlying EN,kE,HY,q1,z1]
    case inl=>
     refine⟨#[],[], .inl rfl,rfl,fun r' val q1 q2=> ?_⟩
     cases r' with
     |some p=>obtain⟨j,u⟩:=p;simp only at q2;subst q2;cases ok<;>simp[Instr.lookup,run_underlying EN,HY,q1]
     |none=>obtain⟨z,z1,rfl⟩:=q2;cases ok<;>simp[Instr.lookup,run_underlying EN,HY,q1,z1]
   obtain⟨es,l',gl,g3,run⟩:=YR
   split at h
   ·rename_i j kk x hf
    injection h with h;injection h with e1 e2;injection e2 with e2 e3;subst e1;subst e2;subst e3
    obtain⟨r2,YS,vK⟩:=uw gl hf
    obtain⟨r',q1,q2⟩:=eJ iR hc.2 g3 YS
    cases r2 with
    |none=>exact vK.elim
    |some p2=>
    obtain⟨_,_,x2⟩:=p2
    have hx2:x2=x:=vK
    obtain rfl:=hx2
    cases r' with
    |none=>exact q2.elim
    |some p=>
     obtain⟨j',u⟩:=p
     obtain⟨_,_,Xt,_⟩:=q2
     refine b9.plain (v:=(if ok=true then .bH [.d x2, .d (.bool true)]else .d x2)) hH (if ok=true then .tuple #[u, .bool true]else u) hK (run _ _ q1 rfl) ?_
     cases ok
     ·exact Xt
     ·exact⟨#[u, .bool true],rfl,u,[.bool true],rfl,Xt, .bool true,[],rfl,rfl,rfl⟩
   ·rename_i hf
    split at h
    ·rename_i z hz
     injection h with h;injection h with e1 e2;injection e2 with e2 e3;subst e1;subst e2;subst e3
     obtain⟨r2,YS,vK⟩:=uw gl hf
     obtain⟨r',q1,q2⟩:=eJ iR hc.2 g3 YS
     cases r2 with
     |some p2=>exact vK.elim
     |none=>
     cases r' with
     |some p=>exact q2.elim
     |none=>
      obtain⟨val,z1,z2⟩:=pf (M:=M) (φ:=φ) (H:=H) (w:=w) hz
      refine b9.plain hH (if ok=true then .tuple #[val, .bool false]else val) hK (run _ _ q1 ⟨val,z1,rfl⟩) ?_
      cases ok
      ·exact z2
      ·exact⟨#[val, .bool false],rfl,val,[.bool false],rfl,z2, .bool false,[],rfl,rfl,rfl⟩
    ·cases h
   ·cases h
  ·cases h
 ·cases h
theorem fZ{es:Array MapEntry}{i:Nat}{e:MapEntry}(f:MapEntry->MapEntry)(h:es.toList[i]? =some e):(es.modify i f).toList=es.toList.set i (f e):=by
 apply List.ext_getElem?
 intro j
 simp only[Array.getElem?_toList,Array.getElem?_modify]
 rw[List.getElem?_set]
 have h':es[i]? =some e:=by simpa using h
 by_cases hj:i=j
 ·subst hj
  have bR:i<es.toList.length:=by
   rw[List.getElem?_eq_some_iff]at h;exact h.1
  simp only[if_true,h',Option.map_some,bR]
 ·simp[hj]
theorem Ax{es:Array MapEntry}{clock:Nat}(h:fX es clock){e:MapEntry}(he:e.born=clock):fX (es.push e) (clock+1):=by
 obtain⟨h1,h2⟩:=h
 refine⟨fun x hx=> ?_, ?_⟩
 ·rw[Array.toList_push]at hx
  rcases List.mem_append.1 hx with hx|hx
  ·have:=h1 x hx;omega
  ·simp at hx;subst hx;omega
 ·rw[Array.toList_push,List.map_append,List.nodup_append]
  refine⟨h2,aK,fun a ha b hb=> ?_⟩
  obtain⟨x,hx,rfl⟩:=List.mem_map.1 ha
  simp only[List.map_cons,List.map_nil,List.mem_singleton]at hb
  have:=h1 x hx
  omega
theorem vL{es:Array MapEntry}{clock i:Nat}(h:fX es clock){e:MapEntry}(hi:es.toList[i]? =some e){f:MapEntry->MapEntry}(hf:(f e).born=e.born):fX (es.modify i f) clock:=by
 obtain⟨h1,h2⟩:=h
 unfold fX
 rw[fZ f hi]
 have e1:(es.toList.set i (f e)).map (·.born)=es.toList.map (·.born):=by
  rw[List.map_set,hf]
  apply List.ext_getElem?
  intro j
  rw[List.getElem?_set]
  by_cases hj:i=j
  ·subst hj
   have bR:=(List.getElem?_eq_some_iff.1 hi).1
   rw[if_pos rfl,if_pos (by simpa using bR),List.getElem?_map,hi];rfl
  ·rw[if_neg hj]
 refine⟨fun x hx=> ?_,by rw[e1];exact h2⟩
 obtain⟨j,hj⟩:=List.mem_iff_getElem?.1 (List.mem_map.2 ⟨x,hx,rfl⟩:x.born∈(es.toList.set i (f e)).map (·.born))
 rw[e1]at hj
 obtain⟨y,hy,e2⟩:=List.mem_map.1 (List.mem_of_getElem? hj)
 have:=h1 y hy
 omega
theorem xZ{es:Array MapEntry}{clock i:Nat}(h:fX es clock):fX (es.eraseIdxIfInBounds i) clock:=by
 obtain⟨h1,h2⟩:=h
 have e:(es.eraseIdxIfInBounds i).toList=es.toList.eraseIdx i:=aK
 unfold fX
 rw[e]
 exact⟨fun x hx=>h1 x (List.mem_of_mem_eraseIdx hx),h2.sublist (List.Sublist.map _ (List.eraseIdx_sublist ..))⟩
theorem aB.erase:∀ {l:List (D×D)} {es:List MapEntry} {i:Nat},aB B w l es->aB B w (l.eraseIdx i) (es.eraseIdx i)
 |[],es,i,h=>by simp only[aB]at h;subst h;simp[aB]
 |(k',x')::l,es,i,h=>by
  obtain⟨e',es,rfl,g1,g2,g3⟩:=h
  cases i with
  |zero=>exact g3
  |succ i=>exact⟨e',es.eraseIdx i,rfl,g1,g2,aB.erase g3⟩
theorem FI(hH:aq M φ H w){id b clock clock':Nat}{kt vt:TypeId}{l l':List (D×D)}{es es':Array MapEntry}(ee:H.us id)(ho:H.o id= .map kt vt l)(ef:φ id= .map (some b))(g2:w.heap[b]? =some (.map es clock))(h0:fX es' clock')(hl:aB (ai M φ H) w l' es'.toList):
 aq M φ (H.put [(id, .map kt vt l')]) {w with heap:=w.heap.setIfInBounds b (.map es' clock')}/\Trans φ H w φ (H.put [(id, .map kt vt l')]) {w with heap:=w.heap.setIfInBounds b (.map es' clock')}:=by
 have FJ:dD (· =b) w {w with heap:=w.heap.setIfInBounds b (.map es' clock')}:=
  ⟨rfl,rfl,rfl,aK,fun j _ hj=>(MapKept.heap_set g2).2 j hj⟩
 have vG:(H.o id).live=true:=by rw[ho];rfl
 have DB:dR (φ id)=some b:=by rw[ef];rfl
 have z8:=eE (w:=w) (w':={w with heap:=w.heap.setIfInBounds b (.map es' clock')}) ee vG DB FJ (.map kt vt l') dB dB
 refine⟨gR hH ee vG DB FJ _ dB dB ?_,z8⟩
 unfold aJ
 simp only[bn,aC,if_true]
 exact⟨b,es',clock',ef,(MapKept.heap_set g2).1,h0,aB.mono (z8.blocks (M:=M)) l' _ hl⟩
theorem Ay(hH:aq M φ H w){t:TypeId}{ts:Array TypeId}{m k:V}{mv kv:Value}(tH:ts.toList.head?=some t)(hm:V.den (ai M φ H) φ H w m mv)(hk:V.den (ai M φ H) φ H w k kv){ty0:TypeId}
 (h:cB (lN P H.o t m k) K):b9 M φ H w fr ((do let v <- Builtin.delete_ ts ty0 #[mv,kv];pure (Next.value v):Sem Next).run P w) K:=by
 have hg:=cR h
 clear h
 obtain⟨v',Δ,rd,h,hK⟩:=hg
 have Xu:ts[0]? =some t:=by rw[<- Array.getElem?_toList, <- List.head?_eq_getElem?];exact tH
 unfold lN at h
 split at h
 ·rename_i kt vt kd id BW BX l ht Tu B5
  rcases rE B5 with⟨id2,kt2,vt2,rfl,ho,hr⟩|⟨rfl,hr,rfl⟩
  case inr=>cases hr
  injection hr with hr;injection hr with e1 e2;injection e2 with e2 e3;subst e1;subst e2;subst e3
  split at h
  ·rename_i hc
   obtain⟨c1,c2⟩:=hc
   have iR:D.den (ai M φ H) w kd kv:=ey hH k kd kv (fun id au=>by rw[c1]at au;cases au) Tu hk
   have HY:∀em,(Instr.checkKey em 10000 kt kv).run P w= .ok () w:=fun em=>nL em 100 kt kd c2 10000 cA kv iR
   have EN:=pg ht
   obtain⟨HX,ee,xj⟩:=hm
   have ef:=xj dB
   have aQ:=hH.ok id
   simp only[aJ,ho]at aQ
   obtain⟨b,es,clock,g1,g2,g0,g3⟩:=aQ
   rw[<- ef]at g1;subst g1
   have kE:=MapKept.run_getObj_map (P:=P) g2
   split at h
   ·rename_i i k' x hf
    injection h with h;injection h with e1 e2;injection e2 with e2 e3;subst e1;subst e2;subst e3
    obtain⟨r',q1,q2⟩:=eJ iR c2 g3 hf
    cases r' with
    |none=>exact q2.elim
    |some p=>
     obtain⟨j',u⟩:=p
     obtain⟨rfl,_,Xt,e,h4,h5,h6⟩:=q2
     have e:(es.eraseIdxIfInBounds i).toList=es.toList.eraseIdx i:=aK
     obtain⟨t1,t2⟩:=FI (clock':=clock) (es':=es.eraseIdxIfInBounds i) (l':=l.eraseIdx i) hH ee ho ef.symm g2 (xZ g0) (by rw[e];exact g3.erase)
     refine⟨.value (.tuple #[]), .tuple #[],_,φ,_,_,_,hK, ?_, .inl rfl,t1,t2,⟨#[],rfl,rfl⟩,fun j hj=> .inl Fh⟩
     simp only[Builtin.delete_,Xu,Sem.run_bind,run_underlying EN,Result.andThen_ok,kE,HY,q1,List.getElem?_toArray,List.getElem?_cons_zero,List.getElem?_cons_succ,MapKept.run_setObj_map _ g2,Sem.run_pure]
   ·rename_i hf
    injection h with h;injection h with e1 e2;injection e2 with e2 e3;subst e1;subst e2;subst e3
    obtain⟨r',q1,q2⟩:=eJ iR c2 g3 hf
    cases r' with
    |some p=>exact q2.elim
    |none=>
     have hw:{w with heap:=w.heap.setIfInBounds b (.map es clock)}=w:=by
      have bR:b<w.heap.size:=by
       rcases Nat.lt_or_ge b w.heap.size with h|h
       ·exact h
       ·simp[Array.getElem?_eq_none h]at g2
      have:w.heap.setIfInBounds b (.map es clock)=w.heap:=by
       apply Array.ext_getElem?
       intro j
       rw[Array.getElem?_setIfInBounds]
       by_cases hj:b=j
       ·subst hj;rw[if_pos rfl,if_pos bR,g2]
       ·rw[if_neg hj]
      rw[this]
     refine⟨.value (.tuple #[]), .tuple #[],w,φ,_,_,_,hK, ?_, .inl rfl,by rw[lP];exact hH,by rw[lP];exact Trans.refl _ _ _,⟨#[],rfl,rfl⟩,aK⟩
     simp only[Builtin.delete_,Xu,Sem.run_bind,run_underlying EN,Result.andThen_ok,kE,HY,q1,List.getElem?_toArray,List.getElem?_cons_zero,List.getElem?_cons_succ,MapKept.run_setObj_map _ g2,Sem.run_pure,hw]
   ·cases h
  ·cases h
 ·cases h
theorem vM(H:Hp)(i j:Nat)(x y:ab):H.put [(i,x),(j,y)]=(H.put [(i,x)]).put [(j,y)]:=by rw[<- dk];rfl
theorem DC(hH:aq M φ H w)(cI: ¬H.us fr){t:TypeId}{x:V}{xv:Value}(hx:V.den (ai M φ H) φ H w x xv)(h:cB (kI P H.o fr t x) K):
 b9 M φ H w fr ((do let v <- Instr.range t xv;pure (Next.value v):Sem Next).run P w) K:=by
 have hg:=cR h
 clear h
 obtain⟨v,Δ,rd,h,hK⟩:=hg
 have new:∀ (gy:Place) (H1:Hp) (obj:ab) (ob:Obj),aq M gy H1 w-> ¬H1.us fr->aJ M (aI gy fr (.pointer (some ⟨w.heap.size,0,none⟩))) (H1.put [(fr,obj)]) (w.alloc ob) fr->
  aq M (aI gy fr (.pointer (some ⟨w.heap.size,0,none⟩))) (H1.put [(fr,obj)]) (w.alloc ob)/\Trans gy H1 w (aI gy fr (.pointer (some ⟨w.heap.size,0,none⟩))) (H1.put [(fr,obj)]) (w.alloc ob):=by
  intro gy H1 obj ob h1 h2 h3
  have hv:∀b,dR (.pointer (some ⟨w.heap.size,0,none⟩))=some b->w.heap.size<=b/\b<(w.alloc ob).heap.size:=by
   intro b hb;simp[dR]at hb;subst hb;simp
  exact⟨fW h1 (bL w _) h2 _ _ hv h3,cZ (bL w _) h2 _ _ fun b hb=>(hv b hb).1⟩
 have frozen:∀ (H1:Hp) (l:List (D×D)) (b:Nat) (es:Array MapEntry) (clock:Nat),aq M φ H1 w-> ¬H1.us fr->w.heap[b]? =some (.map es clock)-> ¬ai M φ H1 b->fX es clock->(∃l',l'.Perm l/\aB (ai M φ H1) w l' es.toList)->
  aJ M (aI φ fr (.pointer (some ⟨w.heap.size,0,none⟩))) (H1.put [(fr, .oX l none)]) (w.alloc (.mapIter (some b) clock #[] clock)) fr:=by
  intro H1 l b es clock h1 h2 h3 h4 h5 h6
  have ht:=cZ (φ:=φ) (H:=H1) (w:=w) (w':=w.alloc (.mapIter (some b) clock #[] clock)) (bL w _) h2 (.oX l none) (.pointer (some ⟨w.heap.size,0,none⟩)) (fun b hb=>by simp[dR]at hb;omega)
  obtain⟨k1,k2⟩:=ht.blocks (M:=M) b (.inr ⟨es,clock,h3⟩) h4
  unfold aJ
  simp only[bn,aC,if_true]
  refine⟨w.heap.size,rfl, .inr ⟨b,clock,#[],es,heap_alloc_new w _,k1.trans h3,k2,h5, ?_,fun k x e=>by cases e⟩⟩
  have e:(es.toList.filter fun e=> !(#[]:Array Nat).contains e.born)=es.toList:=List.filter_eq_self.2 (fun a _=>aK)
  rw[e]
  obtain⟨l',h6,h7⟩:=h6
  exact⟨l',h6,aB.mono (ht.blocks (M:=M)) l' _ h7⟩
 unfold kI at h
 split at h
 ·rename_i ht
  split at h
  ·rename_i s
   injection h with h;injection h with e1 e2;injection e2 with e2 e3;subst e1;subst e2;subst e3
   obtain⟨st,rfl,hs⟩:=hx
   have ky:st=⟨⟨s⟩⟩:=by obtain⟨⟨a⟩⟩:=st;simp at hs;subst hs;rfl
   subst ky
   obtain⟨n1,n2⟩:=new φ H (.vy s 0) (.stringIter ⟨⟨s⟩⟩ 0) hH cI (by
    unfold aJ
    simp only[bn,aC,if_true]
    exact⟨w.heap.size,rfl,heap_alloc_new w _⟩)
   exact RV
  ·cases h
 ·rename_i ht
  split at h
  ·injection h with h;injection h with e1 e2;injection e2 with e2 e3;subst e1;subst e2;subst e3
   simp only[V.den,D.den]at hx;subst hx
   obtain⟨n1,n2⟩:=new φ H (.oX [] none) (.mapIter none 0 #[] 0) hH cI (by
    unfold aJ
    simp only[bn,aC,if_true]
    exact⟨w.heap.size,rfl, .inl ⟨heap_alloc_new w _,rfl,rfl⟩⟩)
   exact RV
  ·rename_i ks vs
   injection h with h;injection h with e1 e2;injection e2 with e2 e3;subst e1;subst e2;subst e3
   obtain⟨b,es,clock,p,rfl,g2,g4,g0,gp,g3,g5⟩:=hx
   have kE:=MapKept.run_getObj_map (P:=P) g2
   obtain⟨l',g6,g7⟩:=pk (by rw[xY g3 g5];exact gp) (ux g3 g5)
   obtain⟨n1,n2⟩:=new φ H _ _ hH cI (frozen H (ks.zip vs) b es clock hH cI g2 g4 g0 ⟨l',g6.perm,g7⟩)
   exact RU
  ·rename_i id
   obtain⟨HX,ee,xj⟩:=hx
   have aQ:=hH.ok id
   split at h
   ·rename_i kt vt l ho
    injection h with h;injection h with e1 e2;injection e2 with e2 e3;subst e1;subst e2;subst e3
    obtain⟨f1,f2⟩:=B0 hH ee ho
    have tf:(H.put [(id, .cM l)]).o id= .cM l:=aK
    have Tv:=f1.ok id
    simp only[aJ,tf]at Tv
    obtain⟨b,es,clock,l',g1,g2,g4,g0,gl,g3⟩:=mN Tv.den
    have ef:=xj dB
    rw[<- ef]at g1;subst g1
    have kE:=MapKept.run_getObj_map (P:=P) g2
    have Tw: ¬ (H.put [(id, .cM l)]).us fr:=by
     rw[dm]
     rintro(h|h)
     ·exact cI h
     ·exact cI (h ▸ ee)
    obtain⟨n1,n2⟩:=new φ _ _ _ f1 Tw (frozen _ l b es clock f1 Tw g2 g4 g0 ⟨l',gl.perm,g3⟩)
    refine⟨.value (.pointer (some ⟨w.heap.size,0,none⟩)), .pointer (some ⟨w.heap.size,0,none⟩),w.alloc (.mapIter (some b) clock #[] clock),_,_,_,_,hK,by simp[Instr.range,run_underlying ht,kE], .inl rfl,by rw[vM];exact n1,by rw[vM];exact f2.trans n2, ?_,fun j hj=> ?_⟩
    ·rw[vM]
     exact⟨rfl,aK,fun _=>⟨w.heap.size,aK,rfl⟩⟩
    ·simp at hj
     rcases hj with rfl|rfl
     ·exact .inl ee
     ·exact .inr rfl
   ·rename_i l ho
    injection h with h;injection h with e1 e2;injection e2 with e2 e3;subst e1;subst e2;subst e3
    simp only[aJ,ho]at aQ
    obtain⟨b,es,clock,l',g1,g2,g4,g0,gl,g3⟩:=mN aQ.den
    have ef:=xj dB
    rw[<- ef]at g1;subst g1
    have kE:=MapKept.run_getObj_map (P:=P) g2
    obtain⟨n1,n2⟩:=new φ H _ _ hH cI (frozen H l b es clock hH cI g2 g4 g0 ⟨l',gl.perm,g3⟩)
    exact RU
   ·cases h
  ·cases h
 ·cases h
theorem B8(hH:aq M φ H w){id b:Nat}{obj obj':ab}{x y:Obj}(ee:H.us id)(ho:H.o id=obj)(hl:obj.live=true)(hr:obj.bM=true)(he:obj.bQ=none)(DD:obj'.bM=true)(ni:obj'.bQ=none)(ef:φ id= .pointer (some ⟨b,0,none⟩))(g2:w.heap[b]? =some x){w1:World}(YT:w1.os=w.os/\w1.tape=w.tape/\w1.output=w.output/\w1.heap=w.heap)
 (vC:Trans φ H w φ (H.put [(id,obj')]) {w1 with heap:=w.heap.setIfInBounds b y}->aJ M φ (H.put [(id,obj')]) {w1 with heap:=w.heap.setIfInBounds b y} id):
 aq M φ (H.put [(id,obj')]) {w1 with heap:=w.heap.setIfInBounds b y}/\Trans φ H w φ (H.put [(id,obj')]) {w1 with heap:=w.heap.setIfInBounds b y}:=by
 have FJ:dD (· =b) w {w1 with heap:=w.heap.setIfInBounds b y}:=
  ⟨YT.1,YT.2.1,YT.2.2.1,aK,fun j _ hj=>by
   show(w.heap.setIfInBounds b y)[j]? =_
   rw[Array.getElem?_setIfInBounds,if_neg (fun e=>hj e.symm)]⟩
 have vG:(H.o id).live=true:=by rw[ho];exact hl
 have DB:dR (φ id)=some b:=by rw[ef];rfl
 have z8:=eE (w:=w) ee vG DB FJ obj' (by rw[ho,hr,DD]) (by rw[ho,he,ni])
 exact⟨gR hH ee vG DB FJ _ (by rw[ho,hr,DD]) (by rw[ho,he,ni]) (vC z8),z8⟩
theorem x3(hH:aq M φ H w){x:V}{xv:Value}{str:Bool}{ty:TypeId}(hx:V.den (ai M φ H) φ H w x xv)(h:cB (mw H.o x str) K):
 b9 M φ H w fr ((do let v <- Instr.next xv str ty;pure (Next.value v):Sem Next).run P w) K:=by
 have hg:=cR h
 clear h
 obtain⟨v,Δ,rd,h,hK⟩:=hg
 unfold mw at h
 split at h
 ·rename_i id
  obtain⟨_,ee,xj⟩:=hx
  split at h
  ·rename_i s pos ho
   split at h
   ·rename_i YU
    subst YU
    obtain⟨b0,q1,rfl⟩:=xj dB
    have aQ:=hH.ok id
    simp only[aJ,ho]at aQ
    obtain⟨b,g1,g2⟩:=aQ
    rw[q1]at g1;injection g1 with g1;injection g1 with g1;injection g1 with g1;subst g1
    have du:(ByteArray.mk ⟨s⟩).size=s.length:=rfl
    split at h
    ·rename_i bR
     injection h with h;injection h with e1 e2;injection e2 with e2 e3;subst e1;subst e2;subst e3
     obtain⟨n1,n2⟩:=B8 (w1:=w) (y:= .stringIter ⟨⟨s⟩⟩ (pos+(Utf8.decode ⟨⟨s⟩⟩ pos).2)) (obj':= .vy s (pos+(Utf8.decode ⟨⟨s⟩⟩ pos).2)) hH ee ho rfl rfl rfl rfl rfl q1 g2 ⟨rfl,rfl,rfl,rfl⟩ (fun _=>by
      unfold aJ
      simp only[bn,aC,if_true]
      refine⟨b0,q1, ?_⟩
      have bR:b0<w.heap.size:=by
       rcases Nat.lt_or_ge b0 w.heap.size with h|h
       ·exact h
       ·simp[Array.getElem?_eq_none h]at g2
      show(w.heap.setIfInBounds b0 _)[b0]? =_
      rw[Array.getElem?_setIfInBounds,if_pos rfl,if_pos bR])
     refine⟨.value (.tuple #[.bool true,goInt pos, .int .i32 (Utf8.decode ⟨⟨s⟩⟩ pos).1]),_,_,φ,_,_,_,hK, ?_, .inl rfl,n1,n2,⟨_,rfl, .bool true,_,rfl,rfl,_,_,rfl,rfl,_,_,rfl,rfl,rfl⟩,fun j hj=> .inl Fh⟩
     simp only[Instr.next,getObj,setObj,Sem.run_bind,Sem.run,g2,Result.andThen,du,bR,if_true]
     rfl
    ·rename_i bR
     injection h with h;injection h with e1 e2;injection e2 with e2 e3;subst e1;subst e2;subst e3
     refine b9.same hH (.tuple #[.bool false]) hK ?_ ⟨_,rfl, .bool false,_,rfl,rfl,rfl⟩
     simp only[Instr.next,getObj,Sem.run_bind,Sem.run,g2,Result.andThen,du,bR,if_false]
     rfl
   ·cases h
  ·cases h
 ·cases h
theorem x4{es:List MapEntry}(hn:(es.map (·.born)).Nodup)(seen:Array Nat){e:MapEntry}{i:Nat}(hi:(es.filter fun e=> !seen.contains e.born)[i]? =some e):
 (es.filter fun x=> !(seen.push e.born).contains x.born)=(es.filter fun e=> !seen.contains e.born).eraseIdx i:=by
 have e1:(es.filter fun x=> !(seen.push e.born).contains x.born)=(es.filter fun e=> !seen.contains e.born).filter (fun x=>x.born !=e.born):=by
  rw[List.filter_filter]
  refine List.filter_congr fun x _=> ?_
  simp only[Array.contains_push]
  cases h1:seen.contains x.born<;>cases h2:(x.born==e.born)<;>simp_all[bne]
 rw[e1]
 have IG:((es.filter fun e=> !seen.contains e.born).map (·.born)).Nodup:=hn.sublist (List.Sublist.map _ (List.filter_sublist ..))
 generalize (es.filter fun e=> !seen.contains e.born)=L at hi IG|-
 induction L generalizing i with
 |nil=>simp at hi
 |cons y L ih=>
  obtain⟨n1,n2⟩:=List.nodup_cons.1 IG
  cases i with
  |zero=>
   simp at hi;subst hi
   simp only[List.filter_cons,bne_self_eq_false,Bool.false_eq_true,if_false,List.eraseIdx_zero,List.tail_cons]
   refine List.filter_eq_self.2 fun x hx=> ?_
   simp only[bne_iff_ne,ne_eq]
   exact fun h=>n1 (by show y.born∈_;rw[<- h];exact List.mem_map.2 ⟨x,hx,rfl⟩)
  |succ i=>
   simp only[List.getElem?_cons_succ]at hi
   have hm:=List.mem_of_getElem? hi
   have kA:(y.born !=e.born)=true:=by
    simp only[bne_iff_ne,ne_eq]
    exact fun h=>n1 (by show y.born∈_;rw[h];exact List.mem_map.2 ⟨e,hm,rfl⟩)
   rw[List.filter_cons,kA,if_pos rfl,List.eraseIdx_cons_succ,ih hi n2]
theorem x5(hH:aq M φ H w){x:V}{xv:Value}{ty:TypeId}(hx:V.den (ai M φ H) φ H w x xv){id:Nat}{l:List (D×D)}(h:my H.o x=some (id,l))(hK:BZ id l K):
 b9 M φ H w fr ((do let v <- Instr.next xv false ty;pure (Next.value v):Sem Next).run P w) K:=by
 unfold my at h
 split at h
 ·rename_i Aa
  obtain⟨_,ee,xj⟩:=hx
  split at h
  ·rename_i l' last ho
   simp only[Option.some.injEq,Prod.mk.injEq]at h
   obtain⟨rfl,rfl⟩:=h
   obtain⟨b0,q1,rfl⟩:=xj dB
   have aQ:=hH.ok Aa
   simp only[aJ,ho]at aQ
   obtain⟨b,g1,g2⟩:=aQ
   rw[q1]at g1;injection g1 with g1;injection g1 with g1;injection g1 with g1;subst g1
   rcases g2 with⟨g2,rfl,_⟩|⟨m,since,seen,es,g2,g3,g4,g5,g6,_⟩
   ·refine b9.same hH (.tuple #[.bool false]) (hK.1 rfl) ?_ ⟨_,rfl, .bool false,_,rfl,rfl,rfl⟩
    simp only[Instr.next,getObj,Sem.run_bind,Sem.run,g2,Result.andThen]
    rfl
   ·have K1:=next_test_false seen es since since g5.1 (Nat.le_refl _)
    have nj:(es.filter fun e=> !seen.contains e.born).toList=es.toList.filter fun e=> !seen.contains e.born:=aK
    obtain⟨l1,gp,g6⟩:=g6
    rw[<- nj]at g6
    have l9:∀x∈(es.filter fun e=> !seen.contains e.born).toList,x.born<since:=fun x hx=>g5.1 x (by simp at hx|-;exact hx.1)
    have YV:b0<w.heap.size:=by
     rcases Nat.lt_or_ge b0 w.heap.size with h|h
     ·exact h
     ·simp[Array.getElem?_eq_none h]at g2
    by_cases h0:(es.filter fun e=> !seen.contains e.born).size=0
    ·have hL:(es.filter fun e=> !seen.contains e.born)=#[]:=Array.eq_empty_of_size_eq_zero h0
     rw[hL]at g6
     have vG:l1=[]:=by cases l1 with|nil=>rfl|cons p l1=>obtain⟨e,es',h,_⟩:=g6;simp at h
     have FK:l'=[]:=by rw[vG]at gp;exact gp.symm.eq_nil
     refine b9.same hH (.tuple #[.bool false]) (hK.1 FK) ?_ ⟨_,rfl, .bool false,_,rfl,rfl,rfl⟩
     simp only[Instr.next,getObj,Sem.run_bind,Sem.run,g2,g3,Result.andThen,K1,Bool.false_eq_true,if_false,hL]
     simp[choose,Sem.run,Question.forced]
    ·have dW:∃ (j:Nat) (e:MapEntry) (w1:World),(es.filter fun e=> !seen.contains e.born).toList[j]? =some e/\(w1.os=w.os/\w1.tape=w.tape/\w1.output=w.output/\w1.heap=w.heap)/\
      (Instr.next (.pointer (some ⟨b0,0,none⟩)) false ty).run P w= .ok (.tuple #[.bool true,e.key,e.val]) {w1 with heap:=w.heap.setIfInBounds b0 (.mapIter (some m) since (seen.push e.born) since)}:=by
      simp only[Instr.next,getObj,Sem.run_bind,Sem.run,g2,g3,Result.andThen,K1,Bool.false_eq_true,if_false]
      generalize es.filter (fun e=> !seen.contains e.born)=L at l9 h0|-
      have e1:L.filter (fun x=>decide (x.born<since))=L:=Array.filter_eq_self.2 (fun x hx=>by simpa using l9 x tW)
      have e2:L.filter (fun x=>decide (x.born≥since))=#[]:=by
       rw[Array.filter_eq_empty_iff]
       intro x hx
       have:=l9 x tW
       simp
       omega
      have kA:L.isEmpty=false:=by simp[Array.isEmpty,h0]
      simp only[e1,e2,Array.append_empty,kA,Bool.false_eq_true,if_false,Array.empty_append,Array.size_map]
      have hch:∃ (j:Nat) (w1:World),j<L.size/\(w1.os=w.os/\w1.tape=w.tape/\w1.output=w.output/\w1.heap=w.heap)/\(choose (Question.mapNext L.size)).run P w= .ok j w1:=by
       by_cases hf:L.size<=1
       ·exact⟨0,w,af,⟨rfl,rfl,rfl,rfl⟩,by simp[choose,Sem.run,Question.forced,hf]⟩
       ·exact⟨_,w.drew,Nat.mod_lt _ af,⟨rfl,rfl,rfl,rfl⟩,by
         simp only[choose,Sem.run,Question.forced,decide_eq_true_eq,hf,if_false,Question.cut]
         rfl⟩
      obtain⟨j,w1,hj,FL,dW⟩:=hch
      refine⟨j,L[j],w1,by simp[hj],FL, ?_⟩
      have g2':w1.heap[b0]? =some (.mapIter (some m) since seen since):=by rw[FL.2.2.2];exact g2
      simp only[dW,Array.getElem?_map,Array.getElem?_eq_getElem hj,Option.map_some,Sem.run_bind,setObj,Sem.run,g2',g2,Result.andThen,FL.2.2.2]
      rfl
     obtain⟨j,e,w1,QG,FL,dW⟩:=dW
     obtain⟨⟨k,x⟩,Xp,EO,hp3⟩:=g6.get QG
     obtain⟨j2,Xv,B9⟩:=List.getElem_of_mem (gp.mem_iff.1 (List.mem_of_getElem? Xp))
     have B9:l'[j2]? =some (k,x):=by rw[List.getElem?_eq_getElem Xv,B9]
     have gpe:(l1.eraseIdx j).Perm (l'.eraseIdx j2):=by
      have K2:∀ {L:List (D×D)} {i:Nat} {n:D×D},L[i]? =some n->L.Perm (n::L.eraseIdx i):=by
       intro L i n h
       obtain⟨hi,e⟩:=List.getElem?_eq_some_iff.1 h
       have KT:L=L.take i++n::L.drop (i+1):=by rw[<- e,List.getElem_cons_drop,List.take_append_drop]
       rw[List.eraseIdx_eq_take_drop_succ]
       conv=>lhs;rw[KT]
       exact List.perm_middle
      exact List.Perm.cons_inv (((K2 Xp).symm.trans gp).trans (K2 B9))
     have B6:e∈es.toList:=by
      have:=List.mem_of_getElem? QG
      rw[nj]at this
      exact(List.mem_filter.1 this).1
     obtain⟨n1,n2⟩:=B8 (w1:=w1) (y:= .mapIter (some m) since (seen.push e.born) since) (obj':= .oX (l'.eraseIdx j2) (some (k,x))) hH ee ho rfl rfl rfl rfl rfl q1 g2 FL (fun ht=>by
      unfold aJ
      simp only[bn,aC,if_true]
      obtain⟨k1,k2⟩:=ht.blocks (M:=M) m (.inr ⟨es,since,g3⟩) g4
      refine⟨b0,q1, .inr ⟨m,since,seen.push e.born,es, ?_,k1.trans g3,k2,g5, ?_,fun k' x' HZ=> ?_⟩⟩
      ·show(w.heap.setIfInBounds b0 _)[b0]? =_
       rw[Array.getElem?_setIfInBounds,if_pos rfl,if_pos YV]
      ·rw[nj]at QG g6
       rw[x4 g5.2 seen QG]
       exact⟨_,gpe,aB.mono (ht.blocks (M:=M)) _ _ g6.erase⟩
      ·injection HZ with HZ;injection HZ with h1 h2;subst h1;subst h2
       exact⟨e,B6,aK,D.aL (ht.blocks (M:=M)) _ _ EO,D.aL (ht.blocks (M:=M)) _ _ hp3⟩)
     refine⟨.value (.tuple #[.bool true,e.key,e.val]),_,_,φ,_,_,_,hK.2 j2 k x B9, ?_, .inl rfl,n1,n2,⟨_,rfl, .bool true,_,rfl,rfl,e.key,_,rfl,D.aL (n2.blocks (M:=M)) _ _ EO,e.val,_,rfl,D.aL (n2.blocks (M:=M)) _ _ hp3,rfl⟩,fun j hj=> .inl Fh⟩
     simp only[Sem.run_bind,dW,Result.andThen_ok,Sem.run_pure]
  ·cases h
 ·cases h
theorem DE(hH:aq M φ H w){x:V}{xv:Value}(hx:V.den (ai M φ H) φ H w x xv)(h:cB (kJ H.o x) K):
 b9 M φ H w fr ((do let v <- Instr.entry xv;pure (Next.value v):Sem Next).run P w) K:=by
 have hg:=cR h
 clear h
 obtain⟨v,Δ,rd,h,hK⟩:=hg
 unfold kJ at h
 split at h
 ·rename_i id
  obtain⟨_,ee,xj⟩:=hx
  split at h
  ·rename_i l k x ho
   injection h with h;injection h with e1 e2;injection e2 with e2 e3;subst e1;subst e2;subst e3
   obtain⟨b0,q1,rfl⟩:=xj dB
   have aQ:=hH.ok id
   simp only[aJ,ho]at aQ
   obtain⟨b,g1,g2⟩:=aQ
   rw[q1]at g1;injection g1 with g1;injection g1 with g1;injection g1 with g1;subst g1
   rcases g2 with⟨_,_,g2⟩|⟨m,since,seen,es,g2,g3,g4,g5,g6,g7⟩
   ·cases g2
   ·obtain⟨e,h1,h2,h3,h4⟩:=g7 k x rfl
    have hf:es.find? (·.born==e.born)=some e:=by rw[<- Array.find?_toList];exact find_born e es.toList g5.2 h1
    refine b9.same hH (.tuple #[e.key,e.val]) hK ?_ ⟨_,rfl,e.key,_,rfl,h3,e.val,_,rfl,h4,rfl⟩
    simp only[Instr.entry,getObj,Sem.run_bind,Sem.run,g2,g3,Result.andThen,h2,bne_self_eq_false,Bool.false_eq_true,if_false,hf]
    rfl
  ·cases h
 ·cases h
theorem mA(hH:aq M φ H w){t:TypeId}{m k v:V}{mv kv vv:Value}(hm:V.den (ai M φ H) φ H w m mv)(hk:V.den (ai M φ H) φ H w k kv)(hv:V.den (ai M φ H) φ H w v vv)
 (h:cB (ew P H.o t m k v) K):b9 M φ H w fr ((do Instr.mapUpdate t mv kv vv;pure Next.skip:Sem Next).run P w) K:=by
 have hg:=cR h
 clear h
 obtain⟨v',Δ,rd,h,hK⟩:=hg
 unfold ew at h
 split at h
 ·rename_i kt vt kd vd id BW BX l ht Tu YL B5
  rcases rE B5 with⟨id2,kt2,vt2,rfl,ho,hr⟩|⟨rfl,hr,rfl⟩
  case inr=>cases hr
  injection hr with hr;injection hr with e1 e2;injection e2 with e2 e3;subst e1;subst e2;subst e3
  split at h
  ·rename_i hc
   obtain⟨c1,c2,c3,c4⟩:=hc
   have iR:D.den (ai M φ H) w kd kv:=ey hH k kd kv (fun id au=>by rw[c1]at au;cases au) Tu hk
   have HY:∀em,(Instr.checkKey em 10000 kt kv).run P w= .ok () w:=fun em=>nL em 100 kt kd c2 10000 cA kv iR
   have EN:=pg ht
   ·obtain⟨HX,ee,xj⟩:=hm
    have ef:=xj dB
    have aQ:=hH.ok id
    simp only[aJ,ho]at aQ
    obtain⟨b,es,clock,g1,g2,g0,g3⟩:=aQ
    rw[<- ef]at g1;subst g1
    have kE:=MapKept.run_getObj_map (P:=P) g2
    have kC:id∉v.ids:=fun hm=>by have:=List.all_eq_true.1 c4 id hm;simp at this
    obtain⟨f1,f2,f3,f4,f5⟩:=cG hH v.ids (cD v _ hv)
    have tf:=(f4 id kC).trans ho
    have K4:=ey f1 v vd vv f3 YL (V.aL f2 _ _ hv)
    have FM:=D.aL (f2.blocks (M:=M)) kd kv iR
    have g3':=aB.mono (f2.blocks (M:=M)) l _ g3
    have ID:(bP H.o v.ids).map (·.1)=v.ids:=by rw[jP];simp[Function.comp_def]
    have turn:∀ (l':List (D×D)) (es':Array MapEntry) (clock':Nat),fX es' clock'->aB (ai M φ (H.put (bP H.o v.ids))) w l' es'.toList->K (.bH []) (bP H.o v.ids++[(id, .map BW BX l')]) (id::v.ids)->
     (Instr.mapUpdate t (.map (some b)) kv vv).run P w= .ok () {w with heap:=w.heap.setIfInBounds b (.map es' clock')}->
     b9 M φ H w fr ((do Instr.mapUpdate t (.map (some b)) kv vv;pure Next.skip:Sem Next).run P w) K:=by
     intro l' es' clock' YW hl hK hr
     have FJ:dD (· =b) w {w with heap:=w.heap.setIfInBounds b (.map es' clock')}:=
      ⟨rfl,rfl,rfl,aK,fun j _ hj=>(MapKept.heap_set g2).2 j hj⟩
     have vG:((H.put (bP H.o v.ids)).o id).live=true:=by rw[tf];rfl
     have DB:dR (φ id)=some b:=by rw[<- ef];rfl
     have z8:=eE (w:=w) (w':={w with heap:=w.heap.setIfInBounds b (.map es' clock')}) ((f5 id).2 ee) vG DB FJ (.map BW BX l') pP pP
     refine⟨.skip,undef,_,φ,_,_,_,hK,by simp only[Sem.run_bind,hr,Result.andThen_ok];rfl, .inr ⟨rfl,rfl⟩, ?_, ?_, ?_,fun j hj=> .inl ?_⟩
     ·rw[dk]
      refine gR f1 ((f5 id).2 ee) vG DB FJ _ pP pP ?_
      unfold aJ
      simp only[bn,aC,if_true]
      exact⟨b,es',clock',ef.symm,(MapKept.heap_set g2).1,YW,aB.mono (z8.blocks (M:=M)) l' _ hl⟩
     ·rw[dk];exact f2.trans z8
     ·exact⟨#[],rfl,rfl⟩
     ·rw[List.map_append,ID]at hj
      simp only[List.map_cons,List.map_nil,List.mem_append,List.mem_singleton]at hj
      rcases hj with hj|rfl
      ·exact cD v _ hv j hj
      ·exact ee
    split at h
    ·rename_i i k' x hf
     split at h
     ·rename_i Ca
      injection h with h;injection h with e1 e2;injection e2 with e2 e3;subst e1;subst e2;subst e3
      have hke:=D.dp _ _ Ca
      subst hke
      obtain⟨r',q1,q2⟩:=eJ iR c2 g3 hf
      cases r' with
      |none=>exact q2.elim
      |some p=>
       obtain⟨j',u⟩:=p
       obtain⟨rfl,_,Xt,e,h4,h5,h6⟩:=q2
       rw[Nat.sub_zero]at h4
       have hkv:=As c3 h6 iR
       have DF:es[i]? =some e:=by simpa using h4
       refine turn _ (es.modify i fun e=>{e with key:=kv,val:=vv}) clock (vL g0 h4 rfl) ?_ hK ?_
       ·rw[fZ _ h4]
        exact aB.set g3' FM K4
       ·have hs:=Dy (P:=P) (w':=w) c3 iR
        simp only[Instr.mapUpdate,Sem.run_bind,run_underlying EN,Result.andThen_ok,kE,HY,q1,DF,Option.map_some,Option.getD_some,hkv,hs]
        exact MapKept.run_setObj_map _ g2
     ·cases h
    ·rename_i hf
     injection h with h;injection h with e1 e2;injection e2 with e2 e3;subst e1;subst e2;subst e3
     obtain⟨r',q1,q2⟩:=eJ iR c2 g3 hf
     cases r' with
     |some p=>exact q2.elim
     |none=>
      refine turn _ (es.push {key:=kv,val:=vv,born:=clock}) (clock+1) (Ax g0 rfl) ?_ hK ?_
      ·rw[Array.toList_push]
       exact aB.push g3' FM K4
      ·simp only[Instr.mapUpdate,Sem.run_bind,run_underlying EN,Result.andThen_ok,kE,HY,q1]
       exact MapKept.run_setObj_map _ g2
    ·cases h
  ·cases h
 ·cases h
end
end
section
section
variable {P:Program}(w:World)(d:Nat){t:TypeId}
theorem Tx{ms}(ht:P.underlying t=some (.interface ms)):(Op.equalIn (d+1) t .nilIface .nilIface).run P w= .ok true w:=vn
theorem RW{ms}(ht:P.underlying t=some (.interface ms))(u:TypeId)(v:Value):(Op.equalIn (d+1) t (.iface u v) .nilIface).run P w= .ok false w:=vn
theorem RX{ms}(ht:P.underlying t=some (.interface ms))(u:TypeId)(v:Value):(Op.equalIn (d+1) t .nilIface (.iface u v)).run P w= .ok false w:=vn
theorem Ty{ms}(ht:P.underlying t=some (.interface ms)){a b:TypeId}{x y:D}{B:Nat->Prop}{w2:World}{u v:Value}{r:Bool}(h:Yy P a b x y=some r)(hx:D.den B w2 x u)(hy:D.den B w2 y v):(Op.equalIn (d+2) t (.iface a u) (.iface b v)).run P w= .ok r w:=by
 unfold Yy at h
 by_cases e:a=b
 ·subst e
  rw[if_pos rfl]at h
  split at h
  ·rename_i i k hi hk
   split at h
   ·rename_i hc
    split at h
    ·split at h
     ·rename_i YQ
      injection h with h;subst h
      simp only[D.den]at hx hy
      subst hx;subst hy;subst YQ
      simp[Op.equalIn,run_underlying ht,run_underlying hk,typeInfo,hi,hc]
     ·cases h
    ·cases h
   ·cases h
  ·cases h
 ·rw[if_neg e]at h
  injection h with h;subst h
  simp[Op.equalIn,run_underlying ht,e]
theorem Tz{a b c}(ht:P.underlying t=some (.func a b c)):(Op.equalIn (d+1) t .nilFunc .nilFunc).run P w= .ok true w:=vn
theorem TA{a b c}(ht:P.underlying t=some (.func a b c))(f x y):(Op.equalIn (d+1) t (.func f x y) .nilFunc).run P w= .ok false w:=vn
theorem TC{a b}(ht:P.underlying t=some (.map a b)):(Op.equalIn (d+1) t (.map none) (.map none)).run P w= .ok true w:=vn
theorem RT{a b}(ht:P.underlying t=some (.map a b))(x):(Op.equalIn (d+1) t (.map (some x)) (.map none)).run P w= .ok false w:=vn
theorem TD{e}(ht:P.underlying t=some (.pointer e)):(Op.equalIn (d+1) t (.pointer none) (.pointer none)).run P w= .ok true w:=vn
theorem RZ{e}(ht:P.underlying t=some (.pointer e))(a):(Op.equalIn (d+1) t (.pointer (some a)) (.pointer none)).run P w= .ok false w:=vn
theorem TE{e}(ht:P.underlying t=some (.slice e))(b n c):(Op.equalIn (d+1) t (.slice b n c) (.slice none 0 0)).run P w= .ok b.isNone w:=by cases b<;>simp[Op.equalIn,run_underlying ht]
end
section
variable {P:Program}{M:Nat->Prop}{φ:Place}{H:Hp}{w w':World}{fr:Nat}{K:V->List (Nat×ab)->List Nat->Prop}{B:Nat->Prop}
theorem Az(hH:aq M φ H w){x:V}{xv:Value}{es:List D}(h:dN H.o x=some es)(hx:V.den (ai M φ H) φ H w x xv):∃base n c,xv= .slice base n c/\(es≠[]->base≠none):=by
 have hd:∃x',dv H.o x=some x'/\x'= .sl es:=by
  unfold dN at h
  split at h
  ·rename_i es' hd;injection h with h;subst h;exact⟨_,hd,rfl⟩
  ·cases h
 obtain⟨x',hd,rfl⟩:=hd
 obtain⟨f1,f2,f3,f4,f5⟩:=cG hH x.ids (cD x _ hx)
 have:=ey f1 x (.sl es) xv f3 hd (V.aL f2 _ _ hx)
 obtain⟨base,len,cap,rfl,h1,h2,h3,_⟩:=this
 refine⟨base,len,cap,rfl,fun kA hb=> ?_⟩
 have:=h3 hb
 have:es.length=0:=af
 exact kA (List.length_eq_zero_iff.1 this)
def Kn:Value->Bool
 | .int _ _| .float _ _| .complex _ _ _| .string _=>false
 |_=>true
theorem Cb(hH:aq M φ H w){t:TypeId}{p q:Operand}{x y v:V}{xv yv:Value}(hx:V.den (ai M φ H) φ H w x xv)(hy:V.den (ai M φ H) φ H w y yv)(h:th P H.o t (isConst p||isConst q) x y=some v):
 ∃r:Bool,(v= .d (.bool r)\/v= .eg)/\Kn xv=true/\(∀op,(eqGuard op t p q xv yv).run P w= .ok () w)/\(Op.equal t xv yv).run P w= .ok r w:=by
 have hO:(∀a b, ¬ (xv= .agg a/\yv= .agg b))-> ¬ (xv= .nilIface/\yv= .nilIface)->∀op,(eqGuard op t p q xv yv).run P w= .ok () w:=by
  intro h1 h2 op
  unfold eqGuard
  cases op<;>cases xv<;>cases yv<;>first
   |(simp;done)
   |(exact absurd ⟨rfl,rfl⟩ (h1 _ _))
   |(exact absurd ⟨rfl,rfl⟩ h2)
 unfold th at h
 cases ht:P.underlying t with
 |none=>simp[ht]at h
 |some td=>
  simp only[ht]at h
  have eq:∀r,(∀d,(Op.equalIn (d+1) t xv yv).run P w= .ok r w)->(Op.equal t xv yv).run P w= .ok r w:=fun r h=>h 9999
  cases td<;>simp only[reduceCtorEq]at h
  case interface ms=>
   split at h
   ·split at h
    ·rename_i hc
     injection h with h;subst h
     simp only[V.den,D.den]at hx hy;subst hx;subst hy
     refine⟨true, .inl rfl,rfl,fun op=> ?_,eq _ (fun d=>by rw[Tx w d ht])⟩
     simp only[Bool.or_eq_true]at hc
     unfold eqGuard
     rcases hc with hc|hc
     ·cases p<;>simp only[isConst,Bool.false_eq_true]at hc
      cases op<;>simp
     ·cases q<;>simp only[isConst,Bool.false_eq_true]at hc
      cases op<;>simp
    ·cases h
   ·exact S6
   ·exact S6
   ·exact S5
   ·exact S5
   ·rename_i a x b y
    simp only[Option.map_eq_some_iff]at h
    obtain⟨r,h1,rfl⟩:=h
    obtain⟨u,rfl,g1⟩:=hx
    obtain⟨u2,rfl,g2⟩:=hy
    exact⟨r, .inl rfl,rfl,hO (fun _ _ h=>by cases h.1) MX,Ty w 9998 ht h1 g1 g2⟩
   ·cases h
  case func a b c=>
   split at h
   ·injection h with h;subst h
    simp only[V.den,D.den]at hx hy;subst hx;subst hy
    exact⟨true, .inl rfl,rfl,hO (fun _ _ h=>by cases h.1) MX,eq _ (fun d=>by rw[Tz w d ht])⟩
   ·injection h with h;subst h
    obtain⟨f,c',rfl,_⟩:=hx
    simp only[V.den,D.den]at hy;subst hy
    exact⟨false, .inl rfl,rfl,hO (fun _ _ h=>by cases h.1) MX,eq _ (fun d=>by rw[TA w d ht])⟩
   ·cases h
  case map a b=>
   split at h
   ·simp only[V.den,D.den]at hy;subst hy
    unfold o7 at h
    split at h
    ·injection h with h;subst h
     simp only[V.den,D.den]at hx;subst hx
     exact⟨true, .inl rfl,rfl,hO (fun _ _ h=>by cases h.1) MX,eq _ (fun d=>by rw[TC w d ht])⟩
    ·injection h with h;subst h
     obtain⟨bk,es,clock,_,rfl,_⟩:=hx
     exact RS
    ·rename_i id
     split at h
     ·rename_i ho
      injection h with h;subst h
      obtain⟨_,_,h3⟩:=hx
      have ef:=h3 dB
      have aQ:=hH.ok id
      exact S9
     ·rename_i ho
      injection h with h;subst h
      obtain⟨_,_,h3⟩:=hx
      have ef:=h3 dB
      have aQ:=hH.ok id
      exact S9
     ·cases h
    ·cases h
   ·cases h
  case pointer e=>
   split at h
   ·simp only[V.den,D.den]at hy;subst hy
    unfold o8 at h
    split at h
    ·injection h with h;subst h
     simp only[V.den,D.den]at hx;subst hx
     exact⟨true, .inl rfl,rfl,hO (fun _ _ h=>by cases h.1) MX,eq _ (fun d=>by rw[TD w d ht])⟩
    ·split at h
     ·rename_i hr
      injection h with h;subst h
      obtain⟨_,_,h3⟩:=hx
      obtain⟨bk,_,rfl⟩:=h3 hr
      exact RY
     ·cases h
    ·injection h with h;subst h
     obtain⟨a,ev,_,rfl,_⟩:=hx
     exact RY
    ·cases h
   ·cases h
  case slice e=>
   split at h
   ·simp only[V.den]at hy;subst hy
    unfold xH at h
    split at h
    ·injection h with h;subst h
     simp only[V.den]at hx;subst hx
     exact⟨true, .inl rfl,rfl,hO (fun _ _ h=>by cases h.1) MX,eq _ (fun d=>by rw[TE w d ht];rfl)⟩
    ·split at h
     ·rename_i es hl
      obtain⟨base,n,c,rfl,hb⟩:=Az hH hl hx
      refine⟨base.isNone, ?_,rfl,hO (fun _ _ h=>by cases h.1) MX,eq _ ?_⟩
      ·split at h
       ·injection h with h;exact .inr h.symm
       ·rename_i kA
        injection h with h
        have:=hb kA
        cases base with
        |none=>exact absurd rfl this
        |some a=>exact .inl h.symm
      ·intro d
       rw[TE w d ht]
     ·cases h
   ·cases h
  case struct fs=>
   split at h
   ·split at h
    ·rename_i hg
     exact SU
    ·cases h
   ·cases h
  case array n e=>
   split at h
   ·split at h
    ·rename_i hg
     exact SU
    ·cases h
   ·cases h
theorem II(hH:aq M φ H w){op:BinOp}{t:TypeId}{p q:Operand}{x y:V}{xv yv:Value}(hx:V.den (ai M φ H) φ H w x xv)(hy:V.den (ai M φ H) φ H w y yv)
 (h:cB (o9 P H.o op t (isConst p||isConst q) x y) K):
 b9 M φ H w fr ((do let y <- (do eqGuard op t p q xv yv;binOp op t xv yv);pure (Next.value y):Sem Next).run P w) K:=by
 have hg:=cR h
 clear h
 obtain⟨v,Δ,rd,h,hK⟩:=hg
 unfold o9 at h
 split at h
 ·simp only[Option.map_eq_some_iff]at h
  obtain⟨u,h1,h2⟩:=h
  injection h2 with e1 e2;injection e2 with e2 e3;subst e1;subst e2;subst e3
  obtain⟨r,hv,hwd,YX,he⟩:=Cb (p:=p) (q:=q) hH hx hy h1
  refine b9.plain hH (.bool r) hK ?_ ?_
  ·have hb:(binOp .eql t xv yv).run P w= .ok (.bool r) w:=by
    unfold binOp
    exact SA
   simp[YX,hb]
  ·rcases hv with rfl|rfl
   ·rfl
   ·exact⟨r,rfl⟩
 ·simp only[Option.map_eq_some_iff,Option.bind_eq_some_iff]at h
  obtain⟨u',⟨u,h1,h3⟩,h2⟩:=h
  injection h2 with e1 e2;injection e2 with e2 e3;subst e1;subst e2;subst e3
  obtain⟨r,hv,hwd,YX,he⟩:=Cb (p:=p) (q:=q) hH hx hy h1
  refine b9.plain hH (.bool !r) hK ?_ ?_
  ·have hb:(binOp .neq t xv yv).run P w= .ok (.bool !r) w:=by
    unfold binOp
    exact SA
   simp[YX,hb]
  ·rcases hv with rfl|rfl
   ·simp only[Io,Option.some.injEq]at h3;subst h3;rfl
   ·simp only[Io,Option.some.injEq]at h3;subst h3;exact⟨!r,rfl⟩
 ·cases h
end
end
section
section
variable {P:Program}{M:Nat->Prop}{φ:Place}{H:Hp}{w w':World}{fr:Nat}{K:V->List (Nat×ab)->List Nat->Prop}
theorem vN(hH:aq M φ H w){o:Oper}{a:Act}{q:Operand}(ho:o.op= .nilCheck q){x:V}(hx:V.den (ai M φ H) φ H w x (a.eval q))
 (h:jx H.o x fun v=>K v [] []):b9 M φ H w fr ((execOp a.eval o).run P w) K:=by
 unfold jx at h
 have EP:=hx
 split at h
 ·rename_i id off
  obtain⟨h1,hK⟩:=h
  obtain⟨_,hu,hp⟩:=EP
  obtain⟨b,ef,hv⟩:=hp h1
  exact b9.same hH _ hK (by simp[execOp,ho,hv]) (hv ▸ hx)
 ·rename_i cs off
  obtain⟨b,ev,_,hv,_⟩:=EP
  exact b9.same hH _ h (by simp[execOp,ho,hv]) (hv ▸ hx)
 ·rename_i f first cap
  obtain⟨b,c,hv,_⟩:=EP
  exact b9.same hH _ h (by simp[execOp,ho,hv]) (hv ▸ hx)
 ·exact h.elim
theorem DG{t:TypeId}{k:IntKind}(h:oZ P t=some k):P.underlying t=some (.int k):=by
 unfold oZ at h
 cases hd:P.underlying t with
 |none=>simp[hd]at h
 |some d=>cases d<;>simp_all
theorem nM(s:S)(a:Act)(dw:∀i,V.den (ai M φ H) φ H w (s.env i) (a.tmps.getD i undef))(xs:Array Operand):
 V.az (ai M φ H) φ H w (xs.toList.map s.ev) (xs.map a.eval).toList:=by
 simpa using iO s a dw xs.toList
theorem uy(hH:aq M φ H w){s:S}(np:s.o=H.o){a:Act}(dw:∀i,V.den (ai M φ H) φ H w (s.env i) (a.tmps.getD i undef))(cI: ¬H.us fr){o:Oper}{op:Op}(fh:o.op=op)(h:KQ P s fr op K):
 b9 M φ H w fr ((execOp a.eval o).run P w) K:=by
 have cP:=kK (M:=M) (φ:=φ) (H:=H) (w:=w) s a dw
 cases op<;>simp only[KQ]at h<;>try (exact h.elim)
 case move x=>exact b9.same hH _ h (by simp[execOp,fh]) (cP x)
 case assign x=>exact b9.same hH _ h (by simp[execOp,fh]) (cP x)
 case pick c x y=>
  have:=Fv (P:=P) (fr:=fr) hH (cP c) (cP x) (cP y) h
  exact gz
 case alloc t=>
  have:=Dn (P:=P) (fr:=fr) hH cI h
  exact gz
 case box t x=>
  have:=Ix (P:=P) (fr:=fr) (t:=t) hH cI (cP x) h
  exact gz
 case build t parts=>
  have:=Dq (P:=P) (fr:=fr) hH dw h
  exact gz
 case buildSlice t len parts=>
  rw[np]at h
  have:=rA (P:=P) (fr:=fr) hH cI dw h
  exact gz
 case load t x=>
  rw[np]at h
  have:=Fu (P:=P) (fr:=fr) hH (cP x) h
  exact gz
 case store t x y=>
  rw[np]at h
  have:=Ds (P:=P) (fr:=fr) hH (cP x) (cP y) h
  exact gz
 case nilCheck x=>
  rw[np]at h
  exact vN hH fh (cP x) h
 case binOp op t x y yt=>
  rw[np]at h
  rcases h with h|h
  ·have:=Iv (P:=P) (fr:=fr) (p:=x) (q:=y) hH (cP x) (cP y) h
   exact gz
  ·have:=II (P:=P) (fr:=fr) (p:=x) (q:=y) hH (cP x) (cP y) h
   exact gz
 case unOp op t x=>
  rcases h with h|⟨rfl,hx,hK⟩
  ·have:=Nx (P:=P) (fr:=fr) hH (cP x) h
   exact gz
  ·have hv:=cP x
   rw[hx]at hv
   obtain⟨b,hb⟩:=hv
   exact b9.same hH (.bool !b) hK (by simp[execOp,fh,hb,Op.unary]) ⟨_,rfl⟩
 case convert t u x=>
  obtain⟨YY,h⟩:=h
  split at h
  ·rename_i k k' n hk hx
   have hv:=cP x
   rw[hx]at hv
   simp only[V.den,D.den]at hv
   have hu:=DG hk
   obtain⟨d,hd⟩:=Option.isSome_iff_exists.1 YY
   refine b9.same hH (.int k (k.wrap n)) h ?_ rfl
   cases d<;>simp[execOp,fh,hv,convert,run_underlying hd,run_underlying hu,Conv.intToInt]
  ·exact h.elim
 case makeInterface t x=>
  obtain⟨⟨d,hd,kC⟩,h⟩:=h
  have hr:∀v,(Instr.makeInterface t v).run P w= .ok (.iface t v) w:=by
   intro v
   cases d<;>first|(simp at kC;done)|simp[Instr.makeInterface,run_underlying hd]
  have hv:=cP x
  split at h
  ·rename_i y hy
   rw[hy]at hv
   exact Ko
  ·exact Ko
 case makeFunc fn first cap=>
  exact b9.same hH _ h (by simp[execOp,fh,Instr.makeFunc]) ⟨_,_,rfl,nM s a dw first,nM s a dw cap⟩
 case makeSlice t l c=>
  have:=tG (P:=P) (fr:=fr) hH cI (cP l) (cP c) h
  exact gz
 case fieldAddr t x f=>
  rw[np]at h
  have:=tD (P:=P) (fr:=fr) hH (cP x) h
  exact gz
 case indexAddr t x i=>
  rw[np]at h
  have:=tF (P:=P) (fr:=fr) hH (cP x) (cP i) h
  exact gz
 case extract x i=>
  split at h
  ·rename_i vs hx
   obtain⟨v,hv,hK⟩:=h
   have hd:=cP x
   rw[hx]at hd
   obtain⟨c,hc,hd⟩:=hd
   obtain⟨u,hu,It⟩:=V.cN _ _ _ _ hd hv
   refine b9.same hH u hK ?_ It
   have xr:c[i]? =some u:=by simpa using hu
   simp[execOp,fh,hc,Instr.extract,xr]
  ·exact h.elim
 case call c=>
  obtain⟨FN,args,ts⟩:=c
  cases FN<;>simp only at h<;>try (exact h.elim)
  rename_i b
  unfold ru at h
  split at h
  ·rename_i x db
   obtain⟨t,tH,h⟩:=h
   rw[np]at h
   have e1:args=#[x]:=by apply Array.ext';simpa using db
   have e2:ts=#[t]:=by apply Array.ext';simpa using tH
   subst e1;subst e2
   have:=Iw (P:=P) (fr:=fr) (ty:=o.type) hH (cP x) h
   exact Ih
  ·rename_i x y db
   have e1:args=#[x,y]:=by apply Array.ext';simpa using db
   subst e1
   rw[np]at h
   have:=h.elim (fun h=>Fy (P:=P) (fr:=fr) (ty0:=o.type) hH cI (cP x) (cP y) h) (fun h=>Ao (P:=P) (fr:=fr) (ty0:=o.type) hH cI (cP x) (cP y) h)
   exact Ih
  ·rename_i x y db
   have e1:args=#[x,y]:=by apply Array.ext';simpa using db
   subst e1
   unfold lM at h
   split at h
   ·rename_i k u k' v heq
    simp only[List.cons.injEq,and_true]at heq
    obtain⟨rfl,hK⟩:=h
    have h1:=cP x
    have h2:=cP y
    rw[heq.1]at h1;rw[heq.2]at h2
    simp only[V.den,D.den]at h1 h2
    exact b9.same hH _ hK (by simp[execOp,fh,resolve,invoke,builtin,h1,h2,run_max_int2]) rfl
   ·exact h.elim
  ·rename_i x y db
   have e1:args=#[x,y]:=by apply Array.ext';simpa using db
   subst e1
   unfold lM at h
   split at h
   ·rename_i k u k' v heq
    simp only[List.cons.injEq,and_true]at heq
    obtain⟨rfl,hK⟩:=h
    have h1:=cP x
    have h2:=cP y
    rw[heq.1]at h1;rw[heq.2]at h2
    simp only[V.den,D.den]at h1 h2
    exact b9.same hH _ hK (by simp[execOp,fh,resolve,invoke,builtin,h1,h2,run_min_int2]) rfl
   ·exact h.elim
  ·rename_i x y z db
   have e1:args=#[x,y,z]:=by apply Array.ext';simpa using db
   subst e1
   have hg:=cR h
   clear h
   obtain⟨v,Δ,rd,h,hK⟩:=hg
   simp only[Option.map_eq_some_iff,Prod.mk.injEq]at h
   obtain⟨v',h,rfl,rfl,rfl⟩:=h
   unfold Fq at h
   split at h
   ·rename_i k u k' v k'' t q1 q2 q3
    split at h
    ·rename_i hk
     obtain⟨rfl,rfl⟩:=hk
     injection h with h;subst h
     have h1:=cP x
     have h2:=cP y
     have h3:=cP z
     rw[q1]at h1;rw[q2]at h2;rw[q3]at h3
     simp only[V.den,D.den]at h1 h2 h3
     exact b9.same hH _ hK (by simp[execOp,fh,resolve,invoke,builtin,h1,h2,h3,Builtin.max_,Builtin.max2]) rfl
    ·cases h
   ·cases h
  ·rename_i x y db
   have e1:args=#[x,y]:=by apply Array.ext';simpa using db
   subst e1
   rw[np]at h
   have:=FG (P:=P) (fr:=fr) (ty0:=o.type) hH (cP x) (cP y) h
   exact Ih
  ·rename_i x y db
   have e1:args=#[x,y]:=by apply Array.ext';simpa using db
   subst e1
   obtain⟨t,ht,h⟩:=h
   rw[np]at h
   have:=Ay (P:=P) (fr:=fr) (ty0:=o.type) hH ht (cP x) (cP y) h
   exact Ih
  ·rename_i x db
   have e1:args=#[x]:=by apply Array.ext';simpa using db
   subst e1
   unfold Ip at h
   split at h
   ·rename_i t tH
    have e2:ts=#[t]:=by apply Array.ext';simpa using tH
    subst e2
    split at h
    ·rename_i e ht
     split at h
     ·rename_i hxx
      have hd:=cP x
      rw[hxx]at hd
      simp only[V.den]at hd
      exact b9.same hH (.int .i64 0) h (by simp[execOp,fh,resolve,invoke,builtin,hd,Builtin.cap_,run_underlying (aW ht),goInt]) rfl
     ·exact h.elim
    ·exact h.elim
   ·exact h.elim
  ·exact h.elim
 case slice t x lo hi mx=>
  rw[np]at h
  have:=Du (P:=P) (fr:=fr) (lov:=lo.map a.eval) (hiv:=hi.map a.eval) (mxv:=mx.map a.eval) hH (cP x) (by cases lo<;>simp[cP]) (by cases hi<;>simp[cP]) (by cases mx<;>simp[cP]) h
  exact gz
 case field t x f=>
  have:=Dv (P:=P) (fr:=fr) hH (cP x) h
  exact gz
 case index t x i=>
  have:=Dx (P:=P) (fr:=fr) hH (cP x) (cP i) h
  exact gz
 case insert t m k v=>
  rw[np]at h
  have:=mA (P:=P) (fr:=fr) hH (cP m) (cP k) (cP v) h
  exact gz
 case typeAssert x xt t ok=>
  have:=Ar (P:=P) (fr:=fr) (xt:=xt) hH (cP x) h
  exact gz
 case makeMap t r=>
  cases r with
  |some x=>exact h.elim
  |none=>
   have:=xX (P:=P) (fr:=fr) hH cI h
   exact gz
 case lookup t m k ok=>
  rw[np]at h
  have:=Aw (P:=P) (fr:=fr) hH (cP m) (cP k) h
  exact gz
 case mapUpdate t m k v=>
  rw[np]at h
  have:=mA (P:=P) (fr:=fr) hH (cP m) (cP k) (cP v) h
  exact gz
 case range t x=>
  rw[np]at h
  have:=DC (P:=P) (fr:=fr) hH cI (cP x) h
  exact gz
 case next x str=>
  rw[np]at h
  rcases h with h|⟨rfl,id,l,h1,h2⟩
  ·have:=x3 (P:=P) (fr:=fr) (ty:=o.type) hH (cP x) h
   exact gz
  ·have:=x5 (P:=P) (fr:=fr) (ty:=o.type) hH (cP x) h1 h2
   exact gz
 case entry x=>
  rw[np]at h
  have:=DE (P:=P) (fr:=fr) hH (cP x) h
  exact gz
end
end
end Go.Proofs.YtlhemmpklhhgoaaGreat
