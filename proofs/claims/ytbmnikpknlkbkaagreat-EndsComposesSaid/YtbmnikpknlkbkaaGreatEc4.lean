/-
  A PART OF THE PROOF. Conditions: none.
-/
import Derived.WideKeyRuns
import Derived.Laws.IdiomRangeMap
import Derived.Test.YtbmnikpknlkbkaaGreatEc3
set_option linter.unusedSimpArgs false
set_option linter.unusedVariables false
namespace Go.Proofs.YtbmnikpknlkbkaaGreat
mutual
theorem D.cP:∀ (x y:D),x.same y=true->x=y
 | .int k a,y,h=>by cases y<;>simp_all[D.same]
 | .bool a,y,h=>by cases y<;>simp_all[D.same]
 | .str a,y,h=>by cases y<;>simp_all[D.same]
 | .dS,y,h=>by cases y<;>simp_all[D.same]
 | .fg,y,h=>by cases y<;>simp_all[D.same]
 | .aM,y,h=>by cases y<;>simp_all[D.same]
 | .c0,y,h=>by cases y<;>simp_all[D.same]
 | .agg bu,y,h=>by
   cases y<;>simp only[D.same,Bool.false_eq_true]at h
   rw[D.ct bu _ h]
 | .sl bu,y,h=>by
   cases y<;>simp only[D.same,Bool.false_eq_true]at h
   rw[D.ct bu _ h]
 | .iface t a,y,h=>by
   cases y<;>simp only[D.same,Bool.false_eq_true,Bool.and_eq_true,beq_iff_eq]at h
   rw[h.1,D.cP a _ h.2]
 | .mp ks vs,y,h=>by
   cases y<;>simp only[D.same,Bool.false_eq_true,Bool.and_eq_true]at h
   rw[D.ct ks _ h.1,D.ct vs _ h.2]
theorem D.ct:∀ (xs ys:List D),D.dY xs ys=true->xs=ys
 |[],ys,h=>by cases ys<;>simp_all[D.dY]
 |a::bu,ys,h=>by
  cases ys<;>simp only[D.dY,Bool.false_eq_true,Bool.and_eq_true]at h
  rw[D.cP a _ h.1,D.ct bu _ h.2]
end
section
variable {P:Program}{M:Nat->Prop}{φ:Place}{H:Hp}{w w':World}{fr:Nat}{K:V->List (Nat×aa)->List Nat->Prop}{B:Nat->Prop}
theorem l3{t kt vt:TypeId}(h:oF P t=some (kt,vt)):P.underlying t=some (.map kt vt):=by
 unfold oF at h
 cases hd:P.underlying t with
 |none=>simp[hd]at h
 |some d=>cases d<;>simp_all
theorem pa{x:D}(h:mg x=true){u v:Value}(hu:D.den B w x u)(hv:D.den B w x v):u=v:=by
 cases x<;>simp only[mg,Bool.false_eq_true]at h<;>simp only[D.den]at hu hv
 ·rw[hu,hv]
 ·rw[hu,hv]
 ·obtain⟨⟨⟨a⟩⟩,rfl,h1⟩:=hu
  obtain⟨⟨⟨b⟩⟩,rfl,h2⟩:=hv
  simp only at h1 h2
  rw[h1,h2]
theorem pb:∀ {xs:List D} (_:xs.all mg=true) {us vs:List Value} (_:D.ak B w xs us) (_:D.ak B w xs vs),us=vs
 |[],_,us,vs,hu,hv=>by simp only[D.ak]at hu hv;rw[hu,hv]
 |x::xs,h,us,vs,hu,hv=>by
  simp only[List.all_cons,Bool.and_eq_true]at h
  obtain⟨u,us,rfl,h1,h2⟩:=hu
  obtain⟨v,vs,rfl,h3,h4⟩:=hv
  rw[pa h.1 h1 h3,pb h.2 h2 h4]
theorem tu{x:D}(h:iP x=true){u v:Value}(hu:D.den B w x u)(hv:D.den B w x v):u=v:=by
 cases x with
 |agg cs=>
  simp only[iP]at h
  obtain⟨a,rfl,h1,_⟩:=hu
  obtain⟨b,rfl,h2,_⟩:=hv
  have:=pb h h1 h2
  congr 1
  exact Array.ext' this
 |_=>exact pa (by simpa[iP]using h) hu hv
theorem pc{x:D}(h:mg x=true){u:Value}(hu:D.den B w x u)(n:Nat):Instr.sameBits n u u=true:=by
 cases x<;>simp only[mg,Bool.false_eq_true]at h<;>simp only[D.den]at hu
 ·subst hu;cases n<;>simp[Instr.sameBits]
 ·subst hu;cases n<;>simp[Instr.sameBits]
 ·obtain⟨s,rfl,h1⟩:=hu
  have:(s==s)=true:=(MapKept.bytes_beq s s).2 rfl
  cases n<;>simp[Instr.sameBits,this]
theorem nC:∀ {xs:List D} (_:xs.all mg=true) {us:List Value} (_:D.ak B w xs us) (n:Nat),(us.zip us).all (fun(x,y)=>Instr.sameBits n x y)=true
 |[],_,us,hu,n=>by simp only[D.ak]at hu;subst hu;rfl
 |x::xs,h,us,hu,n=>by
  simp only[List.all_cons,Bool.and_eq_true]at h
  obtain⟨u,us,rfl,h1,h2⟩:=hu
  simp only[List.zip_cons_cons,List.all_cons,pc h.1 h1 n,Bool.true_and]
  exact nC h.2 h2 n
theorem tv{x:D}(h:iP x=true){u:Value}(hu:D.den B w x u)(n:Nat):Instr.sameBits (n+1) u u=true:=by
 cases x with
 |agg cs=>
  simp only[iP]at h
  obtain⟨a,rfl,h1,_⟩:=hu
  have:=nC h h1 n
  simp only[Instr.sameBits,beq_self_eq_true,Bool.true_and]
  exact this
 |_=>exact pc (by simpa[iP]using h) hu (n+1)
theorem vF{x:D}(h:iP x=true){u:Value}(hu:D.den B w x u):(Instr.keyThatStays u u).run P w'= .ok u w':=by
 simp[Instr.keyThatStays,tv h hu 9999]
theorem kS(em:Bool):∀ (d:Nat) (t:TypeId) (x:D),oG P d t x=true->∀m,d<=m->∀u,D.den B w x u->(Instr.checkKey em m t u).run P w= .ok () w
 |0,_,_,h=>by simp[oG]at h
 |d+1,t,x,h=>by
  intro m hm u hu
  obtain⟨m,rfl⟩:∃k,m=k+1:=⟨m - 1,by omega⟩
  have IH:=fun t x h u hu=>kS em d t x h m (by omega) u hu
  unfold oG at h
  rw[Instr.checkKey]
  cases hs:a9 P t with
  |none=>rw[hs]at h;cases h
  |some sh=>
   rw[hs]at h
   unfold a9 at hs
   cases ht:P.underlying t with
   |none=>rw[ht]at hs;cases hs
   |some td=>
    rw[ht]at hs
    simp only[Sem.run_bind,run_underlying ht,Result.andThen_ok]
    cases td<;>simp only[Option.some.injEq,reduceCtorEq]at hs
    case int k0=>simp
    case bool=>simp
    case string=>simp
    case struct fs=>
     split at hs
     ·injection hs with hs;subst hs
      simp only at h
      cases x<;>simp only[Bool.false_eq_true]at h
      rename_i xs
      obtain⟨arr,rfl,ha,hf⟩:=hu
      simp only
      rw[<- Array.forIn_toList]
      rw[List.all_map]at h
      generalize fs.toList=L at h
      induction L with
      |nil=>simp
      |cons f L ih=>
       simp only[List.all_cons,Bool.and_eq_true,Function.comp]at h
       obtain⟨h1,h2⟩:=h
       split at h1
       ·rename_i y hy
        obtain⟨v,k1,k2⟩:=dZ hy ha hf
        have k3:=IH _ _ h1 v k2
        by_cases hn:f.name= "_"
        ·simp only[List.forIn_cons,Sem.run_bind,hn,ne_eq,not_true_eq_false,if_false,Result.andThen_ok,Sem.run_pure]
         have:=ih h2
         simp only[Sem.run_bind,Sem.run_pure,ne_eq]at this
         exact this
        ·simp only[List.forIn_cons,Sem.run_bind,hn,ne_eq,not_false_eq_true,if_true,Result.andThen_ok,k1,k3,Sem.run_pure]
         have:=ih h2
         simp only[Sem.run_bind,Sem.run_pure,ne_eq]at this
         exact this
       ·cases h1
     ·cases hs
    case array n e=>
     split at hs
     ·rename_i hi
      injection hs with hs;subst hs
      simp only at h
      cases x<;>simp only[Bool.false_eq_true]at h
      rename_i xs
      obtain⟨arr,rfl,ha,hf⟩:=hu
      obtain⟨i,hi⟩:=Option.isSome_iff_exists.1 hi
      simp only[Std.Legacy.Range.forIn_eq_forIn_range',Std.Legacy.Range.size,Nat.sub_zero,Nat.add_one_sub_one,Nat.div_one]
      rw[List.range_eq_range']at h
      generalize List.range' 0 n=is at h
      induction is with
      |nil=>simp
      |cons j is ih=>
       simp only[List.all_cons,Bool.and_eq_true]at h
       obtain⟨h1,h2⟩:=h
       split at h1
       ·rename_i y hy
        obtain⟨v,k1,k2⟩:=dZ hy ha hf
        have k3:=IH _ _ h1 v k2
        simp only[List.forIn_cons,Sem.run_bind,cG hi,Result.andThen_ok,k1,k3,Sem.run_pure]
        have:=ih h2
        simp only[Sem.run_bind,Sem.run_pure]at this
        exact this
       ·cases h1
     ·cases hs
def gk(B:Nat->Prop)(w:World)(es:List MapEntry)(i:Nat):Option (Nat×D×D)->Option (Nat×Value)->Prop
 |none,none=>True
 |some (j,k,x),some (j',v)=>j=j'/\i<=j/\D.den B w x v/\∃e,es[j - i]? =some e/\e.val=v/\D.den B w k e.key
 |_,_=>False
theorem gk.succ {es:List MapEntry}{e:MapEntry}{i:Nat}{r:Option (Nat×D×D)}{r':Option (Nat×Value)}(h:gk B w es (i+1) r r'):gk B w (e::es) i r r':=by
 cases r with
 |none=>cases r'<;>exact h
 |some p=>
  obtain⟨j,k,x⟩:=p
  cases r' with
  |none=>exact h
  |some q=>
   obtain⟨j',v⟩:=q
   obtain⟨h1,h2,h3,e',h4,h5⟩:=h
   refine⟨h1,by omega,h3,e', ?_,h5⟩
   rw[show j - i=(j - (i+1))+1 by omega]
   simpa using h4
theorem mm{kt:TypeId}{kd:D}{kv:Value}(hk:D.den B w kd kv):∀ (l:List (D×D)) (es:List MapEntry) (i:Nat) (r:Option (Nat×D×D)),au B w l es->findD P kt kd l i=some r->
 ∃r',(Instr.findAsking kt kv es i).run P w= .ok r' w/\gk B w es i r r'
 |[],es,i,r,he,h=>by
  simp only[au]at he;subst he
  simp only[findD,Option.some.injEq]at h;subst h
  exact⟨none,by simp[Instr.findAsking],trivial⟩
 |(k',x)::l,es,i,r,he,h=>by
  obtain⟨e,es,rfl,h1,h2,h3⟩:=he
  simp only[findD]at h
  split at h
  ·rename_i hq
   injection h with h;subst h
   have:=m6 100 kt _ _ _ hq 10000 (by decide) B w _ _ hk h1
   refine⟨some (i,e.val),by simp[Instr.findAsking,Op.equal,Op.maxDepth,this],rfl,Nat.le_refl _,h2,e,by simp,rfl,h1⟩
  ·rename_i hq
   have:=m6 100 kt _ _ _ hq 10000 (by decide) B w _ _ hk h1
   obtain⟨r',g1,g2⟩:=mm hk l es (i+1) r h3 h
   exact⟨r',by simp[Instr.findAsking,Op.equal,Op.maxDepth,this,g1],g2.succ⟩
  ·cases h
theorem mn{td:TypeDesc}{kt:TypeId}(ht:P.underlying kt=some td)(hn:(match td with| .int _| .bool| .string=>true|_=>false)=true){x y:D}{r:Bool}(h:mJ P 100 kt x y=some r){u v:Value}(hu:D.den B w x u)(hv:D.den B w y v):
 Instr.sameNow td u v=some r:=by
 unfold mJ a9 at h
 rw[ht]at h
 cases td<;>simp only[Bool.false_eq_true]at hn<;>simp only at h
 ·split at h
  ·injection h with h;subst h
   simp only[D.den]at hu hv;subst hu;subst hv;rfl
  ·cases h
 ·split at h
  ·split at h
   ·rename_i e;subst e;injection h with h;subst h
    simp only[D.den]at hu hv;subst hu;subst hv;simp[Instr.sameNow]
   ·cases h
  ·cases h
 ·split at h
  ·injection h with h;subst h
   obtain⟨s1,rfl,rfl⟩:=hu
   obtain⟨s2,rfl,rfl⟩:=hv
   simp only[Instr.sameNow,Option.some.injEq]
   obtain⟨⟨a⟩⟩:=s1
   obtain⟨⟨b⟩⟩:=s2
   rw[Bool.eq_iff_iff,MapKept.bytes_beq]
   simp
  ·cases h
theorem mo{td:TypeDesc}{kt:TypeId}(ht:P.underlying kt=some td)(hn:(match td with| .int _| .bool| .string=>true|_=>false)=true){kd:D}{kv:Value}(hk:D.den B w kd kv):∀ (l:List (D×D)) (es:List MapEntry) (i:Nat) (r:Option (Nat×D×D)),au B w l es->findD P kt kd l i=some r->
 ∃r',Instr.findNow td kv es i=some r'/\gk B w es i r r'
 |[],es,i,r,he,h=>by
  simp only[au]at he;subst he
  simp only[findD,Option.some.injEq]at h;subst h
  exact⟨none,by simp[Instr.findNow],trivial⟩
 |(k',x)::l,es,i,r,he,h=>by
  obtain⟨e,es,rfl,h1,h2,h3⟩:=he
  simp only[findD]at h
  split at h
  ·rename_i hq
   injection h with h;subst h
   have:=mn ht hn hq hk h1
   refine⟨some (i,e.val),by simp[Instr.findNow,this],rfl,Nat.le_refl _,h2,e,by simp,rfl,h1⟩
  ·rename_i hq
   have:=mn ht hn hq hk h1
   obtain⟨r',g1,g2⟩:=mo ht hn hk l es (i+1) r h3 h
   exact⟨r',by simp[Instr.findNow,this,g1],g2.succ⟩
  ·cases h
theorem ec{kt:TypeId}{kd:D}{kv:Value}(hk:D.den B w kd kv)(hc:oG P 100 kt kd=true){l:List (D×D)}{es:List MapEntry}{r:Option (Nat×D×D)}(he:au B w l es)(h:findD P kt kd l 0=some r):
 ∃r',(Instr.findKey kt kv es).run P w= .ok r' w/\gk B w es 0 r r':=by
 unfold oG a9 at hc
 cases ht:P.underlying kt with
 |none=>simp[ht]at hc
 |some td=>
  have now:(match td with| .int _| .bool| .string=>true|_=>false)=true->∃r',(Instr.findKey kt kv es).run P w= .ok r' w/\gk B w es 0 r r':=by
   intro hn
   obtain⟨r',g1,g2⟩:=mo ht hn hk l es 0 r he h
   exact⟨r',MapKept.run_findKey ht g1,g2⟩
  have ask:(match P.underlying kt with|some (.array _ _)|some (.struct _)=>true|_=>false)=true->∃r',(Instr.findKey kt kv es).run P w= .ok r' w/\gk B w es 0 r r':=by
   intro hn
   obtain⟨r',g1,g2⟩:=mm hk l es 0 r he h
   exact⟨r',(run_findKey_eq w hn kv es).trans g1,g2⟩
  cases td<;>first
   |exact now rfl
   |(refine ask ?_;rw[ht];done)
   |(exfalso;simp[ht]at hc)
theorem au.get:∀ {l:List (D×D)} {es:List MapEntry} {i:Nat} {e:MapEntry},au B w l es->es[i]? =some e->∃p,l[i]? =some p/\D.den B w p.1 e.key/\D.den B w p.2 e.val
 |[],es,i,e,h,hi=>by simp only[au]at h;subst h;simp at hi
 |(k,x)::l,es,i,e,h,hi=>by
  obtain⟨e',es,rfl,h1,h2,h3⟩:=h
  cases i with
  |zero=>simp at hi;subst hi;exact⟨(k,x),by simp,h1,h2⟩
  |succ i=>simpa using au.get h3 (by simpa using hi)
theorem au.push:∀ {l:List (D×D)} {es:List MapEntry} {k x:D} {e:MapEntry},au B w l es->D.den B w k e.key->D.den B w x e.val->au B w (l++[(k,x)]) (es++[e])
 |[],es,k,x,e,h,h1,h2=>by simp only[au]at h;subst h;exact⟨e,[],rfl,h1,h2,rfl⟩
 |(k',x')::l,es,k,x,e,h,h1,h2=>by
  obtain⟨e',es,rfl,g1,g2,g3⟩:=h
  exact⟨e',es++[e],rfl,g1,g2,au.push g3 h1 h2⟩
theorem au.set:∀ {l:List (D×D)} {es:List MapEntry} {i:Nat} {k x:D} {e:MapEntry},au B w l es->D.den B w k e.key->D.den B w x e.val->au B w (l.set i (k,x)) (es.set i e)
 |[],es,i,k,x,e,h,h1,h2=>by simp only[au]at h;subst h;rfl
 |(k',x')::l,es,i,k,x,e,h,h1,h2=>by
  obtain⟨e',es,rfl,g1,g2,g3⟩:=h
  cases i with
  |zero=>exact⟨e,es,rfl,h1,h2,g3⟩
  |succ i=>exact⟨e',es.set i e,rfl,g1,g2,au.set g3 h1 h2⟩
theorem rK(hH:af M φ H w)(de: ¬H.us fr){t:TypeId}(h:bW (kF P fr t) K):bK M φ H w fr ((do let v <- Instr.makeMap t none;pure (Next.value v):Sem Next).run P w) K:=by
 have hg:=cq h
 clear h
 obtain⟨v,Δ,rd,h,hK⟩:=hg
 unfold kF at h
 split at h
 ·rename_i kt vt ht
  injection h with h;injection h with e1 e2;injection e2 with e2 e3;subst e1;subst e2;subst e3
  have hv:∀b,cW (.map (some w.heap.size))=some b->w.heap.size<=b/\b<(w.alloc (.map #[] 0)).heap.size:=by
   intro b hb;simp[cW]at hb;subst hb;simp
  have w6:=cY (φ:=φ) (H:=H) (bF w (.map #[] 0)) de (.map kt vt []) (.map (some w.heap.size)) fun b hb=>(hv b hb).1
  refine⟨_, .map (some w.heap.size),w.alloc (.map #[] 0),aV φ fr (.map (some w.heap.size)),_,_,_,hK,by simp[Instr.makeMap], .inl rfl,eS hH (bF w _) de _ _ hv ?_,w6,⟨rfl,by simp,fun _=>by simp⟩,fun j hj=> .inr (by simpa using hj)⟩
  unfold aq
  simp only[aU,ax,if_true]
  exact⟨w.heap.size,#[],0,rfl,heap_alloc_new w _,⟨fun e he=>by simp at he,by simp⟩,rfl⟩
 ·cases h
theorem nD{o:Nat->aa}{m:V}{r:Option (Nat×TypeId×TypeId)}{l:List (D×D)}(h:nv o m=some (r,l)):(∃id kt vt,m= .mp id/\o id= .map kt vt l/\r=some (id,kt,vt))\/(m= .d .c0/\r=none/\l=[]):=by
 unfold nv at h
 split at h
 ·split at h
  ·rename_i ho
   simp only[Option.some.injEq,Prod.mk.injEq]at h;obtain⟨rfl,rfl⟩:=h;exact .inl ⟨_,_,_,rfl,ho,rfl⟩
  ·cases h
 ·simp only[Option.some.injEq,Prod.mk.injEq]at h;obtain⟨rfl,rfl⟩:=h;exact .inr ⟨rfl,rfl,rfl⟩
 ·cases h
theorem w7{ks vs:List D}{es:List MapEntry}(h1:D.ak B w ks (es.map (·.key)))(h2:D.ak B w vs (es.map (·.val))):au B w (ks.zip vs) es:=by
 have e1:=D.aj _ _ h1
 have e2:=D.aj _ _ h2
 simp only[List.length_map]at e1 e2
 refine(gK _ _).2 ?_
 rw[List.map_fst_zip (by omega),List.map_snd_zip (by omega)]
 exact⟨h1,h2⟩
def nE(l l':List (D×D)):Prop:=l'=l\/(l'.Perm l/\pZ (l.map (·.1)))
theorem nE.perm {l l':List (D×D)}(h:nE l l'):l'.Perm l:=by
 rcases h with rfl|h
 ·exact List.Perm.refl _
 ·exact h.1
theorem vG{p q:List MapEntry}(N0:p.Perm q):∀ {l:List (D×D)},au B w l p->∃l',l'.Perm l/\au B w l' q:=by
 induction N0 with
 |nil=>intro l h;exact⟨l,List.Perm.refl _,h⟩
 |cons x _ ih=>
  intro l h
  cases l with
  |nil=>cases h
  |cons y l=>
   obtain⟨k,v⟩:=y
   obtain⟨e,es,h0,h1,h2,h3⟩:=h
   injection h0 with h0 Iz;subst h0;subst Iz
   obtain⟨l',g1,g2⟩:=ih h3
   exact⟨(k,v)::l',g1.cons _,_,_,rfl,h1,h2,g2⟩
 |swap x y t=>
  intro l h
  match l,h with
  |[],h=>cases h
  |[(_,_)],h=>obtain⟨e,es,h0,_,_,h3⟩:=h;injection h0 with _ h0;have h3:es=[]:=h3;rw[h3]at h0;cases h0
  |(k,v)::(k',v')::l,h=>
   obtain⟨e,es,h0,h1,h2,e',es',Iz,pf,vH,h3⟩:=h
   subst Iz
   injection h0 with a b;subst a;injection b with b c;subst b;subst c
   exact⟨(k',v')::(k,v)::l,List.Perm.swap _ _ _,_,_,rfl,pf,vH,_,_,rfl,h1,h2,h3⟩
 |trans _ _ N1 N2=>
  intro l h
  obtain⟨l1,g1,g2⟩:=N1 h
  obtain⟨l2,g3,g4⟩:=N2 g2
  exact⟨l2,g3.trans g1,g4⟩
theorem l4{l:List (D×D)}{p:List MapEntry}{es:Array MapEntry}(hp:p=es.toList\/(p.Perm es.toList/\pZ (l.map (·.1))))(h:au B w l p):∃l',nE l l'/\au B w l' es.toList:=by
 rcases hp with rfl|⟨h1,h2⟩
 ·exact⟨l, .inl rfl,h⟩
 ·obtain⟨l',g1,g2⟩:=vG h1 h
  exact⟨l', .inr ⟨g1,h2⟩,g2⟩
theorem j7{l:List (D×D)}{v:Value}(h:D.den B w (.mp (l.map (·.1)) (l.map (·.2))) v):∃m es clock l',v= .map (some m)/\w.heap[m]? =some (.map es clock)/\ ¬B m/\e8 es clock/\nE l l'/\au B w l' es.toList:=by
 obtain⟨m,es,clock,p,h1,h2,h3,h4,hp,h5,h6⟩:=h
 obtain⟨l',g1,g2⟩:=l4 hp ((gK _ _).2 ⟨h5,h6⟩)
 exact⟨m,es,clock,l',h1,h2,h3,h4,g1,g2⟩
theorem rL{ks vs:List D}{p:List MapEntry}(h1:D.ak B w ks (p.map (·.key)))(h2:D.ak B w vs (p.map (·.val))):(ks.zip vs).map (·.1)=ks:=by
 have e1:=D.aj _ _ h1
 have e2:=D.aj _ _ h2
 simp only[List.length_map]at e1 e2
 exact List.map_fst_zip (by omega)
theorem zt{P:Program}{kt:TypeId}{kd:D}{n:Int}{b:Bool}(h:mJ P 100 kt kd (.int .i64 n)=some b):a9 P kt=some .int/\∃m,kd= .int .i64 m/\b=(m==n):=by
 unfold mJ at h
 cases hs:a9 P kt with
 |none=>simp[hs]at h
 |some sh=>
  cases sh<;>simp only[hs]at h
  case int=>
   cases kd<;>simp only at h
   all_goals first
    |(cases h;done)
    |(split at h
      ·rename_i e;subst e;injection h with h;exact⟨rfl,_,rfl,h.symm⟩
      ·cases h)
  all_goals first
   |(cases kd<;>simp at h;done)
   |(simp at h;done)
theorem j8{P:Program}{kt:TypeId}{m:Int}(hs:a9 P kt=some .int):∀ (l:List (D×D)) (i:Nat),(∀k∈l.map (·.1),∃n,k= .int .i64 n)->∃r,findD P kt (.int .i64 m) l i=some r/\(match r with|some (_,_,x)=>(D.int .i64 m,x)∈l|none=>∀x,(D.int .i64 m,x)∉l)
 |[],i,_=>⟨none,rfl,by simp⟩
 |(k,x)::l,i,h=>by
  obtain⟨n,rfl⟩:=h k (by simp)
  have he:mJ P 100 kt (.int .i64 m) (.int .i64 n)=some (m==n):=by simp[mJ,hs]
  simp only[findD,he]
  by_cases e:m=n
  ·subst e
   exact⟨some (i, .int .i64 m,x),by simp,by simp⟩
  ·have e2:(m==n)=false:=by simpa using e
   obtain⟨r,h1,h2⟩:=j8 hs l (i+1) (fun k hk=>h k (by simp at hk|-;exact .inr hk))
   refine⟨r,by simp only[e2];exact h1, ?_⟩
   cases r with
   |none=>intro y hy;rcases List.mem_cons.1 hy with hy|hy
          ·injection hy with hy _;injection hy with _ hy;exact e hy
          ·exact h2 y hy
   |some p=>exact List.mem_cons_of_mem _ h2
theorem vI{L:List (D×D)}(hn:(L.map (·.1)).Nodup){k x x':D}(f2:(k,x)∈L)(f4:(k,x')∈L):x'=x:=by
 induction L with
 |nil=>cases f2
 |cons y L ih=>
  rw[List.map_cons,List.nodup_cons]at hn
  rcases List.mem_cons.1 f2 with e1|e1<;>rcases List.mem_cons.1 f4 with e2|e2
  ·rw[<- e1]at e2;injection e2
  ·exact absurd (by rw[<- e1];exact List.mem_map.2 ⟨_,e2,rfl⟩) hn.1
  ·exact absurd (by rw[<- e2];exact List.mem_map.2 ⟨_,e1,rfl⟩) hn.1
  ·exact ih hn.2 e1 e2
theorem pg{P:Program}{kt:TypeId}{kd:D}{l l':List (D×D)}{r:Option (Nat×D×D)}(hl:nE l l')(h:findD P kt kd l 0=some r):∃r',findD P kt kd l' 0=some r'/\(match r,r' with|some (_,_,x),some (_,_,x')=>x'=x|none,none=>True|_,_=>False):=by
 rcases hl with rfl|⟨hp,hk⟩
 ·refine⟨r,h, ?_⟩
  cases r<;>trivial
 ·cases l with
  |nil=>
   have:l'=[]:=hp.eq_nil
   subst this
   refine⟨r,h, ?_⟩
   cases r<;>trivial
  |cons p l=>
   obtain⟨k0,x0⟩:=p
   obtain⟨n0,rfl⟩:=hk.2 k0 (by simp)
   have hb:∃b,mJ P 100 kt kd (.int .i64 n0)=some b:=by
    simp only[findD]at h
    cases he:mJ P 100 kt kd (.int .i64 n0)with
    |none=>rw[he]at h;cases h
    |some b=>exact⟨b,rfl⟩
   obtain⟨b,hb⟩:=hb
   obtain⟨hs,m,rfl,_⟩:=zt hb
   obtain⟨r1,f1,f2⟩:=j8 (m:=m) hs ((.int .i64 n0,x0)::l) 0 hk.2
   rw[h]at f1;injection f1 with f1;subst f1
   obtain⟨r',f3,f4⟩:=j8 (m:=m) hs l' 0 (fun k IA=>hk.2 k ((hp.map _).mem_iff.1 IA))
   refine⟨r',f3, ?_⟩
   cases r with
   |none=>
    cases r' with
    |none=>trivial
    |some q=>obtain⟨_,_,x'⟩:=q;exact f2 x' (hp.mem_iff.1 f4)
   |some q=>
    obtain⟨_,_,x⟩:=q
    cases r' with
    |none=>exact f4 x (hp.mem_iff.2 f2)
    |some q'=>
     obtain⟨_,_,x'⟩:=q'
     exact vI hk.1 f2 (hp.mem_iff.1 f4)
theorem ph{ks vs:List D}{p:List MapEntry}(h1:D.ak B w ks (p.map (·.key)))(h2:D.ak B w vs (p.map (·.val))):au B w (ks.zip vs) p:=w7 h1 h2
theorem tw(hH:af M φ H w){m:V}{mv:Value}{rd:List Nat}{l:List (D×D)}(hm:V.den (ad M φ H) φ H w m mv)(h:oX H.o m=some (rd,l)):
 (mv= .map none/\l=[])\/∃b es clock l',mv= .map (some b)/\w.heap[b]? =some (.map es clock)/\e8 es clock/\nE l l'/\au (ad M φ H) w l' es.toList:=by
 unfold oX at h
 split at h
 ·rename_i id
  obtain⟨IB,HB,rf⟩:=hm
  have a8:=hH.ok id
  split at h
  ·rename_i ho
   simp only[Option.some.injEq,Prod.mk.injEq]at h;obtain⟨rfl,rfl⟩:=h
   simp only[aq,ho]at a8
   obtain⟨b,es,clock,g1,g2,g0,g3⟩:=a8
   exact .inr ⟨b,es,clock,_,(rf (by rw[ho];rfl)).trans g1,g2,g0, .inl rfl,g3⟩
  ·rename_i ho
   simp only[Option.some.injEq,Prod.mk.injEq]at h;obtain⟨rfl,rfl⟩:=h
   simp only[aq,ho]at a8
   obtain⟨b,es,clock,l',g1,g2,_,g0,g3⟩:=j7 a8
   exact .inr ⟨b,es,clock,l',(rf (by rw[ho];rfl)).trans g1,g2,g0,g3⟩
  ·cases h
 ·simp only[Option.some.injEq,Prod.mk.injEq]at h;obtain⟨rfl,rfl⟩:=h
  simp only[V.den,D.den]at hm
  exact .inl ⟨hm,rfl⟩
 ·simp only[Option.some.injEq,Prod.mk.injEq]at h;obtain⟨rfl,rfl⟩:=h
  obtain⟨b,es,clock,p,g1,g2,_,g0,gp,g3,g4⟩:=hm
  obtain⟨l',g5,g6⟩:=l4 (by rw[rL g3 g4];exact gp) (ph g3 g4)
  exact .inr ⟨b,es,clock,l',g1,g2,g0,g5,g6⟩
 ·cases h
theorem tx(hH:af M φ H w){t:TypeId}{m k:V}{mv kv:Value}{ok:Bool}(hm:V.den (ad M φ H) φ H w m mv)(hk:V.den (ad M φ H) φ H w k kv)(h:bW (kE P H.o t m k ok) K):
 bK M φ H w fr ((do let v <- Instr.lookup t mv kv ok;pure (Next.value v):Sem Next).run P w) K:=by
 have hg:=cq h
 clear h
 obtain⟨v,Δ,rd,h,hK⟩:=hg
 unfold kE at h
 split at h
 ·rename_i kt vt kd Po l ht ES zo
  split at h
  ·rename_i hc
   have gm:D.den (ad M φ H) w kd kv:=dA hH k kd kv (fun id ag=>by rw[hc.1]at ag;cases ag) ES hk
   have yX:∀em,(Instr.checkKey em 10000 kt kv).run P w= .ok () w:=fun em=>kS em 100 kt kd hc.2 10000 (by decide) kv gm
   have wD:=l3 ht
   have ID:∃ (es:Array MapEntry) (l':List (D×D)),nE l l'/\au (ad M φ H) w l' es.toList/\∀ (r':Option (Nat×Value)) (val:Value),(Instr.findKey kt kv es.toList).run P w= .ok r' w->(match r' with|some (_,u)=>val=(if ok=true then .tuple #[u, .bool true]else u)|none=>∃z,(zeroValue vt).run P w= .ok z w/\val=(if ok=true then .tuple #[z, .bool false]else z))->(Instr.lookup t mv kv ok).run P w= .ok val w:=by
    rcases tw hH hm zo with⟨rfl,rfl⟩|⟨b,es,clock,l',rfl,g2,_,gl,g3⟩
    case inr=>
     have kT:=MapKept.run_getObj_map (P:=P) g2
     refine⟨es,l',gl,g3,fun r' val q1 q2=> ?_⟩
     cases r' with
     |some p=>obtain⟨j,u⟩:=p;simp only at q2;subst q2;cases ok<;>simp[Instr.lookup,run_underlying wD,kT,yX,q1]
     |none=>obtain⟨z,z1,rfl⟩:=q2;cases ok<;>simp[Instr.lookup,run_underlying wD,kT,yX,q1,z1]
    case inl=>
     refine⟨#[],[], .inl rfl,rfl,fun r' val q1 q2=> ?_⟩
     cases r' with
     |some p=>obtain⟨j,u⟩:=p;simp only at q2;subst q2;cases ok<;>simp[Instr.lookup,run_underlying wD,yX,q1]
     |none=>obtain⟨z,z1,rfl⟩:=q2;cases ok<;>simp[Instr.lookup,run_underlying wD,yX,q1,z1]
   obtain⟨es,l',gl,g3,run⟩:=ID
   split at h
   ·rename_i j kk x hf
    injection h with h;injection h with e1 e2;injection e2 with e2 e3;subst e1;subst e2;subst e3
    obtain⟨r2,IE,p9⟩:=pg gl hf
    obtain⟨r',q1,q2⟩:=ec gm hc.2 g3 IE
    cases r2 with
    |none=>exact p9.elim
    |some p2=>
    obtain⟨_,_,x2⟩:=p2
    have DP:x2=x:=p9
    obtain rfl:=DP
    cases r' with
    |none=>exact q2.elim
    |some p=>
     obtain⟨j',u⟩:=p
     obtain⟨_,_,HC,_⟩:=q2
     refine bK.plain (v:=(if ok=true then .bJ [.d x2, .d (.bool true)]else .d x2)) hH (if ok=true then .tuple #[u, .bool true]else u) hK (run _ _ q1 rfl) ?_
     cases ok
     ·exact HC
     ·exact⟨#[u, .bool true],rfl,u,[.bool true],rfl,HC, .bool true,[],rfl,rfl,rfl⟩
   ·rename_i hf
    split at h
    ·rename_i z hz
     injection h with h;injection h with e1 e2;injection e2 with e2 e3;subst e1;subst e2;subst e3
     obtain⟨r2,IE,p9⟩:=pg gl hf
     obtain⟨r',q1,q2⟩:=ec gm hc.2 g3 IE
     cases r2 with
     |some p2=>exact p9.elim
     |none=>
     cases r' with
     |some p=>exact q2.elim
     |none=>
      obtain⟨val,z1,z2⟩:=l0 (M:=M) (φ:=φ) (H:=H) (w:=w) hz
      refine bK.plain hH (if ok=true then .tuple #[val, .bool false]else val) hK (run _ _ q1 ⟨val,z1,rfl⟩) ?_
      cases ok
      ·exact z2
      ·exact⟨#[val, .bool false],rfl,val,[.bool false],rfl,z2, .bool false,[],rfl,rfl,rfl⟩
    ·cases h
   ·cases h
  ·cases h
 ·cases h
theorem eT{es:Array MapEntry}{i:Nat}{e:MapEntry}(f:MapEntry->MapEntry)(h:es.toList[i]? =some e):(es.modify i f).toList=es.toList.set i (f e):=by
 apply List.ext_getElem?
 intro j
 simp only[Array.getElem?_toList,Array.getElem?_modify]
 rw[List.getElem?_set]
 have h':es[i]? =some e:=by simpa using h
 by_cases hj:i=j
 ·subst hj
  have br:i<es.toList.length:=by
   rw[List.getElem?_eq_some_iff]at h;exact h.1
  simp only[if_true,h',Option.map_some,br]
 ·simp[hj]
theorem tz{es:Array MapEntry}{clock:Nat}(h:e8 es clock){e:MapEntry}(he:e.born=clock):e8 (es.push e) (clock+1):=by
 obtain⟨h1,h2⟩:=h
 refine⟨fun x hx=> ?_, ?_⟩
 ·rw[Array.toList_push]at hx
  rcases List.mem_append.1 hx with hx|hx
  ·have:=h1 x hx;omega
  ·simp at hx;subst hx;omega
 ·rw[Array.toList_push,List.map_append,List.nodup_append]
  refine⟨h2,by simp,fun a ha b hb=> ?_⟩
  obtain⟨x,hx,rfl⟩:=List.mem_map.1 ha
  simp only[List.map_cons,List.map_nil,List.mem_singleton]at hb
  have:=h1 x hx
  omega
theorem qa{es:Array MapEntry}{clock i:Nat}(h:e8 es clock){e:MapEntry}(hi:es.toList[i]? =some e){f:MapEntry->MapEntry}(hf:(f e).born=e.born):e8 (es.modify i f) clock:=by
 obtain⟨h1,h2⟩:=h
 unfold e8
 rw[eT f hi]
 have e1:(es.toList.set i (f e)).map (·.born)=es.toList.map (·.born):=by
  rw[List.map_set,hf]
  apply List.ext_getElem?
  intro j
  rw[List.getElem?_set]
  by_cases hj:i=j
  ·subst hj
   have br:=(List.getElem?_eq_some_iff.1 hi).1
   rw[if_pos rfl,if_pos (by simpa using br),List.getElem?_map,hi];rfl
  ·rw[if_neg hj]
 refine⟨fun x hx=> ?_,by rw[e1];exact h2⟩
 obtain⟨j,hj⟩:=List.mem_iff_getElem?.1 (List.mem_map.2 ⟨x,hx,rfl⟩:x.born∈(es.toList.set i (f e)).map (·.born))
 rw[e1]at hj
 obtain⟨y,hy,e2⟩:=List.mem_map.1 (List.mem_of_getElem? hj)
 have:=h1 y hy
 omega
theorem rM{es:Array MapEntry}{clock i:Nat}(h:e8 es clock):e8 (es.eraseIdxIfInBounds i) clock:=by
 obtain⟨h1,h2⟩:=h
 have e:(es.eraseIdxIfInBounds i).toList=es.toList.eraseIdx i:=by simp
 unfold e8
 rw[e]
 exact⟨fun x hx=>h1 x (List.mem_of_mem_eraseIdx hx),h2.sublist (List.Sublist.map _ (List.eraseIdx_sublist ..))⟩
theorem au.erase:∀ {l:List (D×D)} {es:List MapEntry} {i:Nat},au B w l es->au B w (l.eraseIdx i) (es.eraseIdx i)
 |[],es,i,h=>by simp only[au]at h;subst h;simp[au]
 |(k',x')::l,es,i,h=>by
  obtain⟨e',es,rfl,g1,g2,g3⟩:=h
  cases i with
  |zero=>exact g3
  |succ i=>exact⟨e',es.eraseIdx i,rfl,g1,g2,au.erase g3⟩
theorem w8(hH:af M φ H w){id b clock clock':Nat}{kt vt:TypeId}{l l':List (D×D)}{es es':Array MapEntry}(cJ:H.us id)(ho:H.o id= .map kt vt l)(cz:φ id= .map (some b))(g2:w.heap[b]? =some (.map es clock))(h0:e8 es' clock')(hl:au (ad M φ H) w l' es'.toList):
 af M φ (H.put [(id, .map kt vt l')]) {w with heap:=w.heap.setIfInBounds b (.map es' clock')}/\Trans φ H w φ (H.put [(id, .map kt vt l')]) {w with heap:=w.heap.setIfInBounds b (.map es' clock')}:=by
 have w9:dh (· =b) w {w with heap:=w.heap.setIfInBounds b (.map es' clock')}:=
  ⟨rfl,rfl,rfl,by simp,fun j _ hj=>(MapKept.heap_set g2).2 j hj⟩
 have oO:(H.o id).live=true:=by rw[ho];rfl
 have xa:cW (φ id)=some b:=by rw[cz];rfl
 have tc:=dV (w:=w) (w':={w with heap:=w.heap.setIfInBounds b (.map es' clock')}) cJ oO xa w9 (.map kt vt l') (by rw[ho];rfl) (by rw[ho];rfl)
 refine⟨fl hH cJ oO xa w9 _ (by rw[ho];rfl) (by rw[ho];rfl) ?_,tc⟩
 unfold aq
 simp only[aU,ax,if_true]
 exact⟨b,es',clock',cz,(MapKept.heap_set g2).1,h0,au.mono (tc.blocks (M:=M)) l' _ hl⟩
theorem tA(hH:af M φ H w){t:TypeId}{ts:Array TypeId}{m k:V}{mv kv:Value}(oL:ts.toList.head?=some t)(hm:V.den (ad M φ H) φ H w m mv)(hk:V.den (ad M φ H) φ H w k kv){ty0:TypeId}
 (h:bW (kI P H.o t m k) K):bK M φ H w fr ((do let v <- Builtin.delete_ ts ty0 #[mv,kv];pure (Next.value v):Sem Next).run P w) K:=by
 have hg:=cq h
 clear h
 obtain⟨v',Δ,rd,h,hK⟩:=hg
 have HD:ts[0]? =some t:=by rw[<- Array.getElem?_toList, <- List.head?_eq_getElem?];exact oL
 unfold kI at h
 split at h
 ·rename_i kt vt kd id yU yV l ht ES zo
  rcases nD zo with⟨N3,N4,N5,rfl,ho,hr⟩|⟨rfl,hr,rfl⟩
  case inr=>cases hr
  injection hr with hr;injection hr with e1 e2;injection e2 with e2 e3;subst e1;subst e2;subst e3
  split at h
  ·rename_i hc
   obtain⟨c1,c2⟩:=hc
   have gm:D.den (ad M φ H) w kd kv:=dA hH k kd kv (fun id ag=>by rw[c1]at ag;cases ag) ES hk
   have yX:∀em,(Instr.checkKey em 10000 kt kv).run P w= .ok () w:=fun em=>kS em 100 kt kd c2 10000 (by decide) kv gm
   have wD:=l3 ht
   obtain⟨IB,cJ,rf⟩:=hm
   have cz:=rf (by rw[ho];rfl)
   have a8:=hH.ok id
   simp only[aq,ho]at a8
   obtain⟨b,es,clock,g1,g2,g0,g3⟩:=a8
   rw[<- cz]at g1;subst g1
   have kT:=MapKept.run_getObj_map (P:=P) g2
   split at h
   ·rename_i i k' x hf
    injection h with h;injection h with e1 e2;injection e2 with e2 e3;subst e1;subst e2;subst e3
    obtain⟨r',q1,q2⟩:=ec gm c2 g3 hf
    cases r' with
    |none=>exact q2.elim
    |some p=>
     obtain⟨j',u⟩:=p
     obtain⟨rfl,_,HC,e,h4,h5,h6⟩:=q2
     have e:(es.eraseIdxIfInBounds i).toList=es.toList.eraseIdx i:=by simp
     obtain⟨t1,t2⟩:=w8 (clock':=clock) (es':=es.eraseIdxIfInBounds i) (l':=l.eraseIdx i) hH cJ ho cz.symm g2 (rM g0) (by rw[e];exact g3.erase)
     refine⟨.value (.tuple #[]), .tuple #[],_,φ,_,_,_,hK, ?_, .inl rfl,t1,t2,⟨#[],rfl,rfl⟩,fun j hj=> .inl (by simp at hj;subst hj;exact cJ)⟩
     simp only[Builtin.delete_,HD,Sem.run_bind,run_underlying wD,Result.andThen_ok,kT,yX,q1,List.getElem?_toArray,List.getElem?_cons_zero,List.getElem?_cons_succ,MapKept.run_setObj_map _ g2,Sem.run_pure]
   ·rename_i hf
    injection h with h;injection h with e1 e2;injection e2 with e2 e3;subst e1;subst e2;subst e3
    obtain⟨r',q1,q2⟩:=ec gm c2 g3 hf
    cases r' with
    |some p=>exact q2.elim
    |none=>
     have hw:{w with heap:=w.heap.setIfInBounds b (.map es clock)}=w:=by
      have br:b<w.heap.size:=by
       rcases Nat.lt_or_ge b w.heap.size with h|h
       ·exact h
       ·simp[Array.getElem?_eq_none h]at g2
      have:w.heap.setIfInBounds b (.map es clock)=w.heap:=by
       apply Array.ext_getElem?
       intro j
       rw[Array.getElem?_setIfInBounds]
       by_cases hj:b=j
       ·subst hj;rw[if_pos rfl,if_pos br,g2]
       ·rw[if_neg hj]
      rw[this]
     refine⟨.value (.tuple #[]), .tuple #[],w,φ,_,_,_,hK, ?_, .inl rfl,by rw[jv];exact hH,by rw[jv];exact Trans.refl _ _ _,⟨#[],rfl,rfl⟩,by simp⟩
     simp only[Builtin.delete_,HD,Sem.run_bind,run_underlying wD,Result.andThen_ok,kT,yX,q1,List.getElem?_toArray,List.getElem?_cons_zero,List.getElem?_cons_succ,MapKept.run_setObj_map _ g2,Sem.run_pure,hw]
   ·cases h
  ·cases h
 ·cases h
theorem qb(H:Hp)(i j:Nat)(x y:aa):H.put [(i,x),(j,y)]=(H.put [(i,x)]).put [(j,y)]:=by rw[<- cN];rfl
theorem vJ(hH:af M φ H w)(de: ¬H.us fr){t:TypeId}{x:V}{xv:Value}(hx:V.den (ad M φ H) φ H w x xv)(h:bW (jX P H.o fr t x) K):
 bK M φ H w fr ((do let v <- Instr.range t xv;pure (Next.value v):Sem Next).run P w) K:=by
 have hg:=cq h
 clear h
 obtain⟨v,Δ,rd,h,hK⟩:=hg
 have new:∀ (eX:Place) (H1:Hp) (obj:aa) (ob:Obj),af M eX H1 w-> ¬H1.us fr->aq M (aV eX fr (.pointer (some ⟨w.heap.size,0,none⟩))) (H1.put [(fr,obj)]) (w.alloc ob) fr->
  af M (aV eX fr (.pointer (some ⟨w.heap.size,0,none⟩))) (H1.put [(fr,obj)]) (w.alloc ob)/\Trans eX H1 w (aV eX fr (.pointer (some ⟨w.heap.size,0,none⟩))) (H1.put [(fr,obj)]) (w.alloc ob):=by
  intro eX H1 obj ob h1 h2 h3
  have hv:∀b,cW (.pointer (some ⟨w.heap.size,0,none⟩))=some b->w.heap.size<=b/\b<(w.alloc ob).heap.size:=by
   intro b hb;simp[cW]at hb;subst hb;simp
  exact⟨eS h1 (bF w _) h2 _ _ hv h3,cY (bF w _) h2 _ _ fun b hb=>(hv b hb).1⟩
 have frozen:∀ (H1:Hp) (l:List (D×D)) (b:Nat) (es:Array MapEntry) (clock:Nat),af M φ H1 w-> ¬H1.us fr->w.heap[b]? =some (.map es clock)-> ¬ad M φ H1 b->e8 es clock->(∃l',l'.Perm l/\au (ad M φ H1) w l' es.toList)->
  aq M (aV φ fr (.pointer (some ⟨w.heap.size,0,none⟩))) (H1.put [(fr, .lS l none)]) (w.alloc (.mapIter (some b) clock #[] clock)) fr:=by
  intro H1 l b es clock h1 h2 h3 h4 h5 h6
  have ht:=cY (φ:=φ) (H:=H1) (w:=w) (w':=w.alloc (.mapIter (some b) clock #[] clock)) (bF w _) h2 (.lS l none) (.pointer (some ⟨w.heap.size,0,none⟩)) (fun b hb=>by simp[cW]at hb;omega)
  obtain⟨k1,k2⟩:=ht.blocks (M:=M) b (.inr ⟨es,clock,h3⟩) h4
  unfold aq
  simp only[aU,ax,if_true]
  refine⟨w.heap.size,rfl, .inr ⟨b,clock,#[],es,heap_alloc_new w _,k1.trans h3,k2,h5, ?_,fun k x e=>by cases e⟩⟩
  have e:(es.toList.filter fun e=> !(#[]:Array Nat).contains e.born)=es.toList:=List.filter_eq_self.2 (fun a _=>by simp)
  rw[e]
  obtain⟨l',h6,h7⟩:=h6
  exact⟨l',h6,au.mono (ht.blocks (M:=M)) l' _ h7⟩
 unfold jX at h
 split at h
 ·rename_i ht
  split at h
  ·rename_i s
   injection h with h;injection h with e1 e2;injection e2 with e2 e3;subst e1;subst e2;subst e3
   obtain⟨st,rfl,hs⟩:=hx
   have jO:st=⟨⟨s⟩⟩:=by obtain⟨⟨a⟩⟩:=st;simp at hs;subst hs;rfl
   subst jO
   obtain⟨n1,n2⟩:=new φ H (.oB s 0) (.stringIter ⟨⟨s⟩⟩ 0) hH de (by
    unfold aq
    simp only[aU,ax,if_true]
    exact⟨w.heap.size,rfl,heap_alloc_new w _⟩)
   exact⟨_,_,_,_,_,_,_,hK,by simp[Instr.range,run_underlying ht], .inl rfl,n1,n2,⟨rfl,by simp,fun _=>⟨w.heap.size,by simp,rfl⟩⟩,fun j hj=> .inr (by simpa using hj)⟩
  ·cases h
 ·rename_i ht
  split at h
  ·injection h with h;injection h with e1 e2;injection e2 with e2 e3;subst e1;subst e2;subst e3
   simp only[V.den,D.den]at hx;subst hx
   obtain⟨n1,n2⟩:=new φ H (.lS [] none) (.mapIter none 0 #[] 0) hH de (by
    unfold aq
    simp only[aU,ax,if_true]
    exact⟨w.heap.size,rfl, .inl ⟨heap_alloc_new w _,rfl,rfl⟩⟩)
   exact⟨_,_,_,_,_,_,_,hK,by simp[Instr.range,run_underlying ht], .inl rfl,n1,n2,⟨rfl,by simp,fun _=>⟨w.heap.size,by simp,rfl⟩⟩,fun j hj=> .inr (by simpa using hj)⟩
  ·rename_i ks vs
   injection h with h;injection h with e1 e2;injection e2 with e2 e3;subst e1;subst e2;subst e3
   obtain⟨b,es,clock,p,rfl,g2,g4,g0,gp,g3,g5⟩:=hx
   have kT:=MapKept.run_getObj_map (P:=P) g2
   obtain⟨l',g6,g7⟩:=l4 (by rw[rL g3 g5];exact gp) (ph g3 g5)
   obtain⟨n1,n2⟩:=new φ H _ _ hH de (frozen H (ks.zip vs) b es clock hH de g2 g4 g0 ⟨l',g6.perm,g7⟩)
   exact⟨_,_,_,_,_,_,_,hK,by simp[Instr.range,run_underlying ht,kT], .inl rfl,n1,n2,⟨rfl,by simp,fun _=>⟨w.heap.size,by simp,rfl⟩⟩,fun j hj=> .inr (by simpa using hj)⟩
  ·rename_i id
   obtain⟨IB,cJ,rf⟩:=hx
   have a8:=hH.ok id
   split at h
   ·rename_i kt vt l ho
    injection h with h;injection h with e1 e2;injection e2 with e2 e3;subst e1;subst e2;subst e3
    obtain⟨f1,f2⟩:=uv hH cJ ho
    have kP:(H.put [(id, .dT l)]).o id= .dT l:=by simp
    have ET:=f1.ok id
    simp only[aq,kP]at ET
    obtain⟨b,es,clock,l',g1,g2,g4,g0,gl,g3⟩:=j7 ET
    have cz:=rf (by rw[ho];rfl)
    rw[<- cz]at g1;subst g1
    have kT:=MapKept.run_getObj_map (P:=P) g2
    have EU: ¬ (H.put [(id, .dT l)]).us fr:=by
     rw[cO]
     rintro(h|h)
     ·exact de h
     ·exact de (h ▸ cJ)
    obtain⟨n1,n2⟩:=new φ _ _ _ f1 EU (frozen _ l b es clock f1 EU g2 g4 g0 ⟨l',gl.perm,g3⟩)
    refine⟨.value (.pointer (some ⟨w.heap.size,0,none⟩)), .pointer (some ⟨w.heap.size,0,none⟩),w.alloc (.mapIter (some b) clock #[] clock),_,_,_,_,hK,by simp[Instr.range,run_underlying ht,kT], .inl rfl,by rw[qb];exact n1,by rw[qb];exact f2.trans n2, ?_,fun j hj=> ?_⟩
    ·rw[qb]
     exact⟨rfl,by simp,fun _=>⟨w.heap.size,by simp,rfl⟩⟩
    ·simp at hj
     rcases hj with rfl|rfl
     ·exact .inl cJ
     ·exact .inr rfl
   ·rename_i l ho
    injection h with h;injection h with e1 e2;injection e2 with e2 e3;subst e1;subst e2;subst e3
    simp only[aq,ho]at a8
    obtain⟨b,es,clock,l',g1,g2,g4,g0,gl,g3⟩:=j7 a8
    have cz:=rf (by rw[ho];rfl)
    rw[<- cz]at g1;subst g1
    have kT:=MapKept.run_getObj_map (P:=P) g2
    obtain⟨n1,n2⟩:=new φ H _ _ hH de (frozen H l b es clock hH de g2 g4 g0 ⟨l',gl.perm,g3⟩)
    exact⟨_,_,_,_,_,_,_,hK,by simp[Instr.range,run_underlying ht,kT], .inl rfl,n1,n2,⟨rfl,by simp,fun _=>⟨w.heap.size,by simp,rfl⟩⟩,fun j hj=> .inr (by simpa using hj)⟩
   ·cases h
  ·cases h
 ·cases h
theorem uA(hH:af M φ H w){id b:Nat}{obj obj':aa}{x y:Obj}(cJ:H.us id)(ho:H.o id=obj)(hl:obj.live=true)(hr:obj.bc=true)(he:obj.aL=none)(vK:obj'.bc=true)(dN:obj'.aL=none)(cz:φ id= .pointer (some ⟨b,0,none⟩))(g2:w.heap[b]? =some x){w1:World}(IF:w1.os=w.os/\w1.tape=w.tape/\w1.output=w.output/\w1.heap=w.heap)
 (ny:Trans φ H w φ (H.put [(id,obj')]) {w1 with heap:=w.heap.setIfInBounds b y}->aq M φ (H.put [(id,obj')]) {w1 with heap:=w.heap.setIfInBounds b y} id):
 af M φ (H.put [(id,obj')]) {w1 with heap:=w.heap.setIfInBounds b y}/\Trans φ H w φ (H.put [(id,obj')]) {w1 with heap:=w.heap.setIfInBounds b y}:=by
 have w9:dh (· =b) w {w1 with heap:=w.heap.setIfInBounds b y}:=
  ⟨IF.1,IF.2.1,IF.2.2.1,by simp,fun j _ hj=>by
   show(w.heap.setIfInBounds b y)[j]? =_
   rw[Array.getElem?_setIfInBounds,if_neg (fun e=>hj e.symm)]⟩
 have oO:(H.o id).live=true:=by rw[ho];exact hl
 have xa:cW (φ id)=some b:=by rw[cz];rfl
 have tc:=dV (w:=w) cJ oO xa w9 obj' (by rw[ho,hr,vK]) (by rw[ho,he,dN])
 exact⟨fl hH cJ oO xa w9 _ (by rw[ho,hr,vK]) (by rw[ho,he,dN]) (ny tc),tc⟩
theorem rN(hH:af M φ H w){x:V}{xv:Value}{str:Bool}{ty:TypeId}(hx:V.den (ad M φ H) φ H w x xv)(h:bW (kG H.o x str) K):
 bK M φ H w fr ((do let v <- Instr.next xv str ty;pure (Next.value v):Sem Next).run P w) K:=by
 have hg:=cq h
 clear h
 obtain⟨v,Δ,rd,h,hK⟩:=hg
 unfold kG at h
 split at h
 ·rename_i id
  obtain⟨_,cJ,rf⟩:=hx
  split at h
  ·rename_i s pos ho
   split at h
   ·rename_i IG
    subst IG
    obtain⟨b0,q1,rfl⟩:=rf (by rw[ho];rfl)
    have a8:=hH.ok id
    simp only[aq,ho]at a8
    obtain⟨b,g1,g2⟩:=a8
    rw[q1]at g1;injection g1 with g1;injection g1 with g1;injection g1 with g1;subst g1
    have cK:(ByteArray.mk ⟨s⟩).size=s.length:=rfl
    split at h
    ·rename_i br
     injection h with h;injection h with e1 e2;injection e2 with e2 e3;subst e1;subst e2;subst e3
     obtain⟨n1,n2⟩:=uA (w1:=w) (y:= .stringIter ⟨⟨s⟩⟩ (pos+(Utf8.decode ⟨⟨s⟩⟩ pos).2)) (obj':= .oB s (pos+(Utf8.decode ⟨⟨s⟩⟩ pos).2)) hH cJ ho rfl rfl rfl rfl rfl q1 g2 ⟨rfl,rfl,rfl,rfl⟩ (fun _=>by
      unfold aq
      simp only[aU,ax,if_true]
      refine⟨b0,q1, ?_⟩
      have br:b0<w.heap.size:=by
       rcases Nat.lt_or_ge b0 w.heap.size with h|h
       ·exact h
       ·simp[Array.getElem?_eq_none h]at g2
      show(w.heap.setIfInBounds b0 _)[b0]? =_
      rw[Array.getElem?_setIfInBounds,if_pos rfl,if_pos br])
     refine⟨.value (.tuple #[.bool true,goInt pos, .int .i32 (Utf8.decode ⟨⟨s⟩⟩ pos).1]),_,_,φ,_,_,_,hK, ?_, .inl rfl,n1,n2,⟨_,rfl, .bool true,_,rfl,rfl,_,_,rfl,rfl,_,_,rfl,rfl,rfl⟩,fun j hj=> .inl (by simp at hj;subst hj;exact cJ)⟩
     simp only[Instr.next,getObj,setObj,Sem.run_bind,Sem.run,g2,Result.andThen,cK,br,if_true]
     rfl
    ·rename_i br
     injection h with h;injection h with e1 e2;injection e2 with e2 e3;subst e1;subst e2;subst e3
     refine bK.same hH (.tuple #[.bool false]) hK ?_ ⟨_,rfl, .bool false,_,rfl,rfl,rfl⟩
     simp only[Instr.next,getObj,Sem.run_bind,Sem.run,g2,Result.andThen,cK,br,if_false]
     rfl
   ·cases h
  ·cases h
 ·cases h
theorem rO{es:List MapEntry}(hn:(es.map (·.born)).Nodup)(seen:Array Nat){e:MapEntry}{i:Nat}(hi:(es.filter fun e=> !seen.contains e.born)[i]? =some e):
 (es.filter fun x=> !(seen.push e.born).contains x.born)=(es.filter fun e=> !seen.contains e.born).eraseIdx i:=by
 have e1:(es.filter fun x=> !(seen.push e.born).contains x.born)=(es.filter fun e=> !seen.contains e.born).filter (fun x=>x.born !=e.born):=by
  rw[List.filter_filter]
  refine List.filter_congr fun x _=> ?_
  simp only[Array.contains_push]
  cases h1:seen.contains x.born<;>cases h2:(x.born==e.born)<;>simp_all[bne]
 rw[e1]
 have LK:((es.filter fun e=> !seen.contains e.born).map (·.born)).Nodup:=hn.sublist (List.Sublist.map _ (List.filter_sublist ..))
 generalize (es.filter fun e=> !seen.contains e.born)=L at hi LK|-
 induction L generalizing i with
 |nil=>simp at hi
 |cons y L ih=>
  obtain⟨n1,n2⟩:=List.nodup_cons.1 LK
  cases i with
  |zero=>
   simp at hi;subst hi
   simp only[List.filter_cons,bne_self_eq_false,Bool.false_eq_true,if_false,List.eraseIdx_zero,List.tail_cons]
   refine List.filter_eq_self.2 fun x hx=> ?_
   simp only[bne_iff_ne,ne_eq]
   exact fun h=>n1 (by show y.born∈_;rw[<- h];exact List.mem_map.2 ⟨x,hx,rfl⟩)
  |succ i=>
   simp only[List.getElem?_cons_succ]at hi
   have hm:=List.mem_of_getElem? hi
   have e9:(y.born !=e.born)=true:=by
    simp only[bne_iff_ne,ne_eq]
    exact fun h=>n1 (by show y.born∈_;rw[h];exact List.mem_map.2 ⟨e,hm,rfl⟩)
   rw[List.filter_cons,e9,if_pos rfl,List.eraseIdx_cons_succ,ih hi n2]
theorem rP(hH:af M φ H w){x:V}{xv:Value}{ty:TypeId}(hx:V.den (ad M φ H) φ H w x xv){id:Nat}{l:List (D×D)}(h:kH H.o x=some (id,l))(hK:ur id l K):
 bK M φ H w fr ((do let v <- Instr.next xv false ty;pure (Next.value v):Sem Next).run P w) K:=by
 unfold kH at h
 split at h
 ·rename_i bX
  obtain⟨_,cJ,rf⟩:=hx
  split at h
  ·rename_i l' last ho
   simp only[Option.some.injEq,Prod.mk.injEq]at h
   obtain⟨rfl,rfl⟩:=h
   obtain⟨b0,q1,rfl⟩:=rf (by rw[ho];rfl)
   have a8:=hH.ok bX
   simp only[aq,ho]at a8
   obtain⟨b,g1,g2⟩:=a8
   rw[q1]at g1;injection g1 with g1;injection g1 with g1;injection g1 with g1;subst g1
   rcases g2 with⟨g2,rfl,_⟩|⟨m,since,seen,es,g2,g3,g4,g5,g6,_⟩
   ·refine bK.same hH (.tuple #[.bool false]) (hK.1 rfl) ?_ ⟨_,rfl, .bool false,_,rfl,rfl,rfl⟩
    simp only[Instr.next,getObj,Sem.run_bind,Sem.run,g2,Result.andThen]
    rfl
   ·have AQ:=next_test_false seen es since since g5.1 (Nat.le_refl _)
    have ku:(es.filter fun e=> !seen.contains e.born).toList=es.toList.filter fun e=> !seen.contains e.born:=by simp
    obtain⟨l1,gp,g6⟩:=g6
    rw[<- ku]at g6
    have nF:∀x∈(es.filter fun e=> !seen.contains e.born).toList,x.born<since:=fun x hx=>g5.1 x (by simp at hx|-;exact hx.1)
    have II:b0<w.heap.size:=by
     rcases Nat.lt_or_ge b0 w.heap.size with h|h
     ·exact h
     ·simp[Array.getElem?_eq_none h]at g2
    by_cases h0:(es.filter fun e=> !seen.contains e.born).size=0
    ·have hL:(es.filter fun e=> !seen.contains e.born)=#[]:=Array.eq_empty_of_size_eq_zero h0
     rw[hL]at g6
     have oO:l1=[]:=by cases l1 with|nil=>rfl|cons p l1=>obtain⟨e,es',h,_⟩:=g6;simp at h
     have EV:l'=[]:=by rw[oO]at gp;exact gp.symm.eq_nil
     refine bK.same hH (.tuple #[.bool false]) (hK.1 EV) ?_ ⟨_,rfl, .bool false,_,rfl,rfl,rfl⟩
     simp only[Instr.next,getObj,Sem.run_bind,Sem.run,g2,g3,Result.andThen,AQ,Bool.false_eq_true,if_false,hL]
     simp[choose,Sem.run,Question.forced]
    ·have dB:∃ (j:Nat) (e:MapEntry) (w1:World),(es.filter fun e=> !seen.contains e.born).toList[j]? =some e/\(w1.os=w.os/\w1.tape=w.tape/\w1.output=w.output/\w1.heap=w.heap)/\
      (Instr.next (.pointer (some ⟨b0,0,none⟩)) false ty).run P w= .ok (.tuple #[.bool true,e.key,e.val]) {w1 with heap:=w.heap.setIfInBounds b0 (.mapIter (some m) since (seen.push e.born) since)}:=by
      simp only[Instr.next,getObj,Sem.run_bind,Sem.run,g2,g3,Result.andThen,AQ,Bool.false_eq_true,if_false]
      generalize es.filter (fun e=> !seen.contains e.born)=L at nF h0|-
      have e1:L.filter (fun x=>decide (x.born<since))=L:=Array.filter_eq_self.2 (fun x hx=>by simpa using nF x (by simpa using hx))
      have e2:L.filter (fun x=>decide (x.born≥since))=#[]:=by
       rw[Array.filter_eq_empty_iff]
       intro x hx
       have:=nF x (by simpa using hx)
       simp
       omega
      have e9:L.isEmpty=false:=by simp[Array.isEmpty,h0]
      simp only[e1,e2,Array.append_empty,e9,Bool.false_eq_true,if_false,Array.empty_append,Array.size_map]
      have N6:∃ (j:Nat) (w1:World),j<L.size/\(w1.os=w.os/\w1.tape=w.tape/\w1.output=w.output/\w1.heap=w.heap)/\(choose (Question.mapNext L.size)).run P w= .ok j w1:=by
       by_cases hf:L.size<=1
       ·exact⟨0,w,by omega,⟨rfl,rfl,rfl,rfl⟩,by simp[choose,Sem.run,Question.forced,hf]⟩
       ·exact⟨_,w.drew,Nat.mod_lt _ (by omega),⟨rfl,rfl,rfl,rfl⟩,by
         simp only[choose,Sem.run,Question.forced,decide_eq_true_eq,hf,if_false,Question.cut]
         rfl⟩
      obtain⟨j,w1,hj,B0,dB⟩:=N6
      refine⟨j,L[j],w1,by simp[hj],B0, ?_⟩
      have N7:w1.heap[b0]? =some (.mapIter (some m) since seen since):=by rw[B0.2.2.2];exact g2
      simp only[dB,Array.getElem?_map,Array.getElem?_eq_getElem hj,Option.map_some,Sem.run_bind,setObj,Sem.run,N7,g2,Result.andThen,B0.2.2.2]
      rfl
     obtain⟨j,e,w1,HE,B0,dB⟩:=dB
     obtain⟨⟨k,x⟩,Hy,rh,yY⟩:=g6.get HE
     obtain⟨j2,zu,jG⟩:=List.getElem_of_mem (gp.mem_iff.1 (List.mem_of_getElem? Hy))
     have jG:l'[j2]? =some (k,x):=by rw[List.getElem?_eq_getElem zu,jG]
     have N8:(l1.eraseIdx j).Perm (l'.eraseIdx j2):=by
      have AR:∀ {L:List (D×D)} {i:Nat} {n:D×D},L[i]? =some n->L.Perm (n::L.eraseIdx i):=by
       intro L i n h
       obtain⟨hi,e⟩:=List.getElem?_eq_some_iff.1 h
       have AL:L=L.take i++n::L.drop (i+1):=by rw[<- e,List.getElem_cons_drop,List.take_append_drop]
       rw[List.eraseIdx_eq_take_drop_succ]
       conv=>lhs;rw[AL]
       exact List.perm_middle
      exact List.Perm.cons_inv (((AR Hy).symm.trans gp).trans (AR jG))
     have wC:e∈es.toList:=by
      have:=List.mem_of_getElem? HE
      rw[ku]at this
      exact(List.mem_filter.1 this).1
     obtain⟨n1,n2⟩:=uA (w1:=w1) (y:= .mapIter (some m) since (seen.push e.born) since) (obj':= .lS (l'.eraseIdx j2) (some (k,x))) hH cJ ho rfl rfl rfl rfl rfl q1 g2 B0 (fun ht=>by
      unfold aq
      simp only[aU,ax,if_true]
      obtain⟨k1,k2⟩:=ht.blocks (M:=M) m (.inr ⟨es,since,g3⟩) g4
      refine⟨b0,q1, .inr ⟨m,since,seen.push e.born,es, ?_,k1.trans g3,k2,g5, ?_,fun k' x' IJ=> ?_⟩⟩
      ·show(w.heap.setIfInBounds b0 _)[b0]? =_
       rw[Array.getElem?_setIfInBounds,if_pos rfl,if_pos II]
      ·rw[ku]at HE g6
       rw[rO g5.2 seen HE]
       exact⟨_,N8,au.mono (ht.blocks (M:=M)) _ _ g6.erase⟩
      ·injection IJ with IJ;injection IJ with h1 h2;subst h1;subst h2
       exact⟨e,wC,by simp,D.ao (ht.blocks (M:=M)) _ _ rh,D.ao (ht.blocks (M:=M)) _ _ yY⟩)
     refine⟨.value (.tuple #[.bool true,e.key,e.val]),_,_,φ,_,_,_,hK.2 j2 k x jG, ?_, .inl rfl,n1,n2,⟨_,rfl, .bool true,_,rfl,rfl,e.key,_,rfl,D.ao (n2.blocks (M:=M)) _ _ rh,e.val,_,rfl,D.ao (n2.blocks (M:=M)) _ _ yY,rfl⟩,fun j hj=> .inl (by simp at hj;subst hj;exact cJ)⟩
     simp only[Sem.run_bind,dB,Result.andThen_ok,Sem.run_pure]
  ·cases h
 ·cases h
theorem vL(hH:af M φ H w){x:V}{xv:Value}(hx:V.den (ad M φ H) φ H w x xv)(h:bW (jY H.o x) K):
 bK M φ H w fr ((do let v <- Instr.entry xv;pure (Next.value v):Sem Next).run P w) K:=by
 have hg:=cq h
 clear h
 obtain⟨v,Δ,rd,h,hK⟩:=hg
 unfold jY at h
 split at h
 ·rename_i id
  obtain⟨_,cJ,rf⟩:=hx
  split at h
  ·rename_i l k x ho
   injection h with h;injection h with e1 e2;injection e2 with e2 e3;subst e1;subst e2;subst e3
   obtain⟨b0,q1,rfl⟩:=rf (by rw[ho];rfl)
   have a8:=hH.ok id
   simp only[aq,ho]at a8
   obtain⟨b,g1,g2⟩:=a8
   rw[q1]at g1;injection g1 with g1;injection g1 with g1;injection g1 with g1;subst g1
   rcases g2 with⟨_,_,g2⟩|⟨m,since,seen,es,g2,g3,g4,g5,g6,g7⟩
   ·cases g2
   ·obtain⟨e,h1,h2,h3,h4⟩:=g7 k x rfl
    have hf:es.find? (·.born==e.born)=some e:=by rw[<- Array.find?_toList];exact find_born e es.toList g5.2 h1
    refine bK.same hH (.tuple #[e.key,e.val]) hK ?_ ⟨_,rfl,e.key,_,rfl,h3,e.val,_,rfl,h4,rfl⟩
    simp only[Instr.entry,getObj,Sem.run_bind,Sem.run,g2,g3,Result.andThen,h2,bne_self_eq_false,Bool.false_eq_true,if_false,hf]
    rfl
  ·cases h
 ·cases h
theorem jP(hH:af M φ H w){t:TypeId}{m k v:V}{mv kv vv:Value}(hm:V.den (ad M φ H) φ H w m mv)(hk:V.den (ad M φ H) φ H w k kv)(hv:V.den (ad M φ H) φ H w v vv)
 (h:bW (fX P H.o t m k v) K):bK M φ H w fr ((do Instr.mapUpdate t mv kv vv;pure Next.skip:Sem Next).run P w) K:=by
 have hg:=cq h
 clear h
 obtain⟨v',Δ,rd,h,hK⟩:=hg
 unfold fX at h
 split at h
 ·rename_i kt vt kd vd id yU yV l ht ES Ir zo
  rcases nD zo with⟨N3,N4,N5,rfl,ho,hr⟩|⟨rfl,hr,rfl⟩
  case inr=>cases hr
  injection hr with hr;injection hr with e1 e2;injection e2 with e2 e3;subst e1;subst e2;subst e3
  split at h
  ·rename_i hc
   obtain⟨c1,c2,c3,c4⟩:=hc
   have gm:D.den (ad M φ H) w kd kv:=dA hH k kd kv (fun id ag=>by rw[c1]at ag;cases ag) ES hk
   have yX:∀em,(Instr.checkKey em 10000 kt kv).run P w= .ok () w:=fun em=>kS em 100 kt kd c2 10000 (by decide) kv gm
   have wD:=l3 ht
   ·obtain⟨IB,cJ,rf⟩:=hm
    have cz:=rf (by rw[ho];rfl)
    have a8:=hH.ok id
    simp only[aq,ho]at a8
    obtain⟨b,es,clock,g1,g2,g0,g3⟩:=a8
    rw[<- cz]at g1;subst g1
    have kT:=MapKept.run_getObj_map (P:=P) g2
    have iN:id∉v.ids:=fun hm=>by have:=List.all_eq_true.1 c4 id hm;simp at this
    obtain⟨f1,f2,f3,f4,f5⟩:=cj hH v.ids (b9 v _ hv)
    have kP:=(f4 id iN).trans ho
    have AS:=dA f1 v vd vv f3 Ir (V.ao f2 _ _ hv)
    have xb:=D.ao (f2.blocks (M:=M)) kd kv gm
    have LL:=au.mono (f2.blocks (M:=M)) l _ g3
    have zq:(b8 H.o v.ids).map (·.1)=v.ids:=by rw[il];simp[Function.comp_def]
    have turn:∀ (l':List (D×D)) (es':Array MapEntry) (clock':Nat),e8 es' clock'->au (ad M φ (H.put (b8 H.o v.ids))) w l' es'.toList->K (.bJ []) (b8 H.o v.ids++[(id, .map yU yV l')]) (id::v.ids)->
     (Instr.mapUpdate t (.map (some b)) kv vv).run P w= .ok () {w with heap:=w.heap.setIfInBounds b (.map es' clock')}->
     bK M φ H w fr ((do Instr.mapUpdate t (.map (some b)) kv vv;pure Next.skip:Sem Next).run P w) K:=by
     intro l' es' clock' N9 hl hK hr
     have w9:dh (· =b) w {w with heap:=w.heap.setIfInBounds b (.map es' clock')}:=
      ⟨rfl,rfl,rfl,by simp,fun j _ hj=>(MapKept.heap_set g2).2 j hj⟩
     have oO:((H.put (b8 H.o v.ids)).o id).live=true:=by rw[kP];rfl
     have xa:cW (φ id)=some b:=by rw[<- cz];rfl
     have tc:=dV (w:=w) (w':={w with heap:=w.heap.setIfInBounds b (.map es' clock')}) ((f5 id).2 cJ) oO xa w9 (.map yU yV l') (by rw[kP];rfl) (by rw[kP];rfl)
     refine⟨.skip,undef,_,φ,_,_,_,hK,by simp only[Sem.run_bind,hr,Result.andThen_ok];rfl, .inr ⟨rfl,rfl⟩, ?_, ?_, ?_,fun j hj=> .inl ?_⟩
     ·rw[cN]
      refine fl f1 ((f5 id).2 cJ) oO xa w9 _ (by rw[kP];rfl) (by rw[kP];rfl) ?_
      unfold aq
      simp only[aU,ax,if_true]
      exact⟨b,es',clock',cz.symm,(MapKept.heap_set g2).1,N9,au.mono (tc.blocks (M:=M)) l' _ hl⟩
     ·rw[cN];exact f2.trans tc
     ·exact⟨#[],rfl,rfl⟩
     ·rw[List.map_append,zq]at hj
      simp only[List.map_cons,List.map_nil,List.mem_append,List.mem_singleton]at hj
      rcases hj with hj|rfl
      ·exact b9 v _ hv j hj
      ·exact cJ
    split at h
    ·rename_i i k' x hf
     split at h
     ·rename_i xc
      injection h with h;injection h with e1 e2;injection e2 with e2 e3;subst e1;subst e2;subst e3
      have Oa:=D.cP _ _ xc
      subst Oa
      obtain⟨r',q1,q2⟩:=ec gm c2 g3 hf
      cases r' with
      |none=>exact q2.elim
      |some p=>
       obtain⟨j',u⟩:=p
       obtain⟨rfl,_,HC,e,h4,h5,h6⟩:=q2
       rw[Nat.sub_zero]at h4
       have Ob:=tu c3 h6 gm
       have Oc:es[i]? =some e:=by simpa using h4
       refine turn _ (es.modify i fun e=>{e with key:=kv,val:=vv}) clock (qa g0 h4 rfl) ?_ hK ?_
       ·rw[eT _ h4]
        exact au.set LL xb AS
       ·have hs:=vF (P:=P) (w':=w) c3 gm
        simp only[Instr.mapUpdate,Sem.run_bind,run_underlying wD,Result.andThen_ok,kT,yX,q1,Oc,Option.map_some,Option.getD_some,Ob,hs]
        exact MapKept.run_setObj_map _ g2
     ·cases h
    ·rename_i hf
     injection h with h;injection h with e1 e2;injection e2 with e2 e3;subst e1;subst e2;subst e3
     obtain⟨r',q1,q2⟩:=ec gm c2 g3 hf
     cases r' with
     |some p=>exact q2.elim
     |none=>
      refine turn _ (es.push {key:=kv,val:=vv,born:=clock}) (clock+1) (tz g0 rfl) ?_ hK ?_
      ·rw[Array.toList_push]
       exact au.push LL xb AS
      ·simp only[Instr.mapUpdate,Sem.run_bind,run_underlying wD,Result.andThen_ok,kT,yX,q1]
       exact MapKept.run_setObj_map _ g2
    ·cases h
  ·cases h
 ·cases h
end
end Go.Proofs.YtbmnikpknlkbkaaGreat
namespace Go.Proofs.YtbmnikpknlkbkaaGreat
section
variable {P:Program}(w:World)(d:Nat){t:TypeId}
theorem EW{ms}(ht:P.underlying t=some (.interface ms)):(Op.equalIn (d+1) t .nilIface .nilIface).run P w= .ok true w:=by simp[Op.equalIn,run_underlying ht]
theorem AU{ms}(ht:P.underlying t=some (.interface ms))(u:TypeId)(v:Value):(Op.equalIn (d+1) t (.iface u v) .nilIface).run P w= .ok false w:=by simp[Op.equalIn,run_underlying ht]
theorem AV{ms}(ht:P.underlying t=some (.interface ms))(u:TypeId)(v:Value):(Op.equalIn (d+1) t .nilIface (.iface u v)).run P w= .ok false w:=by simp[Op.equalIn,run_underlying ht]
theorem EX{ms}(ht:P.underlying t=some (.interface ms)){a b:TypeId}{x y:D}{B:Nat->Prop}{w2:World}{u v:Value}{r:Bool}(h:H9 P a b x y=some r)(hx:D.den B w2 x u)(hy:D.den B w2 y v):(Op.equalIn (d+2) t (.iface a u) (.iface b v)).run P w= .ok r w:=by
 unfold H9 at h
 by_cases e:a=b
 ·subst e
  rw[if_pos rfl]at h
  split at h
  ·rename_i i k hi hk
   split at h
   ·rename_i hc
    split at h
    ·split at h
     ·rename_i IA
      injection h with h;subst h
      simp only[D.den]at hx hy
      subst hx;subst hy;subst IA
      simp[Op.equalIn,run_underlying ht,run_underlying hk,typeInfo,hi,hc]
     ·cases h
    ·cases h
   ·cases h
  ·cases h
 ·rw[if_neg e]at h
  injection h with h;subst h
  simp[Op.equalIn,run_underlying ht,e]
theorem EY{a b c}(ht:P.underlying t=some (.func a b c)):(Op.equalIn (d+1) t .nilFunc .nilFunc).run P w= .ok true w:=by simp[Op.equalIn,run_underlying ht]
theorem EZ{a b c}(ht:P.underlying t=some (.func a b c))(f x y):(Op.equalIn (d+1) t (.func f x y) .nilFunc).run P w= .ok false w:=by simp[Op.equalIn,run_underlying ht]
theorem E0{a b}(ht:P.underlying t=some (.map a b)):(Op.equalIn (d+1) t (.map none) (.map none)).run P w= .ok true w:=by simp[Op.equalIn,run_underlying ht]
theorem xd{a b}(ht:P.underlying t=some (.map a b))(x):(Op.equalIn (d+1) t (.map (some x)) (.map none)).run P w= .ok false w:=by simp[Op.equalIn,run_underlying ht]
theorem E1{e}(ht:P.underlying t=some (.pointer e)):(Op.equalIn (d+1) t (.pointer none) (.pointer none)).run P w= .ok true w:=by simp[Op.equalIn,run_underlying ht]
theorem AW{e}(ht:P.underlying t=some (.pointer e))(a):(Op.equalIn (d+1) t (.pointer (some a)) (.pointer none)).run P w= .ok false w:=by simp[Op.equalIn,run_underlying ht]
theorem E2{e}(ht:P.underlying t=some (.slice e))(b n c):(Op.equalIn (d+1) t (.slice b n c) (.slice none 0 0)).run P w= .ok b.isNone w:=by cases b<;>simp[Op.equalIn,run_underlying ht]
end
section
variable {P:Program}{M:Nat->Prop}{φ:Place}{H:Hp}{w w':World}{fr:Nat}{K:V->List (Nat×aa)->List Nat->Prop}{B:Nat->Prop}
theorem tB(hH:af M φ H w){x:V}{xv:Value}{es:List D}(h:dr H.o x=some es)(hx:V.den (ad M φ H) φ H w x xv):∃base n c,xv= .slice base n c/\(es≠[]->base≠none):=by
 have hd:∃x',dk H.o x=some x'/\x'= .sl es:=by
  unfold dr at h
  split at h
  ·rename_i es' hd;injection h with h;subst h;exact⟨_,hd,rfl⟩
  ·cases h
 obtain⟨x',hd,rfl⟩:=hd
 obtain⟨f1,f2,f3,f4,f5⟩:=cj hH x.ids (b9 x _ hx)
 have:=dA f1 x (.sl es) xv f3 hd (V.ao f2 _ _ hx)
 obtain⟨base,len,cap,rfl,h1,h2,h3,_⟩:=this
 refine⟨base,len,cap,rfl,fun e9 hb=> ?_⟩
 have:=h3 hb
 have:es.length=0:=by omega
 exact e9 (List.length_eq_zero_iff.1 this)
def xe:Value->Bool
 | .int _ _| .float _ _| .complex _ _ _| .string _=>false
 |_=>true
theorem uB(hH:af M φ H w){t:TypeId}{p q:Operand}{x y v:V}{xv yv:Value}(hx:V.den (ad M φ H) φ H w x xv)(hy:V.den (ad M φ H) φ H w y yv)(h:wM P H.o t (isConst p||isConst q) x y=some v):
 ∃r:Bool,(v= .d (.bool r)\/v= .dy)/\xe xv=true/\(∀op,(eqGuard op t p q xv yv).run P w= .ok () w)/\(Op.equal t xv yv).run P w= .ok r w:=by
 have dE:(∀a b, ¬ (xv= .agg a/\yv= .agg b))-> ¬ (xv= .nilIface/\yv= .nilIface)->∀op,(eqGuard op t p q xv yv).run P w= .ok () w:=by
  intro h1 h2 op
  unfold eqGuard
  cases op<;>cases xv<;>cases yv<;>first
   |(simp;done)
   |(exact absurd ⟨rfl,rfl⟩ (h1 _ _))
   |(exact absurd ⟨rfl,rfl⟩ h2)
 unfold wM at h
 cases ht:P.underlying t with
 |none=>simp[ht]at h
 |some td=>
  simp only[ht]at h
  have eq:∀r,(∀d,(Op.equalIn (d+1) t xv yv).run P w= .ok r w)->(Op.equal t xv yv).run P w= .ok r w:=fun r h=>h 9999
  cases td<;>simp only[reduceCtorEq]at h
  case interface ms=>
   split at h
   ·split at h
    ·rename_i hc
     injection h with h;subst h
     simp only[V.den,D.den]at hx hy;subst hx;subst hy
     refine⟨true, .inl rfl,rfl,fun op=> ?_,eq _ (fun d=>by rw[EW w d ht])⟩
     simp only[Bool.or_eq_true]at hc
     unfold eqGuard
     rcases hc with hc|hc
     ·cases p<;>simp only[isConst,Bool.false_eq_true]at hc
      cases op<;>simp
     ·cases q<;>simp only[isConst,Bool.false_eq_true]at hc
      cases op<;>simp
    ·cases h
   ·injection h with h;subst h
    obtain⟨u,rfl,_⟩:=hx
    simp only[V.den,D.den]at hy;subst hy
    exact⟨false, .inl rfl,rfl,dE (fun _ _ h=>by cases h.1) (by rintro⟨h1,h2⟩;first|(cases h1;done)|(cases h2;done)),eq _ (fun d=>by rw[AU w d ht])⟩
   ·injection h with h;subst h
    obtain⟨u,rfl,_⟩:=hx
    simp only[V.den,D.den]at hy;subst hy
    exact⟨false, .inl rfl,rfl,dE (fun _ _ h=>by cases h.1) (by rintro⟨h1,h2⟩;first|(cases h1;done)|(cases h2;done)),eq _ (fun d=>by rw[AU w d ht])⟩
   ·injection h with h;subst h
    obtain⟨u,rfl,_⟩:=hy
    simp only[V.den,D.den]at hx;subst hx
    exact⟨false, .inl rfl,rfl,dE (fun _ _ h=>by cases h.1) (by rintro⟨h1,h2⟩;first|(cases h1;done)|(cases h2;done)),eq _ (fun d=>by rw[AV w d ht])⟩
   ·injection h with h;subst h
    obtain⟨u,rfl,_⟩:=hy
    simp only[V.den,D.den]at hx;subst hx
    exact⟨false, .inl rfl,rfl,dE (fun _ _ h=>by cases h.1) (by rintro⟨h1,h2⟩;first|(cases h1;done)|(cases h2;done)),eq _ (fun d=>by rw[AV w d ht])⟩
   ·rename_i a x b y
    simp only[Option.map_eq_some_iff]at h
    obtain⟨r,h1,rfl⟩:=h
    obtain⟨u,rfl,g1⟩:=hx
    obtain⟨u2,rfl,g2⟩:=hy
    exact⟨r, .inl rfl,rfl,dE (fun _ _ h=>by cases h.1) (by rintro⟨h1,h2⟩;first|(cases h1;done)|(cases h2;done)),EX w 9998 ht h1 g1 g2⟩
   ·cases h
  case func a b c=>
   split at h
   ·injection h with h;subst h
    simp only[V.den,D.den]at hx hy;subst hx;subst hy
    exact⟨true, .inl rfl,rfl,dE (fun _ _ h=>by cases h.1) (by rintro⟨h1,h2⟩;first|(cases h1;done)|(cases h2;done)),eq _ (fun d=>by rw[EY w d ht])⟩
   ·injection h with h;subst h
    obtain⟨f,c',rfl,_⟩:=hx
    simp only[V.den,D.den]at hy;subst hy
    exact⟨false, .inl rfl,rfl,dE (fun _ _ h=>by cases h.1) (by rintro⟨h1,h2⟩;first|(cases h1;done)|(cases h2;done)),eq _ (fun d=>by rw[EZ w d ht])⟩
   ·cases h
  case map a b=>
   split at h
   ·simp only[V.den,D.den]at hy;subst hy
    unfold lV at h
    split at h
    ·injection h with h;subst h
     simp only[V.den,D.den]at hx;subst hx
     exact⟨true, .inl rfl,rfl,dE (fun _ _ h=>by cases h.1) (by rintro⟨h1,h2⟩;first|(cases h1;done)|(cases h2;done)),eq _ (fun d=>by rw[E0 w d ht])⟩
    ·injection h with h;subst h
     obtain⟨bk,es,clock,_,rfl,_⟩:=hx
     exact⟨false, .inl rfl,rfl,dE (fun _ _ h=>by cases h.1) (by rintro⟨h1,h2⟩;first|(cases h1;done)|(cases h2;done)),eq _ (fun d=>by rw[xd w d ht])⟩
    ·rename_i id
     split at h
     ·rename_i ho
      injection h with h;subst h
      obtain⟨_,_,h3⟩:=hx
      have cz:=h3 (by rw[ho];rfl)
      have a8:=hH.ok id
      simp only[aq,ho]at a8
      obtain⟨bk,es,clock,g1,_⟩:=a8
      rw[<- cz]at g1;subst g1
      exact⟨false, .inl rfl,rfl,dE (fun _ _ h=>by cases h.1) (by rintro⟨h1,h2⟩;first|(cases h1;done)|(cases h2;done)),eq _ (fun d=>by rw[xd w d ht])⟩
     ·rename_i ho
      injection h with h;subst h
      obtain⟨_,_,h3⟩:=hx
      have cz:=h3 (by rw[ho];rfl)
      have a8:=hH.ok id
      simp only[aq,ho]at a8
      obtain⟨bk,es,clock,_,g1,_⟩:=a8
      rw[<- cz]at g1;subst g1
      exact⟨false, .inl rfl,rfl,dE (fun _ _ h=>by cases h.1) (by rintro⟨h1,h2⟩;first|(cases h1;done)|(cases h2;done)),eq _ (fun d=>by rw[xd w d ht])⟩
     ·cases h
    ·cases h
   ·cases h
  case pointer e=>
   split at h
   ·simp only[V.den,D.den]at hy;subst hy
    unfold lW at h
    split at h
    ·injection h with h;subst h
     simp only[V.den,D.den]at hx;subst hx
     exact⟨true, .inl rfl,rfl,dE (fun _ _ h=>by cases h.1) (by rintro⟨h1,h2⟩;first|(cases h1;done)|(cases h2;done)),eq _ (fun d=>by rw[E1 w d ht])⟩
    ·split at h
     ·rename_i hr
      injection h with h;subst h
      obtain⟨_,_,h3⟩:=hx
      obtain⟨bk,_,rfl⟩:=h3 hr
      exact⟨false, .inl rfl,rfl,dE (fun _ _ h=>by cases h.1) (by rintro⟨h1,h2⟩;first|(cases h1;done)|(cases h2;done)),eq _ (fun d=>by rw[AW w d ht])⟩
     ·cases h
    ·injection h with h;subst h
     obtain⟨a,ev,_,rfl,_⟩:=hx
     exact⟨false, .inl rfl,rfl,dE (fun _ _ h=>by cases h.1) (by rintro⟨h1,h2⟩;first|(cases h1;done)|(cases h2;done)),eq _ (fun d=>by rw[AW w d ht])⟩
    ·cases h
   ·cases h
  case slice e=>
   split at h
   ·simp only[V.den]at hy;subst hy
    unfold rp at h
    split at h
    ·injection h with h;subst h
     simp only[V.den]at hx;subst hx
     exact⟨true, .inl rfl,rfl,dE (fun _ _ h=>by cases h.1) (by rintro⟨h1,h2⟩;first|(cases h1;done)|(cases h2;done)),eq _ (fun d=>by rw[E2 w d ht];rfl)⟩
    ·split at h
     ·rename_i es hl
      obtain⟨base,n,c,rfl,hb⟩:=tB hH hl hx
      refine⟨base.isNone, ?_,rfl,dE (fun _ _ h=>by cases h.1) (by rintro⟨h1,h2⟩;first|(cases h1;done)|(cases h2;done)),eq _ ?_⟩
      ·split at h
       ·injection h with h;exact .inr h.symm
       ·rename_i e9
        injection h with h
        have:=hb e9
        cases base with
        |none=>exact absurd rfl this
        |some a=>exact .inl h.symm
      ·intro d
       rw[E2 w d ht]
     ·cases h
   ·cases h
  case struct fs=>
   split at h
   ·split at h
    ·rename_i hg
     simp only[Option.map_eq_some_iff]at h
     obtain⟨r,h1,rfl⟩:=h
     obtain⟨g1,g2⟩:=wX h1 hg (ad M φ H) w xv yv hx hy
     exact⟨r, .inl rfl,by obtain⟨_,rfl,_⟩:=hx;rfl,fun op=>g2 op p q,g1⟩
    ·cases h
   ·cases h
  case array n e=>
   split at h
   ·split at h
    ·rename_i hg
     simp only[Option.map_eq_some_iff]at h
     obtain⟨r,h1,rfl⟩:=h
     obtain⟨g1,g2⟩:=wX h1 hg (ad M φ H) w xv yv hx hy
     exact⟨r, .inl rfl,by obtain⟨_,rfl,_⟩:=hx;rfl,fun op=>g2 op p q,g1⟩
    ·cases h
   ·cases h
theorem zw(hH:af M φ H w){op:BinOp}{t:TypeId}{p q:Operand}{x y:V}{xv yv:Value}(hx:V.den (ad M φ H) φ H w x xv)(hy:V.den (ad M φ H) φ H w y yv)
 (h:bW (lX P H.o op t (isConst p||isConst q) x y) K):
 bK M φ H w fr ((do let y <- (do eqGuard op t p q xv yv;binOp op t xv yv);pure (Next.value y):Sem Next).run P w) K:=by
 have hg:=cq h
 clear h
 obtain⟨v,Δ,rd,h,hK⟩:=hg
 unfold lX at h
 split at h
 ·simp only[Option.map_eq_some_iff]at h
  obtain⟨u,h1,h2⟩:=h
  injection h2 with e1 e2;injection e2 with e2 e3;subst e1;subst e2;subst e3
  obtain⟨r,hv,IK,IL,he⟩:=uB (p:=p) (q:=q) hH hx hy h1
  refine bK.plain hH (.bool r) hK ?_ ?_
  ·have hb:(binOp .eql t xv yv).run P w= .ok (.bool r) w:=by
    unfold binOp
    cases xv<;>first|(simp[xe]at IK;done)|(cases yv<;>simp[he])
   simp[IL,hb]
  ·rcases hv with rfl|rfl
   ·rfl
   ·exact⟨r,rfl⟩
 ·simp only[Option.map_eq_some_iff,Option.bind_eq_some_iff]at h
  obtain⟨u',⟨u,h1,h3⟩,h2⟩:=h
  injection h2 with e1 e2;injection e2 with e2 e3;subst e1;subst e2;subst e3
  obtain⟨r,hv,IK,IL,he⟩:=uB (p:=p) (q:=q) hH hx hy h1
  refine bK.plain hH (.bool !r) hK ?_ ?_
  ·have hb:(binOp .neq t xv yv).run P w= .ok (.bool !r) w:=by
    unfold binOp
    cases xv<;>first|(simp[xe]at IK;done)|(cases yv<;>simp[he])
   simp[IL,hb]
  ·rcases hv with rfl|rfl
   ·simp only[y8,Option.some.injEq]at h3;subst h3;rfl
   ·simp only[y8,Option.some.injEq]at h3;subst h3;exact⟨!r,rfl⟩
 ·cases h
end
end Go.Proofs.YtbmnikpknlkbkaaGreat
namespace Go.Proofs.YtbmnikpknlkbkaaGreat
section
variable {P:Program}{M:Nat->Prop}{φ:Place}{H:Hp}{w w':World}{fr:Nat}{K:V->List (Nat×aa)->List Nat->Prop}
theorem qc(hH:af M φ H w){o:Oper}{a:Act}{q:Operand}(ho:o.op= .nilCheck q){x:V}(hx:V.den (ad M φ H) φ H w x (a.eval q))
 (h:gM H.o x fun v=>K v [] []):bK M φ H w fr ((execOp a.eval o).run P w) K:=by
 unfold gM at h
 have gO:=hx
 split at h
 ·rename_i id off
  obtain⟨h1,hK⟩:=h
  obtain⟨_,hu,hp⟩:=gO
  obtain⟨b,cz,hv⟩:=hp h1
  exact bK.same hH _ hK (by simp[execOp,ho,hv]) (hv ▸ hx)
 ·rename_i cs off
  obtain⟨b,ev,_,hv,_⟩:=gO
  exact bK.same hH _ h (by simp[execOp,ho,hv]) (hv ▸ hx)
 ·rename_i f first cap
  obtain⟨b,c,hv,_⟩:=gO
  exact bK.same hH _ h (by simp[execOp,ho,hv]) (hv ▸ hx)
 ·exact h.elim
theorem vM{t:TypeId}{k:IntKind}(h:bB P t=some k):P.underlying t=some (.int k):=by
 unfold bB at h
 cases hd:P.underlying t with
 |none=>simp[hd]at h
 |some d=>cases d<;>simp_all
theorem kU(s:S)(a:Act)(cA:∀i,V.den (ad M φ H) φ H w (s.env i) (a.tmps.getD i undef))(xs:Array Operand):
 V.ak (ad M φ H) φ H w (xs.toList.map s.ev) (xs.map a.eval).toList:=by
 simpa using fZ s a cA xs.toList
theorem pj(hH:af M φ H w){s:S}(gI:s.o=H.o){a:Act}(cA:∀i,V.den (ad M φ H) φ H w (s.env i) (a.tmps.getD i undef))(de: ¬H.us fr){o:Oper}{op:Op}(cw:o.op=op)(h:AJ P s fr op K):
 bK M φ H w fr ((execOp a.eval o).run P w) K:=by
 have cB:=iQ (M:=M) (φ:=φ) (H:=H) (w:=w) s a cA
 cases op<;>simp only[AJ]at h<;>try (exact h.elim)
 case move x=>exact bK.same hH _ h (by simp[execOp,cw]) (cB x)
 case assign x=>exact bK.same hH _ h (by simp[execOp,cw]) (cB x)
 case pick c x y=>
  have:=wQ (P:=P) (fr:=fr) hH (cB c) (cB x) (cB y) h
  simpa[execOp,cw]using this
 case alloc t=>
  have:=vr (P:=P) (fr:=fr) hH de h
  simpa[execOp,cw]using this
 case box t x=>
  have:=zj (P:=P) (fr:=fr) (t:=t) hH de (cB x) h
  simpa[execOp,cw]using this
 case build t parts=>
  have:=vw (P:=P) (fr:=fr) hH cA h
  simpa[execOp,cw]using this
 case buildSlice t len parts=>
  rw[gI]at h
  have:=nA (P:=P) (fr:=fr) hH de cA h
  simpa[execOp,cw]using this
 case load t x=>
  rw[gI]at h
  have:=wP (P:=P) (fr:=fr) hH (cB x) h
  simpa[execOp,cw]using this
 case store t x y=>
  rw[gI]at h
  have:=vy (P:=P) (fr:=fr) hH (cB x) (cB y) h
  simpa[execOp,cw]using this
 case nilCheck x=>
  rw[gI]at h
  exact qc hH cw (cB x) h
 case binOp op t x y yt=>
  rw[gI]at h
  rcases h with h|h
  ·have:=zh (P:=P) (fr:=fr) (p:=x) (q:=y) hH (cB x) (cB y) h
   simpa[execOp,cw]using this
  ·have:=zw (P:=P) (fr:=fr) (p:=x) (q:=y) hH (cB x) (cB y) h
   simpa[execOp,cw]using this
 case unOp op t x=>
  rcases h with h|⟨rfl,hx,hK⟩
  ·have:=BW (P:=P) (fr:=fr) hH (cB x) h
   simpa[execOp,cw]using this
  ·have hv:=cB x
   rw[hx]at hv
   obtain⟨b,hb⟩:=hv
   exact bK.same hH (.bool !b) hK (by simp[execOp,cw,hb,Op.unary]) ⟨_,rfl⟩
 case convert t u x=>
  obtain⟨IM,h⟩:=h
  split at h
  ·rename_i k k' n hk hx
   have hv:=cB x
   rw[hx]at hv
   simp only[V.den,D.den]at hv
   have hu:=vM hk
   obtain⟨d,hd⟩:=Option.isSome_iff_exists.1 IM
   refine bK.same hH (.int k (k.wrap n)) h ?_ rfl
   cases d<;>simp[execOp,cw,hv,convert,run_underlying hd,run_underlying hu,Conv.intToInt]
  ·exact h.elim
 case makeInterface t x=>
  obtain⟨⟨d,hd,iN⟩,h⟩:=h
  have hr:∀v,(Instr.makeInterface t v).run P w= .ok (.iface t v) w:=by
   intro v
   cases d<;>first|(simp at iN;done)|simp[Instr.makeInterface,run_underlying hd]
  have hv:=cB x
  split at h
  ·rename_i y hy
   rw[hy]at hv
   exact bK.same hH _ h (by simp[execOp,cw,hr]) ⟨_,rfl,hv⟩
  ·exact bK.same hH _ h (by simp[execOp,cw,hr]) ⟨_,rfl,hv⟩
 case makeFunc fn first cap=>
  exact bK.same hH _ h (by simp[execOp,cw,Instr.makeFunc]) ⟨_,_,rfl,kU s a cA first,kU s a cA cap⟩
 case makeSlice t l c=>
  have:=oK (P:=P) (fr:=fr) hH de (cB l) (cB c) h
  simpa[execOp,cw]using this
 case fieldAddr t x f=>
  rw[gI]at h
  have:=oH (P:=P) (fr:=fr) hH (cB x) h
  simpa[execOp,cw]using this
 case indexAddr t x i=>
  rw[gI]at h
  have:=oJ (P:=P) (fr:=fr) hH (cB x) (cB i) h
  simpa[execOp,cw]using this
 case extract x i=>
  split at h
  ·rename_i vs hx
   obtain⟨v,hv,hK⟩:=h
   have hd:=cB x
   rw[hx]at hd
   obtain⟨c,hc,hd⟩:=hd
   obtain⟨u,hu,zf⟩:=V.cD _ _ _ _ hd hv
   refine bK.same hH u hK ?_ zf
   have oM:c[i]? =some u:=by simpa using hu
   simp[execOp,cw,hc,Instr.extract,oM]
  ·exact h.elim
 case call c=>
  obtain⟨xf,args,ts⟩:=c
  cases xf<;>simp only at h<;>try (exact h.elim)
  rename_i b
  unfold nw at h
  split at h
  ·rename_i x cH
   obtain⟨t,oL,h⟩:=h
   rw[gI]at h
   have e1:args=#[x]:=by apply Array.ext';simpa using cH
   have e2:ts=#[t]:=by apply Array.ext';simpa using oL
   subst e1;subst e2
   have:=zi (P:=P) (fr:=fr) (ty:=o.type) hH (cB x) h
   simpa[execOp,cw,resolve,invoke,builtin]using this
  ·rename_i x y cH
   have e1:args=#[x,y]:=by apply Array.ext';simpa using cH
   subst e1
   rw[gI]at h
   have:=h.elim (fun h=>wS (P:=P) (fr:=fr) (ty0:=o.type) hH de (cB x) (cB y) h) (fun h=>tl (P:=P) (fr:=fr) (ty0:=o.type) hH de (cB x) (cB y) h)
   simpa[execOp,cw,resolve,invoke,builtin]using this
  ·rename_i x y cH
   have e1:args=#[x,y]:=by apply Array.ext';simpa using cH
   subst e1
   unfold jt at h
   split at h
   ·rename_i k u k' v heq
    simp only[List.cons.injEq,and_true]at heq
    obtain⟨rfl,hK⟩:=h
    have h1:=cB x
    have h2:=cB y
    rw[heq.1]at h1;rw[heq.2]at h2
    simp only[V.den,D.den]at h1 h2
    exact bK.same hH _ hK (by simp[execOp,cw,resolve,invoke,builtin,h1,h2,run_max_int2]) rfl
   ·exact h.elim
  ·rename_i x y cH
   have e1:args=#[x,y]:=by apply Array.ext';simpa using cH
   subst e1
   unfold jt at h
   split at h
   ·rename_i k u k' v heq
    simp only[List.cons.injEq,and_true]at heq
    obtain⟨rfl,hK⟩:=h
    have h1:=cB x
    have h2:=cB y
    rw[heq.1]at h1;rw[heq.2]at h2
    simp only[V.den,D.den]at h1 h2
    exact bK.same hH _ hK (by simp[execOp,cw,resolve,invoke,builtin,h1,h2,run_min_int2]) rfl
   ·exact h.elim
  ·rename_i x y z cH
   have e1:args=#[x,y,z]:=by apply Array.ext';simpa using cH
   subst e1
   have hg:=cq h
   clear h
   obtain⟨v,Δ,rd,h,hK⟩:=hg
   simp only[Option.map_eq_some_iff,Prod.mk.injEq]at h
   obtain⟨v',h,rfl,rfl,rfl⟩:=h
   unfold uu at h
   split at h
   ·rename_i k u k' v LA t q1 q2 q3
    split at h
    ·rename_i hk
     obtain⟨rfl,rfl⟩:=hk
     injection h with h;subst h
     have h1:=cB x
     have h2:=cB y
     have h3:=cB z
     rw[q1]at h1;rw[q2]at h2;rw[q3]at h3
     simp only[V.den,D.den]at h1 h2 h3
     exact bK.same hH _ hK (by simp[execOp,cw,resolve,invoke,builtin,h1,h2,h3,Builtin.max_,Builtin.max2]) rfl
    ·cases h
   ·cases h
  ·rename_i x y cH
   have e1:args=#[x,y]:=by apply Array.ext';simpa using cH
   subst e1
   rw[gI]at h
   have:=wZ (P:=P) (fr:=fr) (ty0:=o.type) hH (cB x) (cB y) h
   simpa[execOp,cw,resolve,invoke,builtin]using this
  ·rename_i x y cH
   have e1:args=#[x,y]:=by apply Array.ext';simpa using cH
   subst e1
   obtain⟨t,ht,h⟩:=h
   rw[gI]at h
   have:=tA (P:=P) (fr:=fr) (ty0:=o.type) hH ht (cB x) (cB y) h
   simpa[execOp,cw,resolve,invoke,builtin]using this
  ·rename_i x cH
   have e1:args=#[x]:=by apply Array.ext';simpa using cH
   subst e1
   unfold y9 at h
   split at h
   ·rename_i t oL
    have e2:ts=#[t]:=by apply Array.ext';simpa using oL
    subst e2
    split at h
    ·rename_i e ht
     split at h
     ·rename_i Od
      have hd:=cB x
      rw[Od]at hd
      simp only[V.den]at hd
      exact bK.same hH (.int .i64 0) h (by simp[execOp,cw,resolve,invoke,builtin,hd,Builtin.cap_,run_underlying (aN ht),goInt]) rfl
     ·exact h.elim
    ·exact h.elim
   ·exact h.elim
  ·exact h.elim
 case slice t x lo hi mx=>
  rw[gI]at h
  have:=vA (P:=P) (fr:=fr) (lov:=lo.map a.eval) (hiv:=hi.map a.eval) (mxv:=mx.map a.eval) hH (cB x) (by cases lo<;>simp[cB]) (by cases hi<;>simp[cB]) (by cases mx<;>simp[cB]) h
  simpa[execOp,cw]using this
 case field t x f=>
  have:=vB (P:=P) (fr:=fr) hH (cB x) h
  simpa[execOp,cw]using this
 case index t x i=>
  have:=vE (P:=P) (fr:=fr) hH (cB x) (cB i) h
  simpa[execOp,cw]using this
 case insert t m k v=>
  rw[gI]at h
  have:=jP (P:=P) (fr:=fr) hH (cB m) (cB k) (cB v) h
  simpa[execOp,cw]using this
 case typeAssert x xt t ok=>
  have:=tt (P:=P) (fr:=fr) (xt:=xt) hH (cB x) h
  simpa[execOp,cw]using this
 case makeMap t r=>
  cases r with
  |some x=>exact h.elim
  |none=>
   have:=rK (P:=P) (fr:=fr) hH de h
   simpa[execOp,cw]using this
 case lookup t m k ok=>
  rw[gI]at h
  have:=tx (P:=P) (fr:=fr) hH (cB m) (cB k) h
  simpa[execOp,cw]using this
 case mapUpdate t m k v=>
  rw[gI]at h
  have:=jP (P:=P) (fr:=fr) hH (cB m) (cB k) (cB v) h
  simpa[execOp,cw]using this
 case range t x=>
  rw[gI]at h
  have:=vJ (P:=P) (fr:=fr) hH de (cB x) h
  simpa[execOp,cw]using this
 case next x str=>
  rw[gI]at h
  rcases h with h|⟨rfl,id,l,h1,h2⟩
  ·have:=rN (P:=P) (fr:=fr) (ty:=o.type) hH (cB x) h
   simpa[execOp,cw]using this
  ·have:=rP (P:=P) (fr:=fr) (ty:=o.type) hH (cB x) h1 h2
   simpa[execOp,cw]using this
 case entry x=>
  rw[gI]at h
  have:=vL (P:=P) (fr:=fr) hH (cB x) h
  simpa[execOp,cw]using this
end
end Go.Proofs.YtbmnikpknlkbkaaGreat
