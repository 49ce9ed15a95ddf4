/-
  A PART OF THE PROOF. Conditions: none.
-/
import Derived.WideKeyRuns
import Derived.Laws.IdiomRangeMap
import Derived.Test.YtlhemmpklhhgoaaGreatQk4
set_option linter.unusedSimpArgs false
set_option linter.unusedVariables false
namespace Go.Proofs.YtlhemmpklhhgoaaGreat
section
mutual
theorem D.bY:∀ (x y:D),x.same y=true->x=y
 | .int k a,y,h=>by cases y<;>simp_all[D.same]
 | .bool a,y,h=>by cases y<;>simp_all[D.same]
 | .str a,y,h=>by cases y<;>simp_all[D.same]
 | .dk,y,h=>by cases y<;>simp_all[D.same]
 | .fD,y,h=>by cases y<;>simp_all[D.same]
 | .e9,y,h=>by cases y<;>simp_all[D.same]
 | .ej,y,h=>by cases y<;>simp_all[D.same]
 | .agg aR,y,h=>by
   exact C4
 | .sl aR,y,h=>by
   exact C4
 | .iface t a,y,h=>by
   cases y<;>simp only[D.same,Bool.false_eq_true,Bool.and_eq_true,beq_iff_eq]at h
   rw[h.1,D.bY a _ h.2]
 | .mp ks vs,y,h=>by
   cases y<;>simp only[D.same,Bool.false_eq_true,Bool.and_eq_true]at h
   rw[D.bL ks _ h.1,D.bL vs _ h.2]
theorem D.bL:∀ (xs ys:List D),D.cW xs ys=true->xs=ys
 |[],ys,h=>by cases ys<;>simp_all[D.cW]
 |a::aR,ys,h=>by
  cases ys<;>simp only[D.cW,Bool.false_eq_true,Bool.and_eq_true]at h
  rw[D.bY a _ h.1,D.bL aR _ h.2]
end
section
variable {P:Program}{M:Nat->Prop}{φ:Place}{H:Hp}{w w':World}{fr:Nat}{K:V->List (Nat×aa)->List Nat->Prop}{B:Nat->Prop}
theorem jB{t kt vt:TypeId}(h:sf P t=some (kt,vt)):P.underlying t=some (.map kt vt):=by
 unfold sf at h
 cases hd:P.underlying t with
 |none=>simp[hd]at h
 |some d=>cases d<;>simp_all
theorem mE{x:D}(h:jP x=true){u v:Value}(hu:D.den B w x u)(hv:D.den B w x v):u=v:=by
 cases x<;>simp only[jP,Bool.false_eq_true]at h<;>simp only[D.den]at hu hv
 ·rw[hu,hv]
 ·rw[hu,hv]
 ·obtain⟨⟨⟨a⟩⟩,rfl,h1⟩:=hu
  obtain⟨⟨⟨b⟩⟩,rfl,h2⟩:=hv
  simp only at h1 h2
  rw[h1,h2]
theorem mF:∀ {xs:List D} (_:xs.all jP=true) {us vs:List Value} (_:D.ai B w xs us) (_:D.ai B w xs vs),us=vs
 |[],_,us,vs,hu,hv=>by simp only[D.ai]at hu hv;rw[hu,hv]
 |x::xs,h,us,vs,hu,hv=>by
  simp only[List.all_cons,Bool.and_eq_true]at h
  obtain⟨u,us,rfl,h1,h2⟩:=hu
  obtain⟨v,vs,rfl,h3,h4⟩:=hv
  rw[mE h.1 h1 h3,mF h.2 h2 h4]
theorem qg{x:D}(h:fK x=true){u v:Value}(hu:D.den B w x u)(hv:D.den B w x v):u=v:=by
 cases x with
 |agg cs=>
  simp only[fK]at h
  obtain⟨a,rfl,h1,_⟩:=hu
  obtain⟨b,rfl,h2,_⟩:=hv
  have:=mF h h1 h2
  congr 1
  exact Array.ext' this
 |_=>exact mE (by simpa[fK]using h) hu hv
theorem mG{x:D}(h:jP x=true){u:Value}(hu:D.den B w x u)(n:Nat):Instr.sameBits n u u=true:=by
 cases x<;>simp only[jP,Bool.false_eq_true]at h<;>simp only[D.den]at hu
 ·subst hu;cases n<;>simp[Instr.sameBits]
 ·subst hu;cases n<;>simp[Instr.sameBits]
 ·obtain⟨s,rfl,h1⟩:=hu
  have:(s==s)=true:=(MapKept.bytes_beq s s).2 rfl
  cases n<;>simp[Instr.sameBits,this]
theorem lb:∀ {xs:List D} (_:xs.all jP=true) {us:List Value} (_:D.ai B w xs us) (n:Nat),(us.zip us).all (fun(x,y)=>Instr.sameBits n x y)=true
 |[],_,us,hu,n=>by simp only[D.ai]at hu;subst hu;rfl
 |x::xs,h,us,hu,n=>by
  simp only[List.all_cons,Bool.and_eq_true]at h
  obtain⟨u,us,rfl,h1,h2⟩:=hu
  simp only[List.zip_cons_cons,List.all_cons,mG h.1 h1 n,Bool.true_and]
  exact lb h.2 h2 n
theorem qh{x:D}(h:fK x=true){u:Value}(hu:D.den B w x u)(n:Nat):Instr.sameBits (n+1) u u=true:=by
 cases x with
 |agg cs=>
  simp only[fK]at h
  obtain⟨a,rfl,h1,_⟩:=hu
  have:=lb h h1 n
  simp only[Instr.sameBits,beq_self_eq_true,Bool.true_and]
  exact this
 |_=>exact mG (by simpa[fK]using h) hu (n+1)
theorem sx{x:D}(h:fK x=true){u:Value}(hu:D.den B w x u):(Instr.keyThatStays u u).run P w'= .ok u w':=by
 simp[Instr.keyThatStays,qh h hu 9999]
theorem iP(em:Bool):∀ (d:Nat) (t:TypeId) (x:D),ma P d t x=true->∀m,d<=m->∀u,D.den B w x u->(Instr.checkKey em m t u).run P w= .ok () w
 |0,_,_,h=>by simp[ma]at h
 |d+1,t,x,h=>by
  intro m hm u hu
  obtain⟨m,rfl⟩:∃k,m=k+1:=⟨m - 1,aN⟩
  have IH:=fun t x h u hu=>iP em d t x h m aN u hu
  unfold ma at h
  rw[Instr.checkKey]
  cases hs:c8 P t with
  |none=>rw[hs]at h;cases h
  |some sh=>
   rw[hs]at h
   unfold c8 at hs
   cases ht:P.underlying t with
   |none=>rw[ht]at hs;cases hs
   |some td=>
    rw[ht]at hs
    simp only[Sem.run_bind,run_underlying ht,Result.andThen_ok]
    cases td<;>simp only[Option.some.injEq,reduceCtorEq]at hs
    case int k0=>simp
    case bool=>simp
    case string=>simp
    case struct fs=>
     split at hs
     ·injection hs with hs;subst hs
      simp only at h
      cases x<;>simp only[Bool.false_eq_true]at h
      rename_i xs
      obtain⟨arr,rfl,ha,hf⟩:=hu
      simp only
      rw[<- Array.forIn_toList]
      rw[List.all_map]at h
      generalize fs.toList=L at h
      induction L with
      |nil=>simp
      |cons f L ih=>
       simp only[List.all_cons,Bool.and_eq_true,Function.comp]at h
       obtain⟨h1,h2⟩:=h
       split at h1
       ·rename_i y hy
        obtain⟨v,k1,k2⟩:=dp hy ha hf
        have k3:=IH _ _ h1 v k2
        by_cases hn:f.name= "_"
        ·simp only[List.forIn_cons,Sem.run_bind,hn,ne_eq,not_true_eq_false,if_false,Result.andThen_ok,Sem.run_pure]
         have:=ih h2
         simp only[Sem.run_bind,Sem.run_pure,ne_eq]at this
         exact this
        ·simp only[List.forIn_cons,Sem.run_bind,hn,ne_eq,not_false_eq_true,if_true,Result.andThen_ok,k1,k3,Sem.run_pure]
         have:=ih h2
         simp only[Sem.run_bind,Sem.run_pure,ne_eq]at this
         exact this
       ·cases h1
     ·cases hs
    case array n e=>
     split at hs
     ·rename_i hi
      injection hs with hs;subst hs
      simp only at h
      cases x<;>simp only[Bool.false_eq_true]at h
      rename_i xs
      obtain⟨arr,rfl,ha,hf⟩:=hu
      obtain⟨i,hi⟩:=Option.isSome_iff_exists.1 hi
      simp only[Std.Legacy.Range.forIn_eq_forIn_range',Std.Legacy.Range.size,Nat.sub_zero,Nat.add_one_sub_one,Nat.div_one]
      rw[List.range_eq_range']at h
      generalize List.range' 0 n=is at h
      induction is with
      |nil=>simp
      |cons j is ih=>
       simp only[List.all_cons,Bool.and_eq_true]at h
       obtain⟨h1,h2⟩:=h
       split at h1
       ·rename_i y hy
        obtain⟨v,k1,k2⟩:=dp hy ha hf
        have k3:=IH _ _ h1 v k2
        simp only[List.forIn_cons,Sem.run_bind,bO hi,Result.andThen_ok,k1,k3,Sem.run_pure]
        have:=ih h2
        simp only[Sem.run_bind,Sem.run_pure]at this
        exact this
       ·cases h1
     ·cases hs
def eA(B:Nat->Prop)(w:World)(es:List MapEntry)(i:Nat):Option (Nat×D×D)->Option (Nat×Value)->Prop
 |none,none=>True
 |some (j,k,x),some (j',v)=>j=j'/\i<=j/\D.den B w x v/\∃e,es[j - i]? =some e/\e.val=v/\D.den B w k e.key
 |_,_=>False
theorem eA.succ {es:List MapEntry}{e:MapEntry}{i:Nat}{r:Option (Nat×D×D)}{r':Option (Nat×Value)}(h:eA B w es (i+1) r r'):eA B w (e::es) i r r':=by
 cases r with
 |none=>cases r'<;>exact h
 |some p=>
  obtain⟨j,k,x⟩:=p
  cases r' with
  |none=>exact h
  |some q=>
   obtain⟨j',v⟩:=q
   obtain⟨h1,h2,h3,e',h4,h5⟩:=h
   refine⟨h1,aN,h3,e', ?_,h5⟩
   rw[show j - i=(j - (i+1))+1 by omega]
   simpa using h4
theorem jU{kt:TypeId}{kd:D}{kv:Value}(hk:D.den B w kd kv):∀ (l:List (D×D)) (es:List MapEntry) (i:Nat) (r:Option (Nat×D×D)),ak B w l es->findD P kt kd l i=some r->
 ∃r',(Instr.findAsking kt kv es i).run P w= .ok r' w/\eA B w es i r r'
 |[],es,i,r,he,h=>by
  simp only[ak]at he;subst he
  simp only[findD,Option.some.injEq]at h;subst h
  exact⟨none,by simp[Instr.findAsking],trivial⟩
 |(k',x)::l,es,i,r,he,h=>by
  obtain⟨e,es,rfl,h1,h2,h3⟩:=he
  simp only[findD]at h
  split at h
  ·rename_i hq
   injection h with h;subst h
   have:=kI 100 kt _ _ _ hq 10000 ke B w _ _ hk h1
   refine⟨some (i,e.val),by simp[Instr.findAsking,Op.equal,Op.maxDepth,this],rfl,Nat.le_refl _,h2,e,aU,rfl,h1⟩
  ·rename_i hq
   have:=kI 100 kt _ _ _ hq 10000 ke B w _ _ hk h1
   obtain⟨r',g1,g2⟩:=jU hk l es (i+1) r h3 h
   exact⟨r',by simp[Instr.findAsking,Op.equal,Op.maxDepth,this,g1],g2.succ⟩
  ·cases h
theorem jV{td:TypeDesc}{kt:TypeId}(ht:P.underlying kt=some td)(hn:(match td with| .int _| .bool| .string=>true|_=>false)=true){x y:D}{r:Bool}(h:l9 P 100 kt x y=some r){u v:Value}(hu:D.den B w x u)(hv:D.den B w y v):
 Instr.sameNow td u v=some r:=by
 unfold l9 c8 at h
 rw[ht]at h
 cases td<;>simp only[Bool.false_eq_true]at hn<;>simp only at h
 ·split at h
  ·injection h with h;subst h
   simp only[D.den]at hu hv;subst hu;subst hv;rfl
  ·cases h
 ·split at h
  ·split at h
   ·rename_i e;subst e;injection h with h;subst h
    simp only[D.den]at hu hv;subst hu;subst hv;simp[Instr.sameNow]
   ·cases h
  ·cases h
 ·split at h
  ·injection h with h;subst h
   obtain⟨s1,rfl,rfl⟩:=hu
   obtain⟨s2,rfl,rfl⟩:=hv
   simp only[Instr.sameNow,Option.some.injEq]
   obtain⟨⟨a⟩⟩:=s1
   obtain⟨⟨b⟩⟩:=s2
   rw[Bool.eq_iff_iff,MapKept.bytes_beq]
   simp
  ·cases h
theorem jW{td:TypeDesc}{kt:TypeId}(ht:P.underlying kt=some td)(hn:(match td with| .int _| .bool| .string=>true|_=>false)=true){kd:D}{kv:Value}(hk:D.den B w kd kv):∀ (l:List (D×D)) (es:List MapEntry) (i:Nat) (r:Option (Nat×D×D)),ak B w l es->findD P kt kd l i=some r->
 ∃r',Instr.findNow td kv es i=some r'/\eA B w es i r r'
 |[],es,i,r,he,h=>by
  simp only[ak]at he;subst he
  simp only[findD,Option.some.injEq]at h;subst h
  exact⟨none,by simp[Instr.findNow],trivial⟩
 |(k',x)::l,es,i,r,he,h=>by
  obtain⟨e,es,rfl,h1,h2,h3⟩:=he
  simp only[findD]at h
  split at h
  ·rename_i hq
   injection h with h;subst h
   have:=jV ht hn hq hk h1
   refine⟨some (i,e.val),by simp[Instr.findNow,this],rfl,Nat.le_refl _,h2,e,aU,rfl,h1⟩
  ·rename_i hq
   have:=jV ht hn hq hk h1
   obtain⟨r',g1,g2⟩:=jW ht hn hk l es (i+1) r h3 h
   exact⟨r',by simp[Instr.findNow,this,g1],g2.succ⟩
  ·cases h
theorem cX{kt:TypeId}{kd:D}{kv:Value}(hk:D.den B w kd kv)(hc:ma P 100 kt kd=true){l:List (D×D)}{es:List MapEntry}{r:Option (Nat×D×D)}(he:ak B w l es)(h:findD P kt kd l 0=some r):
 ∃r',(Instr.findKey kt kv es).run P w= .ok r' w/\eA B w es 0 r r':=by
 unfold ma c8 at hc
 cases ht:P.underlying kt with
 |none=>simp[ht]at hc
 |some td=>
  have now:(match td with| .int _| .bool| .string=>true|_=>false)=true->∃r',(Instr.findKey kt kv es).run P w= .ok r' w/\eA B w es 0 r r':=by
   intro hn
   obtain⟨r',g1,g2⟩:=jW ht hn hk l es 0 r he h
   exact⟨r',MapKept.run_findKey ht g1,g2⟩
  have ask:(match P.underlying kt with|some (.array _ _)|some (.struct _)=>true|_=>false)=true->∃r',(Instr.findKey kt kv es).run P w= .ok r' w/\eA B w es 0 r r':=by
   intro hn
   obtain⟨r',g1,g2⟩:=jU hk l es 0 r he h
   exact⟨r',(run_findKey_eq w hn kv es).trans g1,g2⟩
  cases td<;>first
   |exact now rfl
   |(refine ask ?_;rw[ht];done)
   |(exfalso;simp[ht]at hc)
theorem ak.get:∀ {l:List (D×D)} {es:List MapEntry} {i:Nat} {e:MapEntry},ak B w l es->es[i]? =some e->∃p,l[i]? =some p/\D.den B w p.1 e.key/\D.den B w p.2 e.val
 |[],es,i,e,h,hi=>by simp only[ak]at h;subst h;simp at hi
 |(k,x)::l,es,i,e,h,hi=>by
  obtain⟨e',es,rfl,h1,h2,h3⟩:=h
  cases i with
  |zero=>simp at hi;subst hi;exact⟨(k,x),aU,h1,h2⟩
  |succ i=>simpa using ak.get h3 (by simpa using hi)
theorem ak.push:∀ {l:List (D×D)} {es:List MapEntry} {k x:D} {e:MapEntry},ak B w l es->D.den B w k e.key->D.den B w x e.val->ak B w (l++[(k,x)]) (es++[e])
 |[],es,k,x,e,h,h1,h2=>by simp only[ak]at h;subst h;exact⟨e,[],rfl,h1,h2,rfl⟩
 |(k',x')::l,es,k,x,e,h,h1,h2=>by
  obtain⟨e',es,rfl,g1,g2,g3⟩:=h
  exact⟨e',es++[e],rfl,g1,g2,ak.push g3 h1 h2⟩
theorem ak.set:∀ {l:List (D×D)} {es:List MapEntry} {i:Nat} {k x:D} {e:MapEntry},ak B w l es->D.den B w k e.key->D.den B w x e.val->ak B w (l.set i (k,x)) (es.set i e)
 |[],es,i,k,x,e,h,h1,h2=>by simp only[ak]at h;subst h;rfl
 |(k',x')::l,es,i,k,x,e,h,h1,h2=>by
  obtain⟨e',es,rfl,g1,g2,g3⟩:=h
  cases i with
  |zero=>exact⟨e,es,rfl,h1,h2,g3⟩
  |succ i=>exact⟨e',es.set i e,rfl,g1,g2,ak.set g3 h1 h2⟩
theorem oW(hH:ag M φ H w)(cq: ¬H.us fr){t:TypeId}(h:bf (iB P fr t) K):a6 M φ H w fr ((do let v <- Instr.makeMap t none;pure (Next.value v):Sem Next).run P w) K:=by
 have hg:=bE h
 clear h
 obtain⟨v,Δ,rd,h,hK⟩:=hg
 unfold iB at h
 split at h
 ·rename_i kt vt ht
  injection h with h;injection h with e1 e2;injection e2 with e2 e3;subst e1;subst e2;subst e3
  have hv:∀b,cM (.map (some w.heap.size))=some b->w.heap.size<=b/\b<(w.alloc (.map #[] 0)).heap.size:=by
   intro b hb;simp[cM]at hb;subst hb;simp
  have vy:=bN (φ:=φ) (H:=H) (aS w (.map #[] 0)) cq (.map kt vt []) (.map (some w.heap.size)) fun b hb=>(hv b hb).1
  refine⟨_, .map (some w.heap.size),w.alloc (.map #[] 0),cn φ fr (.map (some w.heap.size)),_,_,_,hK,by simp[Instr.makeMap], .inl rfl,dC hH (aS w _) cq _ _ hv ?_,vy,⟨rfl,aU,fun _=>aU⟩,fun j hj=> .inr fG⟩
  unfold au
  simp only[aH,aq,if_true]
  exact⟨w.heap.size,#[],0,rfl,heap_alloc_new w _,⟨fun e he=>by simp at he,aU⟩,rfl⟩
 ·cases h
theorem lf{o:Nat->aa}{m:V}{r:Option (Nat×TypeId×TypeId)}{l:List (D×D)}(h:kY o m=some (r,l)):(∃id kt vt,m= .mp id/\o id= .map kt vt l/\r=some (id,kt,vt))\/(m= .d .ej/\r=none/\l=[]):=by
 unfold kY at h
 split at h
 ·split at h
  ·rename_i ho
   simp only[Option.some.injEq,Prod.mk.injEq]at h;obtain⟨rfl,rfl⟩:=h;exact .inl ⟨_,_,_,rfl,ho,rfl⟩
  ·cases h
 ·simp only[Option.some.injEq,Prod.mk.injEq]at h;obtain⟨rfl,rfl⟩:=h;exact .inr ⟨rfl,rfl,rfl⟩
 ·cases h
theorem tL{ks vs:List D}{es:List MapEntry}(h1:D.ai B w ks (es.map (·.key)))(h2:D.ai B w vs (es.map (·.val))):ak B w (ks.zip vs) es:=by
 have e1:=D.ah _ _ h1
 have e2:=D.ah _ _ h2
 simp only[List.length_map]at e1 e2
 refine(eO _ _).2 ?_
 rw[List.map_fst_zip (by omega),List.map_snd_zip (by omega)]
 exact⟨h1,h2⟩
def lg(l l':List (D×D)):Prop:=l'=l\/(l'.Perm l/\np (l.map (·.1)))
theorem lg.perm {l l':List (D×D)}(h:lg l l'):l'.Perm l:=by
 rcases h with rfl|h
 ·exact List.Perm.refl _
 ·exact h.1
theorem sy{p q:List MapEntry}(Ms:p.Perm q):∀ {l:List (D×D)},ak B w l p->∃l',l'.Perm l/\ak B w l' q:=by
 induction Ms with
 |nil=>intro l h;exact⟨l,List.Perm.refl _,h⟩
 |cons x _ ih=>
  intro l h
  cases l with
  |nil=>cases h
  |cons y l=>
   obtain⟨k,v⟩:=y
   obtain⟨e,es,h0,h1,h2,h3⟩:=h
   injection h0 with h0 IL;subst h0;subst IL
   obtain⟨l',g1,g2⟩:=ih h3
   exact⟨(k,v)::l',g1.cons _,_,_,rfl,h1,h2,g2⟩
 |swap x y t=>
  intro l h
  match l,h with
  |[],h=>cases h
  |[(_,_)],h=>obtain⟨e,es,h0,_,_,h3⟩:=h;injection h0 with _ h0;have h3:es=[]:=h3;rw[h3]at h0;cases h0
  |(k,v)::(k',v')::l,h=>
   obtain⟨e,es,h0,h1,h2,e',es',IL,Mt,IM,h3⟩:=h
   subst IL
   injection h0 with a b;subst a;injection b with b c;subst b;subst c
   exact⟨(k',v')::(k,v)::l,List.Perm.swap _ _ _,_,_,rfl,Mt,IM,_,_,rfl,h1,h2,h3⟩
 |trans _ _ Mu Mv=>
  intro l h
  obtain⟨l1,g1,g2⟩:=Mu h
  obtain⟨l2,g3,g4⟩:=Mv g2
  exact⟨l2,g3.trans g1,g4⟩
theorem jC{l:List (D×D)}{p:List MapEntry}{es:Array MapEntry}(hp:p=es.toList\/(p.Perm es.toList/\np (l.map (·.1))))(h:ak B w l p):∃l',lg l l'/\ak B w l' es.toList:=by
 rcases hp with rfl|⟨h1,h2⟩
 ·exact⟨l, .inl rfl,h⟩
 ·obtain⟨l',g1,g2⟩:=sy h1 h
  exact⟨l', .inr ⟨g1,h2⟩,g2⟩
theorem hU{l:List (D×D)}{v:Value}(h:D.den B w (.mp (l.map (·.1)) (l.map (·.2))) v):∃m es clock l',v= .map (some m)/\w.heap[m]? =some (.map es clock)/\ ¬B m/\dD es clock/\lg l l'/\ak B w l' es.toList:=by
 obtain⟨m,es,clock,p,h1,h2,h3,h4,hp,h5,h6⟩:=h
 obtain⟨l',g1,g2⟩:=jC hp ((eO _ _).2 ⟨h5,h6⟩)
 exact⟨m,es,clock,l',h1,h2,h3,h4,g1,g2⟩
theorem oX{ks vs:List D}{p:List MapEntry}(h1:D.ai B w ks (p.map (·.key)))(h2:D.ai B w vs (p.map (·.val))):(ks.zip vs).map (·.1)=ks:=by
 have e1:=D.ah _ _ h1
 have e2:=D.ah _ _ h2
 simp only[List.length_map]at e1 e2
 exact List.map_fst_zip aN
theorem v7{P:Program}{kt:TypeId}{kd:D}{n:Int}{b:Bool}(h:l9 P 100 kt kd (.int .i64 n)=some b):c8 P kt=some .int/\∃m,kd= .int .i64 m/\b=(m==n):=by
 unfold l9 at h
 cases hs:c8 P kt with
 |none=>simp[hs]at h
 |some sh=>
  cases sh<;>simp only[hs]at h
  case int=>
   cases kd<;>simp only at h
   all_goals first
    |(cases h;done)
    |(split at h
      ·rename_i e;subst e;injection h with h;exact⟨rfl,_,rfl,h.symm⟩
      ·cases h)
  all_goals first
   |(cases kd<;>simp at h;done)
   |(simp at h;done)
theorem hY{P:Program}{kt:TypeId}{m:Int}(hs:c8 P kt=some .int):∀ (l:List (D×D)) (i:Nat),(∀k∈l.map (·.1),∃n,k= .int .i64 n)->∃r,findD P kt (.int .i64 m) l i=some r/\(match r with|some (_,_,x)=>(D.int .i64 m,x)∈l|none=>∀x,(D.int .i64 m,x)∉l)
 |[],i,_=>⟨none,rfl,aU⟩
 |(k,x)::l,i,h=>by
  obtain⟨n,rfl⟩:=h k aU
  have he:l9 P 100 kt (.int .i64 m) (.int .i64 n)=some (m==n):=by simp[l9,hs]
  simp only[findD,he]
  by_cases e:m=n
  ·subst e
   exact⟨some (i, .int .i64 m,x),aU,aU⟩
  ·have e2:(m==n)=false:=by simpa using e
   obtain⟨r,h1,h2⟩:=hY hs l (i+1) (fun k hk=>h k (by simp at hk|-;exact .inr hk))
   refine⟨r,by simp only[e2];exact h1, ?_⟩
   cases r with
   |none=>intro y hy;rcases List.mem_cons.1 hy with hy|hy
          ·injection hy with hy _;injection hy with _ hy;exact e hy
          ·exact h2 y hy
   |some p=>exact List.mem_cons_of_mem _ h2
theorem sA{L:List (D×D)}(hn:(L.map (·.1)).Nodup){k x x':D}(f2:(k,x)∈L)(f4:(k,x')∈L):x'=x:=by
 induction L with
 |nil=>cases f2
 |cons y L ih=>
  rw[List.map_cons,List.nodup_cons]at hn
  rcases List.mem_cons.1 f2 with e1|e1<;>rcases List.mem_cons.1 f4 with e2|e2
  ·rw[<- e1]at e2;injection e2
  ·exact absurd (by rw[<- e1];exact List.mem_map.2 ⟨_,e2,rfl⟩) hn.1
  ·exact absurd (by rw[<- e2];exact List.mem_map.2 ⟨_,e1,rfl⟩) hn.1
  ·exact ih hn.2 e1 e2
theorem mH{P:Program}{kt:TypeId}{kd:D}{l l':List (D×D)}{r:Option (Nat×D×D)}(hl:lg l l')(h:findD P kt kd l 0=some r):∃r',findD P kt kd l' 0=some r'/\(match r,r' with|some (_,_,x),some (_,_,x')=>x'=x|none,none=>True|_,_=>False):=by
 rcases hl with rfl|⟨hp,hk⟩
 ·refine⟨r,h, ?_⟩
  cases r<;>trivial
 ·cases l with
  |nil=>
   have:l'=[]:=hp.eq_nil
   subst this
   refine⟨r,h, ?_⟩
   cases r<;>trivial
  |cons p l=>
   obtain⟨k0,x0⟩:=p
   obtain⟨n0,rfl⟩:=hk.2 k0 aU
   have hb:∃b,l9 P 100 kt kd (.int .i64 n0)=some b:=by
    simp only[findD]at h
    cases he:l9 P 100 kt kd (.int .i64 n0)with
    |none=>rw[he]at h;cases h
    |some b=>exact⟨b,rfl⟩
   obtain⟨b,hb⟩:=hb
   obtain⟨hs,m,rfl,_⟩:=v7 hb
   obtain⟨r1,f1,f2⟩:=hY (m:=m) hs ((.int .i64 n0,x0)::l) 0 hk.2
   rw[h]at f1;injection f1 with f1;subst f1
   obtain⟨r',f3,f4⟩:=hY (m:=m) hs l' 0 (fun k IP=>hk.2 k ((hp.map _).mem_iff.1 IP))
   refine⟨r',f3, ?_⟩
   cases r with
   |none=>
    cases r' with
    |none=>trivial
    |some q=>obtain⟨_,_,x'⟩:=q;exact f2 x' (hp.mem_iff.1 f4)
   |some q=>
    obtain⟨_,_,x⟩:=q
    cases r' with
    |none=>exact f4 x (hp.mem_iff.2 f2)
    |some q'=>
     obtain⟨_,_,x'⟩:=q'
     exact sA hk.1 f2 (hp.mem_iff.1 f4)
theorem mI{ks vs:List D}{p:List MapEntry}(h1:D.ai B w ks (p.map (·.key)))(h2:D.ai B w vs (p.map (·.val))):ak B w (ks.zip vs) p:=tL h1 h2
theorem qi(hH:ag M φ H w){m:V}{mv:Value}{rd:List Nat}{l:List (D×D)}(hm:V.den (ae M φ H) φ H w m mv)(h:mq H.o m=some (rd,l)):
 (mv= .map none/\l=[])\/∃b es clock l',mv= .map (some b)/\w.heap[b]? =some (.map es clock)/\dD es clock/\lg l l'/\ak (ae M φ H) w l' es.toList:=by
 unfold mq at h
 split at h
 ·rename_i id
  obtain⟨IQ,HB,ot⟩:=hm
  have aI:=hH.ok id
  split at h
  ·rename_i ho
   simp only[Option.some.injEq,Prod.mk.injEq]at h;obtain⟨rfl,rfl⟩:=h
   simp only[au,ho]at aI
   obtain⟨b,es,clock,g1,g2,g0,g3⟩:=aI
   exact .inr ⟨b,es,clock,_,(ot fC).trans g1,g2,g0, .inl rfl,g3⟩
  ·rename_i ho
   simp only[Option.some.injEq,Prod.mk.injEq]at h;obtain⟨rfl,rfl⟩:=h
   simp only[au,ho]at aI
   obtain⟨b,es,clock,l',g1,g2,_,g0,g3⟩:=hU aI.den
   exact .inr ⟨b,es,clock,l',(ot fC).trans g1,g2,g0,g3⟩
  ·cases h
 ·simp only[Option.some.injEq,Prod.mk.injEq]at h;obtain⟨rfl,rfl⟩:=h
  simp only[V.den,D.den]at hm
  exact .inl ⟨hm,rfl⟩
 ·simp only[Option.some.injEq,Prod.mk.injEq]at h;obtain⟨rfl,rfl⟩:=h
  obtain⟨b,es,clock,p,g1,g2,_,g0,gp,g3,g4⟩:=hm
  obtain⟨l',g5,g6⟩:=jC (by rw[oX g3 g4];exact gp) (mI g3 g4)
  exact .inr ⟨b,es,clock,l',g1,g2,g0,g5,g6⟩
 ·cases h
theorem qj(hH:ag M φ H w){t:TypeId}{m k:V}{mv kv:Value}{ok:Bool}(hm:V.den (ae M φ H) φ H w m mv)(hk:V.den (ae M φ H) φ H w k kv)(h:bf (iA P H.o t m k ok) K):
 a6 M φ H w fr ((do let v <- Instr.lookup t mv kv ok;pure (Next.value v):Sem Next).run P w) K:=by
 have hg:=bE h
 clear h
 obtain⟨v,Δ,rd,h,hK⟩:=hg
 unfold iA at h
 split at h
 ·rename_i kt vt kd NG l ht Dh vW
  split at h
  ·rename_i hc
   have eB:D.den (ae M φ H) w kd kv:=dA hH k kd kv (fun id aj=>by rw[hc.1]at aj;cases aj) Dh hk
   have vr:∀em,(Instr.checkKey em 10000 kt kv).run P w= .ok () w:=fun em=>iP em 100 kt kd hc.2 10000 ke kv eB
   have te:=jB ht
   have IU:∃ (es:Array MapEntry) (l':List (D×D)),lg l l'/\ak (ae M φ H) w l' es.toList/\∀ (r':Option (Nat×Value)) (val:Value),(Instr.findKey kt kv es.toList).run P w= .ok r' w->(match r' with|some (_,u)=>val=(if ok=true then .tuple #[u, .bool true]else u)|none=>∃z,(zeroValue vt).run P w= .ok z w/\val=(if ok=true then .tuple #[z, .bool false]else z))->(Instr.lookup t mv kv ok).run P w= .ok val w:=by
    rcases qi hH hm vW with⟨rfl,rfl⟩|⟨b,es,clock,l',rfl,g2,_,gl,g3⟩
    case inr=>
     have jo:=MapKept.run_getObj_map (P:=P) g2
     refine⟨es,l',gl,g3,fun r' val q1 q2=> ?_⟩
     cases r' with
     |some p=>obtain⟨j,u⟩:=p;simp only at q2;subst q2;cases ok<;>simp[Instr.lookup,run_underlying te,jo,vr,q1]
     |none=>obtain⟨z,z1,rfl⟩:=q2;cases ok<;>simp[Instr.lookup,run_underlying te,jo,vr,q1,z1]
    case inl=>
     refine⟨#[],[], .inl rfl,rfl,fun r' val q1 q2=> ?_⟩
     cases r' with
     |some p=>obtain⟨j,u⟩:=p;simp only at q2;subst q2;cases ok<;>simp[Instr.lookup,run_underlying te,vr,q1]
     |none=>obtain⟨z,z1,rfl⟩:=q2;cases ok<;>simp[Instr.lookup,run_underlying te,vr,q1,z1]
   obtain⟨es,l',gl,g3,run⟩:=IU
   split at h
   ·rename_i j kk x hf
    injection h with h;injection h with e1 e2;injection e2 with e2 e3;subst e1;subst e2;subst e3
    obtain⟨r2,IV,nz⟩:=mH gl hf
    obtain⟨r',q1,q2⟩:=cX eB hc.2 g3 IV
    cases r2 with
    |none=>exact nz.elim
    |some p2=>
    obtain⟨_,_,x2⟩:=p2
    have Mw:x2=x:=nz
    obtain rfl:=Mw
    cases r' with
    |none=>exact q2.elim
    |some p=>
     obtain⟨j',u⟩:=p
     obtain⟨_,_,HC,_⟩:=q2
     refine a6.plain (v:=(if ok=true then .a7 [.d x2, .d (.bool true)]else .d x2)) hH (if ok=true then .tuple #[u, .bool true]else u) hK (run _ _ q1 rfl) ?_
     cases ok
     ·exact HC
     ·exact⟨#[u, .bool true],rfl,u,[.bool true],rfl,HC, .bool true,[],rfl,rfl,rfl⟩
   ·rename_i hf
    split at h
    ·rename_i z hz
     injection h with h;injection h with e1 e2;injection e2 with e2 e3;subst e1;subst e2;subst e3
     obtain⟨r2,IV,nz⟩:=mH gl hf
     obtain⟨r',q1,q2⟩:=cX eB hc.2 g3 IV
     cases r2 with
     |some p2=>exact nz.elim
     |none=>
     cases r' with
     |some p=>exact q2.elim
     |none=>
      obtain⟨val,z1,z2⟩:=jA (M:=M) (φ:=φ) (H:=H) (w:=w) hz
      refine a6.plain hH (if ok=true then .tuple #[val, .bool false]else val) hK (run _ _ q1 ⟨val,z1,rfl⟩) ?_
      cases ok
      ·exact z2
      ·exact⟨#[val, .bool false],rfl,val,[.bool false],rfl,z2, .bool false,[],rfl,rfl,rfl⟩
    ·cases h
   ·cases h
  ·cases h
 ·cases h
theorem dF{es:Array MapEntry}{i:Nat}{e:MapEntry}(f:MapEntry->MapEntry)(h:es.toList[i]? =some e):(es.modify i f).toList=es.toList.set i (f e):=by
 apply List.ext_getElem?
 intro j
 simp only[Array.getElem?_toList,Array.getElem?_modify]
 rw[List.getElem?_set]
 have h':es[i]? =some e:=by simpa using h
 by_cases hj:i=j
 ·subst hj
  have cm:i<es.toList.length:=by
   rw[List.getElem?_eq_some_iff]at h;exact h.1
  simp only[if_true,h',Option.map_some,cm]
 ·simp[hj]
theorem qk{es:Array MapEntry}{clock:Nat}(h:dD es clock){e:MapEntry}(he:e.born=clock):dD (es.push e) (clock+1):=by
 obtain⟨h1,h2⟩:=h
 refine⟨fun x hx=> ?_, ?_⟩
 ·rw[Array.toList_push]at hx
  rcases List.mem_append.1 hx with hx|hx
  ·have:=h1 x hx;omega
  ·simp at hx;subst hx;omega
 ·rw[Array.toList_push,List.map_append,List.nodup_append]
  refine⟨h2,aU,fun a ha b hb=> ?_⟩
  obtain⟨x,hx,rfl⟩:=List.mem_map.1 ha
  simp only[List.map_cons,List.map_nil,List.mem_singleton]at hb
  have:=h1 x hx
  omega
theorem nA{es:Array MapEntry}{clock i:Nat}(h:dD es clock){e:MapEntry}(hi:es.toList[i]? =some e){f:MapEntry->MapEntry}(hf:(f e).born=e.born):dD (es.modify i f) clock:=by
 obtain⟨h1,h2⟩:=h
 unfold dD
 rw[dF f hi]
 have e1:(es.toList.set i (f e)).map (·.born)=es.toList.map (·.born):=by
  rw[List.map_set,hf]
  apply List.ext_getElem?
  intro j
  rw[List.getElem?_set]
  by_cases hj:i=j
  ·subst hj
   have cm:=(List.getElem?_eq_some_iff.1 hi).1
   rw[if_pos rfl,if_pos (by simpa using cm),List.getElem?_map,hi];rfl
  ·rw[if_neg hj]
 refine⟨fun x hx=> ?_,by rw[e1];exact h2⟩
 obtain⟨j,hj⟩:=List.mem_iff_getElem?.1 (List.mem_map.2 ⟨x,hx,rfl⟩:x.born∈(es.toList.set i (f e)).map (·.born))
 rw[e1]at hj
 obtain⟨y,hy,e2⟩:=List.mem_map.1 (List.mem_of_getElem? hj)
 have:=h1 y hy
 omega
theorem oY{es:Array MapEntry}{clock i:Nat}(h:dD es clock):dD (es.eraseIdxIfInBounds i) clock:=by
 obtain⟨h1,h2⟩:=h
 have e:(es.eraseIdxIfInBounds i).toList=es.toList.eraseIdx i:=aU
 unfold dD
 rw[e]
 exact⟨fun x hx=>h1 x (List.mem_of_mem_eraseIdx hx),h2.sublist (List.Sublist.map _ (List.eraseIdx_sublist ..))⟩
theorem ak.erase:∀ {l:List (D×D)} {es:List MapEntry} {i:Nat},ak B w l es->ak B w (l.eraseIdx i) (es.eraseIdx i)
 |[],es,i,h=>by simp only[ak]at h;subst h;simp[ak]
 |(k',x')::l,es,i,h=>by
  obtain⟨e',es,rfl,g1,g2,g3⟩:=h
  cases i with
  |zero=>exact g3
  |succ i=>exact⟨e',es.eraseIdx i,rfl,g1,g2,ak.erase g3⟩
theorem tM(hH:ag M φ H w){id b clock clock':Nat}{kt vt:TypeId}{l l':List (D×D)}{es es':Array MapEntry}(cR:H.us id)(ho:H.o id= .map kt vt l)(cL:φ id= .map (some b))(g2:w.heap[b]? =some (.map es clock))(h0:dD es' clock')(hl:ak (ae M φ H) w l' es'.toList):
 ag M φ (H.put [(id, .map kt vt l')]) {w with heap:=w.heap.setIfInBounds b (.map es' clock')}/\Trans φ H w φ (H.put [(id, .map kt vt l')]) {w with heap:=w.heap.setIfInBounds b (.map es' clock')}:=by
 have tN:cc (· =b) w {w with heap:=w.heap.setIfInBounds b (.map es' clock')}:=
  ⟨rfl,rfl,rfl,aU,fun j _ hj=>(MapKept.heap_set g2).2 j hj⟩
 have nw:(H.o id).live=true:=by rw[ho];rfl
 have tO:cM (φ id)=some b:=by rw[cL];rfl
 have p4:=cT (w:=w) (w':={w with heap:=w.heap.setIfInBounds b (.map es' clock')}) cR nw tO tN (.map kt vt l') fC fC
 refine⟨dR hH cR nw tO tN _ fC fC ?_,p4⟩
 unfold au
 simp only[aH,aq,if_true]
 exact⟨b,es',clock',cL,(MapKept.heap_set g2).1,h0,ak.mono (p4.blocks (M:=M)) l' _ hl⟩
theorem ql(hH:ag M φ H w){t:TypeId}{ts:Array TypeId}{m k:V}{mv kv:Value}(mh:ts.toList.head?=some t)(hm:V.den (ae M φ H) φ H w m mv)(hk:V.den (ae M φ H) φ H w k kv){ty0:TypeId}
 (h:bf (iE P H.o t m k) K):a6 M φ H w fr ((do let v <- Builtin.delete_ ts ty0 #[mv,kv];pure (Next.value v):Sem Next).run P w) K:=by
 have hg:=bE h
 clear h
 obtain⟨v',Δ,rd,h,hK⟩:=hg
 have HD:ts[0]? =some t:=by rw[<- Array.getElem?_toList, <- List.head?_eq_getElem?];exact mh
 unfold iE at h
 split at h
 ·rename_i kt vt kd id xp xq l ht Dh vW
  rcases lf vW with⟨Mx,My,Mz,rfl,ho,hr⟩|⟨rfl,hr,rfl⟩
  case inr=>cases hr
  injection hr with hr;injection hr with e1 e2;injection e2 with e2 e3;subst e1;subst e2;subst e3
  split at h
  ·rename_i hc
   obtain⟨c1,c2⟩:=hc
   have eB:D.den (ae M φ H) w kd kv:=dA hH k kd kv (fun id aj=>by rw[c1]at aj;cases aj) Dh hk
   have vr:∀em,(Instr.checkKey em 10000 kt kv).run P w= .ok () w:=fun em=>iP em 100 kt kd c2 10000 ke kv eB
   have te:=jB ht
   obtain⟨IQ,cR,ot⟩:=hm
   have cL:=ot fC
   have aI:=hH.ok id
   simp only[au,ho]at aI
   obtain⟨b,es,clock,g1,g2,g0,g3⟩:=aI
   rw[<- cL]at g1;subst g1
   have jo:=MapKept.run_getObj_map (P:=P) g2
   split at h
   ·rename_i i k' x hf
    injection h with h;injection h with e1 e2;injection e2 with e2 e3;subst e1;subst e2;subst e3
    obtain⟨r',q1,q2⟩:=cX eB c2 g3 hf
    cases r' with
    |none=>exact q2.elim
    |some p=>
     obtain⟨j',u⟩:=p
     obtain⟨rfl,_,HC,e,h4,h5,h6⟩:=q2
     have e:(es.eraseIdxIfInBounds i).toList=es.toList.eraseIdx i:=aU
     obtain⟨t1,t2⟩:=tM (clock':=clock) (es':=es.eraseIdxIfInBounds i) (l':=l.eraseIdx i) hH cR ho cL.symm g2 (oY g0) (by rw[e];exact g3.erase)
     refine⟨.value (.tuple #[]), .tuple #[],_,φ,_,_,_,hK, ?_, .inl rfl,t1,t2,⟨#[],rfl,rfl⟩,fun j hj=> .inl yX⟩
     simp only[Builtin.delete_,HD,Sem.run_bind,run_underlying te,Result.andThen_ok,jo,vr,q1,List.getElem?_toArray,List.getElem?_cons_zero,List.getElem?_cons_succ,MapKept.run_setObj_map _ g2,Sem.run_pure]
   ·rename_i hf
    injection h with h;injection h with e1 e2;injection e2 with e2 e3;subst e1;subst e2;subst e3
    obtain⟨r',q1,q2⟩:=cX eB c2 g3 hf
    cases r' with
    |some p=>exact q2.elim
    |none=>
     have hw:{w with heap:=w.heap.setIfInBounds b (.map es clock)}=w:=by
      have cm:b<w.heap.size:=by
       rcases Nat.lt_or_ge b w.heap.size with h|h
       ·exact h
       ·simp[Array.getElem?_eq_none h]at g2
      have:w.heap.setIfInBounds b (.map es clock)=w.heap:=by
       apply Array.ext_getElem?
       intro j
       rw[Array.getElem?_setIfInBounds]
       by_cases hj:b=j
       ·subst hj;rw[if_pos rfl,if_pos cm,g2]
       ·rw[if_neg hj]
      rw[this]
     refine⟨.value (.tuple #[]), .tuple #[],w,φ,_,_,_,hK, ?_, .inl rfl,by rw[gC];exact hH,by rw[gC];exact Trans.refl _ _ _,⟨#[],rfl,rfl⟩,aU⟩
     simp only[Builtin.delete_,HD,Sem.run_bind,run_underlying te,Result.andThen_ok,jo,vr,q1,List.getElem?_toArray,List.getElem?_cons_zero,List.getElem?_cons_succ,MapKept.run_setObj_map _ g2,Sem.run_pure,hw]
   ·cases h
  ·cases h
 ·cases h
theorem nB(H:Hp)(i j:Nat)(x y:aa):H.put [(i,x),(j,y)]=(H.put [(i,x)]).put [(j,y)]:=by rw[<- bV];rfl
theorem sB(hH:ag M φ H w)(cq: ¬H.us fr){t:TypeId}{x:V}{xv:Value}(hx:V.den (ae M φ H) φ H w x xv)(h:bf (gY P H.o fr t x) K):
 a6 M φ H w fr ((do let v <- Instr.range t xv;pure (Next.value v):Sem Next).run P w) K:=by
 have hg:=bE h
 clear h
 obtain⟨v,Δ,rd,h,hK⟩:=hg
 have new:∀ (dH:Place) (H1:Hp) (obj:aa) (ob:Obj),ag M dH H1 w-> ¬H1.us fr->au M (cn dH fr (.pointer (some ⟨w.heap.size,0,none⟩))) (H1.put [(fr,obj)]) (w.alloc ob) fr->
  ag M (cn dH fr (.pointer (some ⟨w.heap.size,0,none⟩))) (H1.put [(fr,obj)]) (w.alloc ob)/\Trans dH H1 w (cn dH fr (.pointer (some ⟨w.heap.size,0,none⟩))) (H1.put [(fr,obj)]) (w.alloc ob):=by
  intro dH H1 obj ob h1 h2 h3
  have hv:∀b,cM (.pointer (some ⟨w.heap.size,0,none⟩))=some b->w.heap.size<=b/\b<(w.alloc ob).heap.size:=by
   intro b hb;simp[cM]at hb;subst hb;simp
  exact⟨dC h1 (aS w _) h2 _ _ hv h3,bN (aS w _) h2 _ _ fun b hb=>(hv b hb).1⟩
 have frozen:∀ (H1:Hp) (l:List (D×D)) (b:Nat) (es:Array MapEntry) (clock:Nat),ag M φ H1 w-> ¬H1.us fr->w.heap[b]? =some (.map es clock)-> ¬ae M φ H1 b->dD es clock->(∃l',l'.Perm l/\ak (ae M φ H1) w l' es.toList)->
  au M (cn φ fr (.pointer (some ⟨w.heap.size,0,none⟩))) (H1.put [(fr, .l8 l none)]) (w.alloc (.mapIter (some b) clock #[] clock)) fr:=by
  intro H1 l b es clock h1 h2 h3 h4 h5 h6
  have ht:=bN (φ:=φ) (H:=H1) (w:=w) (w':=w.alloc (.mapIter (some b) clock #[] clock)) (aS w _) h2 (.l8 l none) (.pointer (some ⟨w.heap.size,0,none⟩)) (fun b hb=>by simp[cM]at hb;omega)
  obtain⟨k1,k2⟩:=ht.blocks (M:=M) b (.inr ⟨es,clock,h3⟩) h4
  unfold au
  simp only[aH,aq,if_true]
  refine⟨w.heap.size,rfl, .inr ⟨b,clock,#[],es,heap_alloc_new w _,k1.trans h3,k2,h5, ?_,fun k x e=>by cases e⟩⟩
  have e:(es.toList.filter fun e=> !(#[]:Array Nat).contains e.born)=es.toList:=List.filter_eq_self.2 (fun a _=>aU)
  rw[e]
  obtain⟨l',h6,h7⟩:=h6
  exact⟨l',h6,ak.mono (ht.blocks (M:=M)) l' _ h7⟩
 unfold gY at h
 split at h
 ·rename_i ht
  split at h
  ·rename_i s
   injection h with h;injection h with e1 e2;injection e2 with e2 e3;subst e1;subst e2;subst e3
   obtain⟨st,rfl,hs⟩:=hx
   have jq:st=⟨⟨s⟩⟩:=by obtain⟨⟨a⟩⟩:=st;simp at hs;subst hs;rfl
   subst jq
   obtain⟨n1,n2⟩:=new φ H (.pX s 0) (.stringIter ⟨⟨s⟩⟩ 0) hH cq (by
    unfold au
    simp only[aH,aq,if_true]
    exact⟨w.heap.size,rfl,heap_alloc_new w _⟩)
   exact Cb
  ·cases h
 ·rename_i ht
  split at h
  ·injection h with h;injection h with e1 e2;injection e2 with e2 e3;subst e1;subst e2;subst e3
   simp only[V.den,D.den]at hx;subst hx
   obtain⟨n1,n2⟩:=new φ H (.l8 [] none) (.mapIter none 0 #[] 0) hH cq (by
    unfold au
    simp only[aH,aq,if_true]
    exact⟨w.heap.size,rfl, .inl ⟨heap_alloc_new w _,rfl,rfl⟩⟩)
   exact Cb
  ·rename_i ks vs
   injection h with h;injection h with e1 e2;injection e2 with e2 e3;subst e1;subst e2;subst e3
   obtain⟨b,es,clock,p,rfl,g2,g4,g0,gp,g3,g5⟩:=hx
   have jo:=MapKept.run_getObj_map (P:=P) g2
   obtain⟨l',g6,g7⟩:=jC (by rw[oX g3 g5];exact gp) (mI g3 g5)
   obtain⟨n1,n2⟩:=new φ H _ _ hH cq (frozen H (ks.zip vs) b es clock hH cq g2 g4 g0 ⟨l',g6.perm,g7⟩)
   exact KW
  ·rename_i id
   obtain⟨IQ,cR,ot⟩:=hx
   have aI:=hH.ok id
   split at h
   ·rename_i kt vt l ho
    injection h with h;injection h with e1 e2;injection e2 with e2 e3;subst e1;subst e2;subst e3
    obtain⟨f1,f2⟩:=q9 hH cR ho
    have l3:(H.put [(id, .dm l)]).o id= .dm l:=aU
    have Di:=f1.ok id
    simp only[au,l3]at Di
    obtain⟨b,es,clock,l',g1,g2,g4,g0,gl,g3⟩:=hU Di.den
    have cL:=ot fC
    rw[<- cL]at g1;subst g1
    have jo:=MapKept.run_getObj_map (P:=P) g2
    have Dj: ¬ (H.put [(id, .dm l)]).us fr:=by
     rw[bW]
     rintro(h|h)
     ·exact cq h
     ·exact cq (h ▸ cR)
    obtain⟨n1,n2⟩:=new φ _ _ _ f1 Dj (frozen _ l b es clock f1 Dj g2 g4 g0 ⟨l',gl.perm,g3⟩)
    refine⟨.value (.pointer (some ⟨w.heap.size,0,none⟩)), .pointer (some ⟨w.heap.size,0,none⟩),w.alloc (.mapIter (some b) clock #[] clock),_,_,_,_,hK,by simp[Instr.range,run_underlying ht,jo], .inl rfl,by rw[nB];exact n1,by rw[nB];exact f2.trans n2, ?_,fun j hj=> ?_⟩
    ·rw[nB]
     exact⟨rfl,aU,fun _=>⟨w.heap.size,aU,rfl⟩⟩
    ·simp at hj
     rcases hj with rfl|rfl
     ·exact .inl cR
     ·exact .inr rfl
   ·rename_i l ho
    injection h with h;injection h with e1 e2;injection e2 with e2 e3;subst e1;subst e2;subst e3
    simp only[au,ho]at aI
    obtain⟨b,es,clock,l',g1,g2,g4,g0,gl,g3⟩:=hU aI.den
    have cL:=ot fC
    rw[<- cL]at g1;subst g1
    have jo:=MapKept.run_getObj_map (P:=P) g2
    obtain⟨n1,n2⟩:=new φ H _ _ hH cq (frozen H l b es clock hH cq g2 g4 g0 ⟨l',gl.perm,g3⟩)
    exact KW
   ·cases h
  ·cases h
 ·cases h
theorem rj(hH:ag M φ H w){id b:Nat}{obj obj':aa}{x y:Obj}(cR:H.us id)(ho:H.o id=obj)(hl:obj.live=true)(hr:obj.aY=true)(he:obj.bz=none)(tP:obj'.aY=true)(vq:obj'.bz=none)(cL:φ id= .pointer (some ⟨b,0,none⟩))(g2:w.heap[b]? =some x){w1:World}(IW:w1.os=w.os/\w1.tape=w.tape/\w1.output=w.output/\w1.heap=w.heap)
 (nu:Trans φ H w φ (H.put [(id,obj')]) {w1 with heap:=w.heap.setIfInBounds b y}->au M φ (H.put [(id,obj')]) {w1 with heap:=w.heap.setIfInBounds b y} id):
 ag M φ (H.put [(id,obj')]) {w1 with heap:=w.heap.setIfInBounds b y}/\Trans φ H w φ (H.put [(id,obj')]) {w1 with heap:=w.heap.setIfInBounds b y}:=by
 have tN:cc (· =b) w {w1 with heap:=w.heap.setIfInBounds b y}:=
  ⟨IW.1,IW.2.1,IW.2.2.1,aU,fun j _ hj=>by
   show(w.heap.setIfInBounds b y)[j]? =_
   rw[Array.getElem?_setIfInBounds,if_neg (fun e=>hj e.symm)]⟩
 have nw:(H.o id).live=true:=by rw[ho];exact hl
 have tO:cM (φ id)=some b:=by rw[cL];rfl
 have p4:=cT (w:=w) cR nw tO tN obj' (by rw[ho,hr,tP]) (by rw[ho,he,vq])
 exact⟨dR hH cR nw tO tN _ (by rw[ho,hr,tP]) (by rw[ho,he,vq]) (nu p4),p4⟩
theorem oZ(hH:ag M φ H w){x:V}{xv:Value}{str:Bool}{ty:TypeId}(hx:V.den (ae M φ H) φ H w x xv)(h:bf (iC H.o x str) K):
 a6 M φ H w fr ((do let v <- Instr.next xv str ty;pure (Next.value v):Sem Next).run P w) K:=by
 have hg:=bE h
 clear h
 obtain⟨v,Δ,rd,h,hK⟩:=hg
 unfold iC at h
 split at h
 ·rename_i id
  obtain⟨_,cR,ot⟩:=hx
  split at h
  ·rename_i s pos ho
   split at h
   ·rename_i IX
    subst IX
    obtain⟨b0,q1,rfl⟩:=ot fC
    have aI:=hH.ok id
    simp only[au,ho]at aI
    obtain⟨b,g1,g2⟩:=aI
    rw[q1]at g1;injection g1 with g1;injection g1 with g1;injection g1 with g1;subst g1
    have cg:(ByteArray.mk ⟨s⟩).size=s.length:=rfl
    split at h
    ·rename_i cm
     injection h with h;injection h with e1 e2;injection e2 with e2 e3;subst e1;subst e2;subst e3
     obtain⟨n1,n2⟩:=rj (w1:=w) (y:= .stringIter ⟨⟨s⟩⟩ (pos+(Utf8.decode ⟨⟨s⟩⟩ pos).2)) (obj':= .pX s (pos+(Utf8.decode ⟨⟨s⟩⟩ pos).2)) hH cR ho rfl rfl rfl rfl rfl q1 g2 ⟨rfl,rfl,rfl,rfl⟩ (fun _=>by
      unfold au
      simp only[aH,aq,if_true]
      refine⟨b0,q1, ?_⟩
      have cm:b0<w.heap.size:=by
       rcases Nat.lt_or_ge b0 w.heap.size with h|h
       ·exact h
       ·simp[Array.getElem?_eq_none h]at g2
      show(w.heap.setIfInBounds b0 _)[b0]? =_
      rw[Array.getElem?_setIfInBounds,if_pos rfl,if_pos cm])
     refine⟨.value (.tuple #[.bool true,goInt pos, .int .i32 (Utf8.decode ⟨⟨s⟩⟩ pos).1]),_,_,φ,_,_,_,hK, ?_, .inl rfl,n1,n2,⟨_,rfl, .bool true,_,rfl,rfl,_,_,rfl,rfl,_,_,rfl,rfl,rfl⟩,fun j hj=> .inl yX⟩
     simp only[Instr.next,getObj,setObj,Sem.run_bind,Sem.run,g2,Result.andThen,cg,cm,if_true]
     rfl
    ·rename_i cm
     injection h with h;injection h with e1 e2;injection e2 with e2 e3;subst e1;subst e2;subst e3
     refine a6.same hH (.tuple #[.bool false]) hK ?_ ⟨_,rfl, .bool false,_,rfl,rfl,rfl⟩
     simp only[Instr.next,getObj,Sem.run_bind,Sem.run,g2,Result.andThen,cg,cm,if_false]
     rfl
   ·cases h
  ·cases h
 ·cases h
theorem o3{es:List MapEntry}(hn:(es.map (·.born)).Nodup)(seen:Array Nat){e:MapEntry}{i:Nat}(hi:(es.filter fun e=> !seen.contains e.born)[i]? =some e):
 (es.filter fun x=> !(seen.push e.born).contains x.born)=(es.filter fun e=> !seen.contains e.born).eraseIdx i:=by
 have e1:(es.filter fun x=> !(seen.push e.born).contains x.born)=(es.filter fun e=> !seen.contains e.born).filter (fun x=>x.born !=e.born):=by
  rw[List.filter_filter]
  refine List.filter_congr fun x _=> ?_
  simp only[Array.contains_push]
  cases h1:seen.contains x.born<;>cases h2:(x.born==e.born)<;>simp_all[bne]
 rw[e1]
 have Ld:((es.filter fun e=> !seen.contains e.born).map (·.born)).Nodup:=hn.sublist (List.Sublist.map _ (List.filter_sublist ..))
 generalize (es.filter fun e=> !seen.contains e.born)=L at hi Ld|-
 induction L generalizing i with
 |nil=>simp at hi
 |cons y L ih=>
  obtain⟨n1,n2⟩:=List.nodup_cons.1 Ld
  cases i with
  |zero=>
   simp at hi;subst hi
   simp only[List.filter_cons,bne_self_eq_false,Bool.false_eq_true,if_false,List.eraseIdx_zero,List.tail_cons]
   refine List.filter_eq_self.2 fun x hx=> ?_
   simp only[bne_iff_ne,ne_eq]
   exact fun h=>n1 (by show y.born∈_;rw[<- h];exact List.mem_map.2 ⟨x,hx,rfl⟩)
  |succ i=>
   simp only[List.getElem?_cons_succ]at hi
   have hm:=List.mem_of_getElem? hi
   have iM:(y.born !=e.born)=true:=by
    simp only[bne_iff_ne,ne_eq]
    exact fun h=>n1 (by show y.born∈_;rw[h];exact List.mem_map.2 ⟨e,hm,rfl⟩)
   rw[List.filter_cons,iM,if_pos rfl,List.eraseIdx_cons_succ,ih hi n2]
theorem o4(hH:ag M φ H w){x:V}{xv:Value}{ty:TypeId}(hx:V.den (ae M φ H) φ H w x xv){id:Nat}{l:List (D×D)}(h:iD H.o x=some (id,l))(hK:q8 id l K):
 a6 M φ H w fr ((do let v <- Instr.next xv false ty;pure (Next.value v):Sem Next).run P w) K:=by
 unfold iD at h
 split at h
 ·rename_i tQ
  obtain⟨_,cR,ot⟩:=hx
  split at h
  ·rename_i l' last ho
   simp only[Option.some.injEq,Prod.mk.injEq]at h
   obtain⟨rfl,rfl⟩:=h
   obtain⟨b0,q1,rfl⟩:=ot fC
   have aI:=hH.ok tQ
   simp only[au,ho]at aI
   obtain⟨b,g1,g2⟩:=aI
   rw[q1]at g1;injection g1 with g1;injection g1 with g1;injection g1 with g1;subst g1
   rcases g2 with⟨g2,rfl,_⟩|⟨m,since,seen,es,g2,g3,g4,g5,g6,_⟩
   ·refine a6.same hH (.tuple #[.bool false]) (hK.1 rfl) ?_ ⟨_,rfl, .bool false,_,rfl,rfl,rfl⟩
    simp only[Instr.next,getObj,Sem.run_bind,Sem.run,g2,Result.andThen]
    rfl
   ·have xA:=next_test_false seen es since since g5.1 (Nat.le_refl _)
    have jk:(es.filter fun e=> !seen.contains e.born).toList=es.toList.filter fun e=> !seen.contains e.born:=aU
    obtain⟨l1,gp,g6⟩:=g6
    rw[<- jk]at g6
    have lh:∀x∈(es.filter fun e=> !seen.contains e.born).toList,x.born<since:=fun x hx=>g5.1 x (by simp at hx|-;exact hx.1)
    have IY:b0<w.heap.size:=by
     rcases Nat.lt_or_ge b0 w.heap.size with h|h
     ·exact h
     ·simp[Array.getElem?_eq_none h]at g2
    by_cases h0:(es.filter fun e=> !seen.contains e.born).size=0
    ·have hL:(es.filter fun e=> !seen.contains e.born)=#[]:=Array.eq_empty_of_size_eq_zero h0
     rw[hL]at g6
     have nw:l1=[]:=by cases l1 with|nil=>rfl|cons p l1=>obtain⟨e,es',h,_⟩:=g6;simp at h
     have Dk:l'=[]:=by rw[nw]at gp;exact gp.symm.eq_nil
     refine a6.same hH (.tuple #[.bool false]) (hK.1 Dk) ?_ ⟨_,rfl, .bool false,_,rfl,rfl,rfl⟩
     simp only[Instr.next,getObj,Sem.run_bind,Sem.run,g2,g3,Result.andThen,xA,Bool.false_eq_true,if_false,hL]
     simp[choose,Sem.run,Question.forced]
    ·have cI:∃ (j:Nat) (e:MapEntry) (w1:World),(es.filter fun e=> !seen.contains e.born).toList[j]? =some e/\(w1.os=w.os/\w1.tape=w.tape/\w1.output=w.output/\w1.heap=w.heap)/\
      (Instr.next (.pointer (some ⟨b0,0,none⟩)) false ty).run P w= .ok (.tuple #[.bool true,e.key,e.val]) {w1 with heap:=w.heap.setIfInBounds b0 (.mapIter (some m) since (seen.push e.born) since)}:=by
      simp only[Instr.next,getObj,Sem.run_bind,Sem.run,g2,g3,Result.andThen,xA,Bool.false_eq_true,if_false]
      generalize es.filter (fun e=> !seen.contains e.born)=L at lh h0|-
      have e1:L.filter (fun x=>decide (x.born<since))=L:=Array.filter_eq_self.2 (fun x hx=>by simpa using lh x (by simpa using hx))
      have e2:L.filter (fun x=>decide (x.born≥since))=#[]:=by
       rw[Array.filter_eq_empty_iff]
       intro x hx
       have:=lh x (by simpa using hx)
       simp
       omega
      have iM:L.isEmpty=false:=by simp[Array.isEmpty,h0]
      simp only[e1,e2,Array.append_empty,iM,Bool.false_eq_true,if_false,Array.empty_append,Array.size_map]
      have MA:∃ (j:Nat) (w1:World),j<L.size/\(w1.os=w.os/\w1.tape=w.tape/\w1.output=w.output/\w1.heap=w.heap)/\(choose (Question.mapNext L.size)).run P w= .ok j w1:=by
       by_cases hf:L.size<=1
       ·exact⟨0,w,aN,⟨rfl,rfl,rfl,rfl⟩,by simp[choose,Sem.run,Question.forced,hf]⟩
       ·exact⟨_,w.drew,Nat.mod_lt _ aN,⟨rfl,rfl,rfl,rfl⟩,by
         simp only[choose,Sem.run,Question.forced,decide_eq_true_eq,hf,if_false,Question.cut]
         rfl⟩
      obtain⟨j,w1,hj,ze,cI⟩:=MA
      refine⟨j,L[j],w1,by simp[hj],ze, ?_⟩
      have MB:w1.heap[b0]? =some (.mapIter (some m) since seen since):=by rw[ze.2.2.2];exact g2
      simp only[cI,Array.getElem?_map,Array.getElem?_eq_getElem hj,Option.map_some,Sem.run_bind,setObj,Sem.run,MB,g2,Result.andThen,ze.2.2.2]
      rfl
     obtain⟨j,e,w1,HE,ze,cI⟩:=cI
     obtain⟨⟨k,x⟩,Hx,tf,Le⟩:=g6.get HE
     obtain⟨j2,IZ,rk⟩:=List.getElem_of_mem (gp.mem_iff.1 (List.mem_of_getElem? Hx))
     have rk:l'[j2]? =some (k,x):=by rw[List.getElem?_eq_getElem IZ,rk]
     have MC:(l1.eraseIdx j).Perm (l'.eraseIdx j2):=by
      have xB:∀ {L:List (D×D)} {i:Nat} {n:D×D},L[i]? =some n->L.Perm (n::L.eraseIdx i):=by
       intro L i n h
       obtain⟨hi,e⟩:=List.getElem?_eq_some_iff.1 h
       have Hy:L=L.take i++n::L.drop (i+1):=by rw[<- e,List.getElem_cons_drop,List.take_append_drop]
       rw[List.eraseIdx_eq_take_drop_succ]
       conv=>lhs;rw[Hy]
       exact List.perm_middle
      exact List.Perm.cons_inv (((xB Hx).symm.trans gp).trans (xB rk))
     have tc:e∈es.toList:=by
      have:=List.mem_of_getElem? HE
      rw[jk]at this
      exact(List.mem_filter.1 this).1
     obtain⟨n1,n2⟩:=rj (w1:=w1) (y:= .mapIter (some m) since (seen.push e.born) since) (obj':= .l8 (l'.eraseIdx j2) (some (k,x))) hH cR ho rfl rfl rfl rfl rfl q1 g2 ze (fun ht=>by
      unfold au
      simp only[aH,aq,if_true]
      obtain⟨k1,k2⟩:=ht.blocks (M:=M) m (.inr ⟨es,since,g3⟩) g4
      refine⟨b0,q1, .inr ⟨m,since,seen.push e.born,es, ?_,k1.trans g3,k2,g5, ?_,fun k' x' I0=> ?_⟩⟩
      ·show(w.heap.setIfInBounds b0 _)[b0]? =_
       rw[Array.getElem?_setIfInBounds,if_pos rfl,if_pos IY]
      ·rw[jk]at HE g6
       rw[o3 g5.2 seen HE]
       exact⟨_,MC,ak.mono (ht.blocks (M:=M)) _ _ g6.erase⟩
      ·injection I0 with I0;injection I0 with h1 h2;subst h1;subst h2
       exact⟨e,tc,aU,D.ax (ht.blocks (M:=M)) _ _ tf,D.ax (ht.blocks (M:=M)) _ _ Le⟩)
     refine⟨.value (.tuple #[.bool true,e.key,e.val]),_,_,φ,_,_,_,hK.2 j2 k x rk, ?_, .inl rfl,n1,n2,⟨_,rfl, .bool true,_,rfl,rfl,e.key,_,rfl,D.ax (n2.blocks (M:=M)) _ _ tf,e.val,_,rfl,D.ax (n2.blocks (M:=M)) _ _ Le,rfl⟩,fun j hj=> .inl yX⟩
     simp only[Sem.run_bind,cI,Result.andThen_ok,Sem.run_pure]
  ·cases h
 ·cases h
theorem sC(hH:ag M φ H w){x:V}{xv:Value}(hx:V.den (ae M φ H) φ H w x xv)(h:bf (gZ H.o x) K):
 a6 M φ H w fr ((do let v <- Instr.entry xv;pure (Next.value v):Sem Next).run P w) K:=by
 have hg:=bE h
 clear h
 obtain⟨v,Δ,rd,h,hK⟩:=hg
 unfold gZ at h
 split at h
 ·rename_i id
  obtain⟨_,cR,ot⟩:=hx
  split at h
  ·rename_i l k x ho
   injection h with h;injection h with e1 e2;injection e2 with e2 e3;subst e1;subst e2;subst e3
   obtain⟨b0,q1,rfl⟩:=ot fC
   have aI:=hH.ok id
   simp only[au,ho]at aI
   obtain⟨b,g1,g2⟩:=aI
   rw[q1]at g1;injection g1 with g1;injection g1 with g1;injection g1 with g1;subst g1
   rcases g2 with⟨_,_,g2⟩|⟨m,since,seen,es,g2,g3,g4,g5,g6,g7⟩
   ·cases g2
   ·obtain⟨e,h1,h2,h3,h4⟩:=g7 k x rfl
    have hf:es.find? (·.born==e.born)=some e:=by rw[<- Array.find?_toList];exact find_born e es.toList g5.2 h1
    refine a6.same hH (.tuple #[e.key,e.val]) hK ?_ ⟨_,rfl,e.key,_,rfl,h3,e.val,_,rfl,h4,rfl⟩
    simp only[Instr.entry,getObj,Sem.run_bind,Sem.run,g2,g3,Result.andThen,h2,bne_self_eq_false,Bool.false_eq_true,if_false,hf]
    rfl
  ·cases h
 ·cases h
theorem gN(hH:ag M φ H w){t:TypeId}{m k v:V}{mv kv vv:Value}(hm:V.den (ae M φ H) φ H w m mv)(hk:V.den (ae M φ H) φ H w k kv)(hv:V.den (ae M φ H) φ H w v vv)
 (h:bf (eu P H.o t m k v) K):a6 M φ H w fr ((do Instr.mapUpdate t mv kv vv;pure Next.skip:Sem Next).run P w) K:=by
 have hg:=bE h
 clear h
 obtain⟨v',Δ,rd,h,hK⟩:=hg
 unfold eu at h
 split at h
 ·rename_i kt vt kd vd id xp xq l ht Dh IA vW
  rcases lf vW with⟨Mx,My,Mz,rfl,ho,hr⟩|⟨rfl,hr,rfl⟩
  case inr=>cases hr
  injection hr with hr;injection hr with e1 e2;injection e2 with e2 e3;subst e1;subst e2;subst e3
  split at h
  ·rename_i hc
   obtain⟨c1,c2,c3,c4⟩:=hc
   have eB:D.den (ae M φ H) w kd kv:=dA hH k kd kv (fun id aj=>by rw[c1]at aj;cases aj) Dh hk
   have vr:∀em,(Instr.checkKey em 10000 kt kv).run P w= .ok () w:=fun em=>iP em 100 kt kd c2 10000 ke kv eB
   have te:=jB ht
   ·obtain⟨IQ,cR,ot⟩:=hm
    have cL:=ot fC
    have aI:=hH.ok id
    simp only[au,ho]at aI
    obtain⟨b,es,clock,g1,g2,g0,g3⟩:=aI
    rw[<- cL]at g1;subst g1
    have jo:=MapKept.run_getObj_map (P:=P) g2
    have fF:id∉v.ids:=fun hm=>by have:=List.all_eq_true.1 c4 id hm;simp at this
    obtain⟨f1,f2,f3,f4,f5⟩:=bK hH v.ids (bP v _ hv)
    have l3:=(f4 id fF).trans ho
    have xC:=dA f1 v vd vv f3 IA (V.ax f2 _ _ hv)
    have tR:=D.ax (f2.blocks (M:=M)) kd kv eB
    have Lf:=ak.mono (f2.blocks (M:=M)) l _ g3
    have vY:(bH H.o v.ids).map (·.1)=v.ids:=by rw[fg];simp[Function.comp_def]
    have turn:∀ (l':List (D×D)) (es':Array MapEntry) (clock':Nat),dD es' clock'->ak (ae M φ (H.put (bH H.o v.ids))) w l' es'.toList->K (.a7 []) (bH H.o v.ids++[(id, .map xp xq l')]) (id::v.ids)->
     (Instr.mapUpdate t (.map (some b)) kv vv).run P w= .ok () {w with heap:=w.heap.setIfInBounds b (.map es' clock')}->
     a6 M φ H w fr ((do Instr.mapUpdate t (.map (some b)) kv vv;pure Next.skip:Sem Next).run P w) K:=by
     intro l' es' clock' MD hl hK hr
     have tN:cc (· =b) w {w with heap:=w.heap.setIfInBounds b (.map es' clock')}:=
      ⟨rfl,rfl,rfl,aU,fun j _ hj=>(MapKept.heap_set g2).2 j hj⟩
     have nw:((H.put (bH H.o v.ids)).o id).live=true:=by rw[l3];rfl
     have tO:cM (φ id)=some b:=by rw[<- cL];rfl
     have p4:=cT (w:=w) (w':={w with heap:=w.heap.setIfInBounds b (.map es' clock')}) ((f5 id).2 cR) nw tO tN (.map xp xq l') ox ox
     refine⟨.skip,undef,_,φ,_,_,_,hK,by simp only[Sem.run_bind,hr,Result.andThen_ok];rfl, .inr ⟨rfl,rfl⟩, ?_, ?_, ?_,fun j hj=> .inl ?_⟩
     ·rw[bV]
      refine dR f1 ((f5 id).2 cR) nw tO tN _ ox ox ?_
      unfold au
      simp only[aH,aq,if_true]
      exact⟨b,es',clock',cL.symm,(MapKept.heap_set g2).1,MD,ak.mono (p4.blocks (M:=M)) l' _ hl⟩
     ·rw[bV];exact f2.trans p4
     ·exact⟨#[],rfl,rfl⟩
     ·rw[List.map_append,vY]at hj
      simp only[List.map_cons,List.map_nil,List.mem_append,List.mem_singleton]at hj
      rcases hj with hj|rfl
      ·exact bP v _ hv j hj
      ·exact cR
    split at h
    ·rename_i i k' x hf
     split at h
     ·rename_i Dl
      injection h with h;injection h with e1 e2;injection e2 with e2 e3;subst e1;subst e2;subst e3
      have ME:=D.bY _ _ Dl
      subst ME
      obtain⟨r',q1,q2⟩:=cX eB c2 g3 hf
      cases r' with
      |none=>exact q2.elim
      |some p=>
       obtain⟨j',u⟩:=p
       obtain⟨rfl,_,HC,e,h4,h5,h6⟩:=q2
       rw[Nat.sub_zero]at h4
       have MF:=qg c3 h6 eB
       have MG:es[i]? =some e:=by simpa using h4
       refine turn _ (es.modify i fun e=>{e with key:=kv,val:=vv}) clock (nA g0 h4 rfl) ?_ hK ?_
       ·rw[dF _ h4]
        exact ak.set Lf tR xC
       ·have hs:=sx (P:=P) (w':=w) c3 eB
        simp only[Instr.mapUpdate,Sem.run_bind,run_underlying te,Result.andThen_ok,jo,vr,q1,MG,Option.map_some,Option.getD_some,MF,hs]
        exact MapKept.run_setObj_map _ g2
     ·cases h
    ·rename_i hf
     injection h with h;injection h with e1 e2;injection e2 with e2 e3;subst e1;subst e2;subst e3
     obtain⟨r',q1,q2⟩:=cX eB c2 g3 hf
     cases r' with
     |some p=>exact q2.elim
     |none=>
      refine turn _ (es.push {key:=kv,val:=vv,born:=clock}) (clock+1) (qk g0 rfl) ?_ hK ?_
      ·rw[Array.toList_push]
       exact ak.push Lf tR xC
      ·simp only[Instr.mapUpdate,Sem.run_bind,run_underlying te,Result.andThen_ok,jo,vr,q1]
       exact MapKept.run_setObj_map _ g2
    ·cases h
  ·cases h
 ·cases h
end
end
section
section
variable {P:Program}(w:World)(d:Nat){t:TypeId}
theorem Dm{ms}(ht:P.underlying t=some (.interface ms)):(Op.equalIn (d+1) t .nilIface .nilIface).run P w= .ok true w:=nk
theorem Cc{ms}(ht:P.underlying t=some (.interface ms))(u:TypeId)(v:Value):(Op.equalIn (d+1) t (.iface u v) .nilIface).run P w= .ok false w:=nk
theorem Cd{ms}(ht:P.underlying t=some (.interface ms))(u:TypeId)(v:Value):(Op.equalIn (d+1) t .nilIface (.iface u v)).run P w= .ok false w:=nk
theorem Dn{ms}(ht:P.underlying t=some (.interface ms)){a b:TypeId}{x y:D}{B:Nat->Prop}{w2:World}{u v:Value}{r:Bool}(h:Il P a b x y=some r)(hx:D.den B w2 x u)(hy:D.den B w2 y v):(Op.equalIn (d+2) t (.iface a u) (.iface b v)).run P w= .ok r w:=by
 unfold Il at h
 by_cases e:a=b
 ·subst e
  rw[if_pos rfl]at h
  split at h
  ·rename_i i k hi hk
   split at h
   ·rename_i hc
    split at h
    ·split at h
     ·rename_i IP
      injection h with h;subst h
      simp only[D.den]at hx hy
      subst hx;subst hy;subst IP
      simp[Op.equalIn,run_underlying ht,run_underlying hk,typeInfo,hi,hc]
     ·cases h
    ·cases h
   ·cases h
  ·cases h
 ·rw[if_neg e]at h
  injection h with h;subst h
  simp[Op.equalIn,run_underlying ht,e]
theorem Dp{a b c}(ht:P.underlying t=some (.func a b c)):(Op.equalIn (d+1) t .nilFunc .nilFunc).run P w= .ok true w:=nk
theorem Dq{a b c}(ht:P.underlying t=some (.func a b c))(f x y):(Op.equalIn (d+1) t (.func f x y) .nilFunc).run P w= .ok false w:=nk
theorem Dr{a b}(ht:P.underlying t=some (.map a b)):(Op.equalIn (d+1) t (.map none) (.map none)).run P w= .ok true w:=nk
theorem Ca{a b}(ht:P.underlying t=some (.map a b))(x):(Op.equalIn (d+1) t (.map (some x)) (.map none)).run P w= .ok false w:=nk
theorem Ds{e}(ht:P.underlying t=some (.pointer e)):(Op.equalIn (d+1) t (.pointer none) (.pointer none)).run P w= .ok true w:=nk
theorem Cf{e}(ht:P.underlying t=some (.pointer e))(a):(Op.equalIn (d+1) t (.pointer (some a)) (.pointer none)).run P w= .ok false w:=nk
theorem Dt{e}(ht:P.underlying t=some (.slice e))(b n c):(Op.equalIn (d+1) t (.slice b n c) (.slice none 0 0)).run P w= .ok b.isNone w:=by cases b<;>simp[Op.equalIn,run_underlying ht]
end
section
variable {P:Program}{M:Nat->Prop}{φ:Place}{H:Hp}{w w':World}{fr:Nat}{K:V->List (Nat×aa)->List Nat->Prop}{B:Nat->Prop}
theorem qm(hH:ag M φ H w){x:V}{xv:Value}{es:List D}(h:cz H.o x=some es)(hx:V.den (ae M φ H) φ H w x xv):∃base n c,xv= .slice base n c/\(es≠[]->base≠none):=by
 have hd:∃x',cN H.o x=some x'/\x'= .sl es:=by
  unfold cz at h
  split at h
  ·rename_i es' hd;injection h with h;subst h;exact⟨_,hd,rfl⟩
  ·cases h
 obtain⟨x',hd,rfl⟩:=hd
 obtain⟨f1,f2,f3,f4,f5⟩:=bK hH x.ids (bP x _ hx)
 have:=dA f1 x (.sl es) xv f3 hd (V.ax f2 _ _ hx)
 obtain⟨base,len,cap,rfl,h1,h2,h3,_⟩:=this
 refine⟨base,len,cap,rfl,fun iM hb=> ?_⟩
 have:=h3 hb
 have:es.length=0:=aN
 exact iM (List.length_eq_zero_iff.1 this)
def xn:Value->Bool
 | .int _ _| .float _ _| .complex _ _ _| .string _=>false
 |_=>true
theorem rl(hH:ag M φ H w){t:TypeId}{p q:Operand}{x y v:V}{xv yv:Value}(hx:V.den (ae M φ H) φ H w x xv)(hy:V.den (ae M φ H) φ H w y yv)(h:y8 P H.o t (isConst p||isConst q) x y=some v):
 ∃r:Bool,(v= .d (.bool r)\/v= .c7)/\xn xv=true/\(∀op,(eqGuard op t p q xv yv).run P w= .ok () w)/\(Op.equal t xv yv).run P w= .ok r w:=by
 have dW:(∀a b, ¬ (xv= .agg a/\yv= .agg b))-> ¬ (xv= .nilIface/\yv= .nilIface)->∀op,(eqGuard op t p q xv yv).run P w= .ok () w:=by
  intro h1 h2 op
  unfold eqGuard
  cases op<;>cases xv<;>cases yv<;>first
   |(simp;done)
   |(exact absurd ⟨rfl,rfl⟩ (h1 _ _))
   |(exact absurd ⟨rfl,rfl⟩ h2)
 unfold y8 at h
 cases ht:P.underlying t with
 |none=>simp[ht]at h
 |some td=>
  simp only[ht]at h
  have eq:∀r,(∀d,(Op.equalIn (d+1) t xv yv).run P w= .ok r w)->(Op.equal t xv yv).run P w= .ok r w:=fun r h=>h 9999
  cases td<;>simp only[reduceCtorEq]at h
  case interface ms=>
   split at h
   ·split at h
    ·rename_i hc
     injection h with h;subst h
     simp only[V.den,D.den]at hx hy;subst hx;subst hy
     refine⟨true, .inl rfl,rfl,fun op=> ?_,eq _ (fun d=>by rw[Dm w d ht])⟩
     simp only[Bool.or_eq_true]at hc
     unfold eqGuard
     rcases hc with hc|hc
     ·cases p<;>simp only[isConst,Bool.false_eq_true]at hc
      cases op<;>simp
     ·cases q<;>simp only[isConst,Bool.false_eq_true]at hc
      cases op<;>simp
    ·cases h
   ·exact CS
   ·exact CS
   ·exact CQ
   ·exact CQ
   ·rename_i a x b y
    simp only[Option.map_eq_some_iff]at h
    obtain⟨r,h1,rfl⟩:=h
    obtain⟨u,rfl,g1⟩:=hx
    obtain⟨u2,rfl,g2⟩:=hy
    exact⟨r, .inl rfl,rfl,dW (fun _ _ h=>by cases h.1) yF,Dn w 9998 ht h1 g1 g2⟩
   ·cases h
  case func a b c=>
   split at h
   ·injection h with h;subst h
    simp only[V.den,D.den]at hx hy;subst hx;subst hy
    exact⟨true, .inl rfl,rfl,dW (fun _ _ h=>by cases h.1) yF,eq _ (fun d=>by rw[Dp w d ht])⟩
   ·injection h with h;subst h
    obtain⟨f,c',rfl,_⟩:=hx
    simp only[V.den,D.den]at hy;subst hy
    exact⟨false, .inl rfl,rfl,dW (fun _ _ h=>by cases h.1) yF,eq _ (fun d=>by rw[Dq w d ht])⟩
   ·cases h
  case map a b=>
   split at h
   ·simp only[V.den,D.den]at hy;subst hy
    unfold jv at h
    split at h
    ·injection h with h;subst h
     simp only[V.den,D.den]at hx;subst hx
     exact⟨true, .inl rfl,rfl,dW (fun _ _ h=>by cases h.1) yF,eq _ (fun d=>by rw[Dr w d ht])⟩
    ·injection h with h;subst h
     obtain⟨bk,es,clock,_,rfl,_⟩:=hx
     exact KU
    ·rename_i id
     split at h
     ·rename_i ho
      injection h with h;subst h
      obtain⟨_,_,h3⟩:=hx
      have cL:=h3 fC
      have aI:=hH.ok id
      exact CV
     ·rename_i ho
      injection h with h;subst h
      obtain⟨_,_,h3⟩:=hx
      have cL:=h3 fC
      have aI:=hH.ok id
      exact CV
     ·cases h
    ·cases h
   ·cases h
  case pointer e=>
   split at h
   ·simp only[V.den,D.den]at hy;subst hy
    unfold jw at h
    split at h
    ·injection h with h;subst h
     simp only[V.den,D.den]at hx;subst hx
     exact⟨true, .inl rfl,rfl,dW (fun _ _ h=>by cases h.1) yF,eq _ (fun d=>by rw[Ds w d ht])⟩
    ·split at h
     ·rename_i hr
      injection h with h;subst h
      obtain⟨_,_,h3⟩:=hx
      obtain⟨bk,_,rfl⟩:=h3 hr
      exact Ce
     ·cases h
    ·injection h with h;subst h
     obtain⟨a,ev,_,rfl,_⟩:=hx
     exact Ce
    ·cases h
   ·cases h
  case slice e=>
   split at h
   ·simp only[V.den]at hy;subst hy
    unfold oG at h
    split at h
    ·injection h with h;subst h
     simp only[V.den]at hx;subst hx
     exact⟨true, .inl rfl,rfl,dW (fun _ _ h=>by cases h.1) yF,eq _ (fun d=>by rw[Dt w d ht];rfl)⟩
    ·split at h
     ·rename_i es hl
      obtain⟨base,n,c,rfl,hb⟩:=qm hH hl hx
      refine⟨base.isNone, ?_,rfl,dW (fun _ _ h=>by cases h.1) yF,eq _ ?_⟩
      ·split at h
       ·injection h with h;exact .inr h.symm
       ·rename_i iM
        injection h with h
        have:=hb iM
        cases base with
        |none=>exact absurd rfl this
        |some a=>exact .inl h.symm
      ·intro d
       rw[Dt w d ht]
     ·cases h
   ·cases h
  case struct fs=>
   split at h
   ·split at h
    ·rename_i hg
     exact CH
    ·cases h
   ·cases h
  case array n e=>
   split at h
   ·split at h
    ·rename_i hg
     exact CH
    ·cases h
   ·cases h
theorem v8(hH:ag M φ H w){op:BinOp}{t:TypeId}{p q:Operand}{x y:V}{xv yv:Value}(hx:V.den (ae M φ H) φ H w x xv)(hy:V.den (ae M φ H) φ H w y yv)
 (h:bf (jx P H.o op t (isConst p||isConst q) x y) K):
 a6 M φ H w fr ((do let y <- (do eqGuard op t p q xv yv;binOp op t xv yv);pure (Next.value y):Sem Next).run P w) K:=by
 have hg:=bE h
 clear h
 obtain⟨v,Δ,rd,h,hK⟩:=hg
 unfold jx at h
 split at h
 ·simp only[Option.map_eq_some_iff]at h
  obtain⟨u,h1,h2⟩:=h
  injection h2 with e1 e2;injection e2 with e2 e3;subst e1;subst e2;subst e3
  obtain⟨r,hv,KY,I1,he⟩:=rl (p:=p) (q:=q) hH hx hy h1
  refine a6.plain hH (.bool r) hK ?_ ?_
  ·have hb:(binOp .eql t xv yv).run P w= .ok (.bool r) w:=by
    unfold binOp
    exact Cw
   simp[I1,hb]
  ·rcases hv with rfl|rfl
   ·rfl
   ·exact⟨r,rfl⟩
 ·simp only[Option.map_eq_some_iff,Option.bind_eq_some_iff]at h
  obtain⟨u',⟨u,h1,h3⟩,h2⟩:=h
  injection h2 with e1 e2;injection e2 with e2 e3;subst e1;subst e2;subst e3
  obtain⟨r,hv,KY,I1,he⟩:=rl (p:=p) (q:=q) hH hx hy h1
  refine a6.plain hH (.bool !r) hK ?_ ?_
  ·have hb:(binOp .neq t xv yv).run P w= .ok (.bool !r) w:=by
    unfold binOp
    exact Cw
   simp[I1,hb]
  ·rcases hv with rfl|rfl
   ·simp only[vK,Option.some.injEq]at h3;subst h3;rfl
   ·simp only[vK,Option.some.injEq]at h3;subst h3;exact⟨!r,rfl⟩
 ·cases h
end
end
section
section
variable {P:Program}{M:Nat->Prop}{φ:Place}{H:Hp}{w w':World}{fr:Nat}{K:V->List (Nat×aa)->List Nat->Prop}
theorem nC(hH:ag M φ H w){o:Oper}{a:Act}{q:Operand}(ho:o.op= .nilCheck q){x:V}(hx:V.den (ae M φ H) φ H w x (a.eval q))
 (h:eR H.o x fun v=>K v [] []):a6 M φ H w fr ((execOp a.eval o).run P w) K:=by
 unfold eR at h
 have I2:=hx
 split at h
 ·rename_i id off
  obtain⟨h1,hK⟩:=h
  obtain⟨_,hu,hp⟩:=I2
  obtain⟨b,cL,hv⟩:=hp h1
  exact a6.same hH _ hK (by simp[execOp,ho,hv]) (hv ▸ hx)
 ·rename_i cs off
  obtain⟨b,ev,_,hv,_⟩:=I2
  exact a6.same hH _ h (by simp[execOp,ho,hv]) (hv ▸ hx)
 ·rename_i f first cap
  obtain⟨b,c,hv,_⟩:=I2
  exact a6.same hH _ h (by simp[execOp,ho,hv]) (hv ▸ hx)
 ·exact h.elim
theorem sD{t:TypeId}{k:IntKind}(h:sd P t=some k):P.underlying t=some (.int k):=by
 unfold sd at h
 cases hd:P.underlying t with
 |none=>simp[hd]at h
 |some d=>cases d<;>simp_all
theorem iQ(s:S)(a:Act)(b5:∀i,V.den (ae M φ H) φ H w (s.env i) (a.tmps.getD i undef))(xs:Array Operand):
 V.ai (ae M φ H) φ H w (xs.toList.map s.ev) (xs.map a.eval).toList:=by
 simpa using ey s a b5 xs.toList
theorem mJ(hH:ag M φ H w){s:S}(kK:s.o=H.o){a:Act}(b5:∀i,V.den (ae M φ H) φ H w (s.env i) (a.tmps.getD i undef))(cq: ¬H.us fr){o:Oper}{op:Op}(dg:o.op=op)(h:xr P s fr op K):
 a6 M φ H w fr ((execOp a.eval o).run P w) K:=by
 have bC:=fL (M:=M) (φ:=φ) (H:=H) (w:=w) s a b5
 cases op<;>simp only[xr]at h<;>try (exact h.elim)
 case move x=>exact a6.same hH _ h (by simp[execOp,dg]) (bC x)
 case assign x=>exact a6.same hH _ h (by simp[execOp,dg]) (bC x)
 case pick c x y=>
  have:=tB (P:=P) (fr:=fr) hH (bC c) (bC x) (bC y) h
  exact kb
 case alloc t=>
  have:=si (P:=P) (fr:=fr) hH cq h
  exact kb
 case box t x=>
  have:=vT (P:=P) (fr:=fr) (t:=t) hH cq (bC x) h
  exact kb
 case build t parts=>
  have:=sm (P:=P) (fr:=fr) hH b5 h
  exact kb
 case buildSlice t len parts=>
  rw[kK]at h
  have:=k9 (P:=P) (fr:=fr) hH cq b5 h
  exact kb
 case load t x=>
  rw[kK]at h
  have:=tA (P:=P) (fr:=fr) hH (bC x) h
  exact kb
 case store t x y=>
  rw[kK]at h
  have:=sq (P:=P) (fr:=fr) hH (bC x) (bC y) h
  exact kb
 case nilCheck x=>
  rw[kK]at h
  exact nC hH dg (bC x) h
 case binOp op t x y yt=>
  rw[kK]at h
  rcases h with h|h
  ·have:=vR (P:=P) (fr:=fr) (p:=x) (q:=y) hH (bC x) (bC y) h
   exact kb
  ·have:=v8 (P:=P) (fr:=fr) (p:=x) (q:=y) hH (bC x) (bC y) h
   exact kb
 case unOp op t x=>
  rcases h with h|⟨rfl,hx,hK⟩
  ·have:=zb (P:=P) (fr:=fr) hH (bC x) h
   exact kb
  ·have hv:=bC x
   rw[hx]at hv
   obtain⟨b,hb⟩:=hv
   exact a6.same hH (.bool !b) hK (by simp[execOp,dg,hb,Op.unary]) ⟨_,rfl⟩
 case convert t u x=>
  obtain⟨I3,h⟩:=h
  split at h
  ·rename_i k k' n hk hx
   have hv:=bC x
   rw[hx]at hv
   simp only[V.den,D.den]at hv
   have hu:=sD hk
   obtain⟨d,hd⟩:=Option.isSome_iff_exists.1 I3
   refine a6.same hH (.int k (k.wrap n)) h ?_ rfl
   cases d<;>simp[execOp,dg,hv,convert,run_underlying hd,run_underlying hu,Conv.intToInt]
  ·exact h.elim
 case makeInterface t x=>
  obtain⟨⟨d,hd,fF⟩,h⟩:=h
  have hr:∀v,(Instr.makeInterface t v).run P w= .ok (.iface t v) w:=by
   intro v
   cases d<;>first|(simp at fF;done)|simp[Instr.makeInterface,run_underlying hd]
  have hv:=bC x
  split at h
  ·rename_i y hy
   rw[hy]at hv
   exact Cz
  ·exact Cz
 case makeFunc fn first cap=>
  exact a6.same hH _ h (by simp[execOp,dg,Instr.makeFunc]) ⟨_,_,rfl,iQ s a b5 first,iQ s a b5 cap⟩
 case makeSlice t l c=>
  have:=mg (P:=P) (fr:=fr) hH cq (bC l) (bC c) h
  exact kb
 case fieldAddr t x f=>
  rw[kK]at h
  have:=mc (P:=P) (fr:=fr) hH (bC x) h
  exact kb
 case indexAddr t x i=>
  rw[kK]at h
  have:=mf (P:=P) (fr:=fr) hH (bC x) (bC i) h
  exact kb
 case extract x i=>
  split at h
  ·rename_i vs hx
   obtain⟨v,hv,hK⟩:=h
   have hd:=bC x
   rw[hx]at hd
   obtain⟨c,hc,hd⟩:=hd
   obtain⟨u,hu,vP⟩:=V.bA _ _ _ _ hd hv
   refine a6.same hH u hK ?_ vP
   have ov:c[i]? =some u:=by simpa using hu
   simp[execOp,dg,hc,Instr.extract,ov]
  ·exact h.elim
 case call c=>
  obtain⟨wa,args,ts⟩:=c
  cases wa<;>simp only at h<;>try (exact h.elim)
  rename_i b
  unfold kZ at h
  split at h
  ·rename_i x bR
   obtain⟨t,mh,h⟩:=h
   rw[kK]at h
   have e1:args=#[x]:=by apply Array.ext';simpa using bR
   have e2:ts=#[t]:=by apply Array.ext';simpa using mh
   subst e1;subst e2
   have:=vS (P:=P) (fr:=fr) (ty:=o.type) hH (bC x) h
   exact vx
  ·rename_i x y bR
   have e1:args=#[x,y]:=by apply Array.ext';simpa using bR
   subst e1
   rw[kK]at h
   have:=h.elim (fun h=>tE (P:=P) (fr:=fr) (ty0:=o.type) hH cq (bC x) (bC y) h) (fun h=>qd (P:=P) (fr:=fr) (ty0:=o.type) hH cq (bC x) (bC y) h)
   exact vx
  ·rename_i x y bR
   have e1:args=#[x,y]:=by apply Array.ext';simpa using bR
   subst e1
   unfold gA at h
   split at h
   ·rename_i k u k' v heq
    simp only[List.cons.injEq,and_true]at heq
    obtain⟨rfl,hK⟩:=h
    have h1:=bC x
    have h2:=bC y
    rw[heq.1]at h1;rw[heq.2]at h2
    simp only[V.den,D.den]at h1 h2
    exact a6.same hH _ hK (by simp[execOp,dg,resolve,invoke,builtin,h1,h2,run_max_int2]) rfl
   ·exact h.elim
  ·rename_i x y bR
   have e1:args=#[x,y]:=by apply Array.ext';simpa using bR
   subst e1
   unfold gA at h
   split at h
   ·rename_i k u k' v heq
    simp only[List.cons.injEq,and_true]at heq
    obtain⟨rfl,hK⟩:=h
    have h1:=bC x
    have h2:=bC y
    rw[heq.1]at h1;rw[heq.2]at h2
    simp only[V.den,D.den]at h1 h2
    exact a6.same hH _ hK (by simp[execOp,dg,resolve,invoke,builtin,h1,h2,run_min_int2]) rfl
   ·exact h.elim
  ·rename_i x y z bR
   have e1:args=#[x,y,z]:=by apply Array.ext';simpa using bR
   subst e1
   have hg:=bE h
   clear h
   obtain⟨v,Δ,rd,h,hK⟩:=hg
   simp only[Option.map_eq_some_iff,Prod.mk.injEq]at h
   obtain⟨v',h,rfl,rfl,rfl⟩:=h
   unfold tx at h
   split at h
   ·rename_i k u k' v K2 t q1 q2 q3
    split at h
    ·rename_i hk
     obtain⟨rfl,rfl⟩:=hk
     injection h with h;subst h
     have h1:=bC x
     have h2:=bC y
     have h3:=bC z
     rw[q1]at h1;rw[q2]at h2;rw[q3]at h3
     simp only[V.den,D.den]at h1 h2 h3
     exact a6.same hH _ hK (by simp[execOp,dg,resolve,invoke,builtin,h1,h2,h3,Builtin.max_,Builtin.max2]) rfl
    ·cases h
   ·cases h
  ·rename_i x y bR
   have e1:args=#[x,y]:=by apply Array.ext';simpa using bR
   subst e1
   rw[kK]at h
   have:=tK (P:=P) (fr:=fr) (ty0:=o.type) hH (bC x) (bC y) h
   exact vx
  ·rename_i x y bR
   have e1:args=#[x,y]:=by apply Array.ext';simpa using bR
   subst e1
   obtain⟨t,ht,h⟩:=h
   rw[kK]at h
   have:=ql (P:=P) (fr:=fr) (ty0:=o.type) hH ht (bC x) (bC y) h
   exact vx
  ·rename_i x bR
   have e1:args=#[x]:=by apply Array.ext';simpa using bR
   subst e1
   unfold vL at h
   split at h
   ·rename_i t mh
    have e2:ts=#[t]:=by apply Array.ext';simpa using mh
    subst e2
    split at h
    ·rename_i e ht
     split at h
     ·rename_i MH
      have hd:=bC x
      rw[MH]at hd
      simp only[V.den]at hd
      exact a6.same hH (.int .i64 0) h (by simp[execOp,dg,resolve,invoke,builtin,hd,Builtin.cap_,run_underlying (aA ht),goInt]) rfl
     ·exact h.elim
    ·exact h.elim
   ·exact h.elim
  ·exact h.elim
 case slice t x lo hi mx=>
  rw[kK]at h
  have:=ss (P:=P) (fr:=fr) (lov:=lo.map a.eval) (hiv:=hi.map a.eval) (mxv:=mx.map a.eval) hH (bC x) (by cases lo<;>simp[bC]) (by cases hi<;>simp[bC]) (by cases mx<;>simp[bC]) h
  exact kb
 case field t x f=>
  have:=su (P:=P) (fr:=fr) hH (bC x) h
  exact kb
 case index t x i=>
  have:=sw (P:=P) (fr:=fr) hH (bC x) (bC i) h
  exact kb
 case insert t m k v=>
  rw[kK]at h
  have:=gN (P:=P) (fr:=fr) hH (bC m) (bC k) (bC v) h
  exact kb
 case typeAssert x xt t ok=>
  have:=qf (P:=P) (fr:=fr) (xt:=xt) hH (bC x) h
  exact kb
 case makeMap t r=>
  cases r with
  |some x=>exact h.elim
  |none=>
   have:=oW (P:=P) (fr:=fr) hH cq h
   exact kb
 case lookup t m k ok=>
  rw[kK]at h
  have:=qj (P:=P) (fr:=fr) hH (bC m) (bC k) h
  exact kb
 case mapUpdate t m k v=>
  rw[kK]at h
  have:=gN (P:=P) (fr:=fr) hH (bC m) (bC k) (bC v) h
  exact kb
 case range t x=>
  rw[kK]at h
  have:=sB (P:=P) (fr:=fr) hH cq (bC x) h
  exact kb
 case next x str=>
  rw[kK]at h
  rcases h with h|⟨rfl,id,l,h1,h2⟩
  ·have:=oZ (P:=P) (fr:=fr) (ty:=o.type) hH (bC x) h
   exact kb
  ·have:=o4 (P:=P) (fr:=fr) (ty:=o.type) hH (bC x) h1 h2
   exact kb
 case entry x=>
  rw[kK]at h
  have:=sC (P:=P) (fr:=fr) hH (bC x) h
  exact kb
end
end
end Go.Proofs.YtlhemmpklhhgoaaGreat
