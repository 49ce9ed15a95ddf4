/-
  A PART. Conditions: none.
-/
import Derived.WideKeyRuns
import Derived.Laws.IdiomRangeMap
import Derived.Test.YtnkamdiiakdkgaaGreatEe4
set_option linter.unusedSimpArgs false
set_option linter.unusedVariables false
set_option maxHeartbeats 8000000
namespace Go.Proofs.YtnkamdiiakdkgaaGreat
section
mutual
theorem D.eH:∀ (x y:D),x.same y=true->x=y
 | .int k a,y,h=>by cases y<;>simp_all[D.same]
 | .bool a,y,h=>by cases y<;>simp_all[D.same]
 | .str a,y,h=>by cases y<;>simp_all[D.same]
 | .fN,y,h=>by cases y<;>simp_all[D.same]
 | .nR,y,h=>by cases y<;>simp_all[D.same]
 | .cK,y,h=>by cases y<;>simp_all[D.same]
 | .iY,y,h=>by cases y<;>simp_all[D.same]
 | .agg cI,y,h=>by
   exact Vc
 | .sl cI,y,h=>by
   exact Vc
 | .iface t a,y,h=>by
   cases y<;>simp only[D.same,Bool.false_eq_true,Bool.and_eq_true,beq_iff_eq]at h
   rw[h.1,D.eH a _ h.2]
 | .mp ks vs,y,h=>by
   cases y<;>simp only[D.same,Bool.false_eq_true,Bool.and_eq_true]at h
   rw[D.dZ ks _ h.1,D.dZ vs _ h.2]
theorem D.dZ:∀ (xs ys:List D),D.gZ xs ys=true->xs=ys
 |[],ys,h=>by cases ys<;>simp_all[D.gZ]
 |a::cI,ys,h=>by
  cases ys<;>simp only[D.gZ,Bool.false_eq_true,Bool.and_eq_true]at h
  rw[D.eH a _ h.1,D.dZ cI _ h.2]
end
section
variable {P:Program}{M:Nat->Prop}{φ:Place}{H:Hp}{w w':World}{fr:Nat}{K:V->List (Nat×aa)->List Nat->Prop}{B:Nat->Prop}
theorem tE{t kt vt:TypeId}(h:rq P t=some (kt,vt)):P.underlying t=some (.map kt vt):=by
 unfold rq at h
 cases hd:P.underlying t with
 |none=>simp[hd]at h
 |some d=>cases d<;>simp_all
theorem zT{x:D}(h:nH x=true){u v:Value}(hu:D.den B w x u)(hv:D.den B w x v):u=v:=by
 cases x<;>simp only[nH,Bool.false_eq_true]at h<;>simp only[D.den]at hu hv
 ·rw[hu,hv]
 ·rw[hu,hv]
 ·obtain⟨⟨⟨a⟩⟩,rfl,h1⟩:=hu
  obtain⟨⟨⟨b⟩⟩,rfl,h2⟩:=hv
  simp only at h1 h2
  rw[h1,h2]
theorem zU:∀ {xs:List D} (_:xs.all nH=true) {us vs:List Value} (_:D.aG B w xs us) (_:D.aG B w xs vs),us=vs
 |[],_,us,vs,hu,hv=>by simp only[D.aG]at hu hv;rw[hu,hv]
 |x::xs,h,us,vs,hu,hv=>by
  simp only[List.all_cons,Bool.and_eq_true]at h
  obtain⟨u,us,rfl,h1,h2⟩:=hu
  obtain⟨v,vs,rfl,h3,h4⟩:=hv
  rw[zT h.1 h1 h3,zU h.2 h2 h4]
theorem GD{x:D}(h:jN x=true){u v:Value}(hu:D.den B w x u)(hv:D.den B w x v):u=v:=by
 cases x with
 |agg cs=>
  simp only[jN]at h
  obtain⟨a,rfl,h1,_⟩:=hu
  obtain⟨b,rfl,h2,_⟩:=hv
  have:=zU h h1 h2
  congr 1
  exact Array.ext' this
 |_=>exact zT (by simpa[jN]using h) hu hv
theorem zV{x:D}(h:nH x=true){u:Value}(hu:D.den B w x u)(n:Nat):Instr.sameBits n u u=true:=by
 cases x<;>simp only[nH,Bool.false_eq_true]at h<;>simp only[D.den]at hu
 ·subst hu;cases n<;>simp[Instr.sameBits]
 ·subst hu;cases n<;>simp[Instr.sameBits]
 ·obtain⟨s,rfl,h1⟩:=hu
  have:(s==s)=true:=(MapKept.bytes_beq s s).2 rfl
  cases n<;>simp[Instr.sameBits,this]
theorem wU:∀ {xs:List D} (_:xs.all nH=true) {us:List Value} (_:D.aG B w xs us) (n:Nat),(us.zip us).all (fun(x,y)=>Instr.sameBits n x y)=true
 |[],_,us,hu,n=>by simp only[D.aG]at hu;subst hu;rfl
 |x::xs,h,us,hu,n=>by
  simp only[List.all_cons,Bool.and_eq_true]at h
  obtain⟨u,us,rfl,h1,h2⟩:=hu
  simp only[List.zip_cons_cons,List.all_cons,zV h.1 h1 n,Bool.true_and]
  exact wU h.2 h2 n
theorem GF{x:D}(h:jN x=true){u:Value}(hu:D.den B w x u)(n:Nat):Instr.sameBits (n+1) u u=true:=by
 cases x with
 |agg cs=>
  simp only[jN]at h
  obtain⟨a,rfl,h1,_⟩:=hu
  have:=wU h h1 n
  simp only[Instr.sameBits,beq_self_eq_true,Bool.true_and]
  exact this
 |_=>exact zV (by simpa[jN]using h) hu (n+1)
theorem K0{x:D}(h:jN x=true){u:Value}(hu:D.den B w x u):(Instr.keyThatStays u u).run P w'= .ok u w':=by
 simp[Instr.keyThatStays,GF h hu 9999]
theorem rG(em:Bool):∀ (d:Nat) (t:TypeId) (x:D),jv P d t x=true->∀m,d<=m->∀u,D.den B w x u->(Instr.checkKey em m t u).run P w= .ok () w
 |0,_,_,h=>by simp[jv]at h
 |d+1,t,x,h=>by
  intro m hm u hu
  obtain⟨m,rfl⟩:∃k,m=k+1:=⟨m - 1,ae⟩
  have IH:=fun t x h u hu=>rG em d t x h m ae u hu
  unfold jv at h
  rw[Instr.checkKey]
  cases hs:bz P t with
  |none=>rw[hs]at h;cases h
  |some sh=>
   rw[hs]at h
   unfold bz at hs
   cases ht:P.underlying t with
   |none=>rw[ht]at hs;cases hs
   |some td=>
    rw[ht]at hs
    simp only[Sem.run_bind,run_underlying ht,Result.andThen_ok]
    cases td<;>simp only[Option.some.injEq,reduceCtorEq]at hs
    case int k0=>simp
    case bool=>simp
    case string=>simp
    case struct fs=>
     split at hs
     ·injection hs with hs;subst hs
      simp only at h
      cases x<;>simp only[Bool.false_eq_true]at h
      rename_i xs
      obtain⟨arr,rfl,ha,hf⟩:=hu
      simp only
      rw[<- Array.forIn_toList]
      rw[List.all_map]at h
      generalize fs.toList=L at h
      induction L with
      |nil=>simp
      |cons f L ih=>
       simp only[List.all_cons,Bool.and_eq_true,Function.comp]at h
       obtain⟨h1,h2⟩:=h
       split at h1
       ·rename_i y hy
        obtain⟨v,k1,k2⟩:=iW hy ha hf
        have k3:=IH _ _ h1 v k2
        by_cases hn:f.name= "_"
        ·simp only[List.forIn_cons,Sem.run_bind,hn,ne_eq,not_true_eq_false,if_false,Result.andThen_ok,Sem.run_pure]
         have:=ih h2
         simp only[Sem.run_bind,Sem.run_pure,ne_eq]at this
         exact this
        ·simp only[List.forIn_cons,Sem.run_bind,hn,ne_eq,not_false_eq_true,if_true,Result.andThen_ok,k1,k3,Sem.run_pure]
         have:=ih h2
         simp only[Sem.run_bind,Sem.run_pure,ne_eq]at this
         exact this
       ·cases h1
     ·cases hs
    case array n e=>
     split at hs
     ·rename_i hi
      injection hs with hs;subst hs
      simp only at h
      cases x<;>simp only[Bool.false_eq_true]at h
      rename_i xs
      obtain⟨arr,rfl,ha,hf⟩:=hu
      obtain⟨i,hi⟩:=Option.isSome_iff_exists.1 hi
      simp only[Std.Legacy.Range.forIn_eq_forIn_range',Std.Legacy.Range.size,Nat.sub_zero,Nat.add_one_sub_one,Nat.div_one]
      rw[List.range_eq_range']at h
      generalize List.range' 0 n=is at h
      induction is with
      |nil=>simp
      |cons j is ih=>
       simp only[List.all_cons,Bool.and_eq_true]at h
       obtain⟨h1,h2⟩:=h
       split at h1
       ·rename_i y hy
        obtain⟨v,k1,k2⟩:=iW hy ha hf
        have k3:=IH _ _ h1 v k2
        simp only[List.forIn_cons,Sem.run_bind,eh hi,Result.andThen_ok,k1,k3,Sem.run_pure]
        have:=ih h2
        simp only[Sem.run_bind,Sem.run_pure]at this
        exact this
       ·cases h1
     ·cases hs
def lP(B:Nat->Prop)(w:World)(es:List MapEntry)(i:Nat):Option (Nat×D×D)->Option (Nat×Value)->Prop
 |none,none=>True
 |some (j,k,x),some (j',v)=>j=j'/\i<=j/\D.den B w x v/\∃e,es[j - i]? =some e/\e.val=v/\D.den B w k e.key
 |_,_=>False
theorem lP.succ {es:List MapEntry}{e:MapEntry}{i:Nat}{r:Option (Nat×D×D)}{r':Option (Nat×Value)}(h:lP B w es (i+1) r r'):lP B w (e::es) i r r':=by
 cases r with
 |none=>cases r'<;>exact h
 |some p=>
  obtain⟨j,k,x⟩:=p
  cases r' with
  |none=>exact h
  |some q=>
   obtain⟨j',v⟩:=q
   obtain⟨h1,h2,h3,e',h4,h5⟩:=h
   refine⟨h1,ae,h3,e', ?_,h5⟩
   rw[show j - i=(j - (i+1))+1 by omega]
   simpa using h4
theorem uF{kt:TypeId}{kd:D}{kv:Value}(hk:D.den B w kd kv):∀ (l:List (D×D)) (es:List MapEntry) (i:Nat) (r:Option (Nat×D×D)),aN B w l es->findD P kt kd l i=some r->
 ∃r',(Instr.findAsking kt kv es i).run P w= .ok r' w/\lP B w es i r r'
 |[],es,i,r,he,h=>by
  simp only[aN]at he;subst he
  simp only[findD,Option.some.injEq]at h;subst h
  exact⟨none,by simp[Instr.findAsking],trivial⟩
 |(k',x)::l,es,i,r,he,h=>by
  obtain⟨e,es,rfl,h1,h2,h3⟩:=he
  simp only[findD]at h
  split at h
  ·rename_i hq
   injection h with h;subst h
   have:=vN 100 kt _ _ _ hq 10000 bG B w _ _ hk h1
   refine⟨some (i,e.val),by simp[Instr.findAsking,Op.equal,Op.maxDepth,this],rfl,Nat.le_refl _,h2,e,aJ,rfl,h1⟩
  ·rename_i hq
   have:=vN 100 kt _ _ _ hq 10000 bG B w _ _ hk h1
   obtain⟨r',g1,g2⟩:=uF hk l es (i+1) r h3 h
   exact⟨r',by simp[Instr.findAsking,Op.equal,Op.maxDepth,this,g1],g2.succ⟩
  ·cases h
theorem uG{td:TypeDesc}{kt:TypeId}(ht:P.underlying kt=some td)(hn:(match td with| .int _| .bool| .string=>true|_=>false)=true){x y:D}{r:Bool}(h:mX P 100 kt x y=some r){u v:Value}(hu:D.den B w x u)(hv:D.den B w y v):
 Instr.sameNow td u v=some r:=by
 unfold mX bz at h
 rw[ht]at h
 cases td<;>simp only[Bool.false_eq_true]at hn<;>simp only at h
 ·split at h
  ·injection h with h;subst h
   simp only[D.den]at hu hv;subst hu;subst hv;rfl
  ·cases h
 ·split at h
  ·split at h
   ·rename_i e;subst e;injection h with h;subst h
    simp only[D.den]at hu hv;subst hu;subst hv;simp[Instr.sameNow]
   ·cases h
  ·cases h
 ·split at h
  ·injection h with h;subst h
   obtain⟨s1,rfl,rfl⟩:=hu
   obtain⟨s2,rfl,rfl⟩:=hv
   simp only[Instr.sameNow,Option.some.injEq]
   obtain⟨⟨a⟩⟩:=s1
   obtain⟨⟨b⟩⟩:=s2
   rw[Bool.eq_iff_iff,MapKept.bytes_beq]
   simp
  ·cases h
theorem uH{td:TypeDesc}{kt:TypeId}(ht:P.underlying kt=some td)(hn:(match td with| .int _| .bool| .string=>true|_=>false)=true){kd:D}{kv:Value}(hk:D.den B w kd kv):∀ (l:List (D×D)) (es:List MapEntry) (i:Nat) (r:Option (Nat×D×D)),aN B w l es->findD P kt kd l i=some r->
 ∃r',Instr.findNow td kv es i=some r'/\lP B w es i r r'
 |[],es,i,r,he,h=>by
  simp only[aN]at he;subst he
  simp only[findD,Option.some.injEq]at h;subst h
  exact⟨none,by simp[Instr.findNow],trivial⟩
 |(k',x)::l,es,i,r,he,h=>by
  obtain⟨e,es,rfl,h1,h2,h3⟩:=he
  simp only[findD]at h
  split at h
  ·rename_i hq
   injection h with h;subst h
   have:=uG ht hn hq hk h1
   refine⟨some (i,e.val),by simp[Instr.findNow,this],rfl,Nat.le_refl _,h2,e,aJ,rfl,h1⟩
  ·rename_i hq
   have:=uG ht hn hq hk h1
   obtain⟨r',g1,g2⟩:=uH ht hn hk l es (i+1) r h3 h
   exact⟨r',by simp[Instr.findNow,this,g1],g2.succ⟩
  ·cases h
theorem hU{kt:TypeId}{kd:D}{kv:Value}(hk:D.den B w kd kv)(hc:jv P 100 kt kd=true){l:List (D×D)}{es:List MapEntry}{r:Option (Nat×D×D)}(he:aN B w l es)(h:findD P kt kd l 0=some r):
 ∃r',(Instr.findKey kt kv es).run P w= .ok r' w/\lP B w es 0 r r':=by
 unfold jv bz at hc
 cases ht:P.underlying kt with
 |none=>simp[ht]at hc
 |some td=>
  have now:(match td with| .int _| .bool| .string=>true|_=>false)=true->∃r',(Instr.findKey kt kv es).run P w= .ok r' w/\lP B w es 0 r r':=by
   intro hn
   obtain⟨r',g1,g2⟩:=uH ht hn hk l es 0 r he h
   exact⟨r',MapKept.run_findKey ht g1,g2⟩
  have ask:(match P.underlying kt with|some (.array _ _)|some (.struct _)=>true|_=>false)=true->∃r',(Instr.findKey kt kv es).run P w= .ok r' w/\lP B w es 0 r r':=by
   intro hn
   obtain⟨r',g1,g2⟩:=uF hk l es 0 r he h
   exact⟨r',(run_findKey_eq w hn kv es).trans g1,g2⟩
  cases td<;>first
   |exact now rfl
   |(refine ask ?_;rw[ht];done)
   |(exfalso;simp[ht]at hc)
theorem aN.get:∀ {l:List (D×D)} {es:List MapEntry} {i:Nat} {e:MapEntry},aN B w l es->es[i]? =some e->∃p,l[i]? =some p/\D.den B w p.1 e.key/\D.den B w p.2 e.val
 |[],es,i,e,h,hi=>by simp only[aN]at h;subst h;simp at hi
 |(k,x)::l,es,i,e,h,hi=>by
  obtain⟨e',es,rfl,h1,h2,h3⟩:=h
  cases i with
  |zero=>simp at hi;subst hi;exact⟨(k,x),aJ,h1,h2⟩
  |succ i=>simpa using aN.get h3 (by simpa using hi)
theorem aN.push:∀ {l:List (D×D)} {es:List MapEntry} {k x:D} {e:MapEntry},aN B w l es->D.den B w k e.key->D.den B w x e.val->aN B w (l++[(k,x)]) (es++[e])
 |[],es,k,x,e,h,h1,h2=>by simp only[aN]at h;subst h;exact⟨e,[],rfl,h1,h2,rfl⟩
 |(k',x')::l,es,k,x,e,h,h1,h2=>by
  obtain⟨e',es,rfl,g1,g2,g3⟩:=h
  exact⟨e',es++[e],rfl,g1,g2,aN.push g3 h1 h2⟩
theorem aN.set:∀ {l:List (D×D)} {es:List MapEntry} {i:Nat} {k x:D} {e:MapEntry},aN B w l es->D.den B w k e.key->D.den B w x e.val->aN B w (l.set i (k,x)) (es.set i e)
 |[],es,i,k,x,e,h,h1,h2=>by simp only[aN]at h;subst h;rfl
 |(k',x')::l,es,i,k,x,e,h,h1,h2=>by
  obtain⟨e',es,rfl,g1,g2,g3⟩:=h
  cases i with
  |zero=>exact⟨e,es,rfl,h1,h2,g3⟩
  |succ i=>exact⟨e',es.set i e,rfl,g1,g2,aN.set g3 h1 h2⟩
theorem DH(hH:ay M φ H w)(c8: ¬H.us fr){t:TypeId}(h:dx (oq P fr t) K):da M φ H w fr ((do let v <- Instr.makeMap t none;pure (Next.value v):Sem Next).run P w) K:=by
 have hg:=dO h
 clear h
 obtain⟨v,Δ,rd,h,hK⟩:=hg
 unfold oq at h
 split at h
 ·rename_i kt vt ht
  injection h with h;injection h with e1 e2;injection e2 with e2 e3;subst e1;subst e2;subst e3
  have hv:∀b,dG (.map (some w.heap.size))=some b->w.heap.size<=b/\b<(w.alloc (.map #[] 0)).heap.size:=by
   intro b hb;simp[dG]at hb;subst hb;simp
  have RA:=eg (φ:=φ) (H:=H) (cO w (.map #[] 0)) c8 (.map kt vt []) (.map (some w.heap.size)) fun b hb=>(hv b hb).1
  refine⟨_, .map (some w.heap.size),w.alloc (.map #[] 0),au φ fr (.map (some w.heap.size)),_,_,_,hK,by simp[Instr.makeMap], .inl rfl,js hH (cO w _) c8 _ _ hv ?_,RA,⟨rfl,aJ,fun _=>aJ⟩,fun j hj=> .inr od⟩
  unfold aO
  simp only[bT,aR,if_true]
  exact⟨w.heap.size,#[],0,rfl,heap_alloc_new w _,⟨fun e he=>by simp at he,aJ⟩,rfl⟩
 ·cases h
theorem wV{o:Nat->aa}{m:V}{r:Option (Nat×TypeId×TypeId)}{l:List (D×D)}(h:qj o m=some (r,l)):(∃id kt vt,m= .mp id/\o id= .map kt vt l/\r=some (id,kt,vt))\/(m= .d .iY/\r=none/\l=[]):=by
 unfold qj at h
 split at h
 ·split at h
  ·rename_i ho
   simp only[Option.some.injEq,Prod.mk.injEq]at h;obtain⟨rfl,rfl⟩:=h;exact .inl ⟨_,_,_,rfl,ho,rfl⟩
  ·cases h
 ·simp only[Option.some.injEq,Prod.mk.injEq]at h;obtain⟨rfl,rfl⟩:=h;exact .inr ⟨rfl,rfl,rfl⟩
 ·cases h
theorem N0{ks vs:List D}{es:List MapEntry}(h1:D.aG B w ks (es.map (·.key)))(h2:D.aG B w vs (es.map (·.val))):aN B w (ks.zip vs) es:=by
 have e1:=D.aE _ _ h1
 have e2:=D.aE _ _ h2
 simp only[List.length_map]at e1 e2
 refine(mm _ _).2 ?_
 rw[List.map_fst_zip (by omega),List.map_snd_zip (by omega)]
 exact⟨h1,h2⟩
def wW(l l':List (D×D)):Prop:=l'=l\/(l'.Perm l/\Bg (l.map (·.1)))
theorem wW.perm {l l':List (D×D)}(h:wW l l'):l'.Perm l:=by
 rcases h with rfl|h
 ·exact List.Perm.refl _
 ·exact h.1
theorem K1{p q:List MapEntry}(hpq:p.Perm q):∀ {l:List (D×D)},aN B w l p->∃l',l'.Perm l/\aN B w l' q:=by
 induction hpq with
 |nil=>intro l h;exact⟨l,List.Perm.refl _,h⟩
 |cons x _ ih=>
  intro l h
  cases l with
  |nil=>cases h
  |cons y l=>
   obtain⟨k,v⟩:=y
   obtain⟨e,es,h0,h1,h2,h3⟩:=h
   injection h0 with h0 RW;subst h0;subst RW
   obtain⟨l',g1,g2⟩:=ih h3
   exact⟨(k,v)::l',g1.cons _,_,_,rfl,h1,h2,g2⟩
 |swap x y t=>
  intro l h
  match l,h with
  |[],h=>cases h
  |[(_,_)],h=>obtain⟨e,es,h0,_,_,h3⟩:=h;injection h0 with _ h0;have h3:es=[]:=h3;rw[h3]at h0;cases h0
  |(k,v)::(k',v')::l,h=>
   obtain⟨e,es,h0,h1,h2,e',es',RW,nS,tF,h3⟩:=h
   subst RW
   injection h0 with a b;subst a;injection b with b c;subst b;subst c
   exact⟨(k',v')::(k,v)::l,List.Perm.swap _ _ _,_,_,rfl,nS,tF,_,_,rfl,h1,h2,h3⟩
 |trans _ _ ih1 ih2=>
  intro l h
  obtain⟨l1,g1,g2⟩:=ih1 h
  obtain⟨l2,g3,g4⟩:=ih2 g2
  exact⟨l2,g3.trans g1,g4⟩
theorem tG{l:List (D×D)}{p:List MapEntry}{es:Array MapEntry}(hp:p=es.toList\/(p.Perm es.toList/\Bg (l.map (·.1))))(h:aN B w l p):∃l',wW l l'/\aN B w l' es.toList:=by
 rcases hp with rfl|⟨h1,h2⟩
 ·exact⟨l, .inl rfl,h⟩
 ·obtain⟨l',g1,g2⟩:=K1 h1 h
  exact⟨l', .inr ⟨g1,h2⟩,g2⟩
theorem qD{l:List (D×D)}{v:Value}(h:D.den B w (.mp (l.map (·.1)) (l.map (·.2))) v):∃m es clock l',v= .map (some m)/\w.heap[m]? =some (.map es clock)/\ ¬B m/\jt es clock/\wW l l'/\aN B w l' es.toList:=by
 obtain⟨m,es,clock,p,h1,h2,h3,h4,hp,h5,h6⟩:=h
 obtain⟨l',g1,g2⟩:=tG hp ((mm _ _).2 ⟨h5,h6⟩)
 exact⟨m,es,clock,l',h1,h2,h3,h4,g1,g2⟩
theorem DI{ks vs:List D}{p:List MapEntry}(h1:D.aG B w ks (p.map (·.key)))(h2:D.aG B w vs (p.map (·.val))):(ks.zip vs).map (·.1)=ks:=by
 have e1:=D.aE _ _ h1
 have e2:=D.aE _ _ h2
 simp only[List.length_map]at e1 e2
 exact List.map_fst_zip ae
theorem RX{P:Program}{kt:TypeId}{kd:D}{n:Int}{b:Bool}(h:mX P 100 kt kd (.int .i64 n)=some b):bz P kt=some .int/\∃m,kd= .int .i64 m/\b=(m==n):=by
 unfold mX at h
 cases hs:bz P kt with
 |none=>simp[hs]at h
 |some sh=>
  cases sh<;>simp only[hs]at h
  case int=>
   cases kd<;>simp only at h
   all_goals first
    |(cases h;done)
    |(split at h
      ·rename_i e;subst e;injection h with h;exact⟨rfl,_,rfl,h.symm⟩
      ·cases h)
  all_goals first
   |(cases kd<;>simp at h;done)
   |(simp at h;done)
theorem qE{P:Program}{kt:TypeId}{m:Int}(hs:bz P kt=some .int):∀ (l:List (D×D)) (i:Nat),(∀k∈l.map (·.1),∃n,k= .int .i64 n)->∃r,findD P kt (.int .i64 m) l i=some r/\(match r with|some (_,_,x)=>(D.int .i64 m,x)∈l|none=>∀x,(D.int .i64 m,x)∉l)
 |[],i,_=>⟨none,rfl,aJ⟩
 |(k,x)::l,i,h=>by
  obtain⟨n,rfl⟩:=h k aJ
  have he:mX P 100 kt (.int .i64 m) (.int .i64 n)=some (m==n):=by simp[mX,hs]
  simp only[findD,he]
  by_cases e:m=n
  ·subst e
   exact⟨some (i, .int .i64 m,x),aJ,aJ⟩
  ·have e2:(m==n)=false:=by simpa using e
   obtain⟨r,h1,h2⟩:=qE hs l (i+1) (fun k hk=>h k (by simp at hk|-;exact .inr hk))
   refine⟨r,by simp only[e2];exact h1, ?_⟩
   cases r with
   |none=>intro y hy;rcases List.mem_cons.1 hy with hy|hy
          ·injection hy with hy _;injection hy with _ hy;exact e hy
          ·exact h2 y hy
   |some p=>exact List.mem_cons_of_mem _ h2
theorem K2{L:List (D×D)}(hn:(L.map (·.1)).Nodup){k x x':D}(f2:(k,x)∈L)(f4:(k,x')∈L):x'=x:=by
 induction L with
 |nil=>cases f2
 |cons y L ih=>
  rw[List.map_cons,List.nodup_cons]at hn
  rcases List.mem_cons.1 f2 with e1|e1<;>rcases List.mem_cons.1 f4 with e2|e2
  ·rw[<- e1]at e2;injection e2
  ·exact absurd (by rw[<- e1];exact List.mem_map.2 ⟨_,e2,rfl⟩) hn.1
  ·exact absurd (by rw[<- e2];exact List.mem_map.2 ⟨_,e1,rfl⟩) hn.1
  ·exact ih hn.2 e1 e2
theorem zW{P:Program}{kt:TypeId}{kd:D}{l l':List (D×D)}{r:Option (Nat×D×D)}(hl:wW l l')(h:findD P kt kd l 0=some r):∃r',findD P kt kd l' 0=some r'/\(match r,r' with|some (_,_,x),some (_,_,x')=>x'=x|none,none=>True|_,_=>False):=by
 rcases hl with rfl|⟨hp,hk⟩
 ·refine⟨r,h, ?_⟩
  cases r<;>trivial
 ·cases l with
  |nil=>
   have:l'=[]:=hp.eq_nil
   subst this
   refine⟨r,h, ?_⟩
   cases r<;>trivial
  |cons p l=>
   obtain⟨k0,x0⟩:=p
   obtain⟨n0,rfl⟩:=hk.2 k0 aJ
   have hb:∃b,mX P 100 kt kd (.int .i64 n0)=some b:=by
    simp only[findD]at h
    cases he:mX P 100 kt kd (.int .i64 n0)with
    |none=>rw[he]at h;cases h
    |some b=>exact⟨b,rfl⟩
   obtain⟨b,hb⟩:=hb
   obtain⟨hs,m,rfl,_⟩:=RX hb
   obtain⟨r1,f1,f2⟩:=qE (m:=m) hs ((.int .i64 n0,x0)::l) 0 hk.2
   rw[h]at f1;injection f1 with f1;subst f1
   obtain⟨r',f3,f4⟩:=qE (m:=m) hs l' 0 (fun k K4=>hk.2 k ((hp.map _).mem_iff.1 K4))
   refine⟨r',f3, ?_⟩
   cases r with
   |none=>
    cases r' with
    |none=>trivial
    |some q=>obtain⟨_,_,x'⟩:=q;exact f2 x' (hp.mem_iff.1 f4)
   |some q=>
    obtain⟨_,_,x⟩:=q
    cases r' with
    |none=>exact f4 x (hp.mem_iff.2 f2)
    |some q'=>
     obtain⟨_,_,x'⟩:=q'
     exact K2 hk.1 f2 (hp.mem_iff.1 f4)
theorem zX{ks vs:List D}{p:List MapEntry}(h1:D.aG B w ks (p.map (·.key)))(h2:D.aG B w vs (p.map (·.val))):aN B w (ks.zip vs) p:=N0 h1 h2
theorem GG(hH:ay M φ H w){m:V}{mv:Value}{rd:List Nat}{l:List (D×D)}(hm:V.den (ao M φ H) φ H w m mv)(h:rr H.o m=some (rd,l)):
 (mv= .map none/\l=[])\/∃b es clock l',mv= .map (some b)/\w.heap[b]? =some (.map es clock)/\jt es clock/\wW l l'/\aN (ao M φ H) w l' es.toList:=by
 unfold rr at h
 split at h
 ·rename_i id
  obtain⟨Yq,RY,zc⟩:=hm
  have bp:=hH.ok id
  split at h
  ·rename_i ho
   simp only[Option.some.injEq,Prod.mk.injEq]at h;obtain⟨rfl,rfl⟩:=h
   simp only[aO,ho]at bp
   obtain⟨b,es,clock,g1,g2,g0,g3⟩:=bp
   exact .inr ⟨b,es,clock,_,(zc eL).trans g1,g2,g0, .inl rfl,g3⟩
  ·rename_i ho
   simp only[Option.some.injEq,Prod.mk.injEq]at h;obtain⟨rfl,rfl⟩:=h
   simp only[aO,ho]at bp
   obtain⟨b,es,clock,l',g1,g2,_,g0,g3⟩:=qD bp.den
   exact .inr ⟨b,es,clock,l',(zc eL).trans g1,g2,g0,g3⟩
  ·cases h
 ·simp only[Option.some.injEq,Prod.mk.injEq]at h;obtain⟨rfl,rfl⟩:=h
  simp only[V.den,D.den]at hm
  exact .inl ⟨hm,rfl⟩
 ·simp only[Option.some.injEq,Prod.mk.injEq]at h;obtain⟨rfl,rfl⟩:=h
  obtain⟨b,es,clock,p,g1,g2,_,g0,gp,g3,g4⟩:=hm
  obtain⟨l',g5,g6⟩:=tG (by rw[DI g3 g4];exact gp) (zX g3 g4)
  exact .inr ⟨b,es,clock,l',g1,g2,g0,g5,g6⟩
 ·cases h
theorem GH(hH:ay M φ H w){t:TypeId}{m k:V}{mv kv:Value}{ok:Bool}(hm:V.den (ao M φ H) φ H w m mv)(hk:V.den (ao M φ H) φ H w k kv)(h:dx (jq P H.o t m k ok) K):
 da M φ H w fr ((do let v <- Instr.lookup t mv kv ok;pure (Next.value v):Sem Next).run P w) K:=by
 have hg:=dO h
 clear h
 obtain⟨v,Δ,rd,h,hK⟩:=hg
 unfold jq at h
 split at h
 ·rename_i kt vt kd rd0 l ht hkd IU
  split at h
  ·rename_i hc
   have lQ:D.den (ao M φ H) w kd kv:=eG hH k kd kv (fun id aq=>by rw[hc.1]at aq;cases aq) hkd hk
   have Q5:∀em,(Instr.checkKey em 10000 kt kv).run P w= .ok () w:=fun em=>rG em 100 kt kd hc.2 10000 bG kv lQ
   have MK:=tE ht
   have aht:∃ (es:Array MapEntry) (l':List (D×D)),wW l l'/\aN (ao M φ H) w l' es.toList/\∀ (r':Option (Nat×Value)) (val:Value),(Instr.findKey kt kv es.toList).run P w= .ok r' w->(match r' with|some (_,u)=>val=(if ok=true then .tuple #[u, .bool true]else u)|none=>∃z,(zeroValue vt).run P w= .ok z w/\val=(if ok=true then .tuple #[z, .bool false]else z))->(Instr.lookup t mv kv ok).run P w= .ok val w:=by
    rcases GG hH hm IU with⟨rfl,rfl⟩|⟨b,es,clock,l',rfl,g2,_,gl,g3⟩
    case inr=>
     have te:=MapKept.run_getObj_map (P:=P) g2
     refine⟨es,l',gl,g3,fun r' val q1 q2=> ?_⟩
     cases r' with
     |some p=>obtain⟨j,u⟩:=p;simp only at q2;subst q2;cases ok<;>simp[Instr.lookup,run_underlying MK,te,Q5,q1]
     |none=>obtain⟨z,z1,rfl⟩:=q2;cases ok<;>simp[Instr.lookup,run_underlying MK,te,Q5,q1,z1]
    case inl=>
     refine⟨#[],[], .inl rfl,rfl,fun r' val q1 q2=> ?_⟩
     cases r' with
     |some p=>obtain⟨j,u⟩:=p;simp only at q2;subst q2;cases ok<;>simp[Instr.lookup,run_underlying MK,Q5,q1]
     |none=>obtain⟨z,z1,rfl⟩:=q2;cases ok<;>simp[Instr.lookup,run_underlying MK,Q5,q1,z1]
   obtain⟨es,l',gl,g3,run⟩:=aht
   split at h
   ·rename_i j kk x hf
    injection h with h;injection h with e1 e2;injection e2 with e2 e3;subst e1;subst e2;subst e3
    obtain⟨r2,hf2,tH⟩:=zW gl hf
    obtain⟨r',q1,q2⟩:=hU lQ hc.2 g3 hf2
    cases r2 with
    |none=>exact tH.elim
    |some p2=>
    obtain⟨_,_,x2⟩:=p2
    have hx2:x2=x:=tH
    obtain rfl:=hx2
    cases r' with
    |none=>exact q2.elim
    |some p=>
     obtain⟨j',u⟩:=p
     obtain⟨_,_,hxu,_⟩:=q2
     refine da.plain (v:=(if ok=true then .cc [.d x2, .d (.bool true)]else .d x2)) hH (if ok=true then .tuple #[u, .bool true]else u) hK (run _ _ q1 rfl) ?_
     cases ok
     ·exact hxu
     ·exact⟨#[u, .bool true],rfl,u,[.bool true],rfl,hxu, .bool true,[],rfl,rfl,rfl⟩
   ·rename_i hf
    split at h
    ·rename_i z hz
     injection h with h;injection h with e1 e2;injection e2 with e2 e3;subst e1;subst e2;subst e3
     obtain⟨r2,hf2,tH⟩:=zW gl hf
     obtain⟨r',q1,q2⟩:=hU lQ hc.2 g3 hf2
     cases r2 with
     |some p2=>exact tH.elim
     |none=>
     cases r' with
     |some p=>exact q2.elim
     |none=>
      obtain⟨val,z1,z2⟩:=tD (M:=M) (φ:=φ) (H:=H) (w:=w) hz
      refine da.plain hH (if ok=true then .tuple #[val, .bool false]else val) hK (run _ _ q1 ⟨val,z1,rfl⟩) ?_
      cases ok
      ·exact z2
      ·exact⟨#[val, .bool false],rfl,val,[.bool false],rfl,z2, .bool false,[],rfl,rfl,rfl⟩
    ·cases h
   ·cases h
  ·cases h
 ·cases h
theorem jw{es:Array MapEntry}{i:Nat}{e:MapEntry}(f:MapEntry->MapEntry)(h:es.toList[i]? =some e):(es.modify i f).toList=es.toList.set i (f e):=by
 apply List.ext_getElem?
 intro j
 simp only[Array.getElem?_toList,Array.getElem?_modify]
 rw[List.getElem?_set]
 have h':es[i]? =some e:=by simpa using h
 by_cases hj:i=j
 ·subst hj
  have cS:i<es.toList.length:=by
   rw[List.getElem?_eq_some_iff]at h;exact h.1
  simp only[if_true,h',Option.map_some,cS]
 ·simp[hj]
theorem GI{es:Array MapEntry}{clock:Nat}(h:jt es clock){e:MapEntry}(he:e.born=clock):jt (es.push e) (clock+1):=by
 obtain⟨h1,h2⟩:=h
 refine⟨fun x hx=> ?_, ?_⟩
 ·rw[Array.toList_push]at hx
  rcases List.mem_append.1 hx with hx|hx
  ·have:=h1 x hx;omega
  ·simp at hx;subst hx;omega
 ·rw[Array.toList_push,List.map_append,List.nodup_append]
  refine⟨h2,aJ,fun a ha b hb=> ?_⟩
  obtain⟨x,hx,rfl⟩:=List.mem_map.1 ha
  simp only[List.map_cons,List.map_nil,List.mem_singleton]at hb
  have:=h1 x hx
  omega
theorem Bs{es:Array MapEntry}{clock i:Nat}(h:jt es clock){e:MapEntry}(hi:es.toList[i]? =some e){f:MapEntry->MapEntry}(hf:(f e).born=e.born):jt (es.modify i f) clock:=by
 obtain⟨h1,h2⟩:=h
 unfold jt
 rw[jw f hi]
 have e1:(es.toList.set i (f e)).map (·.born)=es.toList.map (·.born):=by
  rw[List.map_set,hf]
  apply List.ext_getElem?
  intro j
  rw[List.getElem?_set]
  by_cases hj:i=j
  ·subst hj
   have cS:=(List.getElem?_eq_some_iff.1 hi).1
   rw[if_pos rfl,if_pos (by simpa using cS),List.getElem?_map,hi];rfl
  ·rw[if_neg hj]
 refine⟨fun x hx=> ?_,by rw[e1];exact h2⟩
 obtain⟨j,hj⟩:=List.mem_iff_getElem?.1 (List.mem_map.2 ⟨x,hx,rfl⟩:x.born∈(es.toList.set i (f e)).map (·.born))
 rw[e1]at hj
 obtain⟨y,hy,e2⟩:=List.mem_map.1 (List.mem_of_getElem? hj)
 have:=h1 y hy
 omega
theorem DJ{es:Array MapEntry}{clock i:Nat}(h:jt es clock):jt (es.eraseIdxIfInBounds i) clock:=by
 obtain⟨h1,h2⟩:=h
 have e:(es.eraseIdxIfInBounds i).toList=es.toList.eraseIdx i:=aJ
 unfold jt
 rw[e]
 exact⟨fun x hx=>h1 x (List.mem_of_mem_eraseIdx hx),h2.sublist (List.Sublist.map _ (List.eraseIdx_sublist ..))⟩
theorem aN.erase:∀ {l:List (D×D)} {es:List MapEntry} {i:Nat},aN B w l es->aN B w (l.eraseIdx i) (es.eraseIdx i)
 |[],es,i,h=>by simp only[aN]at h;subst h;simp[aN]
 |(k',x')::l,es,i,h=>by
  obtain⟨e',es,rfl,g1,g2,g3⟩:=h
  cases i with
  |zero=>exact g3
  |succ i=>exact⟨e',es.eraseIdx i,rfl,g1,g2,aN.erase g3⟩
theorem N1(hH:ay M φ H w){id b clock clock':Nat}{kt vt:TypeId}{l l':List (D×D)}{es es':Array MapEntry}(dg:H.us id)(ho:H.o id= .map kt vt l)(dz:φ id= .map (some b))(g2:w.heap[b]? =some (.map es clock))(h0:jt es' clock')(hl:aN (ao M φ H) w l' es'.toList):
 ay M φ (H.put [(id, .map kt vt l')]) {w with heap:=w.heap.setIfInBounds b (.map es' clock')}/\Trans φ H w φ (H.put [(id, .map kt vt l')]) {w with heap:=w.heap.setIfInBounds b (.map es' clock')}:=by
 have N2:ed (· =b) w {w with heap:=w.heap.setIfInBounds b (.map es' clock')}:=
  ⟨rfl,rfl,rfl,aJ,fun j _ hj=>(MapKept.heap_set g2).2 j hj⟩
 have wS:(H.o id).live=true:=by rw[ho];rfl
 have GJ:dG (φ id)=some b:=by rw[dz];rfl
 have zS:=fy (w:=w) (w':={w with heap:=w.heap.setIfInBounds b (.map es' clock')}) dg wS GJ N2 (.map kt vt l') eL eL
 refine⟨iZ hH dg wS GJ N2 _ eL eL ?_,zS⟩
 unfold aO
 simp only[bT,aR,if_true]
 exact⟨b,es',clock',dz,(MapKept.heap_set g2).1,h0,aN.mono (zS.blocks (M:=M)) l' _ hl⟩
theorem GK(hH:ay M φ H w){t:TypeId}{ts:Array TypeId}{m k:V}{mv kv:Value}(pG:ts.toList.head?=some t)(hm:V.den (ao M φ H) φ H w m mv)(hk:V.den (ao M φ H) φ H w k kv){ty0:TypeId}
 (h:dx (pD P H.o t m k) K):da M φ H w fr ((do let v <- Builtin.delete_ ts ty0 #[mv,kv];pure (Next.value v):Sem Next).run P w) K:=by
 have hg:=dO h
 clear h
 obtain⟨v',Δ,rd,h,hK⟩:=hg
 have ht0:ts[0]? =some t:=by rw[<- Array.getElem?_toList, <- List.head?_eq_getElem?];exact pG
 unfold pD at h
 split at h
 ·rename_i kt vt kd id Gd Ge l ht hkd IU
  rcases wV IU with⟨id2,kt2,vt2,rfl,ho,hr⟩|⟨rfl,hr,rfl⟩
  case inr=>cases hr
  injection hr with hr;injection hr with e1 e2;injection e2 with e2 e3;subst e1;subst e2;subst e3
  split at h
  ·rename_i hc
   obtain⟨c1,c2⟩:=hc
   have lQ:D.den (ao M φ H) w kd kv:=eG hH k kd kv (fun id aq=>by rw[c1]at aq;cases aq) hkd hk
   have Q5:∀em,(Instr.checkKey em 10000 kt kv).run P w= .ok () w:=fun em=>rG em 100 kt kd c2 10000 bG kv lQ
   have MK:=tE ht
   obtain⟨Yq,dg,zc⟩:=hm
   have dz:=zc eL
   have bp:=hH.ok id
   simp only[aO,ho]at bp
   obtain⟨b,es,clock,g1,g2,g0,g3⟩:=bp
   rw[<- dz]at g1;subst g1
   have te:=MapKept.run_getObj_map (P:=P) g2
   split at h
   ·rename_i i k' x hf
    injection h with h;injection h with e1 e2;injection e2 with e2 e3;subst e1;subst e2;subst e3
    obtain⟨r',q1,q2⟩:=hU lQ c2 g3 hf
    cases r' with
    |none=>exact q2.elim
    |some p=>
     obtain⟨j',u⟩:=p
     obtain⟨rfl,_,hxu,e,h4,h5,h6⟩:=q2
     have e:(es.eraseIdxIfInBounds i).toList=es.toList.eraseIdx i:=aJ
     obtain⟨t1,t2⟩:=N1 (clock':=clock) (es':=es.eraseIdxIfInBounds i) (l':=l.eraseIdx i) hH dg ho dz.symm g2 (DJ g0) (by rw[e];exact g3.erase)
     refine⟨.value (.tuple #[]), .tuple #[],_,φ,_,_,_,hK, ?_, .inl rfl,t1,t2,⟨#[],rfl,rfl⟩,fun j hj=> .inl NA⟩
     simp only[Builtin.delete_,ht0,Sem.run_bind,run_underlying MK,Result.andThen_ok,te,Q5,q1,List.getElem?_toArray,List.getElem?_cons_zero,List.getElem?_cons_succ,MapKept.run_setObj_map _ g2,Sem.run_pure]
   ·rename_i hf
    injection h with h;injection h with e1 e2;injection e2 with e2 e3;subst e1;subst e2;subst e3
    obtain⟨r',q1,q2⟩:=hU lQ c2 g3 hf
    cases r' with
    |some p=>exact q2.elim
    |none=>
     have hw:{w with heap:=w.heap.setIfInBounds b (.map es clock)}=w:=by
      have cS:b<w.heap.size:=by
       rcases Nat.lt_or_ge b w.heap.size with h|h
       ·exact h
       ·simp[Array.getElem?_eq_none h]at g2
      have:w.heap.setIfInBounds b (.map es clock)=w.heap:=by
       apply Array.ext_getElem?
       intro j
       rw[Array.getElem?_setIfInBounds]
       by_cases hj:b=j
       ·subst hj;rw[if_pos rfl,if_pos cS,g2]
       ·rw[if_neg hj]
      rw[this]
     refine⟨.value (.tuple #[]), .tuple #[],w,φ,_,_,_,hK, ?_, .inl rfl,by rw[pF];exact hH,by rw[pF];exact Trans.refl _ _ _,⟨#[],rfl,rfl⟩,aJ⟩
     simp only[Builtin.delete_,ht0,Sem.run_bind,run_underlying MK,Result.andThen_ok,te,Q5,q1,List.getElem?_toArray,List.getElem?_cons_zero,List.getElem?_cons_succ,MapKept.run_setObj_map _ g2,Sem.run_pure,hw]
   ·cases h
  ·cases h
 ·cases h
theorem Bt(H:Hp)(i j:Nat)(x y:aa):H.put [(i,x),(j,y)]=(H.put [(i,x)]).put [(j,y)]:=by rw[<- bW];rfl
theorem K5(hH:ay M φ H w)(c8: ¬H.us fr){t:TypeId}{x:V}{xv:Value}(hx:V.den (ao M φ H) φ H w x xv)(h:dx (ou P H.o fr t x) K):
 da M φ H w fr ((do let v <- Instr.range t xv;pure (Next.value v):Sem Next).run P w) K:=by
 have hg:=dO h
 clear h
 obtain⟨v,Δ,rd,h,hK⟩:=hg
 have new:∀ (jJ:Place) (H1:Hp) (obj:aa) (ob:Obj),ay M jJ H1 w-> ¬H1.us fr->aO M (au jJ fr (.pointer (some ⟨w.heap.size,0,none⟩))) (H1.put [(fr,obj)]) (w.alloc ob) fr->
  ay M (au jJ fr (.pointer (some ⟨w.heap.size,0,none⟩))) (H1.put [(fr,obj)]) (w.alloc ob)/\Trans jJ H1 w (au jJ fr (.pointer (some ⟨w.heap.size,0,none⟩))) (H1.put [(fr,obj)]) (w.alloc ob):=by
  intro jJ H1 obj ob h1 h2 h3
  have hv:∀b,dG (.pointer (some ⟨w.heap.size,0,none⟩))=some b->w.heap.size<=b/\b<(w.alloc ob).heap.size:=by
   intro b hb;simp[dG]at hb;subst hb;simp
  exact⟨js h1 (cO w _) h2 _ _ hv h3,eg (cO w _) h2 _ _ fun b hb=>(hv b hb).1⟩
 have frozen:∀ (H1:Hp) (l:List (D×D)) (b:Nat) (es:Array MapEntry) (clock:Nat),ay M φ H1 w-> ¬H1.us fr->w.heap[b]? =some (.map es clock)-> ¬ao M φ H1 b->jt es clock->(∃l',l'.Perm l/\aN (ao M φ H1) w l' es.toList)->
  aO M (au φ fr (.pointer (some ⟨w.heap.size,0,none⟩))) (H1.put [(fr, .pW l none)]) (w.alloc (.mapIter (some b) clock #[] clock)) fr:=by
  intro H1 l b es clock h1 h2 h3 h4 h5 h6
  have ht:=eg (φ:=φ) (H:=H1) (w:=w) (w':=w.alloc (.mapIter (some b) clock #[] clock)) (cO w _) h2 (.pW l none) (.pointer (some ⟨w.heap.size,0,none⟩)) (fun b hb=>by simp[dG]at hb;omega)
  obtain⟨k1,k2⟩:=ht.blocks (M:=M) b (.inr ⟨es,clock,h3⟩) h4
  unfold aO
  simp only[bT,aR,if_true]
  refine⟨w.heap.size,rfl, .inr ⟨b,clock,#[],es,heap_alloc_new w _,k1.trans h3,k2,h5, ?_,fun k x e=>by cases e⟩⟩
  have e:(es.toList.filter fun e=> !(#[]:Array Nat).contains e.born)=es.toList:=List.filter_eq_self.2 (fun a _=>aJ)
  rw[e]
  obtain⟨l',h6,h7⟩:=h6
  exact⟨l',h6,aN.mono (ht.blocks (M:=M)) l' _ h7⟩
 unfold ou at h
 split at h
 ·rename_i ht
  split at h
  ·rename_i s
   injection h with h;injection h with e1 e2;injection e2 with e2 e3;subst e1;subst e2;subst e3
   obtain⟨st,rfl,hs⟩:=hx
   have fj:st=⟨⟨s⟩⟩:=by obtain⟨⟨a⟩⟩:=st;simp at hs;subst hs;rfl
   subst fj
   obtain⟨n1,n2⟩:=new φ H (.yY s 0) (.stringIter ⟨⟨s⟩⟩ 0) hH c8 (by
    unfold aO
    simp only[bT,aR,if_true]
    exact⟨w.heap.size,rfl,heap_alloc_new w _⟩)
   exact acs
  ·cases h
 ·rename_i ht
  split at h
  ·injection h with h;injection h with e1 e2;injection e2 with e2 e3;subst e1;subst e2;subst e3
   simp only[V.den,D.den]at hx;subst hx
   obtain⟨n1,n2⟩:=new φ H (.pW [] none) (.mapIter none 0 #[] 0) hH c8 (by
    unfold aO
    simp only[bT,aR,if_true]
    exact⟨w.heap.size,rfl, .inl ⟨heap_alloc_new w _,rfl,rfl⟩⟩)
   exact acs
  ·rename_i ks vs
   injection h with h;injection h with e1 e2;injection e2 with e2 e3;subst e1;subst e2;subst e3
   obtain⟨b,es,clock,p,rfl,g2,g4,g0,gp,g3,g5⟩:=hx
   have te:=MapKept.run_getObj_map (P:=P) g2
   obtain⟨l',g6,g7⟩:=tG (by rw[DI g3 g5];exact gp) (zX g3 g5)
   obtain⟨n1,n2⟩:=new φ H _ _ hH c8 (frozen H (ks.zip vs) b es clock hH c8 g2 g4 g0 ⟨l',g6.perm,g7⟩)
   exact acr
  ·rename_i id
   obtain⟨Yq,dg,zc⟩:=hx
   have bp:=hH.ok id
   split at h
   ·rename_i kt vt l ho
    injection h with h;injection h with e1 e2;injection e2 with e2 e3;subst e1;subst e2;subst e3
    obtain⟨f1,f2⟩:=IJ hH dg ho
    have vf:(H.put [(id, .gw l)]).o id= .gw l:=aJ
    have adG:=f1.ok id
    simp only[aO,vf]at adG
    obtain⟨b,es,clock,l',g1,g2,g4,g0,gl,g3⟩:=qD adG.den
    have dz:=zc eL
    rw[<- dz]at g1;subst g1
    have te:=MapKept.run_getObj_map (P:=P) g2
    have adH: ¬ (H.put [(id, .gw l)]).us fr:=by
     rw[eF]
     rintro(h|h)
     ·exact c8 h
     ·exact c8 (h ▸ dg)
    obtain⟨n1,n2⟩:=new φ _ _ _ f1 adH (frozen _ l b es clock f1 adH g2 g4 g0 ⟨l',gl.perm,g3⟩)
    refine⟨.value (.pointer (some ⟨w.heap.size,0,none⟩)), .pointer (some ⟨w.heap.size,0,none⟩),w.alloc (.mapIter (some b) clock #[] clock),_,_,_,_,hK,by simp[Instr.range,run_underlying ht,te], .inl rfl,by rw[Bt];exact n1,by rw[Bt];exact f2.trans n2, ?_,fun j hj=> ?_⟩
    ·rw[Bt]
     exact⟨rfl,aJ,fun _=>⟨w.heap.size,aJ,rfl⟩⟩
    ·simp at hj
     rcases hj with rfl|rfl
     ·exact .inl dg
     ·exact .inr rfl
   ·rename_i l ho
    injection h with h;injection h with e1 e2;injection e2 with e2 e3;subst e1;subst e2;subst e3
    simp only[aO,ho]at bp
    obtain⟨b,es,clock,l',g1,g2,g4,g0,gl,g3⟩:=qD bp.den
    have dz:=zc eL
    rw[<- dz]at g1;subst g1
    have te:=MapKept.run_getObj_map (P:=P) g2
    obtain⟨n1,n2⟩:=new φ H _ _ hH c8 (frozen H l b es clock hH c8 g2 g4 g0 ⟨l',gl.perm,g3⟩)
    exact acr
   ·cases h
  ·cases h
 ·cases h
theorem IX(hH:ay M φ H w){id b:Nat}{obj obj':aa}{x y:Obj}(dg:H.us id)(ho:H.o id=obj)(hl:obj.live=true)(hr:obj.bF=true)(he:obj.bV=none)(zd:obj'.bF=true)(mc:obj'.bV=none)(dz:φ id= .pointer (some ⟨b,0,none⟩))(g2:w.heap[b]? =some x){w1:World}(hw1:w1.os=w.os/\w1.tape=w.tape/\w1.output=w.output/\w1.heap=w.heap)
 (wJ:Trans φ H w φ (H.put [(id,obj')]) {w1 with heap:=w.heap.setIfInBounds b y}->aO M φ (H.put [(id,obj')]) {w1 with heap:=w.heap.setIfInBounds b y} id):
 ay M φ (H.put [(id,obj')]) {w1 with heap:=w.heap.setIfInBounds b y}/\Trans φ H w φ (H.put [(id,obj')]) {w1 with heap:=w.heap.setIfInBounds b y}:=by
 have N2:ed (· =b) w {w1 with heap:=w.heap.setIfInBounds b y}:=
  ⟨hw1.1,hw1.2.1,hw1.2.2.1,aJ,fun j _ hj=>by
   show(w.heap.setIfInBounds b y)[j]? =_
   rw[Array.getElem?_setIfInBounds,if_neg (fun e=>hj e.symm)]⟩
 have wS:(H.o id).live=true:=by rw[ho];exact hl
 have GJ:dG (φ id)=some b:=by rw[dz];rfl
 have zS:=fy (w:=w) dg wS GJ N2 obj' (by rw[ho,hr,zd]) (by rw[ho,he,mc])
 exact⟨iZ hH dg wS GJ N2 _ (by rw[ho,hr,zd]) (by rw[ho,he,mc]) (wJ zS),zS⟩
theorem DK(hH:ay M φ H w){x:V}{xv:Value}{str:Bool}{ty:TypeId}(hx:V.den (ao M φ H) φ H w x xv)(h:dx (qk H.o x str) K):
 da M φ H w fr ((do let v <- Instr.next xv str ty;pure (Next.value v):Sem Next).run P w) K:=by
 have hg:=dO h
 clear h
 obtain⟨v,Δ,rd,h,hK⟩:=hg
 unfold qk at h
 split at h
 ·rename_i id
  obtain⟨_,dg,zc⟩:=hx
  split at h
  ·rename_i s pos ho
   split at h
   ·rename_i ahu
    subst ahu
    obtain⟨b0,q1,rfl⟩:=zc eL
    have bp:=hH.ok id
    simp only[aO,ho]at bp
    obtain⟨b,g1,g2⟩:=bp
    rw[q1]at g1;injection g1 with g1;injection g1 with g1;injection g1 with g1;subst g1
    have dU:(ByteArray.mk ⟨s⟩).size=s.length:=rfl
    split at h
    ·rename_i cS
     injection h with h;injection h with e1 e2;injection e2 with e2 e3;subst e1;subst e2;subst e3
     obtain⟨n1,n2⟩:=IX (w1:=w) (y:= .stringIter ⟨⟨s⟩⟩ (pos+(Utf8.decode ⟨⟨s⟩⟩ pos).2)) (obj':= .yY s (pos+(Utf8.decode ⟨⟨s⟩⟩ pos).2)) hH dg ho rfl rfl rfl rfl rfl q1 g2 ⟨rfl,rfl,rfl,rfl⟩ (fun _=>by
      unfold aO
      simp only[bT,aR,if_true]
      refine⟨b0,q1, ?_⟩
      have cS:b0<w.heap.size:=by
       rcases Nat.lt_or_ge b0 w.heap.size with h|h
       ·exact h
       ·simp[Array.getElem?_eq_none h]at g2
      show(w.heap.setIfInBounds b0 _)[b0]? =_
      rw[Array.getElem?_setIfInBounds,if_pos rfl,if_pos cS])
     refine⟨.value (.tuple #[.bool true,goInt pos, .int .i32 (Utf8.decode ⟨⟨s⟩⟩ pos).1]),_,_,φ,_,_,_,hK, ?_, .inl rfl,n1,n2,⟨_,rfl, .bool true,_,rfl,rfl,_,_,rfl,rfl,_,_,rfl,rfl,rfl⟩,fun j hj=> .inl NA⟩
     simp only[Instr.next,getObj,setObj,Sem.run_bind,Sem.run,g2,Result.andThen,dU,cS,if_true]
     rfl
    ·rename_i cS
     injection h with h;injection h with e1 e2;injection e2 with e2 e3;subst e1;subst e2;subst e3
     refine da.same hH (.tuple #[.bool false]) hK ?_ ⟨_,rfl, .bool false,_,rfl,rfl,rfl⟩
     simp only[Instr.next,getObj,Sem.run_bind,Sem.run,g2,Result.andThen,dU,cS,if_false]
     rfl
   ·cases h
  ·cases h
 ·cases h
theorem DL{es:List MapEntry}(hn:(es.map (·.born)).Nodup)(seen:Array Nat){e:MapEntry}{i:Nat}(hi:(es.filter fun e=> !seen.contains e.born)[i]? =some e):
 (es.filter fun x=> !(seen.push e.born).contains x.born)=(es.filter fun e=> !seen.contains e.born).eraseIdx i:=by
 have e1:(es.filter fun x=> !(seen.push e.born).contains x.born)=(es.filter fun e=> !seen.contains e.born).filter (fun x=>x.born !=e.born):=by
  rw[List.filter_filter]
  refine List.filter_congr fun x _=> ?_
  simp only[Array.contains_push]
  cases h1:seen.contains x.born<;>cases h2:(x.born==e.born)<;>simp_all[bne]
 rw[e1]
 have hn':((es.filter fun e=> !seen.contains e.born).map (·.born)).Nodup:=hn.sublist (List.Sublist.map _ (List.filter_sublist ..))
 generalize (es.filter fun e=> !seen.contains e.born)=L at hi hn'|-
 induction L generalizing i with
 |nil=>simp at hi
 |cons y L ih=>
  obtain⟨n1,n2⟩:=List.nodup_cons.1 hn'
  cases i with
  |zero=>
   simp at hi;subst hi
   simp only[List.filter_cons,bne_self_eq_false,Bool.false_eq_true,if_false,List.eraseIdx_zero,List.tail_cons]
   refine List.filter_eq_self.2 fun x hx=> ?_
   simp only[bne_iff_ne,ne_eq]
   exact fun h=>n1 (by show y.born∈_;rw[<- h];exact List.mem_map.2 ⟨x,hx,rfl⟩)
  |succ i=>
   simp only[List.getElem?_cons_succ]at hi
   have hm:=List.mem_of_getElem? hi
   have iz:(y.born !=e.born)=true:=by
    simp only[bne_iff_ne,ne_eq]
    exact fun h=>n1 (by show y.born∈_;rw[h];exact List.mem_map.2 ⟨e,hm,rfl⟩)
   rw[List.filter_cons,iz,if_pos rfl,List.eraseIdx_cons_succ,ih hi n2]
theorem DM(hH:ay M φ H w){x:V}{xv:Value}{ty:TypeId}(hx:V.den (ao M φ H) φ H w x xv){id:Nat}{l:List (D×D)}(h:ql H.o x=some (id,l))(hK:IF id l K):
 da M φ H w fr ((do let v <- Instr.next xv false ty;pure (Next.value v):Sem Next).run P w) K:=by
 unfold ql at h
 split at h
 ·rename_i dw
  obtain⟨_,dg,zc⟩:=hx
  split at h
  ·rename_i l' last ho
   simp only[Option.some.injEq,Prod.mk.injEq]at h
   obtain⟨rfl,rfl⟩:=h
   obtain⟨b0,q1,rfl⟩:=zc eL
   have bp:=hH.ok dw
   simp only[aO,ho]at bp
   obtain⟨b,g1,g2⟩:=bp
   rw[q1]at g1;injection g1 with g1;injection g1 with g1;injection g1 with g1;subst g1
   rcases g2 with⟨g2,rfl,_⟩|⟨m,since,seen,es,g2,g3,g4,g5,g6,_⟩
   ·refine da.same hH (.tuple #[.bool false]) (hK.1 rfl) ?_ ⟨_,rfl, .bool false,_,rfl,rfl,rfl⟩
    simp only[Instr.next,getObj,Sem.run_bind,Sem.run,g2,Result.andThen]
    rfl
   ·have Vn:=next_test_false seen es since since g5.1 (Nat.le_refl _)
    have nX:(es.filter fun e=> !seen.contains e.born).toList=es.toList.filter fun e=> !seen.contains e.born:=aJ
    obtain⟨l1,gp,g6⟩:=g6
    rw[<- nX]at g6
    have oD:∀x∈(es.filter fun e=> !seen.contains e.born).toList,x.born<since:=fun x hx=>g5.1 x (by simp at hx|-;exact hx.1)
    have ahv:b0<w.heap.size:=by
     rcases Nat.lt_or_ge b0 w.heap.size with h|h
     ·exact h
     ·simp[Array.getElem?_eq_none h]at g2
    by_cases h0:(es.filter fun e=> !seen.contains e.born).size=0
    ·have hL:(es.filter fun e=> !seen.contains e.born)=#[]:=Array.eq_empty_of_size_eq_zero h0
     rw[hL]at g6
     have wS:l1=[]:=by cases l1 with|nil=>rfl|cons p l1=>obtain⟨e,es',h,_⟩:=g6;simp at h
     have RZ:l'=[]:=by rw[wS]at gp;exact gp.symm.eq_nil
     refine da.same hH (.tuple #[.bool false]) (hK.1 RZ) ?_ ⟨_,rfl, .bool false,_,rfl,rfl,rfl⟩
     simp only[Instr.next,getObj,Sem.run_bind,Sem.run,g2,g3,Result.andThen,Vn,Bool.false_eq_true,if_false,hL]
     simp[choose,Sem.run,Question.forced]
    ·have fO:∃ (j:Nat) (e:MapEntry) (w1:World),(es.filter fun e=> !seen.contains e.born).toList[j]? =some e/\(w1.os=w.os/\w1.tape=w.tape/\w1.output=w.output/\w1.heap=w.heap)/\
      (Instr.next (.pointer (some ⟨b0,0,none⟩)) false ty).run P w= .ok (.tuple #[.bool true,e.key,e.val]) {w1 with heap:=w.heap.setIfInBounds b0 (.mapIter (some m) since (seen.push e.born) since)}:=by
      simp only[Instr.next,getObj,Sem.run_bind,Sem.run,g2,g3,Result.andThen,Vn,Bool.false_eq_true,if_false]
      generalize es.filter (fun e=> !seen.contains e.born)=L at oD h0|-
      have e1:L.filter (fun x=>decide (x.born<since))=L:=Array.filter_eq_self.2 (fun x hx=>by simpa using oD x zE)
      have e2:L.filter (fun x=>decide (x.born≥since))=#[]:=by
       rw[Array.filter_eq_empty_iff]
       intro x hx
       have:=oD x zE
       simp
       omega
      have iz:L.isEmpty=false:=by simp[Array.isEmpty,h0]
      simp only[e1,e2,Array.append_empty,iz,Bool.false_eq_true,if_false,Array.empty_append,Array.size_map]
      have hch:∃ (j:Nat) (w1:World),j<L.size/\(w1.os=w.os/\w1.tape=w.tape/\w1.output=w.output/\w1.heap=w.heap)/\(choose (Question.mapNext L.size)).run P w= .ok j w1:=by
       by_cases hf:L.size<=1
       ·exact⟨0,w,ae,⟨rfl,rfl,rfl,rfl⟩,by simp[choose,Sem.run,Question.forced,hf]⟩
       ·exact⟨_,w.drew,Nat.mod_lt _ ae,⟨rfl,rfl,rfl,rfl⟩,by
         simp only[choose,Sem.run,Question.forced,decide_eq_true_eq,hf,if_false,Question.cut]
         rfl⟩
      obtain⟨j,w1,hj,Yr,fO⟩:=hch
      refine⟨j,L[j],w1,by simp[hj],Yr, ?_⟩
      have g2':w1.heap[b0]? =some (.mapIter (some m) since seen since):=by rw[Yr.2.2.2];exact g2
      simp only[fO,Array.getElem?_map,Array.getElem?_eq_getElem hj,Option.map_some,Sem.run_bind,setObj,Sem.run,g2',g2,Result.andThen,Yr.2.2.2]
      rfl
     obtain⟨j,e,w1,Vo,Yr,fO⟩:=fO
     obtain⟨⟨k,x⟩,hp0,IY,hp3⟩:=g6.get Vo
     obtain⟨j2,Q6,IZ⟩:=List.getElem_of_mem (gp.mem_iff.1 (List.mem_of_getElem? hp0))
     have IZ:l'[j2]? =some (k,x):=by rw[List.getElem?_eq_getElem Q6,IZ]
     have gpe:(l1.eraseIdx j).Perm (l'.eraseIdx j2):=by
      have Vp:∀ {L:List (D×D)} {i:Nat} {n:D×D},L[i]? =some n->L.Perm (n::L.eraseIdx i):=by
       intro L i n h
       obtain⟨hi,e⟩:=List.getElem?_eq_some_iff.1 h
       have yN:L=L.take i++n::L.drop (i+1):=by rw[<- e,List.getElem_cons_drop,List.take_append_drop]
       rw[List.eraseIdx_eq_take_drop_succ]
       conv=>lhs;rw[yN]
       exact List.perm_middle
      exact List.Perm.cons_inv (((Vp hp0).symm.trans gp).trans (Vp IZ))
     have IV:e∈es.toList:=by
      have:=List.mem_of_getElem? Vo
      rw[nX]at this
      exact(List.mem_filter.1 this).1
     obtain⟨n1,n2⟩:=IX (w1:=w1) (y:= .mapIter (some m) since (seen.push e.born) since) (obj':= .pW (l'.eraseIdx j2) (some (k,x))) hH dg ho rfl rfl rfl rfl rfl q1 g2 Yr (fun ht=>by
      unfold aO
      simp only[bT,aR,if_true]
      obtain⟨k1,k2⟩:=ht.blocks (M:=M) m (.inr ⟨es,since,g3⟩) g4
      refine⟨b0,q1, .inr ⟨m,since,seen.push e.born,es, ?_,k1.trans g3,k2,g5, ?_,fun k' x' hkx=> ?_⟩⟩
      ·show(w.heap.setIfInBounds b0 _)[b0]? =_
       rw[Array.getElem?_setIfInBounds,if_pos rfl,if_pos ahv]
      ·rw[nX]at Vo g6
       rw[DL g5.2 seen Vo]
       exact⟨_,gpe,aN.mono (ht.blocks (M:=M)) _ _ g6.erase⟩
      ·injection hkx with hkx;injection hkx with h1 h2;subst h1;subst h2
       exact⟨e,IV,aJ,D.aS (ht.blocks (M:=M)) _ _ IY,D.aS (ht.blocks (M:=M)) _ _ hp3⟩)
     refine⟨.value (.tuple #[.bool true,e.key,e.val]),_,_,φ,_,_,_,hK.2 j2 k x IZ, ?_, .inl rfl,n1,n2,⟨_,rfl, .bool true,_,rfl,rfl,e.key,_,rfl,D.aS (n2.blocks (M:=M)) _ _ IY,e.val,_,rfl,D.aS (n2.blocks (M:=M)) _ _ hp3,rfl⟩,fun j hj=> .inl NA⟩
     simp only[Sem.run_bind,fO,Result.andThen_ok,Sem.run_pure]
  ·cases h
 ·cases h
theorem K6(hH:ay M φ H w){x:V}{xv:Value}(hx:V.den (ao M φ H) φ H w x xv)(h:dx (ow H.o x) K):
 da M φ H w fr ((do let v <- Instr.entry xv;pure (Next.value v):Sem Next).run P w) K:=by
 have hg:=dO h
 clear h
 obtain⟨v,Δ,rd,h,hK⟩:=hg
 unfold ow at h
 split at h
 ·rename_i id
  obtain⟨_,dg,zc⟩:=hx
  split at h
  ·rename_i l k x ho
   injection h with h;injection h with e1 e2;injection e2 with e2 e3;subst e1;subst e2;subst e3
   obtain⟨b0,q1,rfl⟩:=zc eL
   have bp:=hH.ok id
   simp only[aO,ho]at bp
   obtain⟨b,g1,g2⟩:=bp
   rw[q1]at g1;injection g1 with g1;injection g1 with g1;injection g1 with g1;subst g1
   rcases g2 with⟨_,_,g2⟩|⟨m,since,seen,es,g2,g3,g4,g5,g6,g7⟩
   ·cases g2
   ·obtain⟨e,h1,h2,h3,h4⟩:=g7 k x rfl
    have hf:es.find? (·.born==e.born)=some e:=by rw[<- Array.find?_toList];exact find_born e es.toList g5.2 h1
    refine da.same hH (.tuple #[e.key,e.val]) hK ?_ ⟨_,rfl,e.key,_,rfl,h3,e.val,_,rfl,h4,rfl⟩
    simp only[Instr.entry,getObj,Sem.run_bind,Sem.run,g2,g3,Result.andThen,h2,bne_self_eq_false,Bool.false_eq_true,if_false,hf]
    rfl
  ·cases h
 ·cases h
theorem qn(hH:ay M φ H w){t:TypeId}{m k v:V}{mv kv vv:Value}(hm:V.den (ao M φ H) φ H w m mv)(hk:V.den (ao M φ H) φ H w k kv)(hv:V.den (ao M φ H) φ H w v vv)
 (h:dx (gI P H.o t m k v) K):da M φ H w fr ((do Instr.mapUpdate t mv kv vv;pure Next.skip:Sem Next).run P w) K:=by
 have hg:=dO h
 clear h
 obtain⟨v',Δ,rd,h,hK⟩:=hg
 unfold gI at h
 split at h
 ·rename_i kt vt kd vd id Gd Ge l ht hkd hvd IU
  rcases wV IU with⟨id2,kt2,vt2,rfl,ho,hr⟩|⟨rfl,hr,rfl⟩
  case inr=>cases hr
  injection hr with hr;injection hr with e1 e2;injection e2 with e2 e3;subst e1;subst e2;subst e3
  split at h
  ·rename_i hc
   obtain⟨c1,c2,c3,c4⟩:=hc
   have lQ:D.den (ao M φ H) w kd kv:=eG hH k kd kv (fun id aq=>by rw[c1]at aq;cases aq) hkd hk
   have Q5:∀em,(Instr.checkKey em 10000 kt kv).run P w= .ok () w:=fun em=>rG em 100 kt kd c2 10000 bG kv lQ
   have MK:=tE ht
   ·obtain⟨Yq,dg,zc⟩:=hm
    have dz:=zc eL
    have bp:=hH.ok id
    simp only[aO,ho]at bp
    obtain⟨b,es,clock,g1,g2,g0,g3⟩:=bp
    rw[<- dz]at g1;subst g1
    have te:=MapKept.run_getObj_map (P:=P) g2
    have me:id∉v.ids:=fun hm=>by have:=List.all_eq_true.1 c4 id hm;simp at this
    obtain⟨f1,f2,f3,f4,f5⟩:=cW hH v.ids (b9 v _ hv)
    have vf:=(f4 id me).trans ho
    have Vq:=eG f1 v vd vv f3 hvd (V.aS f2 _ _ hv)
    have N3:=D.aS (f2.blocks (M:=M)) kd kv lQ
    have g3':=aN.mono (f2.blocks (M:=M)) l _ g3
    have Bq:(bY H.o v.ids).map (·.1)=v.ids:=by rw[kK];simp[Function.comp_def]
    have turn:∀ (l':List (D×D)) (es':Array MapEntry) (clock':Nat),jt es' clock'->aN (ao M φ (H.put (bY H.o v.ids))) w l' es'.toList->K (.cc []) (bY H.o v.ids++[(id, .map Gd Ge l')]) (id::v.ids)->
     (Instr.mapUpdate t (.map (some b)) kv vv).run P w= .ok () {w with heap:=w.heap.setIfInBounds b (.map es' clock')}->
     da M φ H w fr ((do Instr.mapUpdate t (.map (some b)) kv vv;pure Next.skip:Sem Next).run P w) K:=by
     intro l' es' clock' hl0 hl hK hr
     have N2:ed (· =b) w {w with heap:=w.heap.setIfInBounds b (.map es' clock')}:=
      ⟨rfl,rfl,rfl,aJ,fun j _ hj=>(MapKept.heap_set g2).2 j hj⟩
     have wS:((H.put (bY H.o v.ids)).o id).live=true:=by rw[vf];rfl
     have GJ:dG (φ id)=some b:=by rw[<- dz];rfl
     have zS:=fy (w:=w) (w':={w with heap:=w.heap.setIfInBounds b (.map es' clock')}) ((f5 id).2 dg) wS GJ N2 (.map Gd Ge l') uu uu
     refine⟨.skip,undef,_,φ,_,_,_,hK,by simp only[Sem.run_bind,hr,Result.andThen_ok];rfl, .inr ⟨rfl,rfl⟩, ?_, ?_, ?_,fun j hj=> .inl ?_⟩
     ·rw[bW]
      refine iZ f1 ((f5 id).2 dg) wS GJ N2 _ uu uu ?_
      unfold aO
      simp only[bT,aR,if_true]
      exact⟨b,es',clock',dz.symm,(MapKept.heap_set g2).1,hl0,aN.mono (zS.blocks (M:=M)) l' _ hl⟩
     ·rw[bW];exact f2.trans zS
     ·exact⟨#[],rfl,rfl⟩
     ·rw[List.map_append,Bq]at hj
      simp only[List.map_cons,List.map_nil,List.mem_append,List.mem_singleton]at hj
      rcases hj with hj|rfl
      ·exact b9 v _ hv j hj
      ·exact dg
    split at h
    ·rename_i i k' x hf
     split at h
     ·rename_i DN
      injection h with h;injection h with e1 e2;injection e2 with e2 e3;subst e1;subst e2;subst e3
      have GL:=D.eH _ _ DN
      subst GL
      obtain⟨r',q1,q2⟩:=hU lQ c2 g3 hf
      cases r' with
      |none=>exact q2.elim
      |some p=>
       obtain⟨j',u⟩:=p
       obtain⟨rfl,_,hxu,e,h4,h5,h6⟩:=q2
       rw[Nat.sub_zero]at h4
       have hkv:=GD c3 h6 lQ
       have Bu:es[i]? =some e:=by simpa using h4
       refine turn _ (es.modify i fun e=>{e with key:=kv,val:=vv}) clock (Bs g0 h4 rfl) ?_ hK ?_
       ·rw[jw _ h4]
        exact aN.set g3' N3 Vq
       ·have hs:=K0 (P:=P) (w':=w) c3 lQ
        simp only[Instr.mapUpdate,Sem.run_bind,run_underlying MK,Result.andThen_ok,te,Q5,q1,Bu,Option.map_some,Option.getD_some,hkv,hs]
        exact MapKept.run_setObj_map _ g2
     ·cases h
    ·rename_i hf
     injection h with h;injection h with e1 e2;injection e2 with e2 e3;subst e1;subst e2;subst e3
     obtain⟨r',q1,q2⟩:=hU lQ c2 g3 hf
     cases r' with
     |some p=>exact q2.elim
     |none=>
      refine turn _ (es.push {key:=kv,val:=vv,born:=clock}) (clock+1) (GI g0 rfl) ?_ hK ?_
      ·rw[Array.toList_push]
       exact aN.push g3' N3 Vq
      ·simp only[Instr.mapUpdate,Sem.run_bind,run_underlying MK,Result.andThen_ok,te,Q5,q1]
       exact MapKept.run_setObj_map _ g2
    ·cases h
  ·cases h
 ·cases h
end
end
section
section
variable {P:Program}(w:World)(d:Nat){t:TypeId}
theorem adI{ms}(ht:P.underlying t=some (.interface ms)):(Op.equalIn (d+1) t .nilIface .nilIface).run P w= .ok true w:=Bb
theorem acu{ms}(ht:P.underlying t=some (.interface ms))(u:TypeId)(v:Value):(Op.equalIn (d+1) t (.iface u v) .nilIface).run P w= .ok false w:=Bb
theorem acv{ms}(ht:P.underlying t=some (.interface ms))(u:TypeId)(v:Value):(Op.equalIn (d+1) t .nilIface (.iface u v)).run P w= .ok false w:=Bb
theorem adJ{ms}(ht:P.underlying t=some (.interface ms)){a b:TypeId}{x y:D}{B:Nat->Prop}{w2:World}{u v:Value}{r:Bool}(h:eqI P a b x y=some r)(hx:D.den B w2 x u)(hy:D.den B w2 y v):(Op.equalIn (d+2) t (.iface a u) (.iface b v)).run P w= .ok r w:=by
 unfold eqI at h
 by_cases e:a=b
 ·subst e
  rw[if_pos rfl]at h
  split at h
  ·rename_i i k hi hk
   split at h
   ·rename_i hc
    split at h
    ·split at h
     ·rename_i K4
      injection h with h;subst h
      simp only[D.den]at hx hy
      subst hx;subst hy;subst K4
      simp[Op.equalIn,run_underlying ht,run_underlying hk,typeInfo,hi,hc]
     ·cases h
    ·cases h
   ·cases h
  ·cases h
 ·rw[if_neg e]at h
  injection h with h;subst h
  simp[Op.equalIn,run_underlying ht,e]
theorem adK{a b c}(ht:P.underlying t=some (.func a b c)):(Op.equalIn (d+1) t .nilFunc .nilFunc).run P w= .ok true w:=Bb
theorem adL{a b c}(ht:P.underlying t=some (.func a b c))(f x y):(Op.equalIn (d+1) t (.func f x y) .nilFunc).run P w= .ok false w:=Bb
theorem adM{a b}(ht:P.underlying t=some (.map a b)):(Op.equalIn (d+1) t (.map none) (.map none)).run P w= .ok true w:=Bb
theorem acp{a b}(ht:P.underlying t=some (.map a b))(x):(Op.equalIn (d+1) t (.map (some x)) (.map none)).run P w= .ok false w:=Bb
theorem adN{e}(ht:P.underlying t=some (.pointer e)):(Op.equalIn (d+1) t (.pointer none) (.pointer none)).run P w= .ok true w:=Bb
theorem acx{e}(ht:P.underlying t=some (.pointer e))(a):(Op.equalIn (d+1) t (.pointer (some a)) (.pointer none)).run P w= .ok false w:=Bb
theorem adO{e}(ht:P.underlying t=some (.slice e))(b n c):(Op.equalIn (d+1) t (.slice b n c) (.slice none 0 0)).run P w= .ok b.isNone w:=by cases b<;>simp[Op.equalIn,run_underlying ht]
end
section
variable {P:Program}{M:Nat->Prop}{φ:Place}{H:Hp}{w w':World}{fr:Nat}{K:V->List (Nat×aa)->List Nat->Prop}{B:Nat->Prop}
theorem GM(hH:ay M φ H w){x:V}{xv:Value}{es:List D}(h:dA H.o x=some es)(hx:V.den (ao M φ H) φ H w x xv):∃base n c,xv= .slice base n c/\(es≠[]->base≠none):=by
 have hd:∃x',dS H.o x=some x'/\x'= .sl es:=by
  unfold dA at h
  split at h
  ·rename_i es' hd;injection h with h;subst h;exact⟨_,hd,rfl⟩
  ·cases h
 obtain⟨x',hd,rfl⟩:=hd
 obtain⟨f1,f2,f3,f4,f5⟩:=cW hH x.ids (b9 x _ hx)
 have:=eG f1 x (.sl es) xv f3 hd (V.aS f2 _ _ hx)
 obtain⟨base,len,cap,rfl,h1,h2,h3,_⟩:=this
 refine⟨base,len,cap,rfl,fun iz hb=> ?_⟩
 have:=h3 hb
 have:es.length=0:=ae
 exact iz (List.length_eq_zero_iff.1 this)
def Uw:Value->Bool
 | .int _ _| .float _ _| .complex _ _ _| .string _=>false
 |_=>true
theorem I0(hH:ay M φ H w){t:TypeId}{p q:Operand}{x y v:V}{xv yv:Value}(hx:V.den (ao M φ H) φ H w x xv)(hy:V.den (ao M φ H) φ H w y yv)(h:ux P H.o t (isConst p||isConst q) x y=some v):
 ∃r:Bool,(v= .d (.bool r)\/v= .fl)/\Uw xv=true/\(∀op,(eqGuard op t p q xv yv).run P w= .ok () w)/\(Op.equal t xv yv).run P w= .ok r w:=by
 have kz:(∀a b, ¬ (xv= .agg a/\yv= .agg b))-> ¬ (xv= .nilIface/\yv= .nilIface)->∀op,(eqGuard op t p q xv yv).run P w= .ok () w:=by
  intro h1 h2 op
  unfold eqGuard
  cases op<;>cases xv<;>cases yv<;>first
   |(simp;done)
   |(exact absurd ⟨rfl,rfl⟩ (h1 _ _))
   |(exact absurd ⟨rfl,rfl⟩ h2)
 unfold ux at h
 cases ht:P.underlying t with
 |none=>simp[ht]at h
 |some td=>
  simp only[ht]at h
  have eq:∀r,(∀d,(Op.equalIn (d+1) t xv yv).run P w= .ok r w)->(Op.equal t xv yv).run P w= .ok r w:=fun r h=>h 9999
  cases td<;>simp only[reduceCtorEq]at h
  case interface ms=>
   split at h
   ·split at h
    ·rename_i hc
     injection h with h;subst h
     simp only[V.den,D.den]at hx hy;subst hx;subst hy
     refine⟨true, .inl rfl,rfl,fun op=> ?_,eq _ (fun d=>by rw[adI w d ht])⟩
     simp only[Bool.or_eq_true]at hc
     unfold eqGuard
     rcases hc with hc|hc
     ·cases p<;>simp only[isConst,Bool.false_eq_true]at hc
      cases op<;>simp
     ·cases q<;>simp only[isConst,Bool.false_eq_true]at hc
      cases op<;>simp
    ·cases h
   ·exact UP
   ·exact UP
   ·exact UO
   ·exact UO
   ·rename_i a x b y
    simp only[Option.map_eq_some_iff]at h
    obtain⟨r,h1,rfl⟩:=h
    obtain⟨u,rfl,g1⟩:=hx
    obtain⟨u2,rfl,g2⟩:=hy
    exact⟨r, .inl rfl,rfl,kz (fun _ _ h=>by cases h.1) Gj,adJ w 9998 ht h1 g1 g2⟩
   ·cases h
  case func a b c=>
   split at h
   ·injection h with h;subst h
    simp only[V.den,D.den]at hx hy;subst hx;subst hy
    exact⟨true, .inl rfl,rfl,kz (fun _ _ h=>by cases h.1) Gj,eq _ (fun d=>by rw[adK w d ht])⟩
   ·injection h with h;subst h
    obtain⟨f,c',rfl,_⟩:=hx
    simp only[V.den,D.den]at hy;subst hy
    exact⟨false, .inl rfl,rfl,kz (fun _ _ h=>by cases h.1) Gj,eq _ (fun d=>by rw[adL w d ht])⟩
   ·cases h
  case map a b=>
   split at h
   ·simp only[V.den,D.den]at hy;subst hy
    unfold tu at h
    split at h
    ·injection h with h;subst h
     simp only[V.den,D.den]at hx;subst hx
     exact⟨true, .inl rfl,rfl,kz (fun _ _ h=>by cases h.1) Gj,eq _ (fun d=>by rw[adM w d ht])⟩
    ·injection h with h;subst h
     obtain⟨bk,es,clock,_,rfl,_⟩:=hx
     exact aco
    ·rename_i id
     split at h
     ·rename_i ho
      injection h with h;subst h
      obtain⟨_,_,h3⟩:=hx
      have dz:=h3 eL
      have bp:=hH.ok id
      exact US
     ·rename_i ho
      injection h with h;subst h
      obtain⟨_,_,h3⟩:=hx
      have dz:=h3 eL
      have bp:=hH.ok id
      exact US
     ·cases h
    ·cases h
   ·cases h
  case pointer e=>
   split at h
   ·simp only[V.den,D.den]at hy;subst hy
    unfold tv at h
    split at h
    ·injection h with h;subst h
     simp only[V.den,D.den]at hx;subst hx
     exact⟨true, .inl rfl,rfl,kz (fun _ _ h=>by cases h.1) Gj,eq _ (fun d=>by rw[adN w d ht])⟩
    ·split at h
     ·rename_i hr
      injection h with h;subst h
      obtain⟨_,_,h3⟩:=hx
      obtain⟨bk,_,rfl⟩:=h3 hr
      exact acw
     ·cases h
    ·injection h with h;subst h
     obtain⟨a,ev,_,rfl,_⟩:=hx
     exact acw
    ·cases h
   ·cases h
  case slice e=>
   split at h
   ·simp only[V.den]at hy;subst hy
    unfold Ds at h
    split at h
    ·injection h with h;subst h
     simp only[V.den]at hx;subst hx
     exact⟨true, .inl rfl,rfl,kz (fun _ _ h=>by cases h.1) Gj,eq _ (fun d=>by rw[adO w d ht];rfl)⟩
    ·split at h
     ·rename_i es hl
      obtain⟨base,n,c,rfl,hb⟩:=GM hH hl hx
      refine⟨base.isNone, ?_,rfl,kz (fun _ _ h=>by cases h.1) Gj,eq _ ?_⟩
      ·split at h
       ·injection h with h;exact .inr h.symm
       ·rename_i iz
        injection h with h
        have:=hb iz
        cases base with
        |none=>exact absurd rfl this
        |some a=>exact .inl h.symm
      ·intro d
       rw[adO w d ht]
     ·cases h
   ·cases h
  case struct fs=>
   split at h
   ·split at h
    ·rename_i hg
     exact adl
    ·cases h
   ·cases h
  case array n e=>
   split at h
   ·split at h
    ·rename_i hg
     exact adl
    ·cases h
   ·cases h
theorem R0(hH:ay M φ H w){op:BinOp}{t:TypeId}{p q:Operand}{x y:V}{xv yv:Value}(hx:V.den (ao M φ H) φ H w x xv)(hy:V.den (ao M φ H) φ H w y yv)
 (h:dx (tw P H.o op t (isConst p||isConst q) x y) K):
 da M φ H w fr ((do let y <- (do eqGuard op t p q xv yv;binOp op t xv yv);pure (Next.value y):Sem Next).run P w) K:=by
 have hg:=dO h
 clear h
 obtain⟨v,Δ,rd,h,hK⟩:=hg
 unfold tw at h
 split at h
 ·simp only[Option.map_eq_some_iff]at h
  obtain⟨u,h1,h2⟩:=h
  injection h2 with e1 e2;injection e2 with e2 e3;subst e1;subst e2;subst e3
  obtain⟨r,hv,hwd,hgd,he⟩:=I0 (p:=p) (q:=q) hH hx hy h1
  refine da.plain hH (.bool r) hK ?_ ?_
  ·have hb:(binOp .eql t xv yv).run P w= .ok (.bool r) w:=by
    unfold binOp
    exact Uv
   simp[hgd,hb]
  ·rcases hv with rfl|rfl
   ·rfl
   ·exact⟨r,rfl⟩
 ·simp only[Option.map_eq_some_iff,Option.bind_eq_some_iff]at h
  obtain⟨u',⟨u,h1,h3⟩,h2⟩:=h
  injection h2 with e1 e2;injection e2 with e2 e3;subst e1;subst e2;subst e3
  obtain⟨r,hv,hwd,hgd,he⟩:=I0 (p:=p) (q:=q) hH hx hy h1
  refine da.plain hH (.bool !r) hK ?_ ?_
  ·have hb:(binOp .neq t xv yv).run P w= .ok (.bool !r) w:=by
    unfold binOp
    exact Uv
   simp[hgd,hb]
  ·rcases hv with rfl|rfl
   ·simp only[RI,Option.some.injEq]at h3;subst h3;rfl
   ·simp only[RI,Option.some.injEq]at h3;subst h3;exact⟨!r,rfl⟩
 ·cases h
end
end
section
section
variable {P:Program}{M:Nat->Prop}{φ:Place}{H:Hp}{w w':World}{fr:Nat}{K:V->List (Nat×aa)->List Nat->Prop}
theorem Bv(hH:ay M φ H w){o:Oper}{a:Act}{q:Operand}(ho:o.op= .nilCheck q){x:V}(hx:V.den (ao M φ H) φ H w x (a.eval q))
 (h:mo H.o x fun v=>K v [] []):da M φ H w fr ((execOp a.eval o).run P w) K:=by
 unfold mo at h
 have wX:=hx
 split at h
 ·rename_i id off
  obtain⟨h1,hK⟩:=h
  obtain⟨_,hu,hp⟩:=wX
  obtain⟨b,dz,hv⟩:=hp h1
  exact da.same hH _ hK (by simp[execOp,ho,hv]) (hv ▸ hx)
 ·rename_i cs off
  obtain⟨b,ev,_,hv,_⟩:=wX
  exact da.same hH _ h (by simp[execOp,ho,hv]) (hv ▸ hx)
 ·rename_i f first cap
  obtain⟨b,c,hv,_⟩:=wX
  exact da.same hH _ h (by simp[execOp,ho,hv]) (hv ▸ hx)
 ·exact h.elim
theorem K7{t:TypeId}{k:IntKind}(h:rl P t=some k):P.underlying t=some (.int k):=by
 unfold rl at h
 cases hd:P.underlying t with
 |none=>simp[hd]at h
 |some d=>cases d<;>simp_all
theorem rH(s:S)(a:Act)(eA:∀i,V.den (ao M φ H) φ H w (s.env i) (a.tmps.getD i undef))(xs:Array Operand):
 V.aG (ao M φ H) φ H w (xs.toList.map s.ev) (xs.map a.eval).toList:=by
 simpa using lM s a eA xs.toList
theorem zY(hH:ay M φ H w){s:S}(qZ:s.o=H.o){a:Act}(eA:∀i,V.den (ao M φ H) φ H w (s.env i) (a.tmps.getD i undef))(c8: ¬H.us fr){o:Oper}{op:Op}(iS:o.op=op)(h:Q3 P s fr op K):
 da M φ H w fr ((execOp a.eval o).run P w) K:=by
 have dF:=ox (M:=M) (φ:=φ) (H:=H) (w:=w) s a eA
 cases op<;>simp only[Q3]at h<;>try (exact h.elim)
 case move x=>exact da.same hH _ h (by simp[execOp,iS]) (dF x)
 case assign x=>exact da.same hH _ h (by simp[execOp,iS]) (dF x)
 case pick c x y=>
  have:=NR (P:=P) (fr:=fr) hH (dF c) (dF x) (dF y) h
  exact jK
 case alloc t=>
  have:=KJ (P:=P) (fr:=fr) hH c8 h
  exact jK
 case box t x=>
  have:=RQ (P:=P) (fr:=fr) (t:=t) hH c8 (dF x) h
  exact jK
 case build t parts=>
  have:=KM (P:=P) (fr:=fr) hH eA h
  exact jK
 case buildSlice t len parts=>
  rw[qZ]at h
  have:=wO (P:=P) (fr:=fr) hH c8 eA h
  exact jK
 case load t x=>
  rw[qZ]at h
  have:=NQ (P:=P) (fr:=fr) hH (dF x) h
  exact jK
 case store t x y=>
  rw[qZ]at h
  have:=KQ (P:=P) (fr:=fr) hH (dF x) (dF y) h
  exact jK
 case nilCheck x=>
  rw[qZ]at h
  exact Bv hH iS (dF x) h
 case binOp op t x y yt=>
  rw[qZ]at h
  rcases h with h|h
  ·have:=RN (P:=P) (fr:=fr) (p:=x) (q:=y) hH (dF x) (dF y) h
   exact jK
  ·have:=R0 (P:=P) (fr:=fr) (p:=x) (q:=y) hH (dF x) (dF y) h
   exact jK
 case unOp op t x=>
  rcases h with h|⟨rfl,hx,hK⟩
  ·have:=Ym (P:=P) (fr:=fr) hH (dF x) h
   exact jK
  ·have hv:=dF x
   rw[hx]at hv
   obtain⟨b,hb⟩:=hv
   exact da.same hH (.bool !b) hK (by simp[execOp,iS,hb,Op.unary]) ⟨_,rfl⟩
 case convert t u x=>
  obtain⟨ahw,h⟩:=h
  split at h
  ·rename_i k k' n hk hx
   have hv:=dF x
   rw[hx]at hv
   simp only[V.den,D.den]at hv
   have hu:=K7 hk
   obtain⟨d,hd⟩:=Option.isSome_iff_exists.1 ahw
   refine da.same hH (.int k (k.wrap n)) h ?_ rfl
   cases d<;>simp[execOp,iS,hv,convert,run_underlying hd,run_underlying hu,Conv.intToInt]
  ·exact h.elim
 case makeInterface t x=>
  obtain⟨⟨d,hd,me⟩,h⟩:=h
  have hr:∀v,(Instr.makeInterface t v).run P w= .ok (.iface t v) w:=by
   intro v
   cases d<;>first|(simp at me;done)|simp[Instr.makeInterface,run_underlying hd]
  have hv:=dF x
  split at h
  ·rename_i y hy
   rw[hy]at hv
   exact UC
  ·exact UC
 case makeFunc fn first cap=>
  exact da.same hH _ h (by simp[execOp,iS,Instr.makeFunc]) ⟨_,_,rfl,rH s a eA first,rH s a eA cap⟩
 case makeSlice t l c=>
  have:=zb (P:=P) (fr:=fr) hH c8 (dF l) (dF c) h
  exact jK
 case fieldAddr t x f=>
  rw[qZ]at h
  have:=y0 (P:=P) (fr:=fr) hH (dF x) h
  exact jK
 case indexAddr t x i=>
  rw[qZ]at h
  have:=za (P:=P) (fr:=fr) hH (dF x) (dF i) h
  exact jK
 case extract x i=>
  split at h
  ·rename_i vs hx
   obtain⟨v,hv,hK⟩:=h
   have hd:=dF x
   rw[hx]at hd
   obtain⟨c,hc,hd⟩:=hd
   obtain⟨u,hu,RM⟩:=V.dL _ _ _ _ hd hv
   refine da.same hH u hK ?_ RM
   have Dc:c[i]? =some u:=by simpa using hu
   simp[execOp,iS,hc,Instr.extract,Dc]
  ·exact h.elim
 case call c=>
  obtain⟨N4,args,ts⟩:=c
  cases N4<;>simp only at h<;>try (exact h.elim)
  rename_i b
  unfold ru at h
  split at h
  ·rename_i x eC
   obtain⟨t,pG,h⟩:=h
   rw[qZ]at h
   have e1:args=#[x]:=by apply Array.ext';simpa using eC
   have e2:ts=#[t]:=by apply Array.ext';simpa using pG
   subst e1;subst e2
   have:=RP (P:=P) (fr:=fr) (ty:=o.type) hH (dF x) h
   exact Rz
  ·rename_i x y eC
   have e1:args=#[x,y]:=by apply Array.ext';simpa using eC
   subst e1
   rw[qZ]at h
   have:=h.elim (fun h=>h.elim (fun h=>NT (P:=P) (fr:=fr) (ty0:=o.type) hH c8 (dF x) (dF y) h) (fun h=>NZ (P:=P) (fr:=fr) (ty0:=o.type) hH c8 (dF x) (dF y) h)) (fun h=>Gx (P:=P) (fr:=fr) (ty0:=o.type) hH c8 (dF x) (dF y) h)
   exact Rz
  ·rename_i x y eC
   have e1:args=#[x,y]:=by apply Array.ext';simpa using eC
   subst e1
   unfold pC at h
   split at h
   ·rename_i k u k' v heq
    simp only[List.cons.injEq,and_true]at heq
    obtain⟨rfl,hK⟩:=h
    have h1:=dF x
    have h2:=dF y
    rw[heq.1]at h1;rw[heq.2]at h2
    simp only[V.den,D.den]at h1 h2
    exact da.same hH _ hK (by simp[execOp,iS,resolve,invoke,builtin,h1,h2,run_max_int2]) rfl
   ·exact h.elim
  ·rename_i x y eC
   have e1:args=#[x,y]:=by apply Array.ext';simpa using eC
   subst e1
   unfold pC at h
   split at h
   ·rename_i k u k' v heq
    simp only[List.cons.injEq,and_true]at heq
    obtain⟨rfl,hK⟩:=h
    have h1:=dF x
    have h2:=dF y
    rw[heq.1]at h1;rw[heq.2]at h2
    simp only[V.den,D.den]at h1 h2
    exact da.same hH _ hK (by simp[execOp,iS,resolve,invoke,builtin,h1,h2,run_min_int2]) rfl
   ·exact h.elim
  ·rename_i x y z eC
   have e1:args=#[x,y,z]:=by apply Array.ext';simpa using eC
   subst e1
   have hg:=dO h
   clear h
   obtain⟨v,Δ,rd,h,hK⟩:=hg
   simp only[Option.map_eq_some_iff,Prod.mk.injEq]at h
   obtain⟨v',h,rfl,rfl,rfl⟩:=h
   unfold IG at h
   split at h
   ·rename_i k u k' v k'' t q1 q2 q3
    split at h
    ·rename_i hk
     obtain⟨rfl,rfl⟩:=hk
     injection h with h;subst h
     have h1:=dF x
     have h2:=dF y
     have h3:=dF z
     rw[q1]at h1;rw[q2]at h2;rw[q3]at h3
     simp only[V.den,D.den]at h1 h2 h3
     exact da.same hH _ hK (by simp[execOp,iS,resolve,invoke,builtin,h1,h2,h3,Builtin.max_,Builtin.max2]) rfl
    ·cases h
   ·cases h
  ·rename_i x y eC
   have e1:args=#[x,y]:=by apply Array.ext';simpa using eC
   subst e1
   rw[qZ]at h
   have:=NY (P:=P) (fr:=fr) (ty0:=o.type) hH (dF x) (dF y) h
   exact Rz
  ·rename_i x y eC
   have e1:args=#[x,y]:=by apply Array.ext';simpa using eC
   subst e1
   obtain⟨t,ht,h⟩:=h
   rw[qZ]at h
   have:=GK (P:=P) (fr:=fr) (ty0:=o.type) hH ht (dF x) (dF y) h
   exact Rz
  ·rename_i x eC
   have e1:args=#[x]:=by apply Array.ext';simpa using eC
   subst e1
   unfold RJ at h
   split at h
   ·rename_i t pG
    have e2:ts=#[t]:=by apply Array.ext';simpa using pG
    subst e2
    split at h
    ·rename_i e ht
     split at h
     ·rename_i hxx
      have hd:=dF x
      rw[hxx]at hd
      simp only[V.den]at hd
      exact da.same hH (.int .i64 0) h (by simp[execOp,iS,resolve,invoke,builtin,hd,Builtin.cap_,run_underlying (bd ht),goInt]) rfl
     ·exact h.elim
    ·exact h.elim
   ·exact h.elim
  ·exact h.elim
 case slice t x lo hi mx=>
  rw[qZ]at h
  have:=KU (P:=P) (fr:=fr) (lov:=lo.map a.eval) (hiv:=hi.map a.eval) (mxv:=mx.map a.eval) hH (dF x) (by cases lo<;>simp[dF]) (by cases hi<;>simp[dF]) (by cases mx<;>simp[dF]) h
  exact jK
 case field t x f=>
  have:=KW (P:=P) (fr:=fr) hH (dF x) h
  exact jK
 case index t x i=>
  have:=KZ (P:=P) (fr:=fr) hH (dF x) (dF i) h
  exact jK
 case insert t m k v=>
  rw[qZ]at h
  have:=qn (P:=P) (fr:=fr) hH (dF m) (dF k) (dF v) h
  exact jK
 case typeAssert x xt t ok=>
  have:=GC (P:=P) (fr:=fr) (xt:=xt) hH (dF x) h
  exact jK
 case makeMap t r=>
  cases r with
  |some x=>exact h.elim
  |none=>
   have:=DH (P:=P) (fr:=fr) hH c8 h
   exact jK
 case lookup t m k ok=>
  rw[qZ]at h
  have:=GH (P:=P) (fr:=fr) hH (dF m) (dF k) h
  exact jK
 case mapUpdate t m k v=>
  rw[qZ]at h
  have:=qn (P:=P) (fr:=fr) hH (dF m) (dF k) (dF v) h
  exact jK
 case range t x=>
  rw[qZ]at h
  have:=K5 (P:=P) (fr:=fr) hH c8 (dF x) h
  exact jK
 case next x str=>
  rw[qZ]at h
  rcases h with h|⟨rfl,id,l,h1,h2⟩
  ·have:=DK (P:=P) (fr:=fr) (ty:=o.type) hH (dF x) h
   exact jK
  ·have:=DM (P:=P) (fr:=fr) (ty:=o.type) hH (dF x) h1 h2
   exact jK
 case entry x=>
  rw[qZ]at h
  have:=K6 (P:=P) (fr:=fr) hH (dF x) h
  exact jK
end
end
end Go.Proofs.YtnkamdiiakdkgaaGreat
