/-
  A PART OF THE PROOF. Conditions: none.
-/
import Derived.WideKeyRuns
import Derived.Laws.IdiomRangeMap
import Derived.Test.YtonbelhklnmjnaaGreatLt3
set_option linter.unusedSimpArgs false
set_option linter.unusedVariables false
namespace Go.Proofs.YtonbelhklnmjnaaGreat
mutual
theorem D.eB:∀ (x y:D),x.same y=true->x=y
 | .int k a,y,h=>by cases y<;>simp_all[D.same]
 | .bool a,y,h=>by cases y<;>simp_all[D.same]
 | .str a,y,h=>by cases y<;>simp_all[D.same]
 | .fD,y,h=>by cases y<;>simp_all[D.same]
 | .mM,y,h=>by cases y<;>simp_all[D.same]
 | .bW,y,h=>by cases y<;>simp_all[D.same]
 | .jq,y,h=>by cases y<;>simp_all[D.same]
 | .agg cu,y,h=>by
   cases y<;>simp only[D.same,Bool.false_eq_true]at h
   rw[D.dJ cu _ h]
 | .sl cu,y,h=>by
   cases y<;>simp only[D.same,Bool.false_eq_true]at h
   rw[D.dJ cu _ h]
 | .iface t a,y,h=>by
   cases y<;>simp only[D.same,Bool.false_eq_true,Bool.and_eq_true,beq_iff_eq]at h
   rw[h.1,D.eB a _ h.2]
 | .mp ks vs,y,h=>by
   cases y<;>simp only[D.same,Bool.false_eq_true,Bool.and_eq_true]at h
   rw[D.dJ ks _ h.1,D.dJ vs _ h.2]
theorem D.dJ:∀ (xs ys:List D),D.gW xs ys=true->xs=ys
 |[],ys,h=>by cases ys<;>simp_all[D.gW]
 |a::cu,ys,h=>by
  cases ys<;>simp only[D.gW,Bool.false_eq_true,Bool.and_eq_true]at h
  rw[D.eB a _ h.1,D.dJ cu _ h.2]
end
section
variable {P:Program}{M:Nat->Prop}{φ:Place}{H:Hp}{w w':World}{fr:Nat}{K:V->List (Nat×ab)->List Nat->Prop}{B:Nat->Prop}
theorem rD{t kt vt:TypeId}(h:pV P t=some (kt,vt)):P.underlying t=some (.map kt vt):=by
 unfold pV at h
 cases hd:P.underlying t with
 |none=>simp[hd]at h
 |some d=>cases d<;>simp_all
theorem xw{x:D}(h:oE x=true){u v:Value}(hu:D.den B w x u)(hv:D.den B w x v):u=v:=by
 cases x<;>simp only[oE,Bool.false_eq_true]at h<;>simp only[D.den]at hu hv
 ·rw[hu,hv]
 ·rw[hu,hv]
 ·obtain⟨⟨⟨a⟩⟩,rfl,h1⟩:=hu
  obtain⟨⟨⟨b⟩⟩,rfl,h2⟩:=hv
  simp only at h1 h2
  rw[h1,h2]
theorem xy:∀ {xs:List D} (_:xs.all oE=true) {us vs:List Value} (_:D.aN B w xs us) (_:D.aN B w xs vs),us=vs
 |[],_,us,vs,hu,hv=>by simp only[D.aN]at hu hv;rw[hu,hv]
 |x::xs,h,us,vs,hu,hv=>by
  simp only[List.all_cons,Bool.and_eq_true]at h
  obtain⟨u,us,rfl,h1,h2⟩:=hu
  obtain⟨v,vs,rfl,h3,h4⟩:=hv
  rw[xw h.1 h1 h3,xy h.2 h2 h4]
theorem DM{x:D}(h:lb x=true){u v:Value}(hu:D.den B w x u)(hv:D.den B w x v):u=v:=by
 cases x with
 |agg cs=>
  simp only[lb]at h
  obtain⟨a,rfl,h1,_⟩:=hu
  obtain⟨b,rfl,h2,_⟩:=hv
  have:=xy h h1 h2
  congr 1
  exact Array.ext' this
 |_=>exact xw (by simpa[lb]using h) hu hv
theorem xz{x:D}(h:oE x=true){u:Value}(hu:D.den B w x u)(n:Nat):Instr.sameBits n u u=true:=by
 cases x<;>simp only[oE,Bool.false_eq_true]at h<;>simp only[D.den]at hu
 ·subst hu;cases n<;>simp[Instr.sameBits]
 ·subst hu;cases n<;>simp[Instr.sameBits]
 ·obtain⟨s,rfl,h1⟩:=hu
  have:(s==s)=true:=(MapKept.bytes_beq s s).2 rfl
  cases n<;>simp[Instr.sameBits,this]
theorem uz:∀ {xs:List D} (_:xs.all oE=true) {us:List Value} (_:D.aN B w xs us) (n:Nat),(us.zip us).all (fun(x,y)=>Instr.sameBits n x y)=true
 |[],_,us,hu,n=>by simp only[D.aN]at hu;subst hu;rfl
 |x::xs,h,us,hu,n=>by
  simp only[List.all_cons,Bool.and_eq_true]at h
  obtain⟨u,us,rfl,h1,h2⟩:=hu
  simp only[List.zip_cons_cons,List.all_cons,xz h.1 h1 n,Bool.true_and]
  exact uz h.2 h2 n
theorem DN{x:D}(h:lb x=true){u:Value}(hu:D.den B w x u)(n:Nat):Instr.sameBits (n+1) u u=true:=by
 cases x with
 |agg cs=>
  simp only[lb]at h
  obtain⟨a,rfl,h1,_⟩:=hu
  have:=uz h h1 n
  simp only[Instr.sameBits,beq_self_eq_true,Bool.true_and]
  exact this
 |_=>exact xz (by simpa[lb]using h) hu (n+1)
theorem Hb{x:D}(h:lb x=true){u:Value}(hu:D.den B w x u):(Instr.keyThatStays u u).run P w'= .ok u w':=by
 simp[Instr.keyThatStays,DN h hu 9999]
theorem qb(em:Bool):∀ (d:Nat) (t:TypeId) (x:D),ou P d t x=true->∀m,d<=m->∀u,D.den B w x u->(Instr.checkKey em m t u).run P w= .ok () w
 |0,_,_,h=>by simp[ou]at h
 |d+1,t,x,h=>by
  intro m hm u hu
  obtain⟨m,rfl⟩:∃k,m=k+1:=⟨m - 1,ad⟩
  have IH:=fun t x h u hu=>qb em d t x h m ad u hu
  unfold ou at h
  rw[Instr.checkKey]
  cases hs:cn P t with
  |none=>rw[hs]at h;cases h
  |some sh=>
   rw[hs]at h
   unfold cn at hs
   cases ht:P.underlying t with
   |none=>rw[ht]at hs;cases hs
   |some td=>
    rw[ht]at hs
    simp only[Sem.run_bind,run_underlying ht,Result.andThen_ok]
    cases td<;>simp only[Option.some.injEq,reduceCtorEq]at hs
    case int k0=>simp
    case bool=>simp
    case string=>simp
    case struct fs=>
     split at hs
     ·injection hs with hs;subst hs
      simp only at h
      cases x<;>simp only[Bool.false_eq_true]at h
      rename_i xs
      obtain⟨arr,rfl,ha,hf⟩:=hu
      simp only
      rw[<- Array.forIn_toList]
      rw[List.all_map]at h
      generalize fs.toList=L at h
      induction L with
      |nil=>simp
      |cons f L ih=>
       simp only[List.all_cons,Bool.and_eq_true,Function.comp]at h
       obtain⟨h1,h2⟩:=h
       split at h1
       ·rename_i y hy
        obtain⟨v,k1,k2⟩:=gX hy ha hf
        have k3:=IH _ _ h1 v k2
        by_cases hn:f.name= "_"
        ·simp only[List.forIn_cons,Sem.run_bind,hn,ne_eq,not_true_eq_false,if_false,Result.andThen_ok,Sem.run_pure]
         have:=ih h2
         simp only[Sem.run_bind,Sem.run_pure,ne_eq]at this
         exact this
        ·simp only[List.forIn_cons,Sem.run_bind,hn,ne_eq,not_false_eq_true,if_true,Result.andThen_ok,k1,k3,Sem.run_pure]
         have:=ih h2
         simp only[Sem.run_bind,Sem.run_pure,ne_eq]at this
         exact this
       ·cases h1
     ·cases hs
    case array n e=>
     split at hs
     ·rename_i hi
      injection hs with hs;subst hs
      simp only at h
      cases x<;>simp only[Bool.false_eq_true]at h
      rename_i xs
      obtain⟨arr,rfl,ha,hf⟩:=hu
      obtain⟨i,hi⟩:=Option.isSome_iff_exists.1 hi
      simp only[Std.Legacy.Range.forIn_eq_forIn_range',Std.Legacy.Range.size,Nat.sub_zero,Nat.add_one_sub_one,Nat.div_one]
      rw[List.range_eq_range']at h
      generalize List.range' 0 n=is at h
      induction is with
      |nil=>simp
      |cons j is ih=>
       simp only[List.all_cons,Bool.and_eq_true]at h
       obtain⟨h1,h2⟩:=h
       split at h1
       ·rename_i y hy
        obtain⟨v,k1,k2⟩:=gX hy ha hf
        have k3:=IH _ _ h1 v k2
        simp only[List.forIn_cons,Sem.run_bind,dY hi,Result.andThen_ok,k1,k3,Sem.run_pure]
        have:=ih h2
        simp only[Sem.run_bind,Sem.run_pure]at this
        exact this
       ·cases h1
     ·cases hs
def kQ(B:Nat->Prop)(w:World)(es:List MapEntry)(i:Nat):Option (Nat×D×D)->Option (Nat×Value)->Prop
 |none,none=>True
 |some (j,k,x),some (j',v)=>j=j'/\i<=j/\D.den B w x v/\∃e,es[j - i]? =some e/\e.val=v/\D.den B w k e.key
 |_,_=>False
theorem kQ.succ {es:List MapEntry}{e:MapEntry}{i:Nat}{r:Option (Nat×D×D)}{r':Option (Nat×Value)}(h:kQ B w es (i+1) r r'):kQ B w (e::es) i r r':=by
 cases r with
 |none=>cases r'<;>exact h
 |some p=>
  obtain⟨j,k,x⟩:=p
  cases r' with
  |none=>exact h
  |some q=>
   obtain⟨j',v⟩:=q
   obtain⟨h1,h2,h3,e',h4,h5⟩:=h
   refine⟨h1,ad,h3,e', ?_,h5⟩
   rw[show j - i=(j - (i+1))+1 by omega]
   simpa using h4
theorem sD{kt:TypeId}{kd:D}{kv:Value}(hk:D.den B w kd kv):∀ (l:List (D×D)) (es:List MapEntry) (i:Nat) (r:Option (Nat×D×D)),aY B w l es->findD P kt kd l i=some r->
 ∃r',(Instr.findAsking kt kv es i).run P w= .ok r' w/\kQ B w es i r r'
 |[],es,i,r,he,h=>by
  simp only[aY]at he;subst he
  simp only[findD,Option.some.injEq]at h;subst h
  exact⟨none,by simp[Instr.findAsking],trivial⟩
 |(k',x)::l,es,i,r,he,h=>by
  obtain⟨e,es,rfl,h1,h2,h3⟩:=he
  simp only[findD]at h
  split at h
  ·rename_i hq
   injection h with h;subst h
   have:=tK 100 kt _ _ _ hq 10000 aZ B w _ _ hk h1
   refine⟨some (i,e.val),by simp[Instr.findAsking,Op.equal,Op.maxDepth,this],rfl,Nat.le_refl _,h2,e,aj,rfl,h1⟩
  ·rename_i hq
   have:=tK 100 kt _ _ _ hq 10000 aZ B w _ _ hk h1
   obtain⟨r',g1,g2⟩:=sD hk l es (i+1) r h3 h
   exact⟨r',by simp[Instr.findAsking,Op.equal,Op.maxDepth,this,g1],g2.succ⟩
  ·cases h
theorem sE{td:TypeDesc}{kt:TypeId}(ht:P.underlying kt=some td)(hn:(match td with| .int _| .bool| .string=>true|_=>false)=true){x y:D}{r:Bool}(h:rb P 100 kt x y=some r){u v:Value}(hu:D.den B w x u)(hv:D.den B w y v):
 Instr.sameNow td u v=some r:=by
 unfold rb cn at h
 rw[ht]at h
 cases td<;>simp only[Bool.false_eq_true]at hn<;>simp only at h
 ·split at h
  ·injection h with h;subst h
   simp only[D.den]at hu hv;subst hu;subst hv;rfl
  ·cases h
 ·split at h
  ·split at h
   ·rename_i e;subst e;injection h with h;subst h
    simp only[D.den]at hu hv;subst hu;subst hv;simp[Instr.sameNow]
   ·cases h
  ·cases h
 ·split at h
  ·injection h with h;subst h
   obtain⟨s1,rfl,rfl⟩:=hu
   obtain⟨s2,rfl,rfl⟩:=hv
   simp only[Instr.sameNow,Option.some.injEq]
   obtain⟨⟨a⟩⟩:=s1
   obtain⟨⟨b⟩⟩:=s2
   rw[Bool.eq_iff_iff,MapKept.bytes_beq]
   simp
  ·cases h
theorem sF{td:TypeDesc}{kt:TypeId}(ht:P.underlying kt=some td)(hn:(match td with| .int _| .bool| .string=>true|_=>false)=true){kd:D}{kv:Value}(hk:D.den B w kd kv):∀ (l:List (D×D)) (es:List MapEntry) (i:Nat) (r:Option (Nat×D×D)),aY B w l es->findD P kt kd l i=some r->
 ∃r',Instr.findNow td kv es i=some r'/\kQ B w es i r r'
 |[],es,i,r,he,h=>by
  simp only[aY]at he;subst he
  simp only[findD,Option.some.injEq]at h;subst h
  exact⟨none,by simp[Instr.findNow],trivial⟩
 |(k',x)::l,es,i,r,he,h=>by
  obtain⟨e,es,rfl,h1,h2,h3⟩:=he
  simp only[findD]at h
  split at h
  ·rename_i hq
   injection h with h;subst h
   have:=sE ht hn hq hk h1
   refine⟨some (i,e.val),by simp[Instr.findNow,this],rfl,Nat.le_refl _,h2,e,aj,rfl,h1⟩
  ·rename_i hq
   have:=sE ht hn hq hk h1
   obtain⟨r',g1,g2⟩:=sF ht hn hk l es (i+1) r h3 h
   exact⟨r',by simp[Instr.findNow,this,g1],g2.succ⟩
  ·cases h
theorem gY{kt:TypeId}{kd:D}{kv:Value}(hk:D.den B w kd kv)(hc:ou P 100 kt kd=true){l:List (D×D)}{es:List MapEntry}{r:Option (Nat×D×D)}(he:aY B w l es)(h:findD P kt kd l 0=some r):
 ∃r',(Instr.findKey kt kv es).run P w= .ok r' w/\kQ B w es 0 r r':=by
 unfold ou cn at hc
 cases ht:P.underlying kt with
 |none=>simp[ht]at hc
 |some td=>
  have now:(match td with| .int _| .bool| .string=>true|_=>false)=true->∃r',(Instr.findKey kt kv es).run P w= .ok r' w/\kQ B w es 0 r r':=by
   intro hn
   obtain⟨r',g1,g2⟩:=sF ht hn hk l es 0 r he h
   exact⟨r',MapKept.run_findKey ht g1,g2⟩
  have ask:(match P.underlying kt with|some (.array _ _)|some (.struct _)=>true|_=>false)=true->∃r',(Instr.findKey kt kv es).run P w= .ok r' w/\kQ B w es 0 r r':=by
   intro hn
   obtain⟨r',g1,g2⟩:=sD hk l es 0 r he h
   exact⟨r',(run_findKey_eq w hn kv es).trans g1,g2⟩
  cases td<;>first
   |exact now rfl
   |(refine ask ?_;rw[ht];done)
   |(exfalso;simp[ht]at hc)
theorem aY.get:∀ {l:List (D×D)} {es:List MapEntry} {i:Nat} {e:MapEntry},aY B w l es->es[i]? =some e->∃p,l[i]? =some p/\D.den B w p.1 e.key/\D.den B w p.2 e.val
 |[],es,i,e,h,hi=>by simp only[aY]at h;subst h;simp at hi
 |(k,x)::l,es,i,e,h,hi=>by
  obtain⟨e',es,rfl,h1,h2,h3⟩:=h
  cases i with
  |zero=>simp at hi;subst hi;exact⟨(k,x),aj,h1,h2⟩
  |succ i=>simpa using aY.get h3 GS
theorem aY.push:∀ {l:List (D×D)} {es:List MapEntry} {k x:D} {e:MapEntry},aY B w l es->D.den B w k e.key->D.den B w x e.val->aY B w (l++[(k,x)]) (es++[e])
 |[],es,k,x,e,h,h1,h2=>by simp only[aY]at h;subst h;exact⟨e,[],rfl,h1,h2,rfl⟩
 |(k',x')::l,es,k,x,e,h,h1,h2=>by
  obtain⟨e',es,rfl,g1,g2,g3⟩:=h
  exact⟨e',es++[e],rfl,g1,g2,aY.push g3 h1 h2⟩
theorem aY.set:∀ {l:List (D×D)} {es:List MapEntry} {i:Nat} {k x:D} {e:MapEntry},aY B w l es->D.den B w k e.key->D.den B w x e.val->aY B w (l.set i (k,x)) (es.set i e)
 |[],es,i,k,x,e,h,h1,h2=>by simp only[aY]at h;subst h;rfl
 |(k',x')::l,es,i,k,x,e,h,h1,h2=>by
  obtain⟨e',es,rfl,g1,g2,g3⟩:=h
  cases i with
  |zero=>exact⟨e,es,rfl,h1,h2,g3⟩
  |succ i=>exact⟨e',es.set i e,rfl,g1,g2,aY.set g3 h1 h2⟩
theorem Bp(hH:aD M φ H w)(dc: ¬H.us fr){t:TypeId}(h:dp (mX P fr t) K):cX M φ H w fr ((do let v <- Instr.makeMap t none;pure (Next.value v):Sem Next).run P w) K:=by
 have hg:=dI h
 clear h
 obtain⟨v,Δ,rd,h,hK⟩:=hg
 unfold mX at h
 split at h
 ·rename_i kt vt ht
  injection h with h;injection h with e1 e2;injection e2 with e2 e3;subst e1;subst e2;subst e3
  have hv:∀b,eQ (.map (some w.heap.size))=some b->w.heap.size<=b/\b<(w.alloc (.map #[] 0)).heap.size:=by
   intro b hb;simp[eQ]at hb;subst hb;simp
  have Bq:=eS (φ:=φ) (H:=H) (cU w (.map #[] 0)) dc (.map kt vt []) (.map (some w.heap.size)) fun b hb=>(hv b hb).1
  refine⟨_, .map (some w.heap.size),w.alloc (.map #[] 0),aM φ fr (.map (some w.heap.size)),_,_,_,hK,by simp[Instr.makeMap], .inl rfl,jt hH (cU w _) dc _ _ hv ?_,Bq,⟨rfl,aj,fun _=>aj⟩,fun j hj=> .inr la⟩
  unfold bc
  simp only[bQ,aS,if_true]
  exact⟨w.heap.size,#[],0,rfl,heap_alloc_new w _,⟨fun e he=>by simp at he,aj⟩,rfl⟩
 ·cases h
theorem uA{o:Nat->ab}{m:V}{r:Option (Nat×TypeId×TypeId)}{l:List (D×D)}(h:oF o m=some (r,l)):(∃id kt vt,m= .mp id/\o id= .map kt vt l/\r=some (id,kt,vt))\/(m= .d .jq/\r=none/\l=[]):=by
 unfold oF at h
 split at h
 ·split at h
  ·rename_i ho
   simp only[Option.some.injEq,Prod.mk.injEq]at h;obtain⟨rfl,rfl⟩:=h;exact .inl ⟨_,_,_,rfl,ho,rfl⟩
  ·cases h
 ·simp only[Option.some.injEq,Prod.mk.injEq]at h;obtain⟨rfl,rfl⟩:=h;exact .inr ⟨rfl,rfl,rfl⟩
 ·cases h
theorem JJ{ks vs:List D}{es:List MapEntry}(h1:D.aN B w ks (es.map (·.key)))(h2:D.aN B w vs (es.map (·.val))):aY B w (ks.zip vs) es:=by
 have e1:=D.aH _ _ h1
 have e2:=D.aH _ _ h2
 simp only[List.length_map]at e1 e2
 refine(lC _ _).2 ?_
 rw[List.map_fst_zip (by omega),List.map_snd_zip (by omega)]
 exact⟨h1,h2⟩
def uB(l l':List (D×D)):Prop:=l'=l\/(l'.Perm l/\y9 (l.map (·.1)))
theorem uB.perm {l l':List (D×D)}(h:uB l l'):l'.Perm l:=by
 rcases h with rfl|h
 ·exact List.Perm.refl _
 ·exact h.1
theorem Hc{p q:List MapEntry}(hpq:p.Perm q):∀ {l:List (D×D)},aY B w l p->∃l',l'.Perm l/\aY B w l' q:=by
 induction hpq with
 |nil=>intro l h;exact⟨l,List.Perm.refl _,h⟩
 |cons x _ ih=>
  intro l h
  cases l with
  |nil=>cases h
  |cons y l=>
   obtain⟨k,v⟩:=y
   obtain⟨e,es,h0,h1,h2,h3⟩:=h
   injection h0 with h0 Dp;subst h0;subst Dp
   obtain⟨l',g1,g2⟩:=ih h3
   exact⟨(k,v)::l',g1.cons _,_,_,rfl,h1,h2,g2⟩
 |swap x y t=>
  intro l h
  match l,h with
  |[],h=>cases h
  |[(_,_)],h=>obtain⟨e,es,h0,_,_,h3⟩:=h;injection h0 with _ h0;have h3:es=[]:=h3;rw[h3]at h0;cases h0
  |(k,v)::(k',v')::l,h=>
   obtain⟨e,es,h0,h1,h2,e',es',Dp,cB,kn,h3⟩:=h
   subst Dp
   injection h0 with a b;subst a;injection b with b c;subst b;subst c
   exact⟨(k',v')::(k,v)::l,List.Perm.swap _ _ _,_,_,rfl,cB,kn,_,_,rfl,h1,h2,h3⟩
 |trans _ _ ih1 ih2=>
  intro l h
  obtain⟨l1,g1,g2⟩:=ih1 h
  obtain⟨l2,g3,g4⟩:=ih2 g2
  exact⟨l2,g3.trans g1,g4⟩
theorem rE{l:List (D×D)}{p:List MapEntry}{es:Array MapEntry}(hp:p=es.toList\/(p.Perm es.toList/\y9 (l.map (·.1))))(h:aY B w l p):∃l',uB l l'/\aY B w l' es.toList:=by
 rcases hp with rfl|⟨h1,h2⟩
 ·exact⟨l, .inl rfl,h⟩
 ·obtain⟨l',g1,g2⟩:=Hc h1 h
  exact⟨l', .inr ⟨g1,h2⟩,g2⟩
theorem o8{l:List (D×D)}{v:Value}(h:D.den B w (.mp (l.map (·.1)) (l.map (·.2))) v):∃m es clock l',v= .map (some m)/\w.heap[m]? =some (.map es clock)/\ ¬B m/\jK es clock/\uB l l'/\aY B w l' es.toList:=by
 obtain⟨m,es,clock,p,h1,h2,h3,h4,hp,h5,h6⟩:=h
 obtain⟨l',g1,g2⟩:=rE hp ((lC _ _).2 ⟨h5,h6⟩)
 exact⟨m,es,clock,l',h1,h2,h3,h4,g1,g2⟩
theorem Br{ks vs:List D}{p:List MapEntry}(h1:D.aN B w ks (p.map (·.key)))(h2:D.aN B w vs (p.map (·.val))):(ks.zip vs).map (·.1)=ks:=by
 have e1:=D.aH _ _ h1
 have e2:=D.aH _ _ h2
 simp only[List.length_map]at e1 e2
 exact List.map_fst_zip ad
theorem NH{P:Program}{kt:TypeId}{kd:D}{n:Int}{b:Bool}(h:rb P 100 kt kd (.int .i64 n)=some b):cn P kt=some .int/\∃m,kd= .int .i64 m/\b=(m==n):=by
 unfold rb at h
 cases hs:cn P kt with
 |none=>simp[hs]at h
 |some sh=>
  cases sh<;>simp only[hs]at h
  case int=>
   cases kd<;>simp only at h
   all_goals first
    |(cases h;done)
    |(split at h
      ·rename_i e;subst e;injection h with h;exact⟨rfl,_,rfl,h.symm⟩
      ·cases h)
  all_goals first
   |(cases kd<;>simp at h;done)
   |(simp at h;done)
theorem o9{P:Program}{kt:TypeId}{m:Int}(hs:cn P kt=some .int):∀ (l:List (D×D)) (i:Nat),(∀k∈l.map (·.1),∃n,k= .int .i64 n)->∃r,findD P kt (.int .i64 m) l i=some r/\(match r with|some (_,_,x)=>(D.int .i64 m,x)∈l|none=>∀x,(D.int .i64 m,x)∉l)
 |[],i,_=>⟨none,rfl,aj⟩
 |(k,x)::l,i,h=>by
  obtain⟨n,rfl⟩:=h k aj
  have he:rb P 100 kt (.int .i64 m) (.int .i64 n)=some (m==n):=by simp[rb,hs]
  simp only[findD,he]
  by_cases e:m=n
  ·subst e
   exact⟨some (i, .int .i64 m,x),aj,aj⟩
  ·have e2:(m==n)=false:=by simpa using e
   obtain⟨r,h1,h2⟩:=o9 hs l (i+1) (fun k hk=>h k (by simp at hk|-;exact .inr hk))
   refine⟨r,by simp only[e2];exact h1, ?_⟩
   cases r with
   |none=>intro y hy;rcases List.mem_cons.1 hy with hy|hy
          ·injection hy with hy _;injection hy with _ hy;exact e hy
          ·exact h2 y hy
   |some p=>exact List.mem_cons_of_mem _ h2
theorem Hd{L:List (D×D)}(hn:(L.map (·.1)).Nodup){k x x':D}(f2:(k,x)∈L)(f4:(k,x')∈L):x'=x:=by
 induction L with
 |nil=>cases f2
 |cons y L ih=>
  rw[List.map_cons,List.nodup_cons]at hn
  rcases List.mem_cons.1 f2 with e1|e1<;>rcases List.mem_cons.1 f4 with e2|e2
  ·rw[<- e1]at e2;injection e2
  ·exact absurd (by rw[<- e1];exact List.mem_map.2 ⟨_,e2,rfl⟩) hn.1
  ·exact absurd (by rw[<- e2];exact List.mem_map.2 ⟨_,e1,rfl⟩) hn.1
  ·exact ih hn.2 e1 e2
theorem xA{P:Program}{kt:TypeId}{kd:D}{l l':List (D×D)}{r:Option (Nat×D×D)}(hl:uB l l')(h:findD P kt kd l 0=some r):∃r',findD P kt kd l' 0=some r'/\(match r,r' with|some (_,_,x),some (_,_,x')=>x'=x|none,none=>True|_,_=>False):=by
 rcases hl with rfl|⟨hp,hk⟩
 ·refine⟨r,h, ?_⟩
  cases r<;>trivial
 ·cases l with
  |nil=>
   have:l'=[]:=hp.eq_nil
   subst this
   refine⟨r,h, ?_⟩
   cases r<;>trivial
  |cons p l=>
   obtain⟨k0,x0⟩:=p
   obtain⟨n0,rfl⟩:=hk.2 k0 aj
   have hb:∃b,rb P 100 kt kd (.int .i64 n0)=some b:=by
    simp only[findD]at h
    cases he:rb P 100 kt kd (.int .i64 n0)with
    |none=>rw[he]at h;cases h
    |some b=>exact⟨b,rfl⟩
   obtain⟨b,hb⟩:=hb
   obtain⟨hs,m,rfl,_⟩:=NH hb
   obtain⟨r1,f1,f2⟩:=o9 (m:=m) hs ((.int .i64 n0,x0)::l) 0 hk.2
   rw[h]at f1;injection f1 with f1;subst f1
   obtain⟨r',f3,f4⟩:=o9 (m:=m) hs l' 0 (fun k hkk=>hk.2 k ((hp.map _).mem_iff.1 hkk))
   refine⟨r',f3, ?_⟩
   cases r with
   |none=>
    cases r' with
    |none=>trivial
    |some q=>obtain⟨_,_,x'⟩:=q;exact f2 x' (hp.mem_iff.1 f4)
   |some q=>
    obtain⟨_,_,x⟩:=q
    cases r' with
    |none=>exact f4 x (hp.mem_iff.2 f2)
    |some q'=>
     obtain⟨_,_,x'⟩:=q'
     exact Hd hk.1 f2 (hp.mem_iff.1 f4)
theorem xB{ks vs:List D}{p:List MapEntry}(h1:D.aN B w ks (p.map (·.key)))(h2:D.aN B w vs (p.map (·.val))):aY B w (ks.zip vs) p:=JJ h1 h2
theorem DO(hH:aD M φ H w){m:V}{mv:Value}{rd:List Nat}{l:List (D×D)}(hm:V.den (ay M φ H) φ H w m mv)(h:pW H.o m=some (rd,l)):
 (mv= .map none/\l=[])\/∃b es clock l',mv= .map (some b)/\w.heap[b]? =some (.map es clock)/\jK es clock/\uB l l'/\aY (ay M φ H) w l' es.toList:=by
 unfold pW at h
 split at h
 ·rename_i id
  obtain⟨Tp,MH,wL⟩:=hm
  have bp:=hH.ok id
  split at h
  ·rename_i ho
   simp only[Option.some.injEq,Prod.mk.injEq]at h;obtain⟨rfl,rfl⟩:=h
   simp only[bc,ho]at bp
   obtain⟨b,es,clock,g1,g2,g0,g3⟩:=bp
   exact .inr ⟨b,es,clock,_,(wL e8).trans g1,g2,g0, .inl rfl,g3⟩
  ·rename_i ho
   simp only[Option.some.injEq,Prod.mk.injEq]at h;obtain⟨rfl,rfl⟩:=h
   simp only[bc,ho]at bp
   obtain⟨b,es,clock,l',g1,g2,_,g0,g3⟩:=o8 bp
   exact .inr ⟨b,es,clock,l',(wL e8).trans g1,g2,g0,g3⟩
  ·cases h
 ·simp only[Option.some.injEq,Prod.mk.injEq]at h;obtain⟨rfl,rfl⟩:=h
  simp only[V.den,D.den]at hm
  exact .inl ⟨hm,rfl⟩
 ·simp only[Option.some.injEq,Prod.mk.injEq]at h;obtain⟨rfl,rfl⟩:=h
  obtain⟨b,es,clock,p,g1,g2,_,g0,gp,g3,g4⟩:=hm
  obtain⟨l',g5,g6⟩:=rE (by rw[Br g3 g4];exact gp) (xB g3 g4)
  exact .inr ⟨b,es,clock,l',g1,g2,g0,g5,g6⟩
 ·cases h
theorem DP(hH:aD M φ H w){t:TypeId}{m k:V}{mv kv:Value}{ok:Bool}(hm:V.den (ay M φ H) φ H w m mv)(hk:V.den (ay M φ H) φ H w k kv)(h:dp (jl P H.o t m k ok) K):
 cX M φ H w fr ((do let v <- Instr.lookup t mv kv ok;pure (Next.value v):Sem Next).run P w) K:=by
 have hg:=dI h
 clear h
 obtain⟨v,Δ,rd,h,hK⟩:=hg
 unfold jl at h
 split at h
 ·rename_i kt vt kd rd0 l ht Yh NC
  split at h
  ·rename_i hc
   have kR:D.den (ay M φ H) w kd kv:=gA hH k kd kv (fun id aC=>by rw[hc.1]at aC;cases aC) Yh hk
   have MI:∀em,(Instr.checkKey em 10000 kt kv).run P w= .ok () w:=fun em=>qb em 100 kt kd hc.2 10000 aZ kv kR
   have I0:=rD ht
   have abT:∃ (es:Array MapEntry) (l':List (D×D)),uB l l'/\aY (ay M φ H) w l' es.toList/\∀ (r':Option (Nat×Value)) (val:Value),(Instr.findKey kt kv es.toList).run P w= .ok r' w->(match r' with|some (_,u)=>val=(if ok=true then .tuple #[u, .bool true]else u)|none=>∃z,(zeroValue vt).run P w= .ok z w/\val=(if ok=true then .tuple #[z, .bool false]else z))->(Instr.lookup t mv kv ok).run P w= .ok val w:=by
    rcases DO hH hm NC with⟨rfl,rfl⟩|⟨b,es,clock,l',rfl,g2,_,gl,g3⟩
    case inr=>
     have qc:=MapKept.run_getObj_map (P:=P) g2
     refine⟨es,l',gl,g3,fun r' val q1 q2=> ?_⟩
     cases r' with
     |some p=>obtain⟨j,u⟩:=p;simp only at q2;subst q2;cases ok<;>simp[Instr.lookup,run_underlying I0,qc,MI,q1]
     |none=>obtain⟨z,z1,rfl⟩:=q2;cases ok<;>simp[Instr.lookup,run_underlying I0,qc,MI,q1,z1]
    case inl=>
     refine⟨#[],[], .inl rfl,rfl,fun r' val q1 q2=> ?_⟩
     cases r' with
     |some p=>obtain⟨j,u⟩:=p;simp only at q2;subst q2;cases ok<;>simp[Instr.lookup,run_underlying I0,MI,q1]
     |none=>obtain⟨z,z1,rfl⟩:=q2;cases ok<;>simp[Instr.lookup,run_underlying I0,MI,q1,z1]
   obtain⟨es,l',gl,g3,run⟩:=abT
   split at h
   ·rename_i j kk x hf
    injection h with h;injection h with e1 e2;injection e2 with e2 e3;subst e1;subst e2;subst e3
    obtain⟨r2,hf2,zh⟩:=xA gl hf
    obtain⟨r',q1,q2⟩:=gY kR hc.2 g3 hf2
    cases r2 with
    |none=>exact zh.elim
    |some p2=>
    obtain⟨_,_,x2⟩:=p2
    have hx2:x2=x:=zh
    obtain rfl:=hx2
    cases r' with
    |none=>exact q2.elim
    |some p=>
     obtain⟨j',u⟩:=p
     obtain⟨_,_,hxu,_⟩:=q2
     refine cX.plain (v:=(if ok=true then .cp [.d x2, .d (.bool true)]else .d x2)) hH (if ok=true then .tuple #[u, .bool true]else u) hK (run _ _ q1 rfl) ?_
     cases ok
     ·exact hxu
     ·exact⟨#[u, .bool true],rfl,u,[.bool true],rfl,hxu, .bool true,[],rfl,rfl,rfl⟩
   ·rename_i hf
    split at h
    ·rename_i z hz
     injection h with h;injection h with e1 e2;injection e2 with e2 e3;subst e1;subst e2;subst e3
     obtain⟨r2,hf2,zh⟩:=xA gl hf
     obtain⟨r',q1,q2⟩:=gY kR hc.2 g3 hf2
     cases r2 with
     |some p2=>exact zh.elim
     |none=>
     cases r' with
     |some p=>exact q2.elim
     |none=>
      obtain⟨val,z1,z2⟩:=rC (M:=M) (φ:=φ) (H:=H) (w:=w) hz
      refine cX.plain hH (if ok=true then .tuple #[val, .bool false]else val) hK (run _ _ q1 ⟨val,z1,rfl⟩) ?_
      cases ok
      ·exact z2
      ·exact⟨#[val, .bool false],rfl,val,[.bool false],rfl,z2, .bool false,[],rfl,rfl,rfl⟩
    ·cases h
   ·cases h
  ·cases h
 ·cases h
theorem ju{es:Array MapEntry}{i:Nat}{e:MapEntry}(f:MapEntry->MapEntry)(h:es.toList[i]? =some e):(es.modify i f).toList=es.toList.set i (f e):=by
 apply List.ext_getElem?
 intro j
 simp only[Array.getElem?_toList,Array.getElem?_modify]
 rw[List.getElem?_set]
 have h':es[i]? =some e:=by simpa using h
 by_cases hj:i=j
 ·subst hj
  have cJ:i<es.toList.length:=by
   rw[List.getElem?_eq_some_iff]at h;exact h.1
  simp only[if_true,h',Option.map_some,cJ]
 ·simp[hj]
theorem DS{es:Array MapEntry}{clock:Nat}(h:jK es clock){e:MapEntry}(he:e.born=clock):jK (es.push e) (clock+1):=by
 obtain⟨h1,h2⟩:=h
 refine⟨fun x hx=> ?_, ?_⟩
 ·rw[Array.toList_push]at hx
  rcases List.mem_append.1 hx with hx|hx
  ·have:=h1 x hx;omega
  ·simp at hx;subst hx;omega
 ·rw[Array.toList_push,List.map_append,List.nodup_append]
  refine⟨h2,aj,fun a ha b hb=> ?_⟩
  obtain⟨x,hx,rfl⟩:=List.mem_map.1 ha
  simp only[List.map_cons,List.map_nil,List.mem_singleton]at hb
  have:=h1 x hx
  omega
theorem zi{es:Array MapEntry}{clock i:Nat}(h:jK es clock){e:MapEntry}(hi:es.toList[i]? =some e){f:MapEntry->MapEntry}(hf:(f e).born=e.born):jK (es.modify i f) clock:=by
 obtain⟨h1,h2⟩:=h
 unfold jK
 rw[ju f hi]
 have e1:(es.toList.set i (f e)).map (·.born)=es.toList.map (·.born):=by
  rw[List.map_set,hf]
  apply List.ext_getElem?
  intro j
  rw[List.getElem?_set]
  by_cases hj:i=j
  ·subst hj
   have cJ:=(List.getElem?_eq_some_iff.1 hi).1
   rw[if_pos rfl,if_pos (by simpa using cJ),List.getElem?_map,hi];rfl
  ·rw[if_neg hj]
 refine⟨fun x hx=> ?_,by rw[e1];exact h2⟩
 obtain⟨j,hj⟩:=List.mem_iff_getElem?.1 (List.mem_map.2 ⟨x,hx,rfl⟩:x.born∈(es.toList.set i (f e)).map (·.born))
 rw[e1]at hj
 obtain⟨y,hy,e2⟩:=List.mem_map.1 (List.mem_of_getElem? hj)
 have:=h1 y hy
 omega
theorem Bs{es:Array MapEntry}{clock i:Nat}(h:jK es clock):jK (es.eraseIdxIfInBounds i) clock:=by
 obtain⟨h1,h2⟩:=h
 have e:(es.eraseIdxIfInBounds i).toList=es.toList.eraseIdx i:=aj
 unfold jK
 rw[e]
 exact⟨fun x hx=>h1 x (List.mem_of_mem_eraseIdx hx),h2.sublist (List.Sublist.map _ (List.eraseIdx_sublist ..))⟩
theorem aY.erase:∀ {l:List (D×D)} {es:List MapEntry} {i:Nat},aY B w l es->aY B w (l.eraseIdx i) (es.eraseIdx i)
 |[],es,i,h=>by simp only[aY]at h;subst h;simp[aY]
 |(k',x')::l,es,i,h=>by
  obtain⟨e',es,rfl,g1,g2,g3⟩:=h
  cases i with
  |zero=>exact g3
  |succ i=>exact⟨e',es.eraseIdx i,rfl,g1,g2,aY.erase g3⟩
theorem JK(hH:aD M φ H w){id b clock clock':Nat}{kt vt:TypeId}{l l':List (D×D)}{es es':Array MapEntry}(fL:H.us id)(ho:H.o id= .map kt vt l)(fb:φ id= .map (some b))(g2:w.heap[b]? =some (.map es clock))(h0:jK es' clock')(hl:aY (ay M φ H) w l' es'.toList):
 aD M φ (H.put [(id, .map kt vt l')]) {w with heap:=w.heap.setIfInBounds b (.map es' clock')}/\Trans φ H w φ (H.put [(id, .map kt vt l')]) {w with heap:=w.heap.setIfInBounds b (.map es' clock')}:=by
 have JL:eK (· =b) w {w with heap:=w.heap.setIfInBounds b (.map es' clock')}:=
  ⟨rfl,rfl,rfl,aj,fun j _ hj=>(MapKept.heap_set g2).2 j hj⟩
 have xq:(H.o id).live=true:=by rw[ho];rfl
 have Dq:eQ (φ id)=some b:=by rw[fb];rfl
 have Dn:=fk (w:=w) (w':={w with heap:=w.heap.setIfInBounds b (.map es' clock')}) fL xq Dq JL (.map kt vt l') e8 e8
 refine⟨iR hH fL xq Dq JL _ e8 e8 ?_,Dn⟩
 unfold bc
 simp only[bQ,aS,if_true]
 exact⟨b,es',clock',fb,(MapKept.heap_set g2).1,h0,aY.mono (Dn.blocks (M:=M)) l' _ hl⟩
theorem DT(hH:aD M φ H w){t:TypeId}{ts:Array TypeId}{m k:V}{mv kv:Value}(tj:ts.toList.head?=some t)(hm:V.den (ay M φ H) φ H w m mv)(hk:V.den (ay M φ H) φ H w k kv){ty0:TypeId}
 (h:dp (nW P H.o t m k) K):cX M φ H w fr ((do let v <- Builtin.delete_ ts ty0 #[mv,kv];pure (Next.value v):Sem Next).run P w) K:=by
 have hg:=dI h
 clear h
 obtain⟨v',Δ,rd,h,hK⟩:=hg
 have ht0:ts[0]? =some t:=by rw[<- Array.getElem?_toList, <- List.head?_eq_getElem?];exact tj
 unfold nW at h
 split at h
 ·rename_i kt vt kd id E7 E8 l ht Yh NC
  rcases uA NC with⟨id2,kt2,vt2,rfl,ho,hr⟩|⟨rfl,hr,rfl⟩
  case inr=>cases hr
  injection hr with hr;injection hr with e1 e2;injection e2 with e2 e3;subst e1;subst e2;subst e3
  split at h
  ·rename_i hc
   obtain⟨c1,c2⟩:=hc
   have kR:D.den (ay M φ H) w kd kv:=gA hH k kd kv (fun id aC=>by rw[c1]at aC;cases aC) Yh hk
   have MI:∀em,(Instr.checkKey em 10000 kt kv).run P w= .ok () w:=fun em=>qb em 100 kt kd c2 10000 aZ kv kR
   have I0:=rD ht
   obtain⟨Tp,fL,wL⟩:=hm
   have fb:=wL e8
   have bp:=hH.ok id
   simp only[bc,ho]at bp
   obtain⟨b,es,clock,g1,g2,g0,g3⟩:=bp
   rw[<- fb]at g1;subst g1
   have qc:=MapKept.run_getObj_map (P:=P) g2
   split at h
   ·rename_i i k' x hf
    injection h with h;injection h with e1 e2;injection e2 with e2 e3;subst e1;subst e2;subst e3
    obtain⟨r',q1,q2⟩:=gY kR c2 g3 hf
    cases r' with
    |none=>exact q2.elim
    |some p=>
     obtain⟨j',u⟩:=p
     obtain⟨rfl,_,hxu,e,h4,h5,h6⟩:=q2
     have e:(es.eraseIdxIfInBounds i).toList=es.toList.eraseIdx i:=aj
     obtain⟨t1,t2⟩:=JK (clock':=clock) (es':=es.eraseIdxIfInBounds i) (l':=l.eraseIdx i) hH fL ho fb.symm g2 (Bs g0) (by rw[e];exact g3.erase)
     refine⟨.value (.tuple #[]), .tuple #[],_,φ,_,_,_,hK, ?_, .inl rfl,t1,t2,⟨#[],rfl,rfl⟩,fun j hj=> .inl S5⟩
     simp only[Builtin.delete_,ht0,Sem.run_bind,run_underlying I0,Result.andThen_ok,qc,MI,q1,List.getElem?_toArray,List.getElem?_cons_zero,List.getElem?_cons_succ,MapKept.run_setObj_map _ g2,Sem.run_pure]
   ·rename_i hf
    injection h with h;injection h with e1 e2;injection e2 with e2 e3;subst e1;subst e2;subst e3
    obtain⟨r',q1,q2⟩:=gY kR c2 g3 hf
    cases r' with
    |some p=>exact q2.elim
    |none=>
     have hw:{w with heap:=w.heap.setIfInBounds b (.map es clock)}=w:=by
      have cJ:b<w.heap.size:=by
       rcases Nat.lt_or_ge b w.heap.size with h|h
       ·exact h
       ·simp[Array.getElem?_eq_none h]at g2
      have:w.heap.setIfInBounds b (.map es clock)=w.heap:=by
       apply Array.ext_getElem?
       intro j
       rw[Array.getElem?_setIfInBounds]
       by_cases hj:b=j
       ·subst hj;rw[if_pos rfl,if_pos cJ,g2]
       ·rw[if_neg hj]
      rw[this]
     refine⟨.value (.tuple #[]), .tuple #[],w,φ,_,_,_,hK, ?_, .inl rfl,by rw[nY];exact hH,by rw[nY];exact Trans.refl _ _ _,⟨#[],rfl,rfl⟩,aj⟩
     simp only[Builtin.delete_,ht0,Sem.run_bind,run_underlying I0,Result.andThen_ok,qc,MI,q1,List.getElem?_toArray,List.getElem?_cons_zero,List.getElem?_cons_succ,MapKept.run_setObj_map _ g2,Sem.run_pure,hw]
   ·cases h
  ·cases h
 ·cases h
theorem zj(H:Hp)(i j:Nat)(x y:ab):H.put [(i,x),(j,y)]=(H.put [(i,x)]).put [(j,y)]:=by rw[<- ey];rfl
theorem He(hH:aD M φ H w)(dc: ¬H.us fr){t:TypeId}{x:V}{xv:Value}(hx:V.den (ay M φ H) φ H w x xv)(h:dp (mY P H.o fr t x) K):
 cX M φ H w fr ((do let v <- Instr.range t xv;pure (Next.value v):Sem Next).run P w) K:=by
 have hg:=dI h
 clear h
 obtain⟨v,Δ,rd,h,hK⟩:=hg
 have new:∀ (jC:Place) (H1:Hp) (obj:ab) (ob:Obj),aD M jC H1 w-> ¬H1.us fr->bc M (aM jC fr (.pointer (some ⟨w.heap.size,0,none⟩))) (H1.put [(fr,obj)]) (w.alloc ob) fr->
  aD M (aM jC fr (.pointer (some ⟨w.heap.size,0,none⟩))) (H1.put [(fr,obj)]) (w.alloc ob)/\Trans jC H1 w (aM jC fr (.pointer (some ⟨w.heap.size,0,none⟩))) (H1.put [(fr,obj)]) (w.alloc ob):=by
  intro jC H1 obj ob h1 h2 h3
  have hv:∀b,eQ (.pointer (some ⟨w.heap.size,0,none⟩))=some b->w.heap.size<=b/\b<(w.alloc ob).heap.size:=by
   intro b hb;simp[eQ]at hb;subst hb;simp
  exact⟨jt h1 (cU w _) h2 _ _ hv h3,eS (cU w _) h2 _ _ fun b hb=>(hv b hb).1⟩
 have frozen:∀ (H1:Hp) (l:List (D×D)) (b:Nat) (es:Array MapEntry) (clock:Nat),aD M φ H1 w-> ¬H1.us fr->w.heap[b]? =some (.map es clock)-> ¬ay M φ H1 b->jK es clock->(∃l',l'.Perm l/\aY (ay M φ H1) w l' es.toList)->
  bc M (aM φ fr (.pointer (some ⟨w.heap.size,0,none⟩))) (H1.put [(fr, .mW l none)]) (w.alloc (.mapIter (some b) clock #[] clock)) fr:=by
  intro H1 l b es clock h1 h2 h3 h4 h5 h6
  have ht:=eS (φ:=φ) (H:=H1) (w:=w) (w':=w.alloc (.mapIter (some b) clock #[] clock)) (cU w _) h2 (.mW l none) (.pointer (some ⟨w.heap.size,0,none⟩)) (fun b hb=>by simp[eQ]at hb;omega)
  obtain⟨k1,k2⟩:=ht.blocks (M:=M) b (.inr ⟨es,clock,h3⟩) h4
  unfold bc
  simp only[bQ,aS,if_true]
  refine⟨w.heap.size,rfl, .inr ⟨b,clock,#[],es,heap_alloc_new w _,k1.trans h3,k2,h5, ?_,fun k x e=>by cases e⟩⟩
  have e:(es.toList.filter fun e=> !(#[]:Array Nat).contains e.born)=es.toList:=List.filter_eq_self.2 (fun a _=>aj)
  rw[e]
  obtain⟨l',h6,h7⟩:=h6
  exact⟨l',h6,aY.mono (ht.blocks (M:=M)) l' _ h7⟩
 unfold mY at h
 split at h
 ·rename_i ht
  split at h
  ·rename_i s
   injection h with h;injection h with e1 e2;injection e2 with e2 e3;subst e1;subst e2;subst e3
   obtain⟨st,rfl,hs⟩:=hx
   have l9:st=⟨⟨s⟩⟩:=by obtain⟨⟨a⟩⟩:=st;simp at hs;subst hs;rfl
   subst l9
   obtain⟨n1,n2⟩:=new φ H (.za s 0) (.stringIter ⟨⟨s⟩⟩ 0) hH dc (by
    unfold bc
    simp only[bQ,aS,if_true]
    exact⟨w.heap.size,rfl,heap_alloc_new w _⟩)
   exact⟨_,_,_,_,_,_,_,hK,by simp[Instr.range,run_underlying ht], .inl rfl,n1,n2,⟨rfl,aj,fun _=>⟨w.heap.size,aj,rfl⟩⟩,fun j hj=> .inr la⟩
  ·cases h
 ·rename_i ht
  split at h
  ·injection h with h;injection h with e1 e2;injection e2 with e2 e3;subst e1;subst e2;subst e3
   simp only[V.den,D.den]at hx;subst hx
   obtain⟨n1,n2⟩:=new φ H (.mW [] none) (.mapIter none 0 #[] 0) hH dc (by
    unfold bc
    simp only[bQ,aS,if_true]
    exact⟨w.heap.size,rfl, .inl ⟨heap_alloc_new w _,rfl,rfl⟩⟩)
   exact⟨_,_,_,_,_,_,_,hK,by simp[Instr.range,run_underlying ht], .inl rfl,n1,n2,⟨rfl,aj,fun _=>⟨w.heap.size,aj,rfl⟩⟩,fun j hj=> .inr la⟩
  ·rename_i ks vs
   injection h with h;injection h with e1 e2;injection e2 with e2 e3;subst e1;subst e2;subst e3
   obtain⟨b,es,clock,p,rfl,g2,g4,g0,gp,g3,g5⟩:=hx
   have qc:=MapKept.run_getObj_map (P:=P) g2
   obtain⟨l',g6,g7⟩:=rE (by rw[Br g3 g5];exact gp) (xB g3 g5)
   obtain⟨n1,n2⟩:=new φ H _ _ hH dc (frozen H (ks.zip vs) b es clock hH dc g2 g4 g0 ⟨l',g6.perm,g7⟩)
   exact⟨_,_,_,_,_,_,_,hK,by simp[Instr.range,run_underlying ht,qc], .inl rfl,n1,n2,⟨rfl,aj,fun _=>⟨w.heap.size,aj,rfl⟩⟩,fun j hj=> .inr la⟩
  ·rename_i id
   obtain⟨Tp,fL,wL⟩:=hx
   have bp:=hH.ok id
   split at h
   ·rename_i kt vt l ho
    injection h with h;injection h with e1 e2;injection e2 with e2 e3;subst e1;subst e2;subst e3
    obtain⟨f1,f2⟩:=Fa hH fL ho
    have wy:(H.put [(id, .iP l)]).o id= .iP l:=aj
    have Yi:=f1.ok id
    simp only[bc,wy]at Yi
    obtain⟨b,es,clock,l',g1,g2,g4,g0,gl,g3⟩:=o8 Yi
    have fb:=wL e8
    rw[<- fb]at g1;subst g1
    have qc:=MapKept.run_getObj_map (P:=P) g2
    have Yj: ¬ (H.put [(id, .iP l)]).us fr:=by
     rw[ez]
     rintro(h|h)
     ·exact dc h
     ·exact dc (h ▸ fL)
    obtain⟨n1,n2⟩:=new φ _ _ _ f1 Yj (frozen _ l b es clock f1 Yj g2 g4 g0 ⟨l',gl.perm,g3⟩)
    refine⟨.value (.pointer (some ⟨w.heap.size,0,none⟩)), .pointer (some ⟨w.heap.size,0,none⟩),w.alloc (.mapIter (some b) clock #[] clock),_,_,_,_,hK,by simp[Instr.range,run_underlying ht,qc], .inl rfl,by rw[zj];exact n1,by rw[zj];exact f2.trans n2, ?_,fun j hj=> ?_⟩
    ·rw[zj]
     exact⟨rfl,aj,fun _=>⟨w.heap.size,aj,rfl⟩⟩
    ·simp at hj
     rcases hj with rfl|rfl
     ·exact .inl fL
     ·exact .inr rfl
   ·rename_i l ho
    injection h with h;injection h with e1 e2;injection e2 with e2 e3;subst e1;subst e2;subst e3
    simp only[bc,ho]at bp
    obtain⟨b,es,clock,l',g1,g2,g4,g0,gl,g3⟩:=o8 bp
    have fb:=wL e8
    rw[<- fb]at g1;subst g1
    have qc:=MapKept.run_getObj_map (P:=P) g2
    obtain⟨n1,n2⟩:=new φ H _ _ hH dc (frozen H l b es clock hH dc g2 g4 g0 ⟨l',gl.perm,g3⟩)
    exact⟨_,_,_,_,_,_,_,hK,by simp[Instr.range,run_underlying ht,qc], .inl rfl,n1,n2,⟨rfl,aj,fun _=>⟨w.heap.size,aj,rfl⟩⟩,fun j hj=> .inr la⟩
   ·cases h
  ·cases h
 ·cases h
theorem Fg(hH:aD M φ H w){id b:Nat}{obj obj':ab}{x y:Obj}(fL:H.us id)(ho:H.o id=obj)(hl:obj.live=true)(hr:obj.cC=true)(he:obj.cy=none)(zl:obj'.cC=true)(oD:obj'.cy=none)(fb:φ id= .pointer (some ⟨b,0,none⟩))(g2:w.heap[b]? =some x){w1:World}(hw1:w1.os=w.os/\w1.tape=w.tape/\w1.output=w.output/\w1.heap=w.heap)
 (uu:Trans φ H w φ (H.put [(id,obj')]) {w1 with heap:=w.heap.setIfInBounds b y}->bc M φ (H.put [(id,obj')]) {w1 with heap:=w.heap.setIfInBounds b y} id):
 aD M φ (H.put [(id,obj')]) {w1 with heap:=w.heap.setIfInBounds b y}/\Trans φ H w φ (H.put [(id,obj')]) {w1 with heap:=w.heap.setIfInBounds b y}:=by
 have JL:eK (· =b) w {w1 with heap:=w.heap.setIfInBounds b y}:=
  ⟨hw1.1,hw1.2.1,hw1.2.2.1,aj,fun j _ hj=>by
   show(w.heap.setIfInBounds b y)[j]? =_
   rw[Array.getElem?_setIfInBounds,if_neg (fun e=>hj e.symm)]⟩
 have xq:(H.o id).live=true:=by rw[ho];exact hl
 have Dq:eQ (φ id)=some b:=by rw[fb];rfl
 have Dn:=fk (w:=w) fL xq Dq JL obj' (by rw[ho,hr,zl]) (by rw[ho,he,oD])
 exact⟨iR hH fL xq Dq JL _ (by rw[ho,hr,zl]) (by rw[ho,he,oD]) (uu Dn),Dn⟩
theorem Bt(hH:aD M φ H w){x:V}{xv:Value}{str:Bool}{ty:TypeId}(hx:V.den (ay M φ H) φ H w x xv)(h:dp (oG H.o x str) K):
 cX M φ H w fr ((do let v <- Instr.next xv str ty;pure (Next.value v):Sem Next).run P w) K:=by
 have hg:=dI h
 clear h
 obtain⟨v,Δ,rd,h,hK⟩:=hg
 unfold oG at h
 split at h
 ·rename_i id
  obtain⟨_,fL,wL⟩:=hx
  split at h
  ·rename_i s pos ho
   split at h
   ·rename_i abU
    subst abU
    obtain⟨b0,q1,rfl⟩:=wL e8
    have bp:=hH.ok id
    simp only[bc,ho]at bp
    obtain⟨b,g1,g2⟩:=bp
    rw[q1]at g1;injection g1 with g1;injection g1 with g1;injection g1 with g1;subst g1
    have eh:(ByteArray.mk ⟨s⟩).size=s.length:=rfl
    split at h
    ·rename_i cJ
     injection h with h;injection h with e1 e2;injection e2 with e2 e3;subst e1;subst e2;subst e3
     obtain⟨n1,n2⟩:=Fg (w1:=w) (y:= .stringIter ⟨⟨s⟩⟩ (pos+(Utf8.decode ⟨⟨s⟩⟩ pos).2)) (obj':= .za s (pos+(Utf8.decode ⟨⟨s⟩⟩ pos).2)) hH fL ho rfl rfl rfl rfl rfl q1 g2 ⟨rfl,rfl,rfl,rfl⟩ (fun _=>by
      unfold bc
      simp only[bQ,aS,if_true]
      refine⟨b0,q1, ?_⟩
      have cJ:b0<w.heap.size:=by
       rcases Nat.lt_or_ge b0 w.heap.size with h|h
       ·exact h
       ·simp[Array.getElem?_eq_none h]at g2
      show(w.heap.setIfInBounds b0 _)[b0]? =_
      rw[Array.getElem?_setIfInBounds,if_pos rfl,if_pos cJ])
     refine⟨.value (.tuple #[.bool true,goInt pos, .int .i32 (Utf8.decode ⟨⟨s⟩⟩ pos).1]),_,_,φ,_,_,_,hK, ?_, .inl rfl,n1,n2,⟨_,rfl, .bool true,_,rfl,rfl,_,_,rfl,rfl,_,_,rfl,rfl,rfl⟩,fun j hj=> .inl S5⟩
     simp only[Instr.next,getObj,setObj,Sem.run_bind,Sem.run,g2,Result.andThen,eh,cJ,if_true]
     rfl
    ·rename_i cJ
     injection h with h;injection h with e1 e2;injection e2 with e2 e3;subst e1;subst e2;subst e3
     refine cX.same hH (.tuple #[.bool false]) hK ?_ ⟨_,rfl, .bool false,_,rfl,rfl,rfl⟩
     simp only[Instr.next,getObj,Sem.run_bind,Sem.run,g2,Result.andThen,eh,cJ,if_false]
     rfl
   ·cases h
  ·cases h
 ·cases h
theorem Bu{es:List MapEntry}(hn:(es.map (·.born)).Nodup)(seen:Array Nat){e:MapEntry}{i:Nat}(hi:(es.filter fun e=> !seen.contains e.born)[i]? =some e):
 (es.filter fun x=> !(seen.push e.born).contains x.born)=(es.filter fun e=> !seen.contains e.born).eraseIdx i:=by
 have e1:(es.filter fun x=> !(seen.push e.born).contains x.born)=(es.filter fun e=> !seen.contains e.born).filter (fun x=>x.born !=e.born):=by
  rw[List.filter_filter]
  refine List.filter_congr fun x _=> ?_
  simp only[Array.contains_push]
  cases h1:seen.contains x.born<;>cases h2:(x.born==e.born)<;>simp_all[bne]
 rw[e1]
 have MJ:((es.filter fun e=> !seen.contains e.born).map (·.born)).Nodup:=hn.sublist (List.Sublist.map _ (List.filter_sublist ..))
 generalize (es.filter fun e=> !seen.contains e.born)=L at hi MJ|-
 induction L generalizing i with
 |nil=>simp at hi
 |cons y L ih=>
  obtain⟨n1,n2⟩:=List.nodup_cons.1 MJ
  cases i with
  |zero=>
   simp at hi;subst hi
   simp only[List.filter_cons,bne_self_eq_false,Bool.false_eq_true,if_false,List.eraseIdx_zero,List.tail_cons]
   refine List.filter_eq_self.2 fun x hx=> ?_
   simp only[bne_iff_ne,ne_eq]
   exact fun h=>n1 (by show y.born∈_;rw[<- h];exact List.mem_map.2 ⟨x,hx,rfl⟩)
  |succ i=>
   simp only[List.getElem?_cons_succ]at hi
   have hm:=List.mem_of_getElem? hi
   have iJ:(y.born !=e.born)=true:=by
    simp only[bne_iff_ne,ne_eq]
    exact fun h=>n1 (by show y.born∈_;rw[h];exact List.mem_map.2 ⟨e,hm,rfl⟩)
   rw[List.filter_cons,iJ,if_pos rfl,List.eraseIdx_cons_succ,ih hi n2]
theorem Bv(hH:aD M φ H w){x:V}{xv:Value}{ty:TypeId}(hx:V.den (ay M φ H) φ H w x xv){id:Nat}{l:List (D×D)}(h:oH H.o x=some (id,l))(hK:E9 id l K):
 cX M φ H w fr ((do let v <- Instr.next xv false ty;pure (Next.value v):Sem Next).run P w) K:=by
 unfold oH at h
 split at h
 ·rename_i Dr
  obtain⟨_,fL,wL⟩:=hx
  split at h
  ·rename_i l' last ho
   simp only[Option.some.injEq,Prod.mk.injEq]at h
   obtain⟨rfl,rfl⟩:=h
   obtain⟨b0,q1,rfl⟩:=wL e8
   have bp:=hH.ok Dr
   simp only[bc,ho]at bp
   obtain⟨b,g1,g2⟩:=bp
   rw[q1]at g1;injection g1 with g1;injection g1 with g1;injection g1 with g1;subst g1
   rcases g2 with⟨g2,rfl,_⟩|⟨m,since,seen,es,g2,g3,g4,g5,g6,_⟩
   ·refine cX.same hH (.tuple #[.bool false]) (hK.1 rfl) ?_ ⟨_,rfl, .bool false,_,rfl,rfl,rfl⟩
    simp only[Instr.next,getObj,Sem.run_bind,Sem.run,g2,Result.andThen]
    rfl
   ·have PL:=next_test_false seen es since since g5.1 (Nat.le_refl _)
    have pK:(es.filter fun e=> !seen.contains e.born).toList=es.toList.filter fun e=> !seen.contains e.born:=aj
    obtain⟨l1,gp,g6⟩:=g6
    rw[<- pK]at g6
    have rF:∀x∈(es.filter fun e=> !seen.contains e.born).toList,x.born<since:=fun x hx=>g5.1 x (by simp at hx|-;exact hx.1)
    have abV:b0<w.heap.size:=by
     rcases Nat.lt_or_ge b0 w.heap.size with h|h
     ·exact h
     ·simp[Array.getElem?_eq_none h]at g2
    by_cases h0:(es.filter fun e=> !seen.contains e.born).size=0
    ·have hL:(es.filter fun e=> !seen.contains e.born)=#[]:=Array.eq_empty_of_size_eq_zero h0
     rw[hL]at g6
     have xq:l1=[]:=by cases l1 with|nil=>rfl|cons p l1=>obtain⟨e,es',h,_⟩:=g6;simp at h
     have zm:l'=[]:=by rw[xq]at gp;exact gp.symm.eq_nil
     refine cX.same hH (.tuple #[.bool false]) (hK.1 zm) ?_ ⟨_,rfl, .bool false,_,rfl,rfl,rfl⟩
     simp only[Instr.next,getObj,Sem.run_bind,Sem.run,g2,g3,Result.andThen,PL,Bool.false_eq_true,if_false,hL]
     simp[choose,Sem.run,Question.forced]
    ·have fF:∃ (j:Nat) (e:MapEntry) (w1:World),(es.filter fun e=> !seen.contains e.born).toList[j]? =some e/\(w1.os=w.os/\w1.tape=w.tape/\w1.output=w.output/\w1.heap=w.heap)/\
      (Instr.next (.pointer (some ⟨b0,0,none⟩)) false ty).run P w= .ok (.tuple #[.bool true,e.key,e.val]) {w1 with heap:=w.heap.setIfInBounds b0 (.mapIter (some m) since (seen.push e.born) since)}:=by
      simp only[Instr.next,getObj,Sem.run_bind,Sem.run,g2,g3,Result.andThen,PL,Bool.false_eq_true,if_false]
      generalize es.filter (fun e=> !seen.contains e.born)=L at rF h0|-
      have e1:L.filter (fun x=>decide (x.born<since))=L:=Array.filter_eq_self.2 (fun x hx=>by simpa using rF x GU)
      have e2:L.filter (fun x=>decide (x.born≥since))=#[]:=by
       rw[Array.filter_eq_empty_iff]
       intro x hx
       have:=rF x GU
       simp
       omega
      have iJ:L.isEmpty=false:=by simp[Array.isEmpty,h0]
      simp only[e1,e2,Array.append_empty,iJ,Bool.false_eq_true,if_false,Array.empty_append,Array.size_map]
      have hch:∃ (j:Nat) (w1:World),j<L.size/\(w1.os=w.os/\w1.tape=w.tape/\w1.output=w.output/\w1.heap=w.heap)/\(choose (Question.mapNext L.size)).run P w= .ok j w1:=by
       by_cases hf:L.size<=1
       ·exact⟨0,w,ad,⟨rfl,rfl,rfl,rfl⟩,by simp[choose,Sem.run,Question.forced,hf]⟩
       ·exact⟨_,w.drew,Nat.mod_lt _ ad,⟨rfl,rfl,rfl,rfl⟩,by
         simp only[choose,Sem.run,Question.forced,decide_eq_true_eq,hf,if_false,Question.cut]
         rfl⟩
      obtain⟨j,w1,hj,Tq,fF⟩:=hch
      refine⟨j,L[j],w1,by simp[hj],Tq, ?_⟩
      have I1:w1.heap[b0]? =some (.mapIter (some m) since seen since):=by rw[Tq.2.2.2];exact g2
      simp only[fF,Array.getElem?_map,Array.getElem?_eq_getElem hj,Option.map_some,Sem.run_bind,setObj,Sem.run,I1,g2,Result.andThen,Tq.2.2.2]
      rfl
     obtain⟨j,e,w1,hje,Tq,fF⟩:=fF
     obtain⟨⟨k,x⟩,WZ,I2,hp3⟩:=g6.get hje
     obtain⟨j2,Yk,Fh⟩:=List.getElem_of_mem (gp.mem_iff.1 (List.mem_of_getElem? WZ))
     have Fh:l'[j2]? =some (k,x):=by rw[List.getElem?_eq_getElem Yk,Fh]
     have gpe:(l1.eraseIdx j).Perm (l'.eraseIdx j2):=by
      have PM:∀ {L:List (D×D)} {i:Nat} {n:D×D},L[i]? =some n->L.Perm (n::L.eraseIdx i):=by
       intro L i n h
       obtain⟨hi,e⟩:=List.getElem?_eq_some_iff.1 h
       have ux:L=L.take i++n::L.drop (i+1):=by rw[<- e,List.getElem_cons_drop,List.take_append_drop]
       rw[List.eraseIdx_eq_take_drop_succ]
       conv=>lhs;rw[ux]
       exact List.perm_middle
      exact List.Perm.cons_inv (((PM WZ).symm.trans gp).trans (PM Fh))
     have Dm:e∈es.toList:=by
      have:=List.mem_of_getElem? hje
      rw[pK]at this
      exact(List.mem_filter.1 this).1
     obtain⟨n1,n2⟩:=Fg (w1:=w1) (y:= .mapIter (some m) since (seen.push e.born) since) (obj':= .mW (l'.eraseIdx j2) (some (k,x))) hH fL ho rfl rfl rfl rfl rfl q1 g2 Tq (fun ht=>by
      unfold bc
      simp only[bQ,aS,if_true]
      obtain⟨k1,k2⟩:=ht.blocks (M:=M) m (.inr ⟨es,since,g3⟩) g4
      refine⟨b0,q1, .inr ⟨m,since,seen.push e.born,es, ?_,k1.trans g3,k2,g5, ?_,fun k' x' hkx=> ?_⟩⟩
      ·show(w.heap.setIfInBounds b0 _)[b0]? =_
       rw[Array.getElem?_setIfInBounds,if_pos rfl,if_pos abV]
      ·rw[pK]at hje g6
       rw[Bu g5.2 seen hje]
       exact⟨_,gpe,aY.mono (ht.blocks (M:=M)) _ _ g6.erase⟩
      ·injection hkx with hkx;injection hkx with h1 h2;subst h1;subst h2
       exact⟨e,Dm,aj,D.aT (ht.blocks (M:=M)) _ _ I2,D.aT (ht.blocks (M:=M)) _ _ hp3⟩)
     refine⟨.value (.tuple #[.bool true,e.key,e.val]),_,_,φ,_,_,_,hK.2 j2 k x Fh, ?_, .inl rfl,n1,n2,⟨_,rfl, .bool true,_,rfl,rfl,e.key,_,rfl,D.aT (n2.blocks (M:=M)) _ _ I2,e.val,_,rfl,D.aT (n2.blocks (M:=M)) _ _ hp3,rfl⟩,fun j hj=> .inl S5⟩
     simp only[Sem.run_bind,fF,Result.andThen_ok,Sem.run_pure]
  ·cases h
 ·cases h
theorem Hf(hH:aD M φ H w){x:V}{xv:Value}(hx:V.den (ay M φ H) φ H w x xv)(h:dp (mZ H.o x) K):
 cX M φ H w fr ((do let v <- Instr.entry xv;pure (Next.value v):Sem Next).run P w) K:=by
 have hg:=dI h
 clear h
 obtain⟨v,Δ,rd,h,hK⟩:=hg
 unfold mZ at h
 split at h
 ·rename_i id
  obtain⟨_,fL,wL⟩:=hx
  split at h
  ·rename_i l k x ho
   injection h with h;injection h with e1 e2;injection e2 with e2 e3;subst e1;subst e2;subst e3
   obtain⟨b0,q1,rfl⟩:=wL e8
   have bp:=hH.ok id
   simp only[bc,ho]at bp
   obtain⟨b,g1,g2⟩:=bp
   rw[q1]at g1;injection g1 with g1;injection g1 with g1;injection g1 with g1;subst g1
   rcases g2 with⟨_,_,g2⟩|⟨m,since,seen,es,g2,g3,g4,g5,g6,g7⟩
   ·cases g2
   ·obtain⟨e,h1,h2,h3,h4⟩:=g7 k x rfl
    have hf:es.find? (·.born==e.born)=some e:=by rw[<- Array.find?_toList];exact find_born e es.toList g5.2 h1
    refine cX.same hH (.tuple #[e.key,e.val]) hK ?_ ⟨_,rfl,e.key,_,rfl,h3,e.val,_,rfl,h4,rfl⟩
    simp only[Instr.entry,getObj,Sem.run_bind,Sem.run,g2,g3,Result.andThen,h2,bne_self_eq_false,Bool.false_eq_true,if_false,hf]
    rfl
  ·cases h
 ·cases h
theorem oJ(hH:aD M φ H w){t:TypeId}{m k v:V}{mv kv vv:Value}(hm:V.den (ay M φ H) φ H w m mv)(hk:V.den (ay M φ H) φ H w k kv)(hv:V.den (ay M φ H) φ H w v vv)
 (h:dp (gz P H.o t m k v) K):cX M φ H w fr ((do Instr.mapUpdate t mv kv vv;pure Next.skip:Sem Next).run P w) K:=by
 have hg:=dI h
 clear h
 obtain⟨v',Δ,rd,h,hK⟩:=hg
 unfold gz at h
 split at h
 ·rename_i kt vt kd vd id E7 E8 l ht Yh hvd NC
  rcases uA NC with⟨id2,kt2,vt2,rfl,ho,hr⟩|⟨rfl,hr,rfl⟩
  case inr=>cases hr
  injection hr with hr;injection hr with e1 e2;injection e2 with e2 e3;subst e1;subst e2;subst e3
  split at h
  ·rename_i hc
   obtain⟨c1,c2,c3,c4⟩:=hc
   have kR:D.den (ay M φ H) w kd kv:=gA hH k kd kv (fun id aC=>by rw[c1]at aC;cases aC) Yh hk
   have MI:∀em,(Instr.checkKey em 10000 kt kv).run P w= .ok () w:=fun em=>qb em 100 kt kd c2 10000 aZ kv kR
   have I0:=rD ht
   ·obtain⟨Tp,fL,wL⟩:=hm
    have fb:=wL e8
    have bp:=hH.ok id
    simp only[bc,ho]at bp
    obtain⟨b,es,clock,g1,g2,g0,g3⟩:=bp
    rw[<- fb]at g1;subst g1
    have qc:=MapKept.run_getObj_map (P:=P) g2
    have mT:id∉v.ids:=fun hm=>by have:=List.all_eq_true.1 c4 id hm;simp at this
    obtain⟨f1,f2,f3,f4,f5⟩:=dx hH v.ids (dq v _ hv)
    have wy:=(f4 id mT).trans ho
    have PN:=gA f1 v vd vv f3 hvd (V.aT f2 _ _ hv)
    have JM:=D.aT (f2.blocks (M:=M)) kd kv kR
    have W2:=aY.mono (f2.blocks (M:=M)) l _ g3
    have NF:(dn H.o v.ids).map (·.1)=v.ids:=by rw[l7];simp[Function.comp_def]
    have turn:∀ (l':List (D×D)) (es':Array MapEntry) (clock':Nat),jK es' clock'->aY (ay M φ (H.put (dn H.o v.ids))) w l' es'.toList->K (.cp []) (dn H.o v.ids++[(id, .map E7 E8 l')]) (id::v.ids)->
     (Instr.mapUpdate t (.map (some b)) kv vv).run P w= .ok () {w with heap:=w.heap.setIfInBounds b (.map es' clock')}->
     cX M φ H w fr ((do Instr.mapUpdate t (.map (some b)) kv vv;pure Next.skip:Sem Next).run P w) K:=by
     intro l' es' clock' hl0 hl hK hr
     have JL:eK (· =b) w {w with heap:=w.heap.setIfInBounds b (.map es' clock')}:=
      ⟨rfl,rfl,rfl,aj,fun j _ hj=>(MapKept.heap_set g2).2 j hj⟩
     have xq:((H.put (dn H.o v.ids)).o id).live=true:=by rw[wy];rfl
     have Dq:eQ (φ id)=some b:=by rw[<- fb];rfl
     have Dn:=fk (w:=w) (w':={w with heap:=w.heap.setIfInBounds b (.map es' clock')}) ((f5 id).2 fL) xq Dq JL (.map E7 E8 l') AW AW
     refine⟨.skip,undef,_,φ,_,_,_,hK,by simp only[Sem.run_bind,hr,Result.andThen_ok];rfl, .inr ⟨rfl,rfl⟩, ?_, ?_, ?_,fun j hj=> .inl ?_⟩
     ·rw[ey]
      refine iR f1 ((f5 id).2 fL) xq Dq JL _ AW AW ?_
      unfold bc
      simp only[bQ,aS,if_true]
      exact⟨b,es',clock',fb.symm,(MapKept.heap_set g2).1,hl0,aY.mono (Dn.blocks (M:=M)) l' _ hl⟩
     ·rw[ey];exact f2.trans Dn
     ·exact⟨#[],rfl,rfl⟩
     ·rw[List.map_append,NF]at hj
      simp only[List.map_cons,List.map_nil,List.mem_append,List.mem_singleton]at hj
      rcases hj with hj|rfl
      ·exact dq v _ hv j hj
      ·exact fL
    split at h
    ·rename_i i k' x hf
     split at h
     ·rename_i JN
      injection h with h;injection h with e1 e2;injection e2 with e2 e3;subst e1;subst e2;subst e3
      have hke:=D.eB _ _ JN
      subst hke
      obtain⟨r',q1,q2⟩:=gY kR c2 g3 hf
      cases r' with
      |none=>exact q2.elim
      |some p=>
       obtain⟨j',u⟩:=p
       obtain⟨rfl,_,hxu,e,h4,h5,h6⟩:=q2
       rw[Nat.sub_zero]at h4
       have hkv:=DM c3 h6 kR
       have h4':es[i]? =some e:=by simpa using h4
       refine turn _ (es.modify i fun e=>{e with key:=kv,val:=vv}) clock (zi g0 h4 rfl) ?_ hK ?_
       ·rw[ju _ h4]
        exact aY.set W2 JM PN
       ·have hs:=Hb (P:=P) (w':=w) c3 kR
        simp only[Instr.mapUpdate,Sem.run_bind,run_underlying I0,Result.andThen_ok,qc,MI,q1,h4',Option.map_some,Option.getD_some,hkv,hs]
        exact MapKept.run_setObj_map _ g2
     ·cases h
    ·rename_i hf
     injection h with h;injection h with e1 e2;injection e2 with e2 e3;subst e1;subst e2;subst e3
     obtain⟨r',q1,q2⟩:=gY kR c2 g3 hf
     cases r' with
     |some p=>exact q2.elim
     |none=>
      refine turn _ (es.push {key:=kv,val:=vv,born:=clock}) (clock+1) (DS g0 rfl) ?_ hK ?_
      ·rw[Array.toList_push]
       exact aY.push W2 JM PN
      ·simp only[Instr.mapUpdate,Sem.run_bind,run_underlying I0,Result.andThen_ok,qc,MI,q1]
       exact MapKept.run_setObj_map _ g2
    ·cases h
  ·cases h
 ·cases h
end
end Go.Proofs.YtonbelhklnmjnaaGreat
namespace Go.Proofs.YtonbelhklnmjnaaGreat
section
variable {P:Program}(w:World)(d:Nat){t:TypeId}
theorem Yl{ms}(ht:P.underlying t=some (.interface ms)):(Op.equalIn (d+1) t .nilIface .nilIface).run P w= .ok true w:=yX
theorem PO{ms}(ht:P.underlying t=some (.interface ms))(u:TypeId)(v:Value):(Op.equalIn (d+1) t (.iface u v) .nilIface).run P w= .ok false w:=yX
theorem PQ{ms}(ht:P.underlying t=some (.interface ms))(u:TypeId)(v:Value):(Op.equalIn (d+1) t .nilIface (.iface u v)).run P w= .ok false w:=yX
theorem Ym{ms}(ht:P.underlying t=some (.interface ms)){a b:TypeId}{x y:D}{B:Nat->Prop}{w2:World}{u v:Value}{r:Bool}(h:eqI P a b x y=some r)(hx:D.den B w2 x u)(hy:D.den B w2 y v):(Op.equalIn (d+2) t (.iface a u) (.iface b v)).run P w= .ok r w:=by
 unfold eqI at h
 by_cases e:a=b
 ·subst e
  rw[if_pos rfl]at h
  split at h
  ·rename_i i k hi hk
   split at h
   ·rename_i hc
    split at h
    ·split at h
     ·rename_i hkk
      injection h with h;subst h
      simp only[D.den]at hx hy
      subst hx;subst hy;subst hkk
      simp[Op.equalIn,run_underlying ht,run_underlying hk,typeInfo,hi,hc]
     ·cases h
    ·cases h
   ·cases h
  ·cases h
 ·rw[if_neg e]at h
  injection h with h;subst h
  simp[Op.equalIn,run_underlying ht,e]
theorem Yn{a b c}(ht:P.underlying t=some (.func a b c)):(Op.equalIn (d+1) t .nilFunc .nilFunc).run P w= .ok true w:=yX
theorem Yo{a b c}(ht:P.underlying t=some (.func a b c))(f x y):(Op.equalIn (d+1) t (.func f x y) .nilFunc).run P w= .ok false w:=yX
theorem Yp{a b}(ht:P.underlying t=some (.map a b)):(Op.equalIn (d+1) t (.map none) (.map none)).run P w= .ok true w:=yX
theorem JO{a b}(ht:P.underlying t=some (.map a b))(x):(Op.equalIn (d+1) t (.map (some x)) (.map none)).run P w= .ok false w:=yX
theorem Yq{e}(ht:P.underlying t=some (.pointer e)):(Op.equalIn (d+1) t (.pointer none) (.pointer none)).run P w= .ok true w:=yX
theorem PR{e}(ht:P.underlying t=some (.pointer e))(a):(Op.equalIn (d+1) t (.pointer (some a)) (.pointer none)).run P w= .ok false w:=yX
theorem Yr{e}(ht:P.underlying t=some (.slice e))(b n c):(Op.equalIn (d+1) t (.slice b n c) (.slice none 0 0)).run P w= .ok b.isNone w:=by cases b<;>simp[Op.equalIn,run_underlying ht]
end
section
variable {P:Program}{M:Nat->Prop}{φ:Place}{H:Hp}{w w':World}{fr:Nat}{K:V->List (Nat×ab)->List Nat->Prop}{B:Nat->Prop}
theorem DU(hH:aD M φ H w){x:V}{xv:Value}{es:List D}(h:fj H.o x=some es)(hx:V.den (ay M φ H) φ H w x xv):∃base n c,xv= .slice base n c/\(es≠[]->base≠none):=by
 have hd:∃x',eg H.o x=some x'/\x'= .sl es:=by
  unfold fj at h
  split at h
  ·rename_i es' hd;injection h with h;subst h;exact⟨_,hd,rfl⟩
  ·cases h
 obtain⟨x',hd,rfl⟩:=hd
 obtain⟨f1,f2,f3,f4,f5⟩:=dx hH x.ids (dq x _ hx)
 have:=gA f1 x (.sl es) xv f3 hd (V.aT f2 _ _ hx)
 obtain⟨base,len,cap,rfl,h1,h2,h3,_⟩:=this
 refine⟨base,len,cap,rfl,fun iJ hb=> ?_⟩
 have:=h3 hb
 have:es.length=0:=ad
 exact iJ (List.length_eq_zero_iff.1 this)
def JP:Value->Bool
 | .int _ _| .float _ _| .complex _ _ _| .string _=>false
 |_=>true
theorem Fi(hH:aD M φ H w){t:TypeId}{p q:Operand}{x y v:V}{xv yv:Value}(hx:V.den (ay M φ H) φ H w x xv)(hy:V.den (ay M φ H) φ H w y yv)(h:pU P H.o t (isConst p||isConst q) x y=some v):
 ∃r:Bool,(v= .d (.bool r)\/v= .fh)/\JP xv=true/\(∀op,(eqGuard op t p q xv yv).run P w= .ok () w)/\(Op.equal t xv yv).run P w= .ok r w:=by
 have fR:(∀a b, ¬ (xv= .agg a/\yv= .agg b))-> ¬ (xv= .nilIface/\yv= .nilIface)->∀op,(eqGuard op t p q xv yv).run P w= .ok () w:=by
  intro h1 h2 op
  unfold eqGuard
  cases op<;>cases xv<;>cases yv<;>first
   |(simp;done)
   |(exact absurd ⟨rfl,rfl⟩ (h1 _ _))
   |(exact absurd ⟨rfl,rfl⟩ h2)
 unfold pU at h
 cases ht:P.underlying t with
 |none=>simp[ht]at h
 |some td=>
  simp only[ht]at h
  have eq:∀r,(∀d,(Op.equalIn (d+1) t xv yv).run P w= .ok r w)->(Op.equal t xv yv).run P w= .ok r w:=fun r h=>h 9999
  cases td<;>simp only[reduceCtorEq]at h
  case interface ms=>
   split at h
   ·split at h
    ·rename_i hc
     injection h with h;subst h
     simp only[V.den,D.den]at hx hy;subst hx;subst hy
     refine⟨true, .inl rfl,rfl,fun op=> ?_,eq _ (fun d=>by rw[Yl w d ht])⟩
     simp only[Bool.or_eq_true]at hc
     unfold eqGuard
     rcases hc with hc|hc
     ·cases p<;>simp only[isConst,Bool.false_eq_true]at hc
      cases op<;>simp
     ·cases q<;>simp only[isConst,Bool.false_eq_true]at hc
      cases op<;>simp
    ·cases h
   ·injection h with h;subst h
    obtain⟨u,rfl,_⟩:=hx
    simp only[V.den,D.den]at hy;subst hy
    exact⟨false, .inl rfl,rfl,fR (fun _ _ h=>by cases h.1) oq,eq _ (fun d=>by rw[PO w d ht])⟩
   ·injection h with h;subst h
    obtain⟨u,rfl,_⟩:=hx
    simp only[V.den,D.den]at hy;subst hy
    exact⟨false, .inl rfl,rfl,fR (fun _ _ h=>by cases h.1) oq,eq _ (fun d=>by rw[PO w d ht])⟩
   ·injection h with h;subst h
    obtain⟨u,rfl,_⟩:=hy
    simp only[V.den,D.den]at hx;subst hx
    exact⟨false, .inl rfl,rfl,fR (fun _ _ h=>by cases h.1) oq,eq _ (fun d=>by rw[PQ w d ht])⟩
   ·injection h with h;subst h
    obtain⟨u,rfl,_⟩:=hy
    simp only[V.den,D.den]at hx;subst hx
    exact⟨false, .inl rfl,rfl,fR (fun _ _ h=>by cases h.1) oq,eq _ (fun d=>by rw[PQ w d ht])⟩
   ·rename_i a x b y
    simp only[Option.map_eq_some_iff]at h
    obtain⟨r,h1,rfl⟩:=h
    obtain⟨u,rfl,g1⟩:=hx
    obtain⟨u2,rfl,g2⟩:=hy
    exact⟨r, .inl rfl,rfl,fR (fun _ _ h=>by cases h.1) oq,Ym w 9998 ht h1 g1 g2⟩
   ·cases h
  case func a b c=>
   split at h
   ·injection h with h;subst h
    simp only[V.den,D.den]at hx hy;subst hx;subst hy
    exact⟨true, .inl rfl,rfl,fR (fun _ _ h=>by cases h.1) oq,eq _ (fun d=>by rw[Yn w d ht])⟩
   ·injection h with h;subst h
    obtain⟨f,c',rfl,_⟩:=hx
    simp only[V.den,D.den]at hy;subst hy
    exact⟨false, .inl rfl,rfl,fR (fun _ _ h=>by cases h.1) oq,eq _ (fun d=>by rw[Yo w d ht])⟩
   ·cases h
  case map a b=>
   split at h
   ·simp only[V.den,D.den]at hy;subst hy
    unfold rr at h
    split at h
    ·injection h with h;subst h
     simp only[V.den,D.den]at hx;subst hx
     exact⟨true, .inl rfl,rfl,fR (fun _ _ h=>by cases h.1) oq,eq _ (fun d=>by rw[Yp w d ht])⟩
    ·injection h with h;subst h
     obtain⟨bk,es,clock,_,rfl,_⟩:=hx
     exact⟨false, .inl rfl,rfl,fR (fun _ _ h=>by cases h.1) oq,eq _ (fun d=>by rw[JO w d ht])⟩
    ·rename_i id
     split at h
     ·rename_i ho
      injection h with h;subst h
      obtain⟨_,_,h3⟩:=hx
      have fb:=h3 e8
      have bp:=hH.ok id
      simp only[bc,ho]at bp
      obtain⟨bk,es,clock,g1,_⟩:=bp
      rw[<- fb]at g1;subst g1
      exact⟨false, .inl rfl,rfl,fR (fun _ _ h=>by cases h.1) oq,eq _ (fun d=>by rw[JO w d ht])⟩
     ·rename_i ho
      injection h with h;subst h
      obtain⟨_,_,h3⟩:=hx
      have fb:=h3 e8
      have bp:=hH.ok id
      simp only[bc,ho]at bp
      obtain⟨bk,es,clock,_,g1,_⟩:=bp
      rw[<- fb]at g1;subst g1
      exact⟨false, .inl rfl,rfl,fR (fun _ _ h=>by cases h.1) oq,eq _ (fun d=>by rw[JO w d ht])⟩
     ·cases h
    ·cases h
   ·cases h
  case pointer e=>
   split at h
   ·simp only[V.den,D.den]at hy;subst hy
    unfold rv at h
    split at h
    ·injection h with h;subst h
     simp only[V.den,D.den]at hx;subst hx
     exact⟨true, .inl rfl,rfl,fR (fun _ _ h=>by cases h.1) oq,eq _ (fun d=>by rw[Yq w d ht])⟩
    ·split at h
     ·rename_i hr
      injection h with h;subst h
      obtain⟨_,_,h3⟩:=hx
      obtain⟨bk,_,rfl⟩:=h3 hr
      exact⟨false, .inl rfl,rfl,fR (fun _ _ h=>by cases h.1) oq,eq _ (fun d=>by rw[PR w d ht])⟩
     ·cases h
    ·injection h with h;subst h
     obtain⟨a,ev,_,rfl,_⟩:=hx
     exact⟨false, .inl rfl,rfl,fR (fun _ _ h=>by cases h.1) oq,eq _ (fun d=>by rw[PR w d ht])⟩
    ·cases h
   ·cases h
  case slice e=>
   split at h
   ·simp only[V.den]at hy;subst hy
    unfold A7 at h
    split at h
    ·injection h with h;subst h
     simp only[V.den]at hx;subst hx
     exact⟨true, .inl rfl,rfl,fR (fun _ _ h=>by cases h.1) oq,eq _ (fun d=>by rw[Yr w d ht];rfl)⟩
    ·split at h
     ·rename_i es hl
      obtain⟨base,n,c,rfl,hb⟩:=DU hH hl hx
      refine⟨base.isNone, ?_,rfl,fR (fun _ _ h=>by cases h.1) oq,eq _ ?_⟩
      ·split at h
       ·injection h with h;exact .inr h.symm
       ·rename_i iJ
        injection h with h
        have:=hb iJ
        cases base with
        |none=>exact absurd rfl this
        |some a=>exact .inl h.symm
      ·intro d
       rw[Yr w d ht]
     ·cases h
   ·cases h
  case struct fs=>
   split at h
   ·split at h
    ·rename_i hg
     simp only[Option.map_eq_some_iff]at h
     obtain⟨r,h1,rfl⟩:=h
     obtain⟨g1,g2⟩:=JF h1 hg (ay M φ H) w xv yv hx hy
     exact⟨r, .inl rfl,by obtain⟨_,rfl,_⟩:=hx;rfl,fun op=>g2 op p q,g1⟩
    ·cases h
   ·cases h
  case array n e=>
   split at h
   ·split at h
    ·rename_i hg
     simp only[Option.map_eq_some_iff]at h
     obtain⟨r,h1,rfl⟩:=h
     obtain⟨g1,g2⟩:=JF h1 hg (ay M φ H) w xv yv hx hy
     exact⟨r, .inl rfl,by obtain⟨_,rfl,_⟩:=hx;rfl,fun op=>g2 op p q,g1⟩
    ·cases h
   ·cases h
theorem NI(hH:aD M φ H w){op:BinOp}{t:TypeId}{p q:Operand}{x y:V}{xv yv:Value}(hx:V.den (ay M φ H) φ H w x xv)(hy:V.den (ay M φ H) φ H w y yv)
 (h:dp (ry P H.o op t (isConst p||isConst q) x y) K):
 cX M φ H w fr ((do let y <- (do eqGuard op t p q xv yv;binOp op t xv yv);pure (Next.value y):Sem Next).run P w) K:=by
 have hg:=dI h
 clear h
 obtain⟨v,Δ,rd,h,hK⟩:=hg
 unfold ry at h
 split at h
 ·simp only[Option.map_eq_some_iff]at h
  obtain⟨u,h1,h2⟩:=h
  injection h2 with e1 e2;injection e2 with e2 e3;subst e1;subst e2;subst e3
  obtain⟨r,hv,Ys,hgd,he⟩:=Fi (p:=p) (q:=q) hH hx hy h1
  refine cX.plain hH (.bool r) hK ?_ ?_
  ·have hb:(binOp .eql t xv yv).run P w= .ok (.bool r) w:=by
    unfold binOp
    cases xv<;>first|(simp[JP]at Ys;done)|(cases yv<;>simp[he])
   simp[hgd,hb]
  ·rcases hv with rfl|rfl
   ·rfl
   ·exact⟨r,rfl⟩
 ·simp only[Option.map_eq_some_iff,Option.bind_eq_some_iff]at h
  obtain⟨u',⟨u,h1,h3⟩,h2⟩:=h
  injection h2 with e1 e2;injection e2 with e2 e3;subst e1;subst e2;subst e3
  obtain⟨r,hv,Ys,hgd,he⟩:=Fi (p:=p) (q:=q) hH hx hy h1
  refine cX.plain hH (.bool !r) hK ?_ ?_
  ·have hb:(binOp .neq t xv yv).run P w= .ok (.bool !r) w:=by
    unfold binOp
    cases xv<;>first|(simp[JP]at Ys;done)|(cases yv<;>simp[he])
   simp[hgd,hb]
  ·rcases hv with rfl|rfl
   ·simp only[Np,Option.some.injEq]at h3;subst h3;rfl
   ·simp only[Np,Option.some.injEq]at h3;subst h3;exact⟨!r,rfl⟩
 ·cases h
end
end Go.Proofs.YtonbelhklnmjnaaGreat
namespace Go.Proofs.YtonbelhklnmjnaaGreat
section
variable {P:Program}{M:Nat->Prop}{φ:Place}{H:Hp}{w w':World}{fr:Nat}{K:V->List (Nat×ab)->List Nat->Prop}
theorem zp(hH:aD M φ H w){o:Oper}{a:Act}{q:Operand}(ho:o.op= .nilCheck q){x:V}(hx:V.den (ay M φ H) φ H w x (a.eval q))
 (h:lE H.o x fun v=>K v [] []):cX M φ H w fr ((execOp a.eval o).run P w) K:=by
 unfold lE at h
 have I3:=hx
 split at h
 ·rename_i id off
  obtain⟨h1,hK⟩:=h
  obtain⟨_,hu,hp⟩:=I3
  obtain⟨b,fb,hv⟩:=hp h1
  exact cX.same hH _ hK (by simp[execOp,ho,hv]) (hv ▸ hx)
 ·rename_i cs off
  obtain⟨b,ev,_,hv,_⟩:=I3
  exact cX.same hH _ h (by simp[execOp,ho,hv]) (hv ▸ hx)
 ·rename_i f first cap
  obtain⟨b,c,hv,_⟩:=I3
  exact cX.same hH _ h (by simp[execOp,ho,hv]) (hv ▸ hx)
 ·exact h.elim
theorem Hg{t:TypeId}{k:IntKind}(h:uj P t=some k):P.underlying t=some (.int k):=by
 unfold uj at h
 cases hd:P.underlying t with
 |none=>simp[hd]at h
 |some d=>cases d<;>simp_all
theorem qd(s:S)(a:Act)(eL:∀i,V.den (ay M φ H) φ H w (s.env i) (a.tmps.getD i undef))(xs:Array Operand):
 V.aN (ay M φ H) φ H w (xs.toList.map s.ev) (xs.map a.eval).toList:=by
 simpa using kO s a eL xs.toList
theorem xC(hH:aD M φ H w){s:S}(pM:s.o=H.o){a:Act}(eL:∀i,V.den (ay M φ H) φ H w (s.env i) (a.tmps.getD i undef))(dc: ¬H.us fr){o:Oper}{op:Op}(fA:o.op=op)(h:PG P s fr op K):
 cX M φ H w fr ((execOp a.eval o).run P w) K:=by
 have dM:=m8 (M:=M) (φ:=φ) (H:=H) (w:=w) s a eL
 cases op<;>simp only[PG]at h<;>try (exact h.elim)
 case move x=>exact cX.same hH _ h (by simp[execOp,fA]) (dM x)
 case assign x=>exact cX.same hH _ h (by simp[execOp,fA]) (dM x)
 case pick c x y=>
  have:=Jy (P:=P) (fr:=fr) hH (dM c) (dM x) (dM y) h
  exact jE
 case alloc t=>
  have:=G0 (P:=P) (fr:=fr) hH dc h
  exact jE
 case box t x=>
  have:=Ny (P:=P) (fr:=fr) (t:=t) hH dc (dM x) h
  exact jE
 case build t parts=>
  have:=G2 (P:=P) (fr:=fr) hH eL h
  exact jE
 case buildSlice t len parts=>
  rw[pM]at h
  have:=uw (P:=P) (fr:=fr) hH dc eL h
  exact jE
 case load t x=>
  rw[pM]at h
  have:=Jx (P:=P) (fr:=fr) hH (dM x) h
  exact jE
 case store t x y=>
  rw[pM]at h
  have:=G4 (P:=P) (fr:=fr) hH (dM x) (dM y) h
  exact jE
 case nilCheck x=>
  rw[pM]at h
  exact zp hH fA (dM x) h
 case binOp op t x y yt=>
  rw[pM]at h
  rcases h with h|h
  ·have:=Nw (P:=P) (fr:=fr) (p:=x) (q:=y) hH (dM x) (dM y) h
   exact jE
  ·have:=NI (P:=P) (fr:=fr) (p:=x) (q:=y) hH (dM x) (dM y) h
   exact jE
 case unOp op t x=>
  rcases h with h|⟨rfl,hx,hK⟩
  ·have:=Tk (P:=P) (fr:=fr) hH (dM x) h
   exact jE
  ·have hv:=dM x
   rw[hx]at hv
   obtain⟨b,hb⟩:=hv
   exact cX.same hH (.bool !b) hK (by simp[execOp,fA,hb,Op.unary]) ⟨_,rfl⟩
 case convert t u x=>
  obtain⟨abW,h⟩:=h
  split at h
  ·rename_i k k' n hk hx
   have hv:=dM x
   rw[hx]at hv
   simp only[V.den,D.den]at hv
   have hu:=Hg hk
   obtain⟨d,hd⟩:=Option.isSome_iff_exists.1 abW
   refine cX.same hH (.int k (k.wrap n)) h ?_ rfl
   cases d<;>simp[execOp,fA,hv,convert,run_underlying hd,run_underlying hu,Conv.intToInt]
  ·exact h.elim
 case makeInterface t x=>
  obtain⟨⟨d,hd,mT⟩,h⟩:=h
  have hr:∀v,(Instr.makeInterface t v).run P w= .ok (.iface t v) w:=by
   intro v
   cases d<;>first|(simp at mT;done)|simp[Instr.makeInterface,run_underlying hd]
  have hv:=dM x
  split at h
  ·rename_i y hy
   rw[hy]at hv
   exact cX.same hH _ h (by simp[execOp,fA,hr]) ⟨_,rfl,hv⟩
  ·exact cX.same hH _ h (by simp[execOp,fA,hr]) ⟨_,rfl,hv⟩
 case makeFunc fn first cap=>
  exact cX.same hH _ h (by simp[execOp,fA,Instr.makeFunc]) ⟨_,_,rfl,qd s a eL first,qd s a eL cap⟩
 case makeSlice t l c=>
  have:=wJ (P:=P) (fr:=fr) hH dc (dM l) (dM c) h
  exact jE
 case fieldAddr t x f=>
  rw[pM]at h
  have:=wG (P:=P) (fr:=fr) hH (dM x) h
  exact jE
 case indexAddr t x i=>
  rw[pM]at h
  have:=wI (P:=P) (fr:=fr) hH (dM x) (dM i) h
  exact jE
 case extract x i=>
  split at h
  ·rename_i vs hx
   obtain⟨v,hv,hK⟩:=h
   have hd:=dM x
   rw[hx]at hd
   obtain⟨c,hc,hd⟩:=hd
   obtain⟨u,hu,Nu⟩:=V.dV _ _ _ _ hd hv
   refine cX.same hH u hK ?_ Nu
   have wK:c[i]? =some u:=by simpa using hu
   simp[execOp,fA,hc,Instr.extract,wK]
  ·exact h.elim
 case call c=>
  obtain⟨JQ,args,ts⟩:=c
  cases JQ<;>simp only at h<;>try (exact h.elim)
  rename_i b
  unfold ur at h
  split at h
  ·rename_i x dZ
   obtain⟨t,tj,h⟩:=h
   rw[pM]at h
   have e1:args=#[x]:=by apply Array.ext';simpa using dZ
   have e2:ts=#[t]:=by apply Array.ext';simpa using tj
   subst e1;subst e2
   have:=Nx (P:=P) (fr:=fr) (ty:=o.type) hH (dM x) h
   exact M3
  ·rename_i x y dZ
   have e1:args=#[x,y]:=by apply Array.ext';simpa using dZ
   subst e1
   rw[pM]at h
   have:=h.elim (fun h=>JA (P:=P) (fr:=fr) (ty0:=o.type) hH dc (dM x) (dM y) h) (fun h=>DG (P:=P) (fr:=fr) (ty0:=o.type) hH dc (dM x) (dM y) h)
   exact M3
  ·rename_i x y dZ
   have e1:args=#[x,y]:=by apply Array.ext';simpa using dZ
   subst e1
   unfold nV at h
   split at h
   ·rename_i k u k' v heq
    simp only[List.cons.injEq,and_true]at heq
    obtain⟨rfl,hK⟩:=h
    have h1:=dM x
    have h2:=dM y
    rw[heq.1]at h1;rw[heq.2]at h2
    simp only[V.den,D.den]at h1 h2
    exact cX.same hH _ hK (by simp[execOp,fA,resolve,invoke,builtin,h1,h2,run_max_int2]) rfl
   ·exact h.elim
  ·rename_i x y dZ
   have e1:args=#[x,y]:=by apply Array.ext';simpa using dZ
   subst e1
   unfold nV at h
   split at h
   ·rename_i k u k' v heq
    simp only[List.cons.injEq,and_true]at heq
    obtain⟨rfl,hK⟩:=h
    have h1:=dM x
    have h2:=dM y
    rw[heq.1]at h1;rw[heq.2]at h2
    simp only[V.den,D.den]at h1 h2
    exact cX.same hH _ hK (by simp[execOp,fA,resolve,invoke,builtin,h1,h2,run_min_int2]) rfl
   ·exact h.elim
  ·rename_i x y z dZ
   have e1:args=#[x,y,z]:=by apply Array.ext';simpa using dZ
   subst e1
   have hg:=dI h
   clear h
   obtain⟨v,Δ,rd,h,hK⟩:=hg
   simp only[Option.map_eq_some_iff,Prod.mk.injEq]at h
   obtain⟨v',h,rfl,rfl,rfl⟩:=h
   unfold Jv at h
   split at h
   ·rename_i k u k' v k'' t q1 q2 q3
    split at h
    ·rename_i hk
     obtain⟨rfl,rfl⟩:=hk
     injection h with h;subst h
     have h1:=dM x
     have h2:=dM y
     have h3:=dM z
     rw[q1]at h1;rw[q2]at h2;rw[q3]at h3
     simp only[V.den,D.den]at h1 h2 h3
     exact cX.same hH _ hK (by simp[execOp,fA,resolve,invoke,builtin,h1,h2,h3,Builtin.max_,Builtin.max2]) rfl
    ·cases h
   ·cases h
  ·rename_i x y dZ
   have e1:args=#[x,y]:=by apply Array.ext';simpa using dZ
   subst e1
   rw[pM]at h
   have:=JI (P:=P) (fr:=fr) (ty0:=o.type) hH (dM x) (dM y) h
   exact M3
  ·rename_i x y dZ
   have e1:args=#[x,y]:=by apply Array.ext';simpa using dZ
   subst e1
   obtain⟨t,ht,h⟩:=h
   rw[pM]at h
   have:=DT (P:=P) (fr:=fr) (ty0:=o.type) hH ht (dM x) (dM y) h
   exact M3
  ·rename_i x dZ
   have e1:args=#[x]:=by apply Array.ext';simpa using dZ
   subst e1
   unfold Nq at h
   split at h
   ·rename_i t tj
    have e2:ts=#[t]:=by apply Array.ext';simpa using tj
    subst e2
    split at h
    ·rename_i e ht
     split at h
     ·rename_i hxx
      have hd:=dM x
      rw[hxx]at hd
      simp only[V.den]at hd
      exact cX.same hH (.int .i64 0) h (by simp[execOp,fA,resolve,invoke,builtin,hd,Builtin.cap_,run_underlying (bE ht),goInt]) rfl
     ·exact h.elim
    ·exact h.elim
   ·exact h.elim
  ·exact h.elim
 case slice t x lo hi mx=>
  rw[pM]at h
  have:=G7 (P:=P) (fr:=fr) (lov:=lo.map a.eval) (hiv:=hi.map a.eval) (mxv:=mx.map a.eval) hH (dM x) (by cases lo<;>simp[dM]) (by cases hi<;>simp[dM]) (by cases mx<;>simp[dM]) h
  exact jE
 case field t x f=>
  have:=G8 (P:=P) (fr:=fr) hH (dM x) h
  exact jE
 case index t x i=>
  have:=Ha (P:=P) (fr:=fr) hH (dM x) (dM i) h
  exact jE
 case insert t m k v=>
  rw[pM]at h
  have:=oJ (P:=P) (fr:=fr) hH (dM m) (dM k) (dM v) h
  exact jE
 case typeAssert x xt t ok=>
  have:=DL (P:=P) (fr:=fr) (xt:=xt) hH (dM x) h
  exact jE
 case makeMap t r=>
  cases r with
  |some x=>exact h.elim
  |none=>
   have:=Bp (P:=P) (fr:=fr) hH dc h
   exact jE
 case lookup t m k ok=>
  rw[pM]at h
  have:=DP (P:=P) (fr:=fr) hH (dM m) (dM k) h
  exact jE
 case mapUpdate t m k v=>
  rw[pM]at h
  have:=oJ (P:=P) (fr:=fr) hH (dM m) (dM k) (dM v) h
  exact jE
 case range t x=>
  rw[pM]at h
  have:=He (P:=P) (fr:=fr) hH dc (dM x) h
  exact jE
 case next x str=>
  rw[pM]at h
  rcases h with h|⟨rfl,id,l,h1,h2⟩
  ·have:=Bt (P:=P) (fr:=fr) (ty:=o.type) hH (dM x) h
   exact jE
  ·have:=Bv (P:=P) (fr:=fr) (ty:=o.type) hH (dM x) h1 h2
   exact jE
 case entry x=>
  rw[pM]at h
  have:=Hf (P:=P) (fr:=fr) hH (dM x) h
  exact jE
end
end Go.Proofs.YtonbelhklnmjnaaGreat
