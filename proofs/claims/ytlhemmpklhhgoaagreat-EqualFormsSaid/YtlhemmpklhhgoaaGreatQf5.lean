/-
  A PART. Conditions: none.
-/
import Derived.WideKeyRuns
import Derived.Laws.IdiomRangeMap
import Derived.Test.YtlhemmpklhhgoaaGreatQf4
set_option linter.unusedSimpArgs false
set_option linter.unusedVariables false
set_option maxHeartbeats 8000000
namespace Go.Proofs.YtlhemmpklhhgoaaGreat
section
mutual
theorem D.eK:∀ (x y:D),x.same y=true->x=y
 | .int k a,y,h=>by cases y<;>simp_all[D.same]
 | .bool a,y,h=>by cases y<;>simp_all[D.same]
 | .str a,y,h=>by cases y<;>simp_all[D.same]
 | .fE,y,h=>by cases y<;>simp_all[D.same]
 | .mu,y,h=>by cases y<;>simp_all[D.same]
 | .cJ,y,h=>by cases y<;>simp_all[D.same]
 | .dX,y,h=>by cases y<;>simp_all[D.same]
 | .agg cC,y,h=>by
   exact Um
 | .sl cC,y,h=>by
   exact Um
 | .iface t a,y,h=>by
   cases y<;>simp only[D.same,Bool.false_eq_true,Bool.and_eq_true,beq_iff_eq]at h
   rw[h.1,D.eK a _ h.2]
 | .mp ks vs,y,h=>by
   cases y<;>simp only[D.same,Bool.false_eq_true,Bool.and_eq_true]at h
   rw[D.ed ks _ h.1,D.ed vs _ h.2]
theorem D.ed:∀ (xs ys:List D),D.gY xs ys=true->xs=ys
 |[],ys,h=>by cases ys<;>simp_all[D.gY]
 |a::cC,ys,h=>by
  cases ys<;>simp only[D.gY,Bool.false_eq_true,Bool.and_eq_true]at h
  rw[D.eK a _ h.1,D.ed cC _ h.2]
end
section
variable {P:Program}{M:Nat->Prop}{φ:Place}{H:Hp}{w w':World}{fr:Nat}{K:V->List (Nat×aa)->List Nat->Prop}{B:Nat->Prop}
theorem tE{t kt vt:TypeId}(h:tw P t=some (kt,vt)):P.underlying t=some (.map kt vt):=by
 unfold tw at h
 cases hd:P.underlying t with
 |none=>simp[hd]at h
 |some d=>cases d<;>simp_all
theorem zM{x:D}(h:p8 x=true){u v:Value}(hu:D.den B w x u)(hv:D.den B w x v):u=v:=by
 cases x<;>simp only[p8,Bool.false_eq_true]at h<;>simp only[D.den]at hu hv
 ·rw[hu,hv]
 ·rw[hu,hv]
 ·obtain⟨⟨⟨a⟩⟩,rfl,h1⟩:=hu
  obtain⟨⟨⟨b⟩⟩,rfl,h2⟩:=hv
  simp only at h1 h2
  rw[h1,h2]
theorem zN:∀ {xs:List D} (_:xs.all p8=true) {us vs:List Value} (_:D.aG B w xs us) (_:D.aG B w xs vs),us=vs
 |[],_,us,vs,hu,hv=>by simp only[D.aG]at hu hv;rw[hu,hv]
 |x::xs,h,us,vs,hu,hv=>by
  simp only[List.all_cons,Bool.and_eq_true]at h
  obtain⟨u,us,rfl,h1,h2⟩:=hu
  obtain⟨v,vs,rfl,h3,h4⟩:=hv
  rw[zM h.1 h1 h3,zN h.2 h2 h4]
theorem FX{x:D}(h:l6 x=true){u v:Value}(hu:D.den B w x u)(hv:D.den B w x v):u=v:=by
 cases x with
 |agg cs=>
  simp only[l6]at h
  obtain⟨a,rfl,h1,_⟩:=hu
  obtain⟨b,rfl,h2,_⟩:=hv
  have:=zN h h1 h2
  congr 1
  exact Array.ext' this
 |_=>exact zM (by simpa[l6]using h) hu hv
theorem zO{x:D}(h:p8 x=true){u:Value}(hu:D.den B w x u)(n:Nat):Instr.sameBits n u u=true:=by
 cases x<;>simp only[p8,Bool.false_eq_true]at h<;>simp only[D.den]at hu
 ·subst hu;cases n<;>simp[Instr.sameBits]
 ·subst hu;cases n<;>simp[Instr.sameBits]
 ·obtain⟨s,rfl,h1⟩:=hu
  have:(s==s)=true:=(MapKept.bytes_beq s s).2 rfl
  cases n<;>simp[Instr.sameBits,this]
theorem wN:∀ {xs:List D} (_:xs.all p8=true) {us:List Value} (_:D.aG B w xs us) (n:Nat),(us.zip us).all (fun(x,y)=>Instr.sameBits n x y)=true
 |[],_,us,hu,n=>by simp only[D.aG]at hu;subst hu;rfl
 |x::xs,h,us,hu,n=>by
  simp only[List.all_cons,Bool.and_eq_true]at h
  obtain⟨u,us,rfl,h1,h2⟩:=hu
  simp only[List.zip_cons_cons,List.all_cons,zO h.1 h1 n,Bool.true_and]
  exact wN h.2 h2 n
theorem FY{x:D}(h:l6 x=true){u:Value}(hu:D.den B w x u)(n:Nat):Instr.sameBits (n+1) u u=true:=by
 cases x with
 |agg cs=>
  simp only[l6]at h
  obtain⟨a,rfl,h1,_⟩:=hu
  have:=wN h h1 n
  simp only[Instr.sameBits,beq_self_eq_true,Bool.true_and]
  exact this
 |_=>exact zO (by simpa[l6]using h) hu (n+1)
theorem Ky{x:D}(h:l6 x=true){u:Value}(hu:D.den B w x u):(Instr.keyThatStays u u).run P w'= .ok u w':=by
 simp[Instr.keyThatStays,FY h hu 9999]
theorem rK(em:Bool):∀ (d:Nat) (t:TypeId) (x:D),pP P d t x=true->∀m,d<=m->∀u,D.den B w x u->(Instr.checkKey em m t u).run P w= .ok () w
 |0,_,_,h=>by simp[pP]at h
 |d+1,t,x,h=>by
  intro m hm u hu
  obtain⟨m,rfl⟩:∃k,m=k+1:=⟨m - 1,ad⟩
  have IH:=fun t x h u hu=>rK em d t x h m ad u hu
  unfold pP at h
  rw[Instr.checkKey]
  cases hs:b8 P t with
  |none=>rw[hs]at h;cases h
  |some sh=>
   rw[hs]at h
   unfold b8 at hs
   cases ht:P.underlying t with
   |none=>rw[ht]at hs;cases hs
   |some td=>
    rw[ht]at hs
    simp only[Sem.run_bind,run_underlying ht,Result.andThen_ok]
    cases td<;>simp only[Option.some.injEq,reduceCtorEq]at hs
    case int k0=>simp
    case bool=>simp
    case string=>simp
    case struct fs=>
     split at hs
     ·injection hs with hs;subst hs
      simp only at h
      cases x<;>simp only[Bool.false_eq_true]at h
      rename_i xs
      obtain⟨arr,rfl,ha,hf⟩:=hu
      simp only
      rw[<- Array.forIn_toList]
      rw[List.all_map]at h
      generalize fs.toList=L at h
      induction L with
      |nil=>simp
      |cons f L ih=>
       simp only[List.all_cons,Bool.and_eq_true,Function.comp]at h
       obtain⟨h1,h2⟩:=h
       split at h1
       ·rename_i y hy
        obtain⟨v,k1,k2⟩:=iZ hy ha hf
        have k3:=IH _ _ h1 v k2
        by_cases hn:f.name= "_"
        ·simp only[List.forIn_cons,Sem.run_bind,hn,ne_eq,not_true_eq_false,if_false,Result.andThen_ok,Sem.run_pure]
         have:=ih h2
         simp only[Sem.run_bind,Sem.run_pure,ne_eq]at this
         exact this
        ·simp only[List.forIn_cons,Sem.run_bind,hn,ne_eq,not_false_eq_true,if_true,Result.andThen_ok,k1,k3,Sem.run_pure]
         have:=ih h2
         simp only[Sem.run_bind,Sem.run_pure,ne_eq]at this
         exact this
       ·cases h1
     ·cases hs
    case array n e=>
     split at hs
     ·rename_i hi
      injection hs with hs;subst hs
      simp only at h
      cases x<;>simp only[Bool.false_eq_true]at h
      rename_i xs
      obtain⟨arr,rfl,ha,hf⟩:=hu
      obtain⟨i,hi⟩:=Option.isSome_iff_exists.1 hi
      simp only[Std.Legacy.Range.forIn_eq_forIn_range',Std.Legacy.Range.size,Nat.sub_zero,Nat.add_one_sub_one,Nat.div_one]
      rw[List.range_eq_range']at h
      generalize List.range' 0 n=is at h
      induction is with
      |nil=>simp
      |cons j is ih=>
       simp only[List.all_cons,Bool.and_eq_true]at h
       obtain⟨h1,h2⟩:=h
       split at h1
       ·rename_i y hy
        obtain⟨v,k1,k2⟩:=iZ hy ha hf
        have k3:=IH _ _ h1 v k2
        simp only[List.forIn_cons,Sem.run_bind,ei hi,Result.andThen_ok,k1,k3,Sem.run_pure]
        have:=ih h2
        simp only[Sem.run_bind,Sem.run_pure]at this
        exact this
       ·cases h1
     ·cases hs
def lF(B:Nat->Prop)(w:World)(es:List MapEntry)(i:Nat):Option (Nat×D×D)->Option (Nat×Value)->Prop
 |none,none=>True
 |some (j,k,x),some (j',v)=>j=j'/\i<=j/\D.den B w x v/\∃e,es[j - i]? =some e/\e.val=v/\D.den B w k e.key
 |_,_=>False
theorem lF.succ {es:List MapEntry}{e:MapEntry}{i:Nat}{r:Option (Nat×D×D)}{r':Option (Nat×Value)}(h:lF B w es (i+1) r r'):lF B w (e::es) i r r':=by
 cases r with
 |none=>cases r'<;>exact h
 |some p=>
  obtain⟨j,k,x⟩:=p
  cases r' with
  |none=>exact h
  |some q=>
   obtain⟨j',v⟩:=q
   obtain⟨h1,h2,h3,e',h4,h5⟩:=h
   refine⟨h1,ad,h3,e', ?_,h5⟩
   rw[show j - i=(j - (i+1))+1 by omega]
   simpa using h4
theorem uG{kt:TypeId}{kd:D}{kv:Value}(hk:D.den B w kd kv):∀ (l:List (D×D)) (es:List MapEntry) (i:Nat) (r:Option (Nat×D×D)),aK B w l es->findD P kt kd l i=some r->
 ∃r',(Instr.findAsking kt kv es i).run P w= .ok r' w/\lF B w es i r r'
 |[],es,i,r,he,h=>by
  simp only[aK]at he;subst he
  simp only[findD,Option.some.injEq]at h;subst h
  exact⟨none,by simp[Instr.findAsking],trivial⟩
 |(k',x)::l,es,i,r,he,h=>by
  obtain⟨e,es,rfl,h1,h2,h3⟩:=he
  simp only[findD]at h
  split at h
  ·rename_i hq
   injection h with h;subst h
   have:=vI 100 kt _ _ _ hq 10000 bF B w _ _ hk h1
   refine⟨some (i,e.val),by simp[Instr.findAsking,Op.equal,Op.maxDepth,this],rfl,Nat.le_refl _,h2,e,aF,rfl,h1⟩
  ·rename_i hq
   have:=vI 100 kt _ _ _ hq 10000 bF B w _ _ hk h1
   obtain⟨r',g1,g2⟩:=uG hk l es (i+1) r h3 h
   exact⟨r',by simp[Instr.findAsking,Op.equal,Op.maxDepth,this,g1],g2.succ⟩
  ·cases h
theorem uH{td:TypeDesc}{kt:TypeId}(ht:P.underlying kt=some td)(hn:(match td with| .int _| .bool| .string=>true|_=>false)=true){x y:D}{r:Bool}(h:rh P 100 kt x y=some r){u v:Value}(hu:D.den B w x u)(hv:D.den B w y v):
 Instr.sameNow td u v=some r:=by
 unfold rh b8 at h
 rw[ht]at h
 cases td<;>simp only[Bool.false_eq_true]at hn<;>simp only at h
 ·split at h
  ·injection h with h;subst h
   simp only[D.den]at hu hv;subst hu;subst hv;rfl
  ·cases h
 ·split at h
  ·split at h
   ·rename_i e;subst e;injection h with h;subst h
    simp only[D.den]at hu hv;subst hu;subst hv;simp[Instr.sameNow]
   ·cases h
  ·cases h
 ·split at h
  ·injection h with h;subst h
   obtain⟨s1,rfl,rfl⟩:=hu
   obtain⟨s2,rfl,rfl⟩:=hv
   simp only[Instr.sameNow,Option.some.injEq]
   obtain⟨⟨a⟩⟩:=s1
   obtain⟨⟨b⟩⟩:=s2
   rw[Bool.eq_iff_iff,MapKept.bytes_beq]
   simp
  ·cases h
theorem uI{td:TypeDesc}{kt:TypeId}(ht:P.underlying kt=some td)(hn:(match td with| .int _| .bool| .string=>true|_=>false)=true){kd:D}{kv:Value}(hk:D.den B w kd kv):∀ (l:List (D×D)) (es:List MapEntry) (i:Nat) (r:Option (Nat×D×D)),aK B w l es->findD P kt kd l i=some r->
 ∃r',Instr.findNow td kv es i=some r'/\lF B w es i r r'
 |[],es,i,r,he,h=>by
  simp only[aK]at he;subst he
  simp only[findD,Option.some.injEq]at h;subst h
  exact⟨none,by simp[Instr.findNow],trivial⟩
 |(k',x)::l,es,i,r,he,h=>by
  obtain⟨e,es,rfl,h1,h2,h3⟩:=he
  simp only[findD]at h
  split at h
  ·rename_i hq
   injection h with h;subst h
   have:=uH ht hn hq hk h1
   refine⟨some (i,e.val),by simp[Instr.findNow,this],rfl,Nat.le_refl _,h2,e,aF,rfl,h1⟩
  ·rename_i hq
   have:=uH ht hn hq hk h1
   obtain⟨r',g1,g2⟩:=uI ht hn hk l es (i+1) r h3 h
   exact⟨r',by simp[Instr.findNow,this,g1],g2.succ⟩
  ·cases h
theorem gZ{kt:TypeId}{kd:D}{kv:Value}(hk:D.den B w kd kv)(hc:pP P 100 kt kd=true){l:List (D×D)}{es:List MapEntry}{r:Option (Nat×D×D)}(he:aK B w l es)(h:findD P kt kd l 0=some r):
 ∃r',(Instr.findKey kt kv es).run P w= .ok r' w/\lF B w es 0 r r':=by
 unfold pP b8 at hc
 cases ht:P.underlying kt with
 |none=>simp[ht]at hc
 |some td=>
  have now:(match td with| .int _| .bool| .string=>true|_=>false)=true->∃r',(Instr.findKey kt kv es).run P w= .ok r' w/\lF B w es 0 r r':=by
   intro hn
   obtain⟨r',g1,g2⟩:=uI ht hn hk l es 0 r he h
   exact⟨r',MapKept.run_findKey ht g1,g2⟩
  have ask:(match P.underlying kt with|some (.array _ _)|some (.struct _)=>true|_=>false)=true->∃r',(Instr.findKey kt kv es).run P w= .ok r' w/\lF B w es 0 r r':=by
   intro hn
   obtain⟨r',g1,g2⟩:=uG hk l es 0 r he h
   exact⟨r',(run_findKey_eq w hn kv es).trans g1,g2⟩
  cases td<;>first
   |exact now rfl
   |(refine ask ?_;rw[ht];done)
   |(exfalso;simp[ht]at hc)
theorem aK.get:∀ {l:List (D×D)} {es:List MapEntry} {i:Nat} {e:MapEntry},aK B w l es->es[i]? =some e->∃p,l[i]? =some p/\D.den B w p.1 e.key/\D.den B w p.2 e.val
 |[],es,i,e,h,hi=>by simp only[aK]at h;subst h;simp at hi
 |(k,x)::l,es,i,e,h,hi=>by
  obtain⟨e',es,rfl,h1,h2,h3⟩:=h
  cases i with
  |zero=>simp at hi;subst hi;exact⟨(k,x),aF,h1,h2⟩
  |succ i=>simpa using aK.get h3 (by simpa using hi)
theorem aK.push:∀ {l:List (D×D)} {es:List MapEntry} {k x:D} {e:MapEntry},aK B w l es->D.den B w k e.key->D.den B w x e.val->aK B w (l++[(k,x)]) (es++[e])
 |[],es,k,x,e,h,h1,h2=>by simp only[aK]at h;subst h;exact⟨e,[],rfl,h1,h2,rfl⟩
 |(k',x')::l,es,k,x,e,h,h1,h2=>by
  obtain⟨e',es,rfl,g1,g2,g3⟩:=h
  exact⟨e',es++[e],rfl,g1,g2,aK.push g3 h1 h2⟩
theorem aK.set:∀ {l:List (D×D)} {es:List MapEntry} {i:Nat} {k x:D} {e:MapEntry},aK B w l es->D.den B w k e.key->D.den B w x e.val->aK B w (l.set i (k,x)) (es.set i e)
 |[],es,i,k,x,e,h,h1,h2=>by simp only[aK]at h;subst h;rfl
 |(k',x')::l,es,i,k,x,e,h,h1,h2=>by
  obtain⟨e',es,rfl,g1,g2,g3⟩:=h
  cases i with
  |zero=>exact⟨e,es,rfl,h1,h2,g3⟩
  |succ i=>exact⟨e',es.set i e,rfl,g1,g2,aK.set g3 h1 h2⟩
theorem Dj(hH:aB M φ H w)(dn: ¬H.us fr){t:TypeId}(h:dz (nX P fr t) K):db M φ H w fr ((do let v <- Instr.makeMap t none;pure (Next.value v):Sem Next).run P w) K:=by
 have hg:=dO h
 clear h
 obtain⟨v,Δ,rd,h,hK⟩:=hg
 unfold nX at h
 split at h
 ·rename_i kt vt ht
  injection h with h;injection h with e1 e2;injection e2 with e2 e3;subst e1;subst e2;subst e3
  have hv:∀b,dY (.map (some w.heap.size))=some b->w.heap.size<=b/\b<(w.alloc (.map #[] 0)).heap.size:=by
   intro b hb;simp[dY]at hb;subst hb;simp
  have QD:=eh (φ:=φ) (H:=H) (cE w (.map #[] 0)) dn (.map kt vt []) (.map (some w.heap.size)) fun b hb=>(hv b hb).1
  refine⟨_, .map (some w.heap.size),w.alloc (.map #[] 0),aw φ fr (.map (some w.heap.size)),_,_,_,hK,by simp[Instr.makeMap], .inl rfl,jv hH (cE w _) dn _ _ hv ?_,QD,⟨rfl,aF,fun _=>aF⟩,fun j hj=> .inr nU⟩
  unfold aU
  simp only[bS,aQ,if_true]
  exact⟨w.heap.size,#[],0,rfl,heap_alloc_new w _,⟨fun e he=>by simp at he,aF⟩,rfl⟩
 ·cases h
theorem wO{o:Nat->aa}{m:V}{r:Option (Nat×TypeId×TypeId)}{l:List (D×D)}(h:p9 o m=some (r,l)):(∃id kt vt,m= .mp id/\o id= .map kt vt l/\r=some (id,kt,vt))\/(m= .d .dX/\r=none/\l=[]):=by
 unfold p9 at h
 split at h
 ·split at h
  ·rename_i ho
   simp only[Option.some.injEq,Prod.mk.injEq]at h;obtain⟨rfl,rfl⟩:=h;exact .inl ⟨_,_,_,rfl,ho,rfl⟩
  ·cases h
 ·simp only[Option.some.injEq,Prod.mk.injEq]at h;obtain⟨rfl,rfl⟩:=h;exact .inr ⟨rfl,rfl,rfl⟩
 ·cases h
theorem M6{ks vs:List D}{es:List MapEntry}(h1:D.aG B w ks (es.map (·.key)))(h2:D.aG B w vs (es.map (·.val))):aK B w (ks.zip vs) es:=by
 have e1:=D.aE _ _ h1
 have e2:=D.aE _ _ h2
 simp only[List.length_map]at e1 e2
 refine(mw _ _).2 ?_
 rw[List.map_fst_zip (by omega),List.map_snd_zip (by omega)]
 exact⟨h1,h2⟩
def wP(l l':List (D×D)):Prop:=l'=l\/(l'.Perm l/\A3 (l.map (·.1)))
theorem wP.perm {l l':List (D×D)}(h:wP l l'):l'.Perm l:=by
 rcases h with rfl|h
 ·exact List.Perm.refl _
 ·exact h.1
theorem Kz{p q:List MapEntry}(hpq:p.Perm q):∀ {l:List (D×D)},aK B w l p->∃l',l'.Perm l/\aK B w l' q:=by
 induction hpq with
 |nil=>intro l h;exact⟨l,List.Perm.refl _,h⟩
 |cons x _ ih=>
  intro l h
  cases l with
  |nil=>cases h
  |cons y l=>
   obtain⟨k,v⟩:=y
   obtain⟨e,es,h0,h1,h2,h3⟩:=h
   injection h0 with h0 Bd;subst h0;subst Bd
   obtain⟨l',g1,g2⟩:=ih h3
   exact⟨(k,v)::l',g1.cons _,_,_,rfl,h1,h2,g2⟩
 |swap x y t=>
  intro l h
  match l,h with
  |[],h=>cases h
  |[(_,_)],h=>obtain⟨e,es,h0,_,_,h3⟩:=h;injection h0 with _ h0;have h3:es=[]:=h3;rw[h3]at h0;cases h0
  |(k,v)::(k',v')::l,h=>
   obtain⟨e,es,h0,h1,h2,e',es',Bd,fP,l7,h3⟩:=h
   subst Bd
   injection h0 with a b;subst a;injection b with b c;subst b;subst c
   exact⟨(k',v')::(k,v)::l,List.Perm.swap _ _ _,_,_,rfl,fP,l7,_,_,rfl,h1,h2,h3⟩
 |trans _ _ ih1 ih2=>
  intro l h
  obtain⟨l1,g1,g2⟩:=ih1 h
  obtain⟨l2,g3,g4⟩:=ih2 g2
  exact⟨l2,g3.trans g1,g4⟩
theorem tF{l:List (D×D)}{p:List MapEntry}{es:Array MapEntry}(hp:p=es.toList\/(p.Perm es.toList/\A3 (l.map (·.1))))(h:aK B w l p):∃l',wP l l'/\aK B w l' es.toList:=by
 rcases hp with rfl|⟨h1,h2⟩
 ·exact⟨l, .inl rfl,h⟩
 ·obtain⟨l',g1,g2⟩:=Kz h1 h
  exact⟨l', .inr ⟨g1,h2⟩,g2⟩
theorem qB{l:List (D×D)}{v:Value}(h:D.den B w (.mp (l.map (·.1)) (l.map (·.2))) v):∃m es clock l',v= .map (some m)/\w.heap[m]? =some (.map es clock)/\ ¬B m/\jw es clock/\wP l l'/\aK B w l' es.toList:=by
 obtain⟨m,es,clock,p,h1,h2,h3,h4,hp,h5,h6⟩:=h
 obtain⟨l',g1,g2⟩:=tF hp ((mw _ _).2 ⟨h5,h6⟩)
 exact⟨m,es,clock,l',h1,h2,h3,h4,g1,g2⟩
theorem Dk{ks vs:List D}{p:List MapEntry}(h1:D.aG B w ks (p.map (·.key)))(h2:D.aG B w vs (p.map (·.val))):(ks.zip vs).map (·.1)=ks:=by
 have e1:=D.aE _ _ h1
 have e2:=D.aE _ _ h2
 simp only[List.length_map]at e1 e2
 exact List.map_fst_zip ad
theorem Q5{P:Program}{kt:TypeId}{kd:D}{n:Int}{b:Bool}(h:rh P 100 kt kd (.int .i64 n)=some b):b8 P kt=some .int/\∃m,kd= .int .i64 m/\b=(m==n):=by
 unfold rh at h
 cases hs:b8 P kt with
 |none=>simp[hs]at h
 |some sh=>
  cases sh<;>simp only[hs]at h
  case int=>
   cases kd<;>simp only at h
   all_goals first
    |(cases h;done)
    |(split at h
      ·rename_i e;subst e;injection h with h;exact⟨rfl,_,rfl,h.symm⟩
      ·cases h)
  all_goals first
   |(cases kd<;>simp at h;done)
   |(simp at h;done)
theorem qC{P:Program}{kt:TypeId}{m:Int}(hs:b8 P kt=some .int):∀ (l:List (D×D)) (i:Nat),(∀k∈l.map (·.1),∃n,k= .int .i64 n)->∃r,findD P kt (.int .i64 m) l i=some r/\(match r with|some (_,_,x)=>(D.int .i64 m,x)∈l|none=>∀x,(D.int .i64 m,x)∉l)
 |[],i,_=>⟨none,rfl,aF⟩
 |(k,x)::l,i,h=>by
  obtain⟨n,rfl⟩:=h k aF
  have he:rh P 100 kt (.int .i64 m) (.int .i64 n)=some (m==n):=by simp[rh,hs]
  simp only[findD,he]
  by_cases e:m=n
  ·subst e
   exact⟨some (i, .int .i64 m,x),aF,aF⟩
  ·have e2:(m==n)=false:=by simpa using e
   obtain⟨r,h1,h2⟩:=qC hs l (i+1) (fun k hk=>h k (by simp at hk|-;exact .inr hk))
   refine⟨r,by simp only[e2];exact h1, ?_⟩
   cases r with
   |none=>intro y hy;rcases List.mem_cons.1 hy with hy|hy
          ·injection hy with hy _;injection hy with _ hy;exact e hy
          ·exact h2 y hy
   |some p=>exact List.mem_cons_of_mem _ h2
theorem KA{L:List (D×D)}(hn:(L.map (·.1)).Nodup){k x x':D}(f2:(k,x)∈L)(f4:(k,x')∈L):x'=x:=by
 induction L with
 |nil=>cases f2
 |cons y L ih=>
  rw[List.map_cons,List.nodup_cons]at hn
  rcases List.mem_cons.1 f2 with e1|e1<;>rcases List.mem_cons.1 f4 with e2|e2
  ·rw[<- e1]at e2;injection e2
  ·exact absurd (by rw[<- e1];exact List.mem_map.2 ⟨_,e2,rfl⟩) hn.1
  ·exact absurd (by rw[<- e2];exact List.mem_map.2 ⟨_,e1,rfl⟩) hn.1
  ·exact ih hn.2 e1 e2
theorem zP{P:Program}{kt:TypeId}{kd:D}{l l':List (D×D)}{r:Option (Nat×D×D)}(hl:wP l l')(h:findD P kt kd l 0=some r):∃r',findD P kt kd l' 0=some r'/\(match r,r' with|some (_,_,x),some (_,_,x')=>x'=x|none,none=>True|_,_=>False):=by
 rcases hl with rfl|⟨hp,hk⟩
 ·refine⟨r,h, ?_⟩
  cases r<;>trivial
 ·cases l with
  |nil=>
   have:l'=[]:=hp.eq_nil
   subst this
   refine⟨r,h, ?_⟩
   cases r<;>trivial
  |cons p l=>
   obtain⟨k0,x0⟩:=p
   obtain⟨n0,rfl⟩:=hk.2 k0 aF
   have hb:∃b,rh P 100 kt kd (.int .i64 n0)=some b:=by
    simp only[findD]at h
    cases he:rh P 100 kt kd (.int .i64 n0)with
    |none=>rw[he]at h;cases h
    |some b=>exact⟨b,rfl⟩
   obtain⟨b,hb⟩:=hb
   obtain⟨hs,m,rfl,_⟩:=Q5 hb
   obtain⟨r1,f1,f2⟩:=qC (m:=m) hs ((.int .i64 n0,x0)::l) 0 hk.2
   rw[h]at f1;injection f1 with f1;subst f1
   obtain⟨r',f3,f4⟩:=qC (m:=m) hs l' 0 (fun k hkk=>hk.2 k ((hp.map _).mem_iff.1 hkk))
   refine⟨r',f3, ?_⟩
   cases r with
   |none=>
    cases r' with
    |none=>trivial
    |some q=>obtain⟨_,_,x'⟩:=q;exact f2 x' (hp.mem_iff.1 f4)
   |some q=>
    obtain⟨_,_,x⟩:=q
    cases r' with
    |none=>exact f4 x (hp.mem_iff.2 f2)
    |some q'=>
     obtain⟨_,_,x'⟩:=q'
     exact KA hk.1 f2 (hp.mem_iff.1 f4)
theorem zQ{ks vs:List D}{p:List MapEntry}(h1:D.aG B w ks (p.map (·.key)))(h2:D.aG B w vs (p.map (·.val))):aK B w (ks.zip vs) p:=M6 h1 h2
theorem FZ(hH:aB M φ H w){m:V}{mv:Value}{rd:List Nat}{l:List (D×D)}(hm:V.den (aq M φ H) φ H w m mv)(h:rz H.o m=some (rd,l)):
 (mv= .map none/\l=[])\/∃b es clock l',mv= .map (some b)/\w.heap[b]? =some (.map es clock)/\jw es clock/\wP l l'/\aK (aq M φ H) w l' es.toList:=by
 unfold rz at h
 split at h
 ·rename_i id
  obtain⟨LX,Qg,CA⟩:=hm
  have a8:=hH.ok id
  split at h
  ·rename_i ho
   simp only[Option.some.injEq,Prod.mk.injEq]at h;obtain⟨rfl,rfl⟩:=h
   simp only[aU,ho]at a8
   obtain⟨b,es,clock,g1,g2,g0,g3⟩:=a8
   exact .inr ⟨b,es,clock,_,(CA eY).trans g1,g2,g0, .inl rfl,g3⟩
  ·rename_i ho
   simp only[Option.some.injEq,Prod.mk.injEq]at h;obtain⟨rfl,rfl⟩:=h
   simp only[aU,ho]at a8
   obtain⟨b,es,clock,l',g1,g2,_,g0,g3⟩:=qB a8.den
   exact .inr ⟨b,es,clock,l',(CA eY).trans g1,g2,g0,g3⟩
  ·cases h
 ·simp only[Option.some.injEq,Prod.mk.injEq]at h;obtain⟨rfl,rfl⟩:=h
  simp only[V.den,D.den]at hm
  exact .inl ⟨hm,rfl⟩
 ·simp only[Option.some.injEq,Prod.mk.injEq]at h;obtain⟨rfl,rfl⟩:=h
  obtain⟨b,es,clock,p,g1,g2,_,g0,gp,g3,g4⟩:=hm
  obtain⟨l',g5,g6⟩:=tF (by rw[Dk g3 g4];exact gp) (zQ g3 g4)
  exact .inr ⟨b,es,clock,l',g1,g2,g0,g5,g6⟩
 ·cases h
theorem F0(hH:aB M φ H w){t:TypeId}{m k:V}{mv kv:Value}{ok:Bool}(hm:V.den (aq M φ H) φ H w m mv)(hk:V.den (aq M φ H) φ H w k kv)(h:dz (jZ P H.o t m k ok) K):
 db M φ H w fr ((do let v <- Instr.lookup t mv kv ok;pure (Next.value v):Sem Next).run P w) K:=by
 have hg:=dO h
 clear h
 obtain⟨v,Δ,rd,h,hK⟩:=hg
 unfold jZ at h
 split at h
 ·rename_i kt vt kd rd0 l ht hkd Fq
  split at h
  ·rename_i hc
   have lG:D.den (aq M φ H) w kd kv:=fg hH k kd kv (fun id ay=>by rw[hc.1]at ay;cases ay) hkd hk
   have Qh:∀em,(Instr.checkKey em 10000 kt kv).run P w= .ok () w:=fun em=>rK em 100 kt kd hc.2 10000 bF kv lG
   have LY:=tE ht
   have agw:∃ (es:Array MapEntry) (l':List (D×D)),wP l l'/\aK (aq M φ H) w l' es.toList/\∀ (r':Option (Nat×Value)) (val:Value),(Instr.findKey kt kv es.toList).run P w= .ok r' w->(match r' with|some (_,u)=>val=(if ok=true then .tuple #[u, .bool true]else u)|none=>∃z,(zeroValue vt).run P w= .ok z w/\val=(if ok=true then .tuple #[z, .bool false]else z))->(Instr.lookup t mv kv ok).run P w= .ok val w:=by
    rcases FZ hH hm Fq with⟨rfl,rfl⟩|⟨b,es,clock,l',rfl,g2,_,gl,g3⟩
    case inr=>
     have qs:=MapKept.run_getObj_map (P:=P) g2
     refine⟨es,l',gl,g3,fun r' val q1 q2=> ?_⟩
     cases r' with
     |some p=>obtain⟨j,u⟩:=p;simp only at q2;subst q2;cases ok<;>simp[Instr.lookup,run_underlying LY,qs,Qh,q1]
     |none=>obtain⟨z,z1,rfl⟩:=q2;cases ok<;>simp[Instr.lookup,run_underlying LY,qs,Qh,q1,z1]
    case inl=>
     refine⟨#[],[], .inl rfl,rfl,fun r' val q1 q2=> ?_⟩
     cases r' with
     |some p=>obtain⟨j,u⟩:=p;simp only at q2;subst q2;cases ok<;>simp[Instr.lookup,run_underlying LY,Qh,q1]
     |none=>obtain⟨z,z1,rfl⟩:=q2;cases ok<;>simp[Instr.lookup,run_underlying LY,Qh,q1,z1]
   obtain⟨es,l',gl,g3,run⟩:=agw
   split at h
   ·rename_i j kk x hf
    injection h with h;injection h with e1 e2;injection e2 with e2 e3;subst e1;subst e2;subst e3
    obtain⟨r2,hf2,uJ⟩:=zP gl hf
    obtain⟨r',q1,q2⟩:=gZ lG hc.2 g3 hf2
    cases r2 with
    |none=>exact uJ.elim
    |some p2=>
    obtain⟨_,_,x2⟩:=p2
    have hx2:x2=x:=uJ
    obtain rfl:=hx2
    cases r' with
    |none=>exact q2.elim
    |some p=>
     obtain⟨j',u⟩:=p
     obtain⟨_,_,M7,_⟩:=q2
     refine db.plain (v:=(if ok=true then .cf [.d x2, .d (.bool true)]else .d x2)) hH (if ok=true then .tuple #[u, .bool true]else u) hK (run _ _ q1 rfl) ?_
     cases ok
     ·exact M7
     ·exact⟨#[u, .bool true],rfl,u,[.bool true],rfl,M7, .bool true,[],rfl,rfl,rfl⟩
   ·rename_i hf
    split at h
    ·rename_i z hz
     injection h with h;injection h with e1 e2;injection e2 with e2 e3;subst e1;subst e2;subst e3
     obtain⟨r2,hf2,uJ⟩:=zP gl hf
     obtain⟨r',q1,q2⟩:=gZ lG hc.2 g3 hf2
     cases r2 with
     |some p2=>exact uJ.elim
     |none=>
     cases r' with
     |some p=>exact q2.elim
     |none=>
      obtain⟨val,z1,z2⟩:=tD (M:=M) (φ:=φ) (H:=H) (w:=w) hz
      refine db.plain hH (if ok=true then .tuple #[val, .bool false]else val) hK (run _ _ q1 ⟨val,z1,rfl⟩) ?_
      cases ok
      ·exact z2
      ·exact⟨#[val, .bool false],rfl,val,[.bool false],rfl,z2, .bool false,[],rfl,rfl,rfl⟩
    ·cases h
   ·cases h
  ·cases h
 ·cases h
theorem jC{es:Array MapEntry}{i:Nat}{e:MapEntry}(f:MapEntry->MapEntry)(h:es.toList[i]? =some e):(es.modify i f).toList=es.toList.set i (f e):=by
 apply List.ext_getElem?
 intro j
 simp only[Array.getElem?_toList,Array.getElem?_modify]
 rw[List.getElem?_set]
 have h':es[i]? =some e:=by simpa using h
 by_cases hj:i=j
 ·subst hj
  have cD:i<es.toList.length:=by
   rw[List.getElem?_eq_some_iff]at h;exact h.1
  simp only[if_true,h',Option.map_some,cD]
 ·simp[hj]
theorem F1{es:Array MapEntry}{clock:Nat}(h:jw es clock){e:MapEntry}(he:e.born=clock):jw (es.push e) (clock+1):=by
 obtain⟨h1,h2⟩:=h
 refine⟨fun x hx=> ?_, ?_⟩
 ·rw[Array.toList_push]at hx
  rcases List.mem_append.1 hx with hx|hx
  ·have:=h1 x hx;omega
  ·simp at hx;subst hx;omega
 ·rw[Array.toList_push,List.map_append,List.nodup_append]
  refine⟨h2,aF,fun a ha b hb=> ?_⟩
  obtain⟨x,hx,rfl⟩:=List.mem_map.1 ha
  simp only[List.map_cons,List.map_nil,List.mem_singleton]at hb
  have:=h1 x hx
  omega
theorem Be{es:Array MapEntry}{clock i:Nat}(h:jw es clock){e:MapEntry}(hi:es.toList[i]? =some e){f:MapEntry->MapEntry}(hf:(f e).born=e.born):jw (es.modify i f) clock:=by
 obtain⟨h1,h2⟩:=h
 unfold jw
 rw[jC f hi]
 have e1:(es.toList.set i (f e)).map (·.born)=es.toList.map (·.born):=by
  rw[List.map_set,hf]
  apply List.ext_getElem?
  intro j
  rw[List.getElem?_set]
  by_cases hj:i=j
  ·subst hj
   have cD:=(List.getElem?_eq_some_iff.1 hi).1
   rw[if_pos rfl,if_pos (by simpa using cD),List.getElem?_map,hi];rfl
  ·rw[if_neg hj]
 refine⟨fun x hx=> ?_,by rw[e1];exact h2⟩
 obtain⟨j,hj⟩:=List.mem_iff_getElem?.1 (List.mem_map.2 ⟨x,hx,rfl⟩:x.born∈(es.toList.set i (f e)).map (·.born))
 rw[e1]at hj
 obtain⟨y,hy,e2⟩:=List.mem_map.1 (List.mem_of_getElem? hj)
 have:=h1 y hy
 omega
theorem Dl{es:Array MapEntry}{clock i:Nat}(h:jw es clock):jw (es.eraseIdxIfInBounds i) clock:=by
 obtain⟨h1,h2⟩:=h
 have e:(es.eraseIdxIfInBounds i).toList=es.toList.eraseIdx i:=aF
 unfold jw
 rw[e]
 exact⟨fun x hx=>h1 x (List.mem_of_mem_eraseIdx hx),h2.sublist (List.Sublist.map _ (List.eraseIdx_sublist ..))⟩
theorem aK.erase:∀ {l:List (D×D)} {es:List MapEntry} {i:Nat},aK B w l es->aK B w (l.eraseIdx i) (es.eraseIdx i)
 |[],es,i,h=>by simp only[aK]at h;subst h;simp[aK]
 |(k',x')::l,es,i,h=>by
  obtain⟨e',es,rfl,g1,g2,g3⟩:=h
  cases i with
  |zero=>exact g3
  |succ i=>exact⟨e',es.eraseIdx i,rfl,g1,g2,aK.erase g3⟩
theorem M8(hH:aB M φ H w){id b clock clock':Nat}{kt vt:TypeId}{l l':List (D×D)}{es es':Array MapEntry}(eE:H.us id)(ho:H.o id= .map kt vt l)(fA:φ id= .map (some b))(g2:w.heap[b]? =some (.map es clock))(h0:jw es' clock')(hl:aK (aq M φ H) w l' es'.toList):
 aB M φ (H.put [(id, .map kt vt l')]) {w with heap:=w.heap.setIfInBounds b (.map es' clock')}/\Trans φ H w φ (H.put [(id, .map kt vt l')]) {w with heap:=w.heap.setIfInBounds b (.map es' clock')}:=by
 have M9:dZ (· =b) w {w with heap:=w.heap.setIfInBounds b (.map es' clock')}:=
  ⟨rfl,rfl,rfl,aF,fun j _ hj=>(MapKept.heap_set g2).2 j hj⟩
 have qf:(H.o id).live=true:=by rw[ho];rfl
 have Ic:dY (φ id)=some b:=by rw[fA];rfl
 have Fs:=fH (w:=w) (w':={w with heap:=w.heap.setIfInBounds b (.map es' clock')}) eE qf Ic M9 (.map kt vt l') eY eY
 refine⟨jb hH eE qf Ic M9 _ eY eY ?_,Fs⟩
 unfold aU
 simp only[bS,aQ,if_true]
 exact⟨b,es',clock',fA,(MapKept.heap_set g2).1,h0,aK.mono (Fs.blocks (M:=M)) l' _ hl⟩
theorem F2(hH:aB M φ H w){t:TypeId}{ts:Array TypeId}{m k:V}{mv kv:Value}(yP:ts.toList.head?=some t)(hm:V.den (aq M φ H) φ H w m mv)(hk:V.den (aq M φ H) φ H w k kv){ty0:TypeId}
 (h:dz (pb P H.o t m k) K):db M φ H w fr ((do let v <- Builtin.delete_ ts ty0 #[mv,kv];pure (Next.value v):Sem Next).run P w) K:=by
 have hg:=dO h
 clear h
 obtain⟨v',Δ,rd,h,hK⟩:=hg
 have ht0:ts[0]? =some t:=by rw[<- Array.getElem?_toList, <- List.head?_eq_getElem?];exact yP
 unfold pb at h
 split at h
 ·rename_i kt vt kd id H3 H4 l ht hkd Fq
  rcases wO Fq with⟨id2,kt2,vt2,rfl,ho,hr⟩|⟨rfl,hr,rfl⟩
  case inr=>cases hr
  injection hr with hr;injection hr with e1 e2;injection e2 with e2 e3;subst e1;subst e2;subst e3
  split at h
  ·rename_i hc
   obtain⟨c1,c2⟩:=hc
   have lG:D.den (aq M φ H) w kd kv:=fg hH k kd kv (fun id ay=>by rw[c1]at ay;cases ay) hkd hk
   have Qh:∀em,(Instr.checkKey em 10000 kt kv).run P w= .ok () w:=fun em=>rK em 100 kt kd c2 10000 bF kv lG
   have LY:=tE ht
   obtain⟨LX,eE,CA⟩:=hm
   have fA:=CA eY
   have a8:=hH.ok id
   simp only[aU,ho]at a8
   obtain⟨b,es,clock,g1,g2,g0,g3⟩:=a8
   rw[<- fA]at g1;subst g1
   have qs:=MapKept.run_getObj_map (P:=P) g2
   split at h
   ·rename_i i k' x hf
    injection h with h;injection h with e1 e2;injection e2 with e2 e3;subst e1;subst e2;subst e3
    obtain⟨r',q1,q2⟩:=gZ lG c2 g3 hf
    cases r' with
    |none=>exact q2.elim
    |some p=>
     obtain⟨j',u⟩:=p
     obtain⟨rfl,_,M7,e,h4,h5,h6⟩:=q2
     have e:(es.eraseIdxIfInBounds i).toList=es.toList.eraseIdx i:=aF
     obtain⟨t1,t2⟩:=M8 (clock':=clock) (es':=es.eraseIdxIfInBounds i) (l':=l.eraseIdx i) hH eE ho fA.symm g2 (Dl g0) (by rw[e];exact g3.erase)
     refine⟨.value (.tuple #[]), .tuple #[],_,φ,_,_,_,hK, ?_, .inl rfl,t1,t2,⟨#[],rfl,rfl⟩,fun j hj=> .inl ME⟩
     simp only[Builtin.delete_,ht0,Sem.run_bind,run_underlying LY,Result.andThen_ok,qs,Qh,q1,List.getElem?_toArray,List.getElem?_cons_zero,List.getElem?_cons_succ,MapKept.run_setObj_map _ g2,Sem.run_pure]
   ·rename_i hf
    injection h with h;injection h with e1 e2;injection e2 with e2 e3;subst e1;subst e2;subst e3
    obtain⟨r',q1,q2⟩:=gZ lG c2 g3 hf
    cases r' with
    |some p=>exact q2.elim
    |none=>
     have hw:{w with heap:=w.heap.setIfInBounds b (.map es clock)}=w:=by
      have cD:b<w.heap.size:=by
       rcases Nat.lt_or_ge b w.heap.size with h|h
       ·exact h
       ·simp[Array.getElem?_eq_none h]at g2
      have:w.heap.setIfInBounds b (.map es clock)=w.heap:=by
       apply Array.ext_getElem?
       intro j
       rw[Array.getElem?_setIfInBounds]
       by_cases hj:b=j
       ·subst hj;rw[if_pos rfl,if_pos cD,g2]
       ·rw[if_neg hj]
      rw[this]
     refine⟨.value (.tuple #[]), .tuple #[],w,φ,_,_,_,hK, ?_, .inl rfl,by rw[pf];exact hH,by rw[pf];exact Trans.refl _ _ _,⟨#[],rfl,rfl⟩,aF⟩
     simp only[Builtin.delete_,ht0,Sem.run_bind,run_underlying LY,Result.andThen_ok,qs,Qh,q1,List.getElem?_toArray,List.getElem?_cons_zero,List.getElem?_cons_succ,MapKept.run_setObj_map _ g2,Sem.run_pure,hw]
   ·cases h
  ·cases h
 ·cases h
theorem Bf(H:Hp)(i j:Nat)(x y:aa):H.put [(i,x),(j,y)]=(H.put [(i,x)]).put [(j,y)]:=by rw[<- eI];rfl
theorem KC(hH:aB M φ H w)(dn: ¬H.us fr){t:TypeId}{x:V}{xv:Value}(hx:V.den (aq M φ H) φ H w x xv)(h:dz (nY P H.o fr t x) K):
 db M φ H w fr ((do let v <- Instr.range t xv;pure (Next.value v):Sem Next).run P w) K:=by
 have hg:=dO h
 clear h
 obtain⟨v,Δ,rd,h,hK⟩:=hg
 have new:∀ (jI:Place) (H1:Hp) (obj:aa) (ob:Obj),aB M jI H1 w-> ¬H1.us fr->aU M (aw jI fr (.pointer (some ⟨w.heap.size,0,none⟩))) (H1.put [(fr,obj)]) (w.alloc ob) fr->
  aB M (aw jI fr (.pointer (some ⟨w.heap.size,0,none⟩))) (H1.put [(fr,obj)]) (w.alloc ob)/\Trans jI H1 w (aw jI fr (.pointer (some ⟨w.heap.size,0,none⟩))) (H1.put [(fr,obj)]) (w.alloc ob):=by
  intro jI H1 obj ob h1 h2 h3
  have hv:∀b,dY (.pointer (some ⟨w.heap.size,0,none⟩))=some b->w.heap.size<=b/\b<(w.alloc ob).heap.size:=by
   intro b hb;simp[dY]at hb;subst hb;simp
  exact⟨jv h1 (cE w _) h2 _ _ hv h3,eh (cE w _) h2 _ _ fun b hb=>(hv b hb).1⟩
 have frozen:∀ (H1:Hp) (l:List (D×D)) (b:Nat) (es:Array MapEntry) (clock:Nat),aB M φ H1 w-> ¬H1.us fr->w.heap[b]? =some (.map es clock)-> ¬aq M φ H1 b->jw es clock->(∃l',l'.Perm l/\aK (aq M φ H1) w l' es.toList)->
  aU M (aw φ fr (.pointer (some ⟨w.heap.size,0,none⟩))) (H1.put [(fr, .s8 l none)]) (w.alloc (.mapIter (some b) clock #[] clock)) fr:=by
  intro H1 l b es clock h1 h2 h3 h4 h5 h6
  have ht:=eh (φ:=φ) (H:=H1) (w:=w) (w':=w.alloc (.mapIter (some b) clock #[] clock)) (cE w _) h2 (.s8 l none) (.pointer (some ⟨w.heap.size,0,none⟩)) (fun b hb=>by simp[dY]at hb;omega)
  obtain⟨k1,k2⟩:=ht.blocks (M:=M) b (.inr ⟨es,clock,h3⟩) h4
  unfold aU
  simp only[bS,aQ,if_true]
  refine⟨w.heap.size,rfl, .inr ⟨b,clock,#[],es,heap_alloc_new w _,k1.trans h3,k2,h5, ?_,fun k x e=>by cases e⟩⟩
  have e:(es.toList.filter fun e=> !(#[]:Array Nat).contains e.born)=es.toList:=List.filter_eq_self.2 (fun a _=>aF)
  rw[e]
  obtain⟨l',h6,h7⟩:=h6
  exact⟨l',h6,aK.mono (ht.blocks (M:=M)) l' _ h7⟩
 unfold nY at h
 split at h
 ·rename_i ht
  split at h
  ·rename_i s
   injection h with h;injection h with e1 e2;injection e2 with e2 e3;subst e1;subst e2;subst e3
   obtain⟨st,rfl,hs⟩:=hx
   have kC:st=⟨⟨s⟩⟩:=by obtain⟨⟨a⟩⟩:=st;simp at hs;subst hs;rfl
   subst kC
   obtain⟨n1,n2⟩:=new φ H (.A4 s 0) (.stringIter ⟨⟨s⟩⟩ 0) hH dn (by
    unfold aU
    simp only[bS,aQ,if_true]
    exact⟨w.heap.size,rfl,heap_alloc_new w _⟩)
   exact abG
  ·cases h
 ·rename_i ht
  split at h
  ·injection h with h;injection h with e1 e2;injection e2 with e2 e3;subst e1;subst e2;subst e3
   simp only[V.den,D.den]at hx;subst hx
   obtain⟨n1,n2⟩:=new φ H (.s8 [] none) (.mapIter none 0 #[] 0) hH dn (by
    unfold aU
    simp only[bS,aQ,if_true]
    exact⟨w.heap.size,rfl, .inl ⟨heap_alloc_new w _,rfl,rfl⟩⟩)
   exact abG
  ·rename_i ks vs
   injection h with h;injection h with e1 e2;injection e2 with e2 e3;subst e1;subst e2;subst e3
   obtain⟨b,es,clock,p,rfl,g2,g4,g0,gp,g3,g5⟩:=hx
   have qs:=MapKept.run_getObj_map (P:=P) g2
   obtain⟨l',g6,g7⟩:=tF (by rw[Dk g3 g5];exact gp) (zQ g3 g5)
   obtain⟨n1,n2⟩:=new φ H _ _ hH dn (frozen H (ks.zip vs) b es clock hH dn g2 g4 g0 ⟨l',g6.perm,g7⟩)
   exact abF
  ·rename_i id
   obtain⟨LX,eE,CA⟩:=hx
   have a8:=hH.ok id
   split at h
   ·rename_i kt vt l ho
    injection h with h;injection h with e1 e2;injection e2 with e2 e3;subst e1;subst e2;subst e3
    obtain⟨f1,f2⟩:=A9 hH eE ho
    have yy:(H.put [(id, .bZ l)]).o id= .bZ l:=aF
    have acT:=f1.ok id
    simp only[aU,yy]at acT
    obtain⟨b,es,clock,l',g1,g2,g4,g0,gl,g3⟩:=qB acT.den
    have fA:=CA eY
    rw[<- fA]at g1;subst g1
    have qs:=MapKept.run_getObj_map (P:=P) g2
    have acU: ¬ (H.put [(id, .bZ l)]).us fr:=by
     rw[eJ]
     rintro(h|h)
     ·exact dn h
     ·exact dn (h ▸ eE)
    obtain⟨n1,n2⟩:=new φ _ _ _ f1 acU (frozen _ l b es clock f1 acU g2 g4 g0 ⟨l',gl.perm,g3⟩)
    refine⟨.value (.pointer (some ⟨w.heap.size,0,none⟩)), .pointer (some ⟨w.heap.size,0,none⟩),w.alloc (.mapIter (some b) clock #[] clock),_,_,_,_,hK,by simp[Instr.range,run_underlying ht,qs], .inl rfl,by rw[Bf];exact n1,by rw[Bf];exact f2.trans n2, ?_,fun j hj=> ?_⟩
    ·rw[Bf]
     exact⟨rfl,aF,fun _=>⟨w.heap.size,aF,rfl⟩⟩
    ·simp at hj
     rcases hj with rfl|rfl
     ·exact .inl eE
     ·exact .inr rfl
   ·rename_i l ho
    injection h with h;injection h with e1 e2;injection e2 with e2 e3;subst e1;subst e2;subst e3
    simp only[aU,ho]at a8
    obtain⟨b,es,clock,l',g1,g2,g4,g0,gl,g3⟩:=qB a8.den
    have fA:=CA eY
    rw[<- fA]at g1;subst g1
    have qs:=MapKept.run_getObj_map (P:=P) g2
    obtain⟨n1,n2⟩:=new φ H _ _ hH dn (frozen H l b es clock hH dn g2 g4 g0 ⟨l',gl.perm,g3⟩)
    exact abF
   ·cases h
  ·cases h
 ·cases h
theorem Ie(hH:aB M φ H w){id b:Nat}{obj obj':aa}{x y:Obj}(eE:H.us id)(ho:H.o id=obj)(hl:obj.live=true)(hr:obj.cF=true)(he:obj.cu=none)(KF:obj'.cF=true)(rb:obj'.cu=none)(fA:φ id= .pointer (some ⟨b,0,none⟩))(g2:w.heap[b]? =some x){w1:World}(hw1:w1.os=w.os/\w1.tape=w.tape/\w1.output=w.output/\w1.heap=w.heap)
 (wG:Trans φ H w φ (H.put [(id,obj')]) {w1 with heap:=w.heap.setIfInBounds b y}->aU M φ (H.put [(id,obj')]) {w1 with heap:=w.heap.setIfInBounds b y} id):
 aB M φ (H.put [(id,obj')]) {w1 with heap:=w.heap.setIfInBounds b y}/\Trans φ H w φ (H.put [(id,obj')]) {w1 with heap:=w.heap.setIfInBounds b y}:=by
 have M9:dZ (· =b) w {w1 with heap:=w.heap.setIfInBounds b y}:=
  ⟨hw1.1,hw1.2.1,hw1.2.2.1,aF,fun j _ hj=>by
   show(w.heap.setIfInBounds b y)[j]? =_
   rw[Array.getElem?_setIfInBounds,if_neg (fun e=>hj e.symm)]⟩
 have qf:(H.o id).live=true:=by rw[ho];exact hl
 have Ic:dY (φ id)=some b:=by rw[fA];rfl
 have Fs:=fH (w:=w) eE qf Ic M9 obj' (by rw[ho,hr,KF]) (by rw[ho,he,rb])
 exact⟨jb hH eE qf Ic M9 _ (by rw[ho,hr,KF]) (by rw[ho,he,rb]) (wG Fs),Fs⟩
theorem Dm(hH:aB M φ H w){x:V}{xv:Value}{str:Bool}{ty:TypeId}(hx:V.den (aq M φ H) φ H w x xv)(h:dz (qa H.o x str) K):
 db M φ H w fr ((do let v <- Instr.next xv str ty;pure (Next.value v):Sem Next).run P w) K:=by
 have hg:=dO h
 clear h
 obtain⟨v,Δ,rd,h,hK⟩:=hg
 unfold qa at h
 split at h
 ·rename_i id
  obtain⟨_,eE,CA⟩:=hx
  split at h
  ·rename_i s pos ho
   split at h
   ·rename_i agx
    subst agx
    obtain⟨b0,q1,rfl⟩:=CA eY
    have a8:=hH.ok id
    simp only[aU,ho]at a8
    obtain⟨b,g1,g2⟩:=a8
    rw[q1]at g1;injection g1 with g1;injection g1 with g1;injection g1 with g1;subst g1
    have eD:(ByteArray.mk ⟨s⟩).size=s.length:=rfl
    split at h
    ·rename_i cD
     injection h with h;injection h with e1 e2;injection e2 with e2 e3;subst e1;subst e2;subst e3
     obtain⟨n1,n2⟩:=Ie (w1:=w) (y:= .stringIter ⟨⟨s⟩⟩ (pos+(Utf8.decode ⟨⟨s⟩⟩ pos).2)) (obj':= .A4 s (pos+(Utf8.decode ⟨⟨s⟩⟩ pos).2)) hH eE ho rfl rfl rfl rfl rfl q1 g2 ⟨rfl,rfl,rfl,rfl⟩ (fun _=>by
      unfold aU
      simp only[bS,aQ,if_true]
      refine⟨b0,q1, ?_⟩
      have cD:b0<w.heap.size:=by
       rcases Nat.lt_or_ge b0 w.heap.size with h|h
       ·exact h
       ·simp[Array.getElem?_eq_none h]at g2
      show(w.heap.setIfInBounds b0 _)[b0]? =_
      rw[Array.getElem?_setIfInBounds,if_pos rfl,if_pos cD])
     refine⟨.value (.tuple #[.bool true,goInt pos, .int .i32 (Utf8.decode ⟨⟨s⟩⟩ pos).1]),_,_,φ,_,_,_,hK, ?_, .inl rfl,n1,n2,⟨_,rfl, .bool true,_,rfl,rfl,_,_,rfl,rfl,_,_,rfl,rfl,rfl⟩,fun j hj=> .inl ME⟩
     simp only[Instr.next,getObj,setObj,Sem.run_bind,Sem.run,g2,Result.andThen,eD,cD,if_true]
     rfl
    ·rename_i cD
     injection h with h;injection h with e1 e2;injection e2 with e2 e3;subst e1;subst e2;subst e3
     refine db.same hH (.tuple #[.bool false]) hK ?_ ⟨_,rfl, .bool false,_,rfl,rfl,rfl⟩
     simp only[Instr.next,getObj,Sem.run_bind,Sem.run,g2,Result.andThen,eD,cD,if_false]
     rfl
   ·cases h
  ·cases h
 ·cases h
theorem Dn{es:List MapEntry}(hn:(es.map (·.born)).Nodup)(seen:Array Nat){e:MapEntry}{i:Nat}(hi:(es.filter fun e=> !seen.contains e.born)[i]? =some e):
 (es.filter fun x=> !(seen.push e.born).contains x.born)=(es.filter fun e=> !seen.contains e.born).eraseIdx i:=by
 have e1:(es.filter fun x=> !(seen.push e.born).contains x.born)=(es.filter fun e=> !seen.contains e.born).filter (fun x=>x.born !=e.born):=by
  rw[List.filter_filter]
  refine List.filter_congr fun x _=> ?_
  simp only[Array.contains_push]
  cases h1:seen.contains x.born<;>cases h2:(x.born==e.born)<;>simp_all[bne]
 rw[e1]
 have Na:((es.filter fun e=> !seen.contains e.born).map (·.born)).Nodup:=hn.sublist (List.Sublist.map _ (List.filter_sublist ..))
 generalize (es.filter fun e=> !seen.contains e.born)=L at hi Na|-
 induction L generalizing i with
 |nil=>simp at hi
 |cons y L ih=>
  obtain⟨n1,n2⟩:=List.nodup_cons.1 Na
  cases i with
  |zero=>
   simp at hi;subst hi
   simp only[List.filter_cons,bne_self_eq_false,Bool.false_eq_true,if_false,List.eraseIdx_zero,List.tail_cons]
   refine List.filter_eq_self.2 fun x hx=> ?_
   simp only[bne_iff_ne,ne_eq]
   exact fun h=>n1 (by show y.born∈_;rw[<- h];exact List.mem_map.2 ⟨x,hx,rfl⟩)
  |succ i=>
   simp only[List.getElem?_cons_succ]at hi
   have hm:=List.mem_of_getElem? hi
   have fS:(y.born !=e.born)=true:=by
    simp only[bne_iff_ne,ne_eq]
    exact fun h=>n1 (by show y.born∈_;rw[h];exact List.mem_map.2 ⟨e,hm,rfl⟩)
   rw[List.filter_cons,fS,if_pos rfl,List.eraseIdx_cons_succ,ih hi n2]
theorem Dp(hH:aB M φ H w){x:V}{xv:Value}{ty:TypeId}(hx:V.den (aq M φ H) φ H w x xv){id:Nat}{l:List (D×D)}(h:qb H.o x=some (id,l))(hK:H5 id l K):
 db M φ H w fr ((do let v <- Instr.next xv false ty;pure (Next.value v):Sem Next).run P w) K:=by
 unfold qb at h
 split at h
 ·rename_i CB
  obtain⟨_,eE,CA⟩:=hx
  split at h
  ·rename_i l' last ho
   simp only[Option.some.injEq,Prod.mk.injEq]at h
   obtain⟨rfl,rfl⟩:=h
   obtain⟨b0,q1,rfl⟩:=CA eY
   have a8:=hH.ok CB
   simp only[aU,ho]at a8
   obtain⟨b,g1,g2⟩:=a8
   rw[q1]at g1;injection g1 with g1;injection g1 with g1;injection g1 with g1;subst g1
   rcases g2 with⟨g2,rfl,_⟩|⟨m,since,seen,es,g2,g3,g4,g5,g6,_⟩
   ·refine db.same hH (.tuple #[.bool false]) (hK.1 rfl) ?_ ⟨_,rfl, .bool false,_,rfl,rfl,rfl⟩
    simp only[Instr.next,getObj,Sem.run_bind,Sem.run,g2,Result.andThen]
    rfl
   ·have UG:=next_test_false seen es since since g5.1 (Nat.le_refl _)
    have re:(es.filter fun e=> !seen.contains e.born).toList=es.toList.filter fun e=> !seen.contains e.born:=aF
    obtain⟨l1,gp,g6⟩:=g6
    rw[<- re]at g6
    have jD:∀x∈(es.filter fun e=> !seen.contains e.born).toList,x.born<since:=fun x hx=>g5.1 x (by simp at hx|-;exact hx.1)
    have agy:b0<w.heap.size:=by
     rcases Nat.lt_or_ge b0 w.heap.size with h|h
     ·exact h
     ·simp[Array.getElem?_eq_none h]at g2
    by_cases h0:(es.filter fun e=> !seen.contains e.born).size=0
    ·have hL:(es.filter fun e=> !seen.contains e.born)=#[]:=Array.eq_empty_of_size_eq_zero h0
     rw[hL]at g6
     have qf:l1=[]:=by cases l1 with|nil=>rfl|cons p l1=>obtain⟨e,es',h,_⟩:=g6;simp at h
     have vK:l'=[]:=by rw[qf]at gp;exact gp.symm.eq_nil
     refine db.same hH (.tuple #[.bool false]) (hK.1 vK) ?_ ⟨_,rfl, .bool false,_,rfl,rfl,rfl⟩
     simp only[Instr.next,getObj,Sem.run_bind,Sem.run,g2,g3,Result.andThen,UG,Bool.false_eq_true,if_false,hL]
     simp[choose,Sem.run,Question.forced]
    ·have fW:∃ (j:Nat) (e:MapEntry) (w1:World),(es.filter fun e=> !seen.contains e.born).toList[j]? =some e/\(w1.os=w.os/\w1.tape=w.tape/\w1.output=w.output/\w1.heap=w.heap)/\
      (Instr.next (.pointer (some ⟨b0,0,none⟩)) false ty).run P w= .ok (.tuple #[.bool true,e.key,e.val]) {w1 with heap:=w.heap.setIfInBounds b0 (.mapIter (some m) since (seen.push e.born) since)}:=by
      simp only[Instr.next,getObj,Sem.run_bind,Sem.run,g2,g3,Result.andThen,UG,Bool.false_eq_true,if_false]
      generalize es.filter (fun e=> !seen.contains e.born)=L at jD h0|-
      have e1:L.filter (fun x=>decide (x.born<since))=L:=Array.filter_eq_self.2 (fun x hx=>by simpa using jD x zr)
      have e2:L.filter (fun x=>decide (x.born≥since))=#[]:=by
       rw[Array.filter_eq_empty_iff]
       intro x hx
       have:=jD x zr
       simp
       omega
      have fS:L.isEmpty=false:=by simp[Array.isEmpty,h0]
      simp only[e1,e2,Array.append_empty,fS,Bool.false_eq_true,if_false,Array.empty_append,Array.size_map]
      have hch:∃ (j:Nat) (w1:World),j<L.size/\(w1.os=w.os/\w1.tape=w.tape/\w1.output=w.output/\w1.heap=w.heap)/\(choose (Question.mapNext L.size)).run P w= .ok j w1:=by
       by_cases hf:L.size<=1
       ·exact⟨0,w,ad,⟨rfl,rfl,rfl,rfl⟩,by simp[choose,Sem.run,Question.forced,hf]⟩
       ·exact⟨_,w.drew,Nat.mod_lt _ ad,⟨rfl,rfl,rfl,rfl⟩,by
         simp only[choose,Sem.run,Question.forced,decide_eq_true_eq,hf,if_false,Question.cut]
         rfl⟩
      obtain⟨j,w1,hj,Nb,fW⟩:=hch
      refine⟨j,L[j],w1,by simp[hj],Nb, ?_⟩
      have g2':w1.heap[b0]? =some (.mapIter (some m) since seen since):=by rw[Nb.2.2.2];exact g2
      simp only[fW,Array.getElem?_map,Array.getElem?_eq_getElem hj,Option.map_some,Sem.run_bind,setObj,Sem.run,g2',g2,Result.andThen,Nb.2.2.2]
      rfl
     obtain⟨j,e,w1,hje,Nb,fW⟩:=fW
     obtain⟨⟨k,x⟩,hp0,Ig,hp3⟩:=g6.get hje
     obtain⟨j2,UH,Ih⟩:=List.getElem_of_mem (gp.mem_iff.1 (List.mem_of_getElem? hp0))
     have Ih:l'[j2]? =some (k,x):=by rw[List.getElem?_eq_getElem UH,Ih]
     have gpe:(l1.eraseIdx j).Perm (l'.eraseIdx j2):=by
      have UI:∀ {L:List (D×D)} {i:Nat} {n:D×D},L[i]? =some n->L.Perm (n::L.eraseIdx i):=by
       intro L i n h
       obtain⟨hi,e⟩:=List.getElem?_eq_some_iff.1 h
       have LW:L=L.take i++n::L.drop (i+1):=by rw[<- e,List.getElem_cons_drop,List.take_append_drop]
       rw[List.eraseIdx_eq_take_drop_succ]
       conv=>lhs;rw[LW]
       exact List.perm_middle
      exact List.Perm.cons_inv (((UI hp0).symm.trans gp).trans (UI Ih))
     have Ia:e∈es.toList:=by
      have:=List.mem_of_getElem? hje
      rw[re]at this
      exact(List.mem_filter.1 this).1
     obtain⟨n1,n2⟩:=Ie (w1:=w1) (y:= .mapIter (some m) since (seen.push e.born) since) (obj':= .s8 (l'.eraseIdx j2) (some (k,x))) hH eE ho rfl rfl rfl rfl rfl q1 g2 Nb (fun ht=>by
      unfold aU
      simp only[bS,aQ,if_true]
      obtain⟨k1,k2⟩:=ht.blocks (M:=M) m (.inr ⟨es,since,g3⟩) g4
      refine⟨b0,q1, .inr ⟨m,since,seen.push e.born,es, ?_,k1.trans g3,k2,g5, ?_,fun k' x' Qi=> ?_⟩⟩
      ·show(w.heap.setIfInBounds b0 _)[b0]? =_
       rw[Array.getElem?_setIfInBounds,if_pos rfl,if_pos agy]
      ·rw[re]at hje g6
       rw[Dn g5.2 seen hje]
       exact⟨_,gpe,aK.mono (ht.blocks (M:=M)) _ _ g6.erase⟩
      ·injection Qi with Qi;injection Qi with h1 h2;subst h1;subst h2
       exact⟨e,Ia,aF,D.aV (ht.blocks (M:=M)) _ _ Ig,D.aV (ht.blocks (M:=M)) _ _ hp3⟩)
     refine⟨.value (.tuple #[.bool true,e.key,e.val]),_,_,φ,_,_,_,hK.2 j2 k x Ih, ?_, .inl rfl,n1,n2,⟨_,rfl, .bool true,_,rfl,rfl,e.key,_,rfl,D.aV (n2.blocks (M:=M)) _ _ Ig,e.val,_,rfl,D.aV (n2.blocks (M:=M)) _ _ hp3,rfl⟩,fun j hj=> .inl ME⟩
     simp only[Sem.run_bind,fW,Result.andThen_ok,Sem.run_pure]
  ·cases h
 ·cases h
theorem KG(hH:aB M φ H w){x:V}{xv:Value}(hx:V.den (aq M φ H) φ H w x xv)(h:dz (nZ H.o x) K):
 db M φ H w fr ((do let v <- Instr.entry xv;pure (Next.value v):Sem Next).run P w) K:=by
 have hg:=dO h
 clear h
 obtain⟨v,Δ,rd,h,hK⟩:=hg
 unfold nZ at h
 split at h
 ·rename_i id
  obtain⟨_,eE,CA⟩:=hx
  split at h
  ·rename_i l k x ho
   injection h with h;injection h with e1 e2;injection e2 with e2 e3;subst e1;subst e2;subst e3
   obtain⟨b0,q1,rfl⟩:=CA eY
   have a8:=hH.ok id
   simp only[aU,ho]at a8
   obtain⟨b,g1,g2⟩:=a8
   rw[q1]at g1;injection g1 with g1;injection g1 with g1;injection g1 with g1;subst g1
   rcases g2 with⟨_,_,g2⟩|⟨m,since,seen,es,g2,g3,g4,g5,g6,g7⟩
   ·cases g2
   ·obtain⟨e,h1,h2,h3,h4⟩:=g7 k x rfl
    have hf:es.find? (·.born==e.born)=some e:=by rw[<- Array.find?_toList];exact find_born e es.toList g5.2 h1
    refine db.same hH (.tuple #[e.key,e.val]) hK ?_ ⟨_,rfl,e.key,_,rfl,h3,e.val,_,rfl,h4,rfl⟩
    simp only[Instr.entry,getObj,Sem.run_bind,Sem.run,g2,g3,Result.andThen,h2,bne_self_eq_false,Bool.false_eq_true,if_false,hf]
    rfl
  ·cases h
 ·cases h
theorem qg(hH:aB M φ H w){t:TypeId}{m k v:V}{mv kv vv:Value}(hm:V.den (aq M φ H) φ H w m mv)(hk:V.den (aq M φ H) φ H w k kv)(hv:V.den (aq M φ H) φ H w v vv)
 (h:dz (gN P H.o t m k v) K):db M φ H w fr ((do Instr.mapUpdate t mv kv vv;pure Next.skip:Sem Next).run P w) K:=by
 have hg:=dO h
 clear h
 obtain⟨v',Δ,rd,h,hK⟩:=hg
 unfold gN at h
 split at h
 ·rename_i kt vt kd vd id H3 H4 l ht hkd hvd Fq
  rcases wO Fq with⟨id2,kt2,vt2,rfl,ho,hr⟩|⟨rfl,hr,rfl⟩
  case inr=>cases hr
  injection hr with hr;injection hr with e1 e2;injection e2 with e2 e3;subst e1;subst e2;subst e3
  split at h
  ·rename_i hc
   obtain⟨c1,c2,c3,c4⟩:=hc
   have lG:D.den (aq M φ H) w kd kv:=fg hH k kd kv (fun id ay=>by rw[c1]at ay;cases ay) hkd hk
   have Qh:∀em,(Instr.checkKey em 10000 kt kv).run P w= .ok () w:=fun em=>rK em 100 kt kd c2 10000 bF kv lG
   have LY:=tE ht
   ·obtain⟨LX,eE,CA⟩:=hm
    have fA:=CA eY
    have a8:=hH.ok id
    simp only[aU,ho]at a8
    obtain⟨b,es,clock,g1,g2,g0,g3⟩:=a8
    rw[<- fA]at g1;subst g1
    have qs:=MapKept.run_getObj_map (P:=P) g2
    have kZ:id∉v.ids:=fun hm=>by have:=List.all_eq_true.1 c4 id hm;simp at this
    obtain⟨f1,f2,f3,f4,f5⟩:=dh hH v.ids (c6 v _ hv)
    have yy:=(f4 id kZ).trans ho
    have UJ:=fg f1 v vd vv f3 hvd (V.aV f2 _ _ hv)
    have Nc:=D.aV (f2.blocks (M:=M)) kd kv lG
    have g3':=aK.mono (f2.blocks (M:=M)) l _ g3
    have Q3:(bK H.o v.ids).map (·.1)=v.ids:=by rw[m7];simp[Function.comp_def]
    have turn:∀ (l':List (D×D)) (es':Array MapEntry) (clock':Nat),jw es' clock'->aK (aq M φ (H.put (bK H.o v.ids))) w l' es'.toList->K (.cf []) (bK H.o v.ids++[(id, .map H3 H4 l')]) (id::v.ids)->
     (Instr.mapUpdate t (.map (some b)) kv vv).run P w= .ok () {w with heap:=w.heap.setIfInBounds b (.map es' clock')}->
     db M φ H w fr ((do Instr.mapUpdate t (.map (some b)) kv vv;pure Next.skip:Sem Next).run P w) K:=by
     intro l' es' clock' Xz hl hK hr
     have M9:dZ (· =b) w {w with heap:=w.heap.setIfInBounds b (.map es' clock')}:=
      ⟨rfl,rfl,rfl,aF,fun j _ hj=>(MapKept.heap_set g2).2 j hj⟩
     have qf:((H.put (bK H.o v.ids)).o id).live=true:=by rw[yy];rfl
     have Ic:dY (φ id)=some b:=by rw[<- fA];rfl
     have Fs:=fH (w:=w) (w':={w with heap:=w.heap.setIfInBounds b (.map es' clock')}) ((f5 id).2 eE) qf Ic M9 (.map H3 H4 l') uw uw
     refine⟨.skip,undef,_,φ,_,_,_,hK,by simp only[Sem.run_bind,hr,Result.andThen_ok];rfl, .inr ⟨rfl,rfl⟩, ?_, ?_, ?_,fun j hj=> .inl ?_⟩
     ·rw[eI]
      refine jb f1 ((f5 id).2 eE) qf Ic M9 _ uw uw ?_
      unfold aU
      simp only[bS,aQ,if_true]
      exact⟨b,es',clock',fA.symm,(MapKept.heap_set g2).1,Xz,aK.mono (Fs.blocks (M:=M)) l' _ hl⟩
     ·rw[eI];exact f2.trans Fs
     ·exact⟨#[],rfl,rfl⟩
     ·rw[List.map_append,Q3]at hj
      simp only[List.map_cons,List.map_nil,List.mem_append,List.mem_singleton]at hj
      rcases hj with hj|rfl
      ·exact c6 v _ hv j hj
      ·exact eE
    split at h
    ·rename_i i k' x hf
     split at h
     ·rename_i uK
      injection h with h;injection h with e1 e2;injection e2 with e2 e3;subst e1;subst e2;subst e3
      have hke:=D.eK _ _ uK
      subst hke
      obtain⟨r',q1,q2⟩:=gZ lG c2 g3 hf
      cases r' with
      |none=>exact q2.elim
      |some p=>
       obtain⟨j',u⟩:=p
       obtain⟨rfl,_,M7,e,h4,h5,h6⟩:=q2
       rw[Nat.sub_zero]at h4
       have hkv:=FX c3 h6 lG
       have KH:es[i]? =some e:=by simpa using h4
       refine turn _ (es.modify i fun e=>{e with key:=kv,val:=vv}) clock (Be g0 h4 rfl) ?_ hK ?_
       ·rw[jC _ h4]
        exact aK.set g3' Nc UJ
       ·have hs:=Ky (P:=P) (w':=w) c3 lG
        simp only[Instr.mapUpdate,Sem.run_bind,run_underlying LY,Result.andThen_ok,qs,Qh,q1,KH,Option.map_some,Option.getD_some,hkv,hs]
        exact MapKept.run_setObj_map _ g2
     ·cases h
    ·rename_i hf
     injection h with h;injection h with e1 e2;injection e2 with e2 e3;subst e1;subst e2;subst e3
     obtain⟨r',q1,q2⟩:=gZ lG c2 g3 hf
     cases r' with
     |some p=>exact q2.elim
     |none=>
      refine turn _ (es.push {key:=kv,val:=vv,born:=clock}) (clock+1) (F1 g0 rfl) ?_ hK ?_
      ·rw[Array.toList_push]
       exact aK.push g3' Nc UJ
      ·simp only[Instr.mapUpdate,Sem.run_bind,run_underlying LY,Result.andThen_ok,qs,Qh,q1]
       exact MapKept.run_setObj_map _ g2
    ·cases h
  ·cases h
 ·cases h
end
end
section
section
variable {P:Program}(w:World)(d:Nat){t:TypeId}
theorem acV{ms}(ht:P.underlying t=some (.interface ms)):(Op.equalIn (d+1) t .nilIface .nilIface).run P w= .ok true w:=AY
theorem abH{ms}(ht:P.underlying t=some (.interface ms))(u:TypeId)(v:Value):(Op.equalIn (d+1) t (.iface u v) .nilIface).run P w= .ok false w:=AY
theorem abI{ms}(ht:P.underlying t=some (.interface ms))(u:TypeId)(v:Value):(Op.equalIn (d+1) t .nilIface (.iface u v)).run P w= .ok false w:=AY
theorem acW{ms}(ht:P.underlying t=some (.interface ms)){a b:TypeId}{x y:D}{B:Nat->Prop}{w2:World}{u v:Value}{r:Bool}(h:eqI P a b x y=some r)(hx:D.den B w2 x u)(hy:D.den B w2 y v):(Op.equalIn (d+2) t (.iface a u) (.iface b v)).run P w= .ok r w:=by
 unfold eqI at h
 by_cases e:a=b
 ·subst e
  rw[if_pos rfl]at h
  split at h
  ·rename_i i k hi hk
   split at h
   ·rename_i hc
    split at h
    ·split at h
     ·rename_i hkk
      injection h with h;subst h
      simp only[D.den]at hx hy
      subst hx;subst hy;subst hkk
      simp[Op.equalIn,run_underlying ht,run_underlying hk,typeInfo,hi,hc]
     ·cases h
    ·cases h
   ·cases h
  ·cases h
 ·rw[if_neg e]at h
  injection h with h;subst h
  simp[Op.equalIn,run_underlying ht,e]
theorem acX{a b c}(ht:P.underlying t=some (.func a b c)):(Op.equalIn (d+1) t .nilFunc .nilFunc).run P w= .ok true w:=AY
theorem acY{a b c}(ht:P.underlying t=some (.func a b c))(f x y):(Op.equalIn (d+1) t (.func f x y) .nilFunc).run P w= .ok false w:=AY
theorem acZ{a b}(ht:P.underlying t=some (.map a b)):(Op.equalIn (d+1) t (.map none) (.map none)).run P w= .ok true w:=AY
theorem abC{a b}(ht:P.underlying t=some (.map a b))(x):(Op.equalIn (d+1) t (.map (some x)) (.map none)).run P w= .ok false w:=AY
theorem ac0{e}(ht:P.underlying t=some (.pointer e)):(Op.equalIn (d+1) t (.pointer none) (.pointer none)).run P w= .ok true w:=AY
theorem abK{e}(ht:P.underlying t=some (.pointer e))(a):(Op.equalIn (d+1) t (.pointer (some a)) (.pointer none)).run P w= .ok false w:=AY
theorem ac1{e}(ht:P.underlying t=some (.slice e))(b n c):(Op.equalIn (d+1) t (.slice b n c) (.slice none 0 0)).run P w= .ok b.isNone w:=by cases b<;>simp[Op.equalIn,run_underlying ht]
end
section
variable {P:Program}{M:Nat->Prop}{φ:Place}{H:Hp}{w w':World}{fr:Nat}{K:V->List (Nat×aa)->List Nat->Prop}{B:Nat->Prop}
theorem F4(hH:aB M φ H w){x:V}{xv:Value}{es:List D}(h:fG H.o x=some es)(hx:V.den (aq M φ H) φ H w x xv):∃base n c,xv= .slice base n c/\(es≠[]->base≠none):=by
 have hd:∃x',ef H.o x=some x'/\x'= .sl es:=by
  unfold fG at h
  split at h
  ·rename_i es' hd;injection h with h;subst h;exact⟨_,hd,rfl⟩
  ·cases h
 obtain⟨x',hd,rfl⟩:=hd
 obtain⟨f1,f2,f3,f4,f5⟩:=dh hH x.ids (c6 x _ hx)
 have:=fg f1 x (.sl es) xv f3 hd (V.aV f2 _ _ hx)
 obtain⟨base,len,cap,rfl,h1,h2,h3,_⟩:=this
 refine⟨base,len,cap,rfl,fun fS hb=> ?_⟩
 have:=h3 hb
 have:es.length=0:=ad
 exact fS (List.length_eq_zero_iff.1 this)
def TG:Value->Bool
 | .int _ _| .float _ _| .complex _ _ _| .string _=>false
 |_=>true
theorem Ii(hH:aB M φ H w){t:TypeId}{p q:Operand}{x y v:V}{xv yv:Value}(hx:V.den (aq M φ H) φ H w x xv)(hy:V.den (aq M φ H) φ H w y yv)(h:th P H.o t (isConst p||isConst q) x y=some v):
 ∃r:Bool,(v= .d (.bool r)\/v= .gh)/\TG xv=true/\(∀op,(eqGuard op t p q xv yv).run P w= .ok () w)/\(Op.equal t xv yv).run P w= .ok r w:=by
 have kz:(∀a b, ¬ (xv= .agg a/\yv= .agg b))-> ¬ (xv= .nilIface/\yv= .nilIface)->∀op,(eqGuard op t p q xv yv).run P w= .ok () w:=by
  intro h1 h2 op
  unfold eqGuard
  cases op<;>cases xv<;>cases yv<;>first
   |(simp;done)
   |(exact absurd ⟨rfl,rfl⟩ (h1 _ _))
   |(exact absurd ⟨rfl,rfl⟩ h2)
 unfold th at h
 cases ht:P.underlying t with
 |none=>simp[ht]at h
 |some td=>
  simp only[ht]at h
  have eq:∀r,(∀d,(Op.equalIn (d+1) t xv yv).run P w= .ok r w)->(Op.equal t xv yv).run P w= .ok r w:=fun r h=>h 9999
  cases td<;>simp only[reduceCtorEq]at h
  case interface ms=>
   split at h
   ·split at h
    ·rename_i hc
     injection h with h;subst h
     simp only[V.den,D.den]at hx hy;subst hx;subst hy
     refine⟨true, .inl rfl,rfl,fun op=> ?_,eq _ (fun d=>by rw[acV w d ht])⟩
     simp only[Bool.or_eq_true]at hc
     unfold eqGuard
     rcases hc with hc|hc
     ·cases p<;>simp only[isConst,Bool.false_eq_true]at hc
      cases op<;>simp
     ·cases q<;>simp only[isConst,Bool.false_eq_true]at hc
      cases op<;>simp
    ·cases h
   ·exact acL
   ·exact acL
   ·exact acK
   ·exact acK
   ·rename_i a x b y
    simp only[Option.map_eq_some_iff]at h
    obtain⟨r,h1,rfl⟩:=h
    obtain⟨u,rfl,g1⟩:=hx
    obtain⟨u2,rfl,g2⟩:=hy
    exact⟨r, .inl rfl,rfl,kz (fun _ _ h=>by cases h.1) FA,acW w 9998 ht h1 g1 g2⟩
   ·cases h
  case func a b c=>
   split at h
   ·injection h with h;subst h
    simp only[V.den,D.den]at hx hy;subst hx;subst hy
    exact⟨true, .inl rfl,rfl,kz (fun _ _ h=>by cases h.1) FA,eq _ (fun d=>by rw[acX w d ht])⟩
   ·injection h with h;subst h
    obtain⟨f,c',rfl,_⟩:=hx
    simp only[V.den,D.den]at hy;subst hy
    exact⟨false, .inl rfl,rfl,kz (fun _ _ h=>by cases h.1) FA,eq _ (fun d=>by rw[acY w d ht])⟩
   ·cases h
  case map a b=>
   split at h
   ·simp only[V.den,D.den]at hy;subst hy
    unfold tt at h
    split at h
    ·injection h with h;subst h
     simp only[V.den,D.den]at hx;subst hx
     exact⟨true, .inl rfl,rfl,kz (fun _ _ h=>by cases h.1) FA,eq _ (fun d=>by rw[acZ w d ht])⟩
    ·injection h with h;subst h
     obtain⟨bk,es,clock,_,rfl,_⟩:=hx
     exact abB
    ·rename_i id
     split at h
     ·rename_i ho
      injection h with h;subst h
      obtain⟨_,_,h3⟩:=hx
      have fA:=h3 eY
      have a8:=hH.ok id
      exact T1
     ·rename_i ho
      injection h with h;subst h
      obtain⟨_,_,h3⟩:=hx
      have fA:=h3 eY
      have a8:=hH.ok id
      exact T1
     ·cases h
    ·cases h
   ·cases h
  case pointer e=>
   split at h
   ·simp only[V.den,D.den]at hy;subst hy
    unfold tu at h
    split at h
    ·injection h with h;subst h
     simp only[V.den,D.den]at hx;subst hx
     exact⟨true, .inl rfl,rfl,kz (fun _ _ h=>by cases h.1) FA,eq _ (fun d=>by rw[ac0 w d ht])⟩
    ·split at h
     ·rename_i hr
      injection h with h;subst h
      obtain⟨_,_,h3⟩:=hx
      obtain⟨bk,_,rfl⟩:=h3 hr
      exact abJ
     ·cases h
    ·injection h with h;subst h
     obtain⟨a,ev,_,rfl,_⟩:=hx
     exact abJ
    ·cases h
   ·cases h
  case slice e=>
   split at h
   ·simp only[V.den]at hy;subst hy
    unfold C1 at h
    split at h
    ·injection h with h;subst h
     simp only[V.den]at hx;subst hx
     exact⟨true, .inl rfl,rfl,kz (fun _ _ h=>by cases h.1) FA,eq _ (fun d=>by rw[ac1 w d ht];rfl)⟩
    ·split at h
     ·rename_i es hl
      obtain⟨base,n,c,rfl,hb⟩:=F4 hH hl hx
      refine⟨base.isNone, ?_,rfl,kz (fun _ _ h=>by cases h.1) FA,eq _ ?_⟩
      ·split at h
       ·injection h with h;exact .inr h.symm
       ·rename_i fS
        injection h with h
        have:=hb fS
        cases base with
        |none=>exact absurd rfl this
        |some a=>exact .inl h.symm
      ·intro d
       rw[ac1 w d ht]
     ·cases h
   ·cases h
  case struct fs=>
   split at h
   ·split at h
    ·rename_i hg
     exact acv
    ·cases h
   ·cases h
  case array n e=>
   split at h
   ·split at h
    ·rename_i hg
     exact acv
    ·cases h
   ·cases h
theorem Q6(hH:aB M φ H w){op:BinOp}{t:TypeId}{p q:Operand}{x y:V}{xv yv:Value}(hx:V.den (aq M φ H) φ H w x xv)(hy:V.den (aq M φ H) φ H w y yv)
 (h:dz (tv P H.o op t (isConst p||isConst q) x y) K):
 db M φ H w fr ((do let y <- (do eqGuard op t p q xv yv;binOp op t xv yv);pure (Next.value y):Sem Next).run P w) K:=by
 have hg:=dO h
 clear h
 obtain⟨v,Δ,rd,h,hK⟩:=hg
 unfold tv at h
 split at h
 ·simp only[Option.map_eq_some_iff]at h
  obtain⟨u,h1,h2⟩:=h
  injection h2 with e1 e2;injection e2 with e2 e3;subst e1;subst e2;subst e3
  obtain⟨r,hv,hwd,hgd,he⟩:=Ii (p:=p) (q:=q) hH hx hy h1
  refine db.plain hH (.bool r) hK ?_ ?_
  ·have hb:(binOp .eql t xv yv).run P w= .ok (.bool r) w:=by
    unfold binOp
    exact TF
   simp[hgd,hb]
  ·rcases hv with rfl|rfl
   ·rfl
   ·exact⟨r,rfl⟩
 ·simp only[Option.map_eq_some_iff,Option.bind_eq_some_iff]at h
  obtain⟨u',⟨u,h1,h3⟩,h2⟩:=h
  injection h2 with e1 e2;injection e2 with e2 e3;subst e1;subst e2;subst e3
  obtain⟨r,hv,hwd,hgd,he⟩:=Ii (p:=p) (q:=q) hH hx hy h1
  refine db.plain hH (.bool !r) hK ?_ ?_
  ·have hb:(binOp .neq t xv yv).run P w= .ok (.bool !r) w:=by
    unfold binOp
    exact TF
   simp[hgd,hb]
  ·rcases hv with rfl|rfl
   ·simp only[QQ,Option.some.injEq]at h3;subst h3;rfl
   ·simp only[QQ,Option.some.injEq]at h3;subst h3;exact⟨!r,rfl⟩
 ·cases h
end
end
section
section
variable {P:Program}{M:Nat->Prop}{φ:Place}{H:Hp}{w w':World}{fr:Nat}{K:V->List (Nat×aa)->List Nat->Prop}
theorem Bg(hH:aB M φ H w){o:Oper}{a:Act}{q:Operand}(ho:o.op= .nilCheck q){x:V}(hx:V.den (aq M φ H) φ H w x (a.eval q))
 (h:mz H.o x fun v=>K v [] []):db M φ H w fr ((execOp a.eval o).run P w) K:=by
 unfold mz at h
 have yI:=hx
 split at h
 ·rename_i id off
  obtain⟨h1,hK⟩:=h
  obtain⟨_,hu,hp⟩:=yI
  obtain⟨b,fA,hv⟩:=hp h1
  exact db.same hH _ hK (by simp[execOp,ho,hv]) (hv ▸ hx)
 ·rename_i cs off
  obtain⟨b,ev,_,hv,_⟩:=yI
  exact db.same hH _ h (by simp[execOp,ho,hv]) (hv ▸ hx)
 ·rename_i f first cap
  obtain⟨b,c,hv,_⟩:=yI
  exact db.same hH _ h (by simp[execOp,ho,hv]) (hv ▸ hx)
 ·exact h.elim
theorem KI{t:TypeId}{k:IntKind}(h:nW P t=some k):P.underlying t=some (.int k):=by
 unfold nW at h
 cases hd:P.underlying t with
 |none=>simp[hd]at h
 |some d=>cases d<;>simp_all
theorem rL(s:S)(a:Act)(eR:∀i,V.den (aq M φ H) φ H w (s.env i) (a.tmps.getD i undef))(xs:Array Operand):
 V.aG (aq M φ H) φ H w (xs.toList.map s.ev) (xs.map a.eval).toList:=by
 simpa using lE s a eR xs.toList
theorem zR(hH:aB M φ H w){s:S}(ri:s.o=H.o){a:Act}(eR:∀i,V.den (aq M φ H) φ H w (s.env i) (a.tmps.getD i undef))(dn: ¬H.us fr){o:Oper}{op:Op}(gX:o.op=op)(h:UB P s fr op K):
 db M φ H w fr ((execOp a.eval o).run P w) K:=by
 have dH:=n6 (M:=M) (φ:=φ) (H:=H) (w:=w) s a eR
 cases op<;>simp only[UB]at h<;>try (exact h.elim)
 case move x=>exact db.same hH _ h (by simp[execOp,gX]) (dH x)
 case assign x=>exact db.same hH _ h (by simp[execOp,gX]) (dH x)
 case pick c x y=>
  have:=MW (P:=P) (fr:=fr) hH (dH c) (dH x) (dH y) h
  exact jL
 case alloc t=>
  have:=Km (P:=P) (fr:=fr) hH dn h
  exact jL
 case box t x=>
  have:=QZ (P:=P) (fr:=fr) (t:=t) hH dn (dH x) h
  exact jL
 case build t parts=>
  have:=Ko (P:=P) (fr:=fr) hH eR h
  exact jL
 case buildSlice t len parts=>
  rw[ri]at h
  have:=wK (P:=P) (fr:=fr) hH dn eR h
  exact jL
 case load t x=>
  rw[ri]at h
  have:=MV (P:=P) (fr:=fr) hH (dH x) h
  exact jL
 case store t x y=>
  rw[ri]at h
  have:=Kr (P:=P) (fr:=fr) hH (dH x) (dH y) h
  exact jL
 case nilCheck x=>
  rw[ri]at h
  exact Bg hH gX (dH x) h
 case binOp op t x y yt=>
  rw[ri]at h
  rcases h with h|h
  ·have:=QX (P:=P) (fr:=fr) (p:=x) (q:=y) hH (dH x) (dH y) h
   exact jL
  ·have:=Q6 (P:=P) (fr:=fr) (p:=x) (q:=y) hH (dH x) (dH y) h
   exact jL
 case unOp op t x=>
  rcases h with h|⟨rfl,hx,hK⟩
  ·have:=Xu (P:=P) (fr:=fr) hH (dH x) h
   exact jL
  ·have hv:=dH x
   rw[hx]at hv
   obtain⟨b,hb⟩:=hv
   exact db.same hH (.bool !b) hK (by simp[execOp,gX,hb,Op.unary]) ⟨_,rfl⟩
 case convert t u x=>
  obtain⟨XA,h⟩:=h
  split at h
  ·rename_i k k' n hk hx
   have hv:=dH x
   rw[hx]at hv
   simp only[V.den,D.den]at hv
   have hu:=KI hk
   obtain⟨d,hd⟩:=Option.isSome_iff_exists.1 XA
   refine db.same hH (.int k (k.wrap n)) h ?_ rfl
   cases d<;>simp[execOp,gX,hv,convert,run_underlying hd,run_underlying hu,Conv.intToInt]
  ·exact h.elim
 case makeInterface t x=>
  obtain⟨⟨d,hd,kZ⟩,h⟩:=h
  have hr:∀v,(Instr.makeInterface t v).run P w= .ok (.iface t v) w:=by
   intro v
   cases d<;>first|(simp at kZ;done)|simp[Instr.makeInterface,run_underlying hd]
  have hv:=dH x
  split at h
  ·rename_i y hy
   rw[hy]at hv
   exact TT
  ·exact TT
 case makeFunc fn first cap=>
  exact db.same hH _ h (by simp[execOp,gX,Instr.makeFunc]) ⟨_,_,rfl,rL s a eR first,rL s a eR cap⟩
 case makeSlice t l c=>
  have:=yO (P:=P) (fr:=fr) hH dn (dH l) (dH c) h
  exact jL
 case fieldAddr t x f=>
  rw[ri]at h
  have:=yL (P:=P) (fr:=fr) hH (dH x) h
  exact jL
 case indexAddr t x i=>
  rw[ri]at h
  have:=yN (P:=P) (fr:=fr) hH (dH x) (dH i) h
  exact jL
 case extract x i=>
  split at h
  ·rename_i vs hx
   obtain⟨v,hv,hK⟩:=h
   have hd:=dH x
   rw[hx]at hd
   obtain⟨c,hc,hd⟩:=hd
   obtain⟨u,hu,QW⟩:=V.dA _ _ _ _ hd hv
   refine db.same hH u hK ?_ QW
   have CK:c[i]? =some u:=by simpa using hu
   simp[execOp,gX,hc,Instr.extract,CK]
  ·exact h.elim
 case call c=>
  obtain⟨Nd,args,ts⟩:=c
  cases Nd<;>simp only at h<;>try (exact h.elim)
  rename_i b
  unfold wF at h
  split at h
  ·rename_i x dV
   obtain⟨t,yP,h⟩:=h
   rw[ri]at h
   have e1:args=#[x]:=by apply Array.ext';simpa using dV
   have e2:ts=#[t]:=by apply Array.ext';simpa using yP
   subst e1;subst e2
   have:=QY (P:=P) (fr:=fr) (ty:=o.type) hH (dH x) h
   exact QC
  ·rename_i x y dV
   have e1:args=#[x,y]:=by apply Array.ext';simpa using dV
   subst e1
   rw[ri]at h
   have:=h.elim (fun h=>MY (P:=P) (fr:=fr) (ty0:=o.type) hH dn (dH x) (dH y) h) (fun h=>FT (P:=P) (fr:=fr) (ty0:=o.type) hH dn (dH x) (dH y) h)
   exact QC
  ·rename_i x y dV
   have e1:args=#[x,y]:=by apply Array.ext';simpa using dV
   subst e1
   unfold pa at h
   split at h
   ·rename_i k u k' v heq
    simp only[List.cons.injEq,and_true]at heq
    obtain⟨rfl,hK⟩:=h
    have h1:=dH x
    have h2:=dH y
    rw[heq.1]at h1;rw[heq.2]at h2
    simp only[V.den,D.den]at h1 h2
    exact db.same hH _ hK (by simp[execOp,gX,resolve,invoke,builtin,h1,h2,run_max_int2]) rfl
   ·exact h.elim
  ·rename_i x y dV
   have e1:args=#[x,y]:=by apply Array.ext';simpa using dV
   subst e1
   unfold pa at h
   split at h
   ·rename_i k u k' v heq
    simp only[List.cons.injEq,and_true]at heq
    obtain⟨rfl,hK⟩:=h
    have h1:=dH x
    have h2:=dH y
    rw[heq.1]at h1;rw[heq.2]at h2
    simp only[V.den,D.den]at h1 h2
    exact db.same hH _ hK (by simp[execOp,gX,resolve,invoke,builtin,h1,h2,run_min_int2]) rfl
   ·exact h.elim
  ·rename_i x y z dV
   have e1:args=#[x,y,z]:=by apply Array.ext';simpa using dV
   subst e1
   have hg:=dO h
   clear h
   obtain⟨v,Δ,rd,h,hK⟩:=hg
   simp only[Option.map_eq_some_iff,Prod.mk.injEq]at h
   obtain⟨v',h,rfl,rfl,rfl⟩:=h
   unfold MT at h
   split at h
   ·rename_i k u k' v k'' t q1 q2 q3
    split at h
    ·rename_i hk
     obtain⟨rfl,rfl⟩:=hk
     injection h with h;subst h
     have h1:=dH x
     have h2:=dH y
     have h3:=dH z
     rw[q1]at h1;rw[q2]at h2;rw[q3]at h3
     simp only[V.den,D.den]at h1 h2 h3
     exact db.same hH _ hK (by simp[execOp,gX,resolve,invoke,builtin,h1,h2,h3,Builtin.max_,Builtin.max2]) rfl
    ·cases h
   ·cases h
  ·rename_i x y dV
   have e1:args=#[x,y]:=by apply Array.ext';simpa using dV
   subst e1
   rw[ri]at h
   have:=M5 (P:=P) (fr:=fr) (ty0:=o.type) hH (dH x) (dH y) h
   exact QC
  ·rename_i x y dV
   have e1:args=#[x,y]:=by apply Array.ext';simpa using dV
   subst e1
   obtain⟨t,ht,h⟩:=h
   rw[ri]at h
   have:=F2 (P:=P) (fr:=fr) (ty0:=o.type) hH ht (dH x) (dH y) h
   exact QC
  ·rename_i x dV
   have e1:args=#[x]:=by apply Array.ext';simpa using dV
   subst e1
   unfold QR at h
   split at h
   ·rename_i t yP
    have e2:ts=#[t]:=by apply Array.ext';simpa using yP
    subst e2
    split at h
    ·rename_i e ht
     split at h
     ·rename_i hxx
      have hd:=dH x
      rw[hxx]at hd
      simp only[V.den]at hd
      exact db.same hH (.int .i64 0) h (by simp[execOp,gX,resolve,invoke,builtin,hd,Builtin.cap_,run_underlying (bD ht),goInt]) rfl
     ·exact h.elim
    ·exact h.elim
   ·exact h.elim
  ·exact h.elim
 case slice t x lo hi mx=>
  rw[ri]at h
  have:=Ku (P:=P) (fr:=fr) (lov:=lo.map a.eval) (hiv:=hi.map a.eval) (mxv:=mx.map a.eval) hH (dH x) (by cases lo<;>simp[dH]) (by cases hi<;>simp[dH]) (by cases mx<;>simp[dH]) h
  exact jL
 case field t x f=>
  have:=Kv (P:=P) (fr:=fr) hH (dH x) h
  exact jL
 case index t x i=>
  have:=Kx (P:=P) (fr:=fr) hH (dH x) (dH i) h
  exact jL
 case insert t m k v=>
  rw[ri]at h
  have:=qg (P:=P) (fr:=fr) hH (dH m) (dH k) (dH v) h
  exact jL
 case typeAssert x xt t ok=>
  have:=FW (P:=P) (fr:=fr) (xt:=xt) hH (dH x) h
  exact jL
 case makeMap t r=>
  cases r with
  |some x=>exact h.elim
  |none=>
   have:=Dj (P:=P) (fr:=fr) hH dn h
   exact jL
 case lookup t m k ok=>
  rw[ri]at h
  have:=F0 (P:=P) (fr:=fr) hH (dH m) (dH k) h
  exact jL
 case mapUpdate t m k v=>
  rw[ri]at h
  have:=qg (P:=P) (fr:=fr) hH (dH m) (dH k) (dH v) h
  exact jL
 case range t x=>
  rw[ri]at h
  have:=KC (P:=P) (fr:=fr) hH dn (dH x) h
  exact jL
 case next x str=>
  rw[ri]at h
  rcases h with h|⟨rfl,id,l,h1,h2⟩
  ·have:=Dm (P:=P) (fr:=fr) (ty:=o.type) hH (dH x) h
   exact jL
  ·have:=Dp (P:=P) (fr:=fr) (ty:=o.type) hH (dH x) h1 h2
   exact jL
 case entry x=>
  rw[ri]at h
  have:=KG (P:=P) (fr:=fr) hH (dH x) h
  exact jL
end
end
end Go.Proofs.YtlhemmpklhhgoaaGreat
