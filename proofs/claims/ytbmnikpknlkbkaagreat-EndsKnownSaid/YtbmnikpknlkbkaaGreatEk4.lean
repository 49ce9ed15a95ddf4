/-
  A PART OF THE PROOF. Conditions: none.
-/
import Derived.WideKeyRuns
import Derived.Laws.IdiomRangeMap
import Derived.Test.YtbmnikpknlkbkaaGreatEk3
set_option linter.unusedSimpArgs false
set_option linter.unusedVariables false
namespace Go.Proofs.YtbmnikpknlkbkaaGreat
mutual
theorem D.bX:∀ (x y:D),x.same y=true->x=y
 | .int k a,y,h=>by cases y<;>simp_all[D.same]
 | .bool a,y,h=>by cases y<;>simp_all[D.same]
 | .str a,y,h=>by cases y<;>simp_all[D.same]
 | .dx,y,h=>by cases y<;>simp_all[D.same]
 | .fO,y,h=>by cases y<;>simp_all[D.same]
 | .fl,y,h=>by cases y<;>simp_all[D.same]
 | .eB,y,h=>by cases y<;>simp_all[D.same]
 | .agg aO,y,h=>by
   cases y<;>simp only[D.same,Bool.false_eq_true]at h
   rw[D.bB aO _ h]
 | .sl aO,y,h=>by
   cases y<;>simp only[D.same,Bool.false_eq_true]at h
   rw[D.bB aO _ h]
 | .iface t a,y,h=>by
   cases y<;>simp only[D.same,Bool.false_eq_true,Bool.and_eq_true,beq_iff_eq]at h
   rw[h.1,D.bX a _ h.2]
 | .mp ks vs,y,h=>by
   cases y<;>simp only[D.same,Bool.false_eq_true,Bool.and_eq_true]at h
   rw[D.bB ks _ h.1,D.bB vs _ h.2]
theorem D.bB:∀ (xs ys:List D),D.cX xs ys=true->xs=ys
 |[],ys,h=>by cases ys<;>simp_all[D.cX]
 |a::aO,ys,h=>by
  cases ys<;>simp only[D.cX,Bool.false_eq_true,Bool.and_eq_true]at h
  rw[D.bX a _ h.1,D.bB aO _ h.2]
end
section
variable {P:Program}{M:Nat->Prop}{φ:Place}{H:Hp}{w w':World}{fr:Nat}{K:V->List (Nat×aa)->List Nat->Prop}{B:Nat->Prop}
theorem jH{t kt vt:TypeId}(h:rW P t=some (kt,vt)):P.underlying t=some (.map kt vt):=by
 unfold rW at h
 cases hd:P.underlying t with
 |none=>simp[hd]at h
 |some d=>cases d<;>simp_all
theorem mM{x:D}(h:jU x=true){u v:Value}(hu:D.den B w x u)(hv:D.den B w x v):u=v:=by
 cases x<;>simp only[jU,Bool.false_eq_true]at h<;>simp only[D.den]at hu hv
 ·rw[hu,hv]
 ·rw[hu,hv]
 ·obtain⟨⟨⟨a⟩⟩,rfl,h1⟩:=hu
  obtain⟨⟨⟨b⟩⟩,rfl,h2⟩:=hv
  simp only at h1 h2
  rw[h1,h2]
theorem mN:∀ {xs:List D} (_:xs.all jU=true) {us vs:List Value} (_:D.aj B w xs us) (_:D.aj B w xs vs),us=vs
 |[],_,us,vs,hu,hv=>by simp only[D.aj]at hu hv;rw[hu,hv]
 |x::xs,h,us,vs,hu,hv=>by
  simp only[List.all_cons,Bool.and_eq_true]at h
  obtain⟨u,us,rfl,h1,h2⟩:=hu
  obtain⟨v,vs,rfl,h3,h4⟩:=hv
  rw[mM h.1 h1 h3,mN h.2 h2 h4]
theorem qh{x:D}(h:fT x=true){u v:Value}(hu:D.den B w x u)(hv:D.den B w x v):u=v:=by
 cases x with
 |agg cs=>
  simp only[fT]at h
  obtain⟨a,rfl,h1,_⟩:=hu
  obtain⟨b,rfl,h2,_⟩:=hv
  have:=mN h h1 h2
  congr 1
  exact Array.ext' this
 |_=>exact mM (by simpa[fT]using h) hu hv
theorem mO{x:D}(h:jU x=true){u:Value}(hu:D.den B w x u)(n:Nat):Instr.sameBits n u u=true:=by
 cases x<;>simp only[jU,Bool.false_eq_true]at h<;>simp only[D.den]at hu
 ·subst hu;cases n<;>simp[Instr.sameBits]
 ·subst hu;cases n<;>simp[Instr.sameBits]
 ·obtain⟨s,rfl,h1⟩:=hu
  have:(s==s)=true:=(MapKept.bytes_beq s s).2 rfl
  cases n<;>simp[Instr.sameBits,this]
theorem lr:∀ {xs:List D} (_:xs.all jU=true) {us:List Value} (_:D.aj B w xs us) (n:Nat),(us.zip us).all (fun(x,y)=>Instr.sameBits n x y)=true
 |[],_,us,hu,n=>by simp only[D.aj]at hu;subst hu;rfl
 |x::xs,h,us,hu,n=>by
  simp only[List.all_cons,Bool.and_eq_true]at h
  obtain⟨u,us,rfl,h1,h2⟩:=hu
  simp only[List.zip_cons_cons,List.all_cons,mO h.1 h1 n,Bool.true_and]
  exact lr h.2 h2 n
theorem qi{x:D}(h:fT x=true){u:Value}(hu:D.den B w x u)(n:Nat):Instr.sameBits (n+1) u u=true:=by
 cases x with
 |agg cs=>
  simp only[fT]at h
  obtain⟨a,rfl,h1,_⟩:=hu
  have:=lr h h1 n
  simp only[Instr.sameBits,beq_self_eq_true,Bool.true_and]
  exact this
 |_=>exact mO (by simpa[fT]using h) hu (n+1)
theorem sf{x:D}(h:fT x=true){u:Value}(hu:D.den B w x u):(Instr.keyThatStays u u).run P w'= .ok u w':=by
 simp[Instr.keyThatStays,qi h hu 9999]
theorem iY(em:Bool):∀ (d:Nat) (t:TypeId) (x:D),mi P d t x=true->∀m,d<=m->∀u,D.den B w x u->(Instr.checkKey em m t u).run P w= .ok () w
 |0,_,_,h=>by simp[mi]at h
 |d+1,t,x,h=>by
  intro m hm u hu
  obtain⟨m,rfl⟩:∃k,m=k+1:=⟨m - 1,by omega⟩
  have IH:=fun t x h u hu=>iY em d t x h m (by omega) u hu
  unfold mi at h
  rw[Instr.checkKey]
  cases hs:dn P t with
  |none=>rw[hs]at h;cases h
  |some sh=>
   rw[hs]at h
   unfold dn at hs
   cases ht:P.underlying t with
   |none=>rw[ht]at hs;cases hs
   |some td=>
    rw[ht]at hs
    simp only[Sem.run_bind,run_underlying ht,Result.andThen_ok]
    cases td<;>simp only[Option.some.injEq,reduceCtorEq]at hs
    case int k0=>simp
    case bool=>simp
    case string=>simp
    case struct fs=>
     split at hs
     ·injection hs with hs;subst hs
      simp only at h
      cases x<;>simp only[Bool.false_eq_true]at h
      rename_i xs
      obtain⟨arr,rfl,ha,hf⟩:=hu
      simp only
      rw[<- Array.forIn_toList]
      rw[List.all_map]at h
      generalize fs.toList=L at h
      induction L with
      |nil=>simp
      |cons f L ih=>
       simp only[List.all_cons,Bool.and_eq_true,Function.comp]at h
       obtain⟨h1,h2⟩:=h
       split at h1
       ·rename_i y hy
        obtain⟨v,k1,k2⟩:=cY hy ha hf
        have k3:=IH _ _ h1 v k2
        by_cases hn:f.name= "_"
        ·simp only[List.forIn_cons,Sem.run_bind,hn,ne_eq,not_true_eq_false,if_false,Result.andThen_ok,Sem.run_pure]
         have:=ih h2
         simp only[Sem.run_bind,Sem.run_pure,ne_eq]at this
         exact this
        ·simp only[List.forIn_cons,Sem.run_bind,hn,ne_eq,not_false_eq_true,if_true,Result.andThen_ok,k1,k3,Sem.run_pure]
         have:=ih h2
         simp only[Sem.run_bind,Sem.run_pure,ne_eq]at this
         exact this
       ·cases h1
     ·cases hs
    case array n e=>
     split at hs
     ·rename_i hi
      injection hs with hs;subst hs
      simp only at h
      cases x<;>simp only[Bool.false_eq_true]at h
      rename_i xs
      obtain⟨arr,rfl,ha,hf⟩:=hu
      obtain⟨i,hi⟩:=Option.isSome_iff_exists.1 hi
      simp only[Std.Legacy.Range.forIn_eq_forIn_range',Std.Legacy.Range.size,Nat.sub_zero,Nat.add_one_sub_one,Nat.div_one]
      rw[List.range_eq_range']at h
      generalize List.range' 0 n=is at h
      induction is with
      |nil=>simp
      |cons j is ih=>
       simp only[List.all_cons,Bool.and_eq_true]at h
       obtain⟨h1,h2⟩:=h
       split at h1
       ·rename_i y hy
        obtain⟨v,k1,k2⟩:=cY hy ha hf
        have k3:=IH _ _ h1 v k2
        simp only[List.forIn_cons,Sem.run_bind,bQ hi,Result.andThen_ok,k1,k3,Sem.run_pure]
        have:=ih h2
        simp only[Sem.run_bind,Sem.run_pure]at this
        exact this
       ·cases h1
     ·cases hs
def eI(B:Nat->Prop)(w:World)(es:List MapEntry)(i:Nat):Option (Nat×D×D)->Option (Nat×Value)->Prop
 |none,none=>True
 |some (j,k,x),some (j',v)=>j=j'/\i<=j/\D.den B w x v/\∃e,es[j - i]? =some e/\e.val=v/\D.den B w k e.key
 |_,_=>False
theorem eI.succ {es:List MapEntry}{e:MapEntry}{i:Nat}{r:Option (Nat×D×D)}{r':Option (Nat×Value)}(h:eI B w es (i+1) r r'):eI B w (e::es) i r r':=by
 cases r with
 |none=>cases r'<;>exact h
 |some p=>
  obtain⟨j,k,x⟩:=p
  cases r' with
  |none=>exact h
  |some q=>
   obtain⟨j',v⟩:=q
   obtain⟨h1,h2,h3,e',h4,h5⟩:=h
   refine⟨h1,by omega,h3,e', ?_,h5⟩
   rw[show j - i=(j - (i+1))+1 by omega]
   simpa using h4
theorem jZ{kt:TypeId}{kd:D}{kv:Value}(hk:D.den B w kd kv):∀ (l:List (D×D)) (es:List MapEntry) (i:Nat) (r:Option (Nat×D×D)),ao B w l es->findD P kt kd l i=some r->
 ∃r',(Instr.findAsking kt kv es i).run P w= .ok r' w/\eI B w es i r r'
 |[],es,i,r,he,h=>by
  simp only[ao]at he;subst he
  simp only[findD,Option.some.injEq]at h;subst h
  exact⟨none,by simp[Instr.findAsking],trivial⟩
 |(k',x)::l,es,i,r,he,h=>by
  obtain⟨e,es,rfl,h1,h2,h3⟩:=he
  simp only[findD]at h
  split at h
  ·rename_i hq
   injection h with h;subst h
   have:=kN 100 kt _ _ _ hq 10000 (by decide) B w _ _ hk h1
   refine⟨some (i,e.val),by simp[Instr.findAsking,Op.equal,Op.maxDepth,this],rfl,Nat.le_refl _,h2,e,by simp,rfl,h1⟩
  ·rename_i hq
   have:=kN 100 kt _ _ _ hq 10000 (by decide) B w _ _ hk h1
   obtain⟨r',g1,g2⟩:=jZ hk l es (i+1) r h3 h
   exact⟨r',by simp[Instr.findAsking,Op.equal,Op.maxDepth,this,g1],g2.succ⟩
  ·cases h
theorem j5{td:TypeDesc}{kt:TypeId}(ht:P.underlying kt=some td)(hn:(match td with| .int _| .bool| .string=>true|_=>false)=true){x y:D}{r:Bool}(h:mh P 100 kt x y=some r){u v:Value}(hu:D.den B w x u)(hv:D.den B w y v):
 Instr.sameNow td u v=some r:=by
 unfold mh dn at h
 rw[ht]at h
 cases td<;>simp only[Bool.false_eq_true]at hn<;>simp only at h
 ·split at h
  ·injection h with h;subst h
   simp only[D.den]at hu hv;subst hu;subst hv;rfl
  ·cases h
 ·split at h
  ·split at h
   ·rename_i e;subst e;injection h with h;subst h
    simp only[D.den]at hu hv;subst hu;subst hv;simp[Instr.sameNow]
   ·cases h
  ·cases h
 ·split at h
  ·injection h with h;subst h
   obtain⟨s1,rfl,rfl⟩:=hu
   obtain⟨s2,rfl,rfl⟩:=hv
   simp only[Instr.sameNow,Option.some.injEq]
   obtain⟨⟨a⟩⟩:=s1
   obtain⟨⟨b⟩⟩:=s2
   rw[Bool.eq_iff_iff,MapKept.bytes_beq]
   simp
  ·cases h
theorem j6{td:TypeDesc}{kt:TypeId}(ht:P.underlying kt=some td)(hn:(match td with| .int _| .bool| .string=>true|_=>false)=true){kd:D}{kv:Value}(hk:D.den B w kd kv):∀ (l:List (D×D)) (es:List MapEntry) (i:Nat) (r:Option (Nat×D×D)),ao B w l es->findD P kt kd l i=some r->
 ∃r',Instr.findNow td kv es i=some r'/\eI B w es i r r'
 |[],es,i,r,he,h=>by
  simp only[ao]at he;subst he
  simp only[findD,Option.some.injEq]at h;subst h
  exact⟨none,by simp[Instr.findNow],trivial⟩
 |(k',x)::l,es,i,r,he,h=>by
  obtain⟨e,es,rfl,h1,h2,h3⟩:=he
  simp only[findD]at h
  split at h
  ·rename_i hq
   injection h with h;subst h
   have:=j5 ht hn hq hk h1
   refine⟨some (i,e.val),by simp[Instr.findNow,this],rfl,Nat.le_refl _,h2,e,by simp,rfl,h1⟩
  ·rename_i hq
   have:=j5 ht hn hq hk h1
   obtain⟨r',g1,g2⟩:=j6 ht hn hk l es (i+1) r h3 h
   exact⟨r',by simp[Instr.findNow,this,g1],g2.succ⟩
  ·cases h
theorem cZ{kt:TypeId}{kd:D}{kv:Value}(hk:D.den B w kd kv)(hc:mi P 100 kt kd=true){l:List (D×D)}{es:List MapEntry}{r:Option (Nat×D×D)}(he:ao B w l es)(h:findD P kt kd l 0=some r):
 ∃r',(Instr.findKey kt kv es).run P w= .ok r' w/\eI B w es 0 r r':=by
 unfold mi dn at hc
 cases ht:P.underlying kt with
 |none=>simp[ht]at hc
 |some td=>
  have now:(match td with| .int _| .bool| .string=>true|_=>false)=true->∃r',(Instr.findKey kt kv es).run P w= .ok r' w/\eI B w es 0 r r':=by
   intro hn
   obtain⟨r',g1,g2⟩:=j6 ht hn hk l es 0 r he h
   exact⟨r',MapKept.run_findKey ht g1,g2⟩
  have ask:(match P.underlying kt with|some (.array _ _)|some (.struct _)=>true|_=>false)=true->∃r',(Instr.findKey kt kv es).run P w= .ok r' w/\eI B w es 0 r r':=by
   intro hn
   obtain⟨r',g1,g2⟩:=jZ hk l es 0 r he h
   exact⟨r',(run_findKey_eq w hn kv es).trans g1,g2⟩
  cases td<;>first
   |exact now rfl
   |(refine ask ?_;rw[ht];done)
   |(exfalso;simp[ht]at hc)
theorem ao.get:∀ {l:List (D×D)} {es:List MapEntry} {i:Nat} {e:MapEntry},ao B w l es->es[i]? =some e->∃p,l[i]? =some p/\D.den B w p.1 e.key/\D.den B w p.2 e.val
 |[],es,i,e,h,hi=>by simp only[ao]at h;subst h;simp at hi
 |(k,x)::l,es,i,e,h,hi=>by
  obtain⟨e',es,rfl,h1,h2,h3⟩:=h
  cases i with
  |zero=>simp at hi;subst hi;exact⟨(k,x),by simp,h1,h2⟩
  |succ i=>simpa using ao.get h3 (by simpa using hi)
theorem ao.push:∀ {l:List (D×D)} {es:List MapEntry} {k x:D} {e:MapEntry},ao B w l es->D.den B w k e.key->D.den B w x e.val->ao B w (l++[(k,x)]) (es++[e])
 |[],es,k,x,e,h,h1,h2=>by simp only[ao]at h;subst h;exact⟨e,[],rfl,h1,h2,rfl⟩
 |(k',x')::l,es,k,x,e,h,h1,h2=>by
  obtain⟨e',es,rfl,g1,g2,g3⟩:=h
  exact⟨e',es++[e],rfl,g1,g2,ao.push g3 h1 h2⟩
theorem ao.set:∀ {l:List (D×D)} {es:List MapEntry} {i:Nat} {k x:D} {e:MapEntry},ao B w l es->D.den B w k e.key->D.den B w x e.val->ao B w (l.set i (k,x)) (es.set i e)
 |[],es,i,k,x,e,h,h1,h2=>by simp only[ao]at h;subst h;rfl
 |(k',x')::l,es,i,k,x,e,h,h1,h2=>by
  obtain⟨e',es,rfl,g1,g2,g3⟩:=h
  cases i with
  |zero=>exact⟨e,es,rfl,h1,h2,g3⟩
  |succ i=>exact⟨e',es.set i e,rfl,g1,g2,ao.set g3 h1 h2⟩
theorem oT(hH:af M φ H w)(cz: ¬H.us fr){t:TypeId}(h:ba (iJ P fr t) K):aY M φ H w fr ((do let v <- Instr.makeMap t none;pure (Next.value v):Sem Next).run P w) K:=by
 have hg:=bA h
 clear h
 obtain⟨v,Δ,rd,h,hK⟩:=hg
 unfold iJ at h
 split at h
 ·rename_i kt vt ht
  injection h with h;injection h with e1 e2;injection e2 with e2 e3;subst e1;subst e2;subst e3
  have hv:∀b,cI (.map (some w.heap.size))=some b->w.heap.size<=b/\b<(w.alloc (.map #[] 0)).heap.size:=by
   intro b hb;simp[cI]at hb;subst hb;simp
  have tw:=cF (φ:=φ) (H:=H) (bd w (.map #[] 0)) cz (.map kt vt []) (.map (some w.heap.size)) fun b hb=>(hv b hb).1
  refine⟨_, .map (some w.heap.size),w.alloc (.map #[] 0),cN φ fr (.map (some w.heap.size)),_,_,_,hK,by simp[Instr.makeMap], .inl rfl,ei hH (bd w _) cz _ _ hv ?_,tw,⟨rfl,by simp,fun _=>by simp⟩,fun j hj=> .inr (by simpa using hj)⟩
  unfold au
  simp only[aE,ak,if_true]
  exact⟨w.heap.size,#[],0,rfl,heap_alloc_new w _,⟨fun e he=>by simp at he,by simp⟩,rfl⟩
 ·cases h
theorem lu{o:Nat->aa}{m:V}{r:Option (Nat×TypeId×TypeId)}{l:List (D×D)}(h:lh o m=some (r,l)):(∃id kt vt,m= .mp id/\o id= .map kt vt l/\r=some (id,kt,vt))\/(m= .d .eB/\r=none/\l=[]):=by
 unfold lh at h
 split at h
 ·split at h
  ·rename_i ho
   simp only[Option.some.injEq,Prod.mk.injEq]at h;obtain⟨rfl,rfl⟩:=h;exact .inl ⟨_,_,_,rfl,ho,rfl⟩
  ·cases h
 ·simp only[Option.some.injEq,Prod.mk.injEq]at h;obtain⟨rfl,rfl⟩:=h;exact .inr ⟨rfl,rfl,rfl⟩
 ·cases h
theorem tx{ks vs:List D}{es:List MapEntry}(h1:D.aj B w ks (es.map (·.key)))(h2:D.aj B w vs (es.map (·.val))):ao B w (ks.zip vs) es:=by
 have e1:=D.ag _ _ h1
 have e2:=D.ag _ _ h2
 simp only[List.length_map]at e1 e2
 refine(eY _ _).2 ?_
 rw[List.map_fst_zip (by omega),List.map_snd_zip (by omega)]
 exact⟨h1,h2⟩
def lx(l l':List (D×D)):Prop:=l'=l\/(l'.Perm l/\nu (l.map (·.1)))
theorem lx.perm {l l':List (D×D)}(h:lx l l'):l'.Perm l:=by
 rcases h with rfl|h
 ·exact List.Perm.refl _
 ·exact h.1
theorem si{p q:List MapEntry}(JP:p.Perm q):∀ {l:List (D×D)},ao B w l p->∃l',l'.Perm l/\ao B w l' q:=by
 induction JP with
 |nil=>intro l h;exact⟨l,List.Perm.refl _,h⟩
 |cons x _ ih=>
  intro l h
  cases l with
  |nil=>cases h
  |cons y l=>
   obtain⟨k,v⟩:=y
   obtain⟨e,es,h0,h1,h2,h3⟩:=h
   injection h0 with h0 Es;subst h0;subst Es
   obtain⟨l',g1,g2⟩:=ih h3
   exact⟨(k,v)::l',g1.cons _,_,_,rfl,h1,h2,g2⟩
 |swap x y t=>
  intro l h
  match l,h with
  |[],h=>cases h
  |[(_,_)],h=>obtain⟨e,es,h0,_,_,h3⟩:=h;injection h0 with _ h0;have h3:es=[]:=h3;rw[h3]at h0;cases h0
  |(k,v)::(k',v')::l,h=>
   obtain⟨e,es,h0,h1,h2,e',es',Es,JQ,Et,h3⟩:=h
   subst Es
   injection h0 with a b;subst a;injection b with b c;subst b;subst c
   exact⟨(k',v')::(k,v)::l,List.Perm.swap _ _ _,_,_,rfl,JQ,Et,_,_,rfl,h1,h2,h3⟩
 |trans _ _ JR JS=>
  intro l h
  obtain⟨l1,g1,g2⟩:=JR h
  obtain⟨l2,g3,g4⟩:=JS g2
  exact⟨l2,g3.trans g1,g4⟩
theorem jI{l:List (D×D)}{p:List MapEntry}{es:Array MapEntry}(hp:p=es.toList\/(p.Perm es.toList/\nu (l.map (·.1))))(h:ao B w l p):∃l',lx l l'/\ao B w l' es.toList:=by
 rcases hp with rfl|⟨h1,h2⟩
 ·exact⟨l, .inl rfl,h⟩
 ·obtain⟨l',g1,g2⟩:=si h1 h
  exact⟨l', .inr ⟨g1,h2⟩,g2⟩
theorem ig{l:List (D×D)}{v:Value}(h:D.den B w (.mp (l.map (·.1)) (l.map (·.2))) v):∃m es clock l',v= .map (some m)/\w.heap[m]? =some (.map es clock)/\ ¬B m/\dR es clock/\lx l l'/\ao B w l' es.toList:=by
 obtain⟨m,es,clock,p,h1,h2,h3,h4,hp,h5,h6⟩:=h
 obtain⟨l',g1,g2⟩:=jI hp ((eY _ _).2 ⟨h5,h6⟩)
 exact⟨m,es,clock,l',h1,h2,h3,h4,g1,g2⟩
theorem oU{ks vs:List D}{p:List MapEntry}(h1:D.aj B w ks (p.map (·.key)))(h2:D.aj B w vs (p.map (·.val))):(ks.zip vs).map (·.1)=ks:=by
 have e1:=D.ag _ _ h1
 have e2:=D.ag _ _ h2
 simp only[List.length_map]at e1 e2
 exact List.map_fst_zip (by omega)
theorem vL{P:Program}{kt:TypeId}{kd:D}{n:Int}{b:Bool}(h:mh P 100 kt kd (.int .i64 n)=some b):dn P kt=some .int/\∃m,kd= .int .i64 m/\b=(m==n):=by
 unfold mh at h
 cases hs:dn P kt with
 |none=>simp[hs]at h
 |some sh=>
  cases sh<;>simp only[hs]at h
  case int=>
   cases kd<;>simp only at h
   all_goals first
    |(cases h;done)
    |(split at h
      ·rename_i e;subst e;injection h with h;exact⟨rfl,_,rfl,h.symm⟩
      ·cases h)
  all_goals first
   |(cases kd<;>simp at h;done)
   |(simp at h;done)
theorem ij{P:Program}{kt:TypeId}{m:Int}(hs:dn P kt=some .int):∀ (l:List (D×D)) (i:Nat),(∀k∈l.map (·.1),∃n,k= .int .i64 n)->∃r,findD P kt (.int .i64 m) l i=some r/\(match r with|some (_,_,x)=>(D.int .i64 m,x)∈l|none=>∀x,(D.int .i64 m,x)∉l)
 |[],i,_=>⟨none,rfl,by simp⟩
 |(k,x)::l,i,h=>by
  obtain⟨n,rfl⟩:=h k (by simp)
  have he:mh P 100 kt (.int .i64 m) (.int .i64 n)=some (m==n):=by simp[mh,hs]
  simp only[findD,he]
  by_cases e:m=n
  ·subst e
   exact⟨some (i, .int .i64 m,x),by simp,by simp⟩
  ·have e2:(m==n)=false:=by simpa using e
   obtain⟨r,h1,h2⟩:=ij hs l (i+1) (fun k hk=>h k (by simp at hk|-;exact .inr hk))
   refine⟨r,by simp only[e2];exact h1, ?_⟩
   cases r with
   |none=>intro y hy;rcases List.mem_cons.1 hy with hy|hy
          ·injection hy with hy _;injection hy with _ hy;exact e hy
          ·exact h2 y hy
   |some p=>exact List.mem_cons_of_mem _ h2
theorem sj{L:List (D×D)}(hn:(L.map (·.1)).Nodup){k x x':D}(f2:(k,x)∈L)(f4:(k,x')∈L):x'=x:=by
 induction L with
 |nil=>cases f2
 |cons y L ih=>
  rw[List.map_cons,List.nodup_cons]at hn
  rcases List.mem_cons.1 f2 with e1|e1<;>rcases List.mem_cons.1 f4 with e2|e2
  ·rw[<- e1]at e2;injection e2
  ·exact absurd (by rw[<- e1];exact List.mem_map.2 ⟨_,e2,rfl⟩) hn.1
  ·exact absurd (by rw[<- e2];exact List.mem_map.2 ⟨_,e1,rfl⟩) hn.1
  ·exact ih hn.2 e1 e2
theorem mP{P:Program}{kt:TypeId}{kd:D}{l l':List (D×D)}{r:Option (Nat×D×D)}(hl:lx l l')(h:findD P kt kd l 0=some r):∃r',findD P kt kd l' 0=some r'/\(match r,r' with|some (_,_,x),some (_,_,x')=>x'=x|none,none=>True|_,_=>False):=by
 rcases hl with rfl|⟨hp,hk⟩
 ·refine⟨r,h, ?_⟩
  cases r<;>trivial
 ·cases l with
  |nil=>
   have:l'=[]:=hp.eq_nil
   subst this
   refine⟨r,h, ?_⟩
   cases r<;>trivial
  |cons p l=>
   obtain⟨k0,x0⟩:=p
   obtain⟨n0,rfl⟩:=hk.2 k0 (by simp)
   have hb:∃b,mh P 100 kt kd (.int .i64 n0)=some b:=by
    simp only[findD]at h
    cases he:mh P 100 kt kd (.int .i64 n0)with
    |none=>rw[he]at h;cases h
    |some b=>exact⟨b,rfl⟩
   obtain⟨b,hb⟩:=hb
   obtain⟨hs,m,rfl,_⟩:=vL hb
   obtain⟨r1,f1,f2⟩:=ij (m:=m) hs ((.int .i64 n0,x0)::l) 0 hk.2
   rw[h]at f1;injection f1 with f1;subst f1
   obtain⟨r',f3,f4⟩:=ij (m:=m) hs l' 0 (fun k Eu=>hk.2 k ((hp.map _).mem_iff.1 Eu))
   refine⟨r',f3, ?_⟩
   cases r with
   |none=>
    cases r' with
    |none=>trivial
    |some q=>obtain⟨_,_,x'⟩:=q;exact f2 x' (hp.mem_iff.1 f4)
   |some q=>
    obtain⟨_,_,x⟩:=q
    cases r' with
    |none=>exact f4 x (hp.mem_iff.2 f2)
    |some q'=>
     obtain⟨_,_,x'⟩:=q'
     exact sj hk.1 f2 (hp.mem_iff.1 f4)
theorem mQ{ks vs:List D}{p:List MapEntry}(h1:D.aj B w ks (p.map (·.key)))(h2:D.aj B w vs (p.map (·.val))):ao B w (ks.zip vs) p:=tx h1 h2
theorem qj(hH:af M φ H w){m:V}{mv:Value}{rd:List Nat}{l:List (D×D)}(hm:V.den (ad M φ H) φ H w m mv)(h:mD H.o m=some (rd,l)):
 (mv= .map none/\l=[])\/∃b es clock l',mv= .map (some b)/\w.heap[b]? =some (.map es clock)/\dR es clock/\lx l l'/\ao (ad M φ H) w l' es.toList:=by
 unfold mD at h
 split at h
 ·rename_i id
  obtain⟨Ev,DE,ov⟩:=hm
  have aG:=hH.ok id
  split at h
  ·rename_i ho
   simp only[Option.some.injEq,Prod.mk.injEq]at h;obtain⟨rfl,rfl⟩:=h
   simp only[au,ho]at aG
   obtain⟨b,es,clock,g1,g2,g0,g3⟩:=aG
   exact .inr ⟨b,es,clock,_,(ov (by rw[ho];rfl)).trans g1,g2,g0, .inl rfl,g3⟩
  ·rename_i ho
   simp only[Option.some.injEq,Prod.mk.injEq]at h;obtain⟨rfl,rfl⟩:=h
   simp only[au,ho]at aG
   obtain⟨b,es,clock,l',g1,g2,_,g0,g3⟩:=ig aG
   exact .inr ⟨b,es,clock,l',(ov (by rw[ho];rfl)).trans g1,g2,g0,g3⟩
  ·cases h
 ·simp only[Option.some.injEq,Prod.mk.injEq]at h;obtain⟨rfl,rfl⟩:=h
  simp only[V.den,D.den]at hm
  exact .inl ⟨hm,rfl⟩
 ·simp only[Option.some.injEq,Prod.mk.injEq]at h;obtain⟨rfl,rfl⟩:=h
  obtain⟨b,es,clock,p,g1,g2,_,g0,gp,g3,g4⟩:=hm
  obtain⟨l',g5,g6⟩:=jI (by rw[oU g3 g4];exact gp) (mQ g3 g4)
  exact .inr ⟨b,es,clock,l',g1,g2,g0,g5,g6⟩
 ·cases h
theorem qk(hH:af M φ H w){t:TypeId}{m k:V}{mv kv:Value}{ok:Bool}(hm:V.den (ad M φ H) φ H w m mv)(hk:V.den (ad M φ H) φ H w k kv)(h:ba (iI P H.o t m k ok) K):
 aY M φ H w fr ((do let v <- Instr.lookup t mv kv ok;pure (Next.value v):Sem Next).run P w) K:=by
 have hg:=bA h
 clear h
 obtain⟨v,Δ,rd,h,hK⟩:=hg
 unfold iI at h
 split at h
 ·rename_i kt vt kd Ld l ht Ba vH
  split at h
  ·rename_i hc
   have eJ:D.den (ad M φ H) w kd kv:=dp hH k kd kv (fun id ah=>by rw[hc.1]at ah;cases ah) Ba hk
   have vl:∀em,(Instr.checkKey em 10000 kt kv).run P w= .ok () w:=fun em=>iY em 100 kt kd hc.2 10000 (by decide) kv eJ
   have sY:=jH ht
   have Ew:∃ (es:Array MapEntry) (l':List (D×D)),lx l l'/\ao (ad M φ H) w l' es.toList/\∀ (r':Option (Nat×Value)) (val:Value),(Instr.findKey kt kv es.toList).run P w= .ok r' w->(match r' with|some (_,u)=>val=(if ok=true then .tuple #[u, .bool true]else u)|none=>∃z,(zeroValue vt).run P w= .ok z w/\val=(if ok=true then .tuple #[z, .bool false]else z))->(Instr.lookup t mv kv ok).run P w= .ok val w:=by
    rcases qj hH hm vH with⟨rfl,rfl⟩|⟨b,es,clock,l',rfl,g2,_,gl,g3⟩
    case inr=>
     have iZ:=MapKept.run_getObj_map (P:=P) g2
     refine⟨es,l',gl,g3,fun r' val q1 q2=> ?_⟩
     cases r' with
     |some p=>obtain⟨j,u⟩:=p;simp only at q2;subst q2;cases ok<;>simp[Instr.lookup,run_underlying sY,iZ,vl,q1]
     |none=>obtain⟨z,z1,rfl⟩:=q2;cases ok<;>simp[Instr.lookup,run_underlying sY,iZ,vl,q1,z1]
    case inl=>
     refine⟨#[],[], .inl rfl,rfl,fun r' val q1 q2=> ?_⟩
     cases r' with
     |some p=>obtain⟨j,u⟩:=p;simp only at q2;subst q2;cases ok<;>simp[Instr.lookup,run_underlying sY,vl,q1]
     |none=>obtain⟨z,z1,rfl⟩:=q2;cases ok<;>simp[Instr.lookup,run_underlying sY,vl,q1,z1]
   obtain⟨es,l',gl,g3,run⟩:=Ew
   split at h
   ·rename_i j kk x hf
    injection h with h;injection h with e1 e2;injection e2 with e2 e3;subst e1;subst e2;subst e3
    obtain⟨r2,Ex,nC⟩:=mP gl hf
    obtain⟨r',q1,q2⟩:=cZ eJ hc.2 g3 Ex
    cases r2 with
    |none=>exact nC.elim
    |some p2=>
    obtain⟨_,_,x2⟩:=p2
    have JT:x2=x:=nC
    obtain rfl:=JT
    cases r' with
    |none=>exact q2.elim
    |some p=>
     obtain⟨j',u⟩:=p
     obtain⟨_,_,DF,_⟩:=q2
     refine aY.plain (v:=(if ok=true then .a8 [.d x2, .d (.bool true)]else .d x2)) hH (if ok=true then .tuple #[u, .bool true]else u) hK (run _ _ q1 rfl) ?_
     cases ok
     ·exact DF
     ·exact⟨#[u, .bool true],rfl,u,[.bool true],rfl,DF, .bool true,[],rfl,rfl,rfl⟩
   ·rename_i hf
    split at h
    ·rename_i z hz
     injection h with h;injection h with e1 e2;injection e2 with e2 e3;subst e1;subst e2;subst e3
     obtain⟨r2,Ex,nC⟩:=mP gl hf
     obtain⟨r',q1,q2⟩:=cZ eJ hc.2 g3 Ex
     cases r2 with
     |some p2=>exact nC.elim
     |none=>
     cases r' with
     |some p=>exact q2.elim
     |none=>
      obtain⟨val,z1,z2⟩:=jG (M:=M) (φ:=φ) (H:=H) (w:=w) hz
      refine aY.plain hH (if ok=true then .tuple #[val, .bool false]else val) hK (run _ _ q1 ⟨val,z1,rfl⟩) ?_
      cases ok
      ·exact z2
      ·exact⟨#[val, .bool false],rfl,val,[.bool false],rfl,z2, .bool false,[],rfl,rfl,rfl⟩
    ·cases h
   ·cases h
  ·cases h
 ·cases h
theorem dL{es:Array MapEntry}{i:Nat}{e:MapEntry}(f:MapEntry->MapEntry)(h:es.toList[i]? =some e):(es.modify i f).toList=es.toList.set i (f e):=by
 apply List.ext_getElem?
 intro j
 simp only[Array.getElem?_toList,Array.getElem?_modify]
 rw[List.getElem?_set]
 have h':es[i]? =some e:=by simpa using h
 by_cases hj:i=j
 ·subst hj
  have cu:i<es.toList.length:=by
   rw[List.getElem?_eq_some_iff]at h;exact h.1
  simp only[if_true,h',Option.map_some,cu]
 ·simp[hj]
theorem ql{es:Array MapEntry}{clock:Nat}(h:dR es clock){e:MapEntry}(he:e.born=clock):dR (es.push e) (clock+1):=by
 obtain⟨h1,h2⟩:=h
 refine⟨fun x hx=> ?_, ?_⟩
 ·rw[Array.toList_push]at hx
  rcases List.mem_append.1 hx with hx|hx
  ·have:=h1 x hx;omega
  ·simp at hx;subst hx;omega
 ·rw[Array.toList_push,List.map_append,List.nodup_append]
  refine⟨h2,by simp,fun a ha b hb=> ?_⟩
  obtain⟨x,hx,rfl⟩:=List.mem_map.1 ha
  simp only[List.map_cons,List.map_nil,List.mem_singleton]at hb
  have:=h1 x hx
  omega
theorem nD{es:Array MapEntry}{clock i:Nat}(h:dR es clock){e:MapEntry}(hi:es.toList[i]? =some e){f:MapEntry->MapEntry}(hf:(f e).born=e.born):dR (es.modify i f) clock:=by
 obtain⟨h1,h2⟩:=h
 unfold dR
 rw[dL f hi]
 have e1:(es.toList.set i (f e)).map (·.born)=es.toList.map (·.born):=by
  rw[List.map_set,hf]
  apply List.ext_getElem?
  intro j
  rw[List.getElem?_set]
  by_cases hj:i=j
  ·subst hj
   have cu:=(List.getElem?_eq_some_iff.1 hi).1
   rw[if_pos rfl,if_pos (by simpa using cu),List.getElem?_map,hi];rfl
  ·rw[if_neg hj]
 refine⟨fun x hx=> ?_,by rw[e1];exact h2⟩
 obtain⟨j,hj⟩:=List.mem_iff_getElem?.1 (List.mem_map.2 ⟨x,hx,rfl⟩:x.born∈(es.toList.set i (f e)).map (·.born))
 rw[e1]at hj
 obtain⟨y,hy,e2⟩:=List.mem_map.1 (List.mem_of_getElem? hj)
 have:=h1 y hy
 omega
theorem oV{es:Array MapEntry}{clock i:Nat}(h:dR es clock):dR (es.eraseIdxIfInBounds i) clock:=by
 obtain⟨h1,h2⟩:=h
 have e:(es.eraseIdxIfInBounds i).toList=es.toList.eraseIdx i:=by simp
 unfold dR
 rw[e]
 exact⟨fun x hx=>h1 x (List.mem_of_mem_eraseIdx hx),h2.sublist (List.Sublist.map _ (List.eraseIdx_sublist ..))⟩
theorem ao.erase:∀ {l:List (D×D)} {es:List MapEntry} {i:Nat},ao B w l es->ao B w (l.eraseIdx i) (es.eraseIdx i)
 |[],es,i,h=>by simp only[ao]at h;subst h;simp[ao]
 |(k',x')::l,es,i,h=>by
  obtain⟨e',es,rfl,g1,g2,g3⟩:=h
  cases i with
  |zero=>exact g3
  |succ i=>exact⟨e',es.eraseIdx i,rfl,g1,g2,ao.erase g3⟩
theorem tz(hH:af M φ H w){id b clock clock':Nat}{kt vt:TypeId}{l l':List (D×D)}{es es':Array MapEntry}(b5:H.us id)(ho:H.o id= .map kt vt l)(bG:φ id= .map (some b))(g2:w.heap[b]? =some (.map es clock))(h0:dR es' clock')(hl:ao (ad M φ H) w l' es'.toList):
 af M φ (H.put [(id, .map kt vt l')]) {w with heap:=w.heap.setIfInBounds b (.map es' clock')}/\Trans φ H w φ (H.put [(id, .map kt vt l')]) {w with heap:=w.heap.setIfInBounds b (.map es' clock')}:=by
 have tA:cp (· =b) w {w with heap:=w.heap.setIfInBounds b (.map es' clock')}:=
  ⟨rfl,rfl,rfl,by simp,fun j _ hj=>(MapKept.heap_set g2).2 j hj⟩
 have nA:(H.o id).live=true:=by rw[ho];rfl
 have tB:cI (φ id)=some b:=by rw[bG];rfl
 have p0:=cT (w:=w) (w':={w with heap:=w.heap.setIfInBounds b (.map es' clock')}) b5 nA tB tA (.map kt vt l') (by rw[ho];rfl) (by rw[ho];rfl)
 refine⟨dZ hH b5 nA tB tA _ (by rw[ho];rfl) (by rw[ho];rfl) ?_,p0⟩
 unfold au
 simp only[aE,ak,if_true]
 exact⟨b,es',clock',bG,(MapKept.heap_set g2).1,h0,ao.mono (p0.blocks (M:=M)) l' _ hl⟩
theorem qm(hH:af M φ H w){t:TypeId}{ts:Array TypeId}{m k:V}{mv kv:Value}(mo:ts.toList.head?=some t)(hm:V.den (ad M φ H) φ H w m mv)(hk:V.den (ad M φ H) φ H w k kv){ty0:TypeId}
 (h:ba (iM P H.o t m k) K):aY M φ H w fr ((do let v <- Builtin.delete_ ts ty0 #[mv,kv];pure (Next.value v):Sem Next).run P w) K:=by
 have hg:=bA h
 clear h
 obtain⟨v',Δ,rd,h,hK⟩:=hg
 have DG:ts[0]? =some t:=by rw[<- Array.getElem?_toList, <- List.head?_eq_getElem?];exact mo
 unfold iM at h
 split at h
 ·rename_i kt vt kd id vh vi l ht Ba vH
  rcases lu vH with⟨JU,JV,JW,rfl,ho,hr⟩|⟨rfl,hr,rfl⟩
  case inr=>cases hr
  injection hr with hr;injection hr with e1 e2;injection e2 with e2 e3;subst e1;subst e2;subst e3
  split at h
  ·rename_i hc
   obtain⟨c1,c2⟩:=hc
   have eJ:D.den (ad M φ H) w kd kv:=dp hH k kd kv (fun id ah=>by rw[c1]at ah;cases ah) Ba hk
   have vl:∀em,(Instr.checkKey em 10000 kt kv).run P w= .ok () w:=fun em=>iY em 100 kt kd c2 10000 (by decide) kv eJ
   have sY:=jH ht
   obtain⟨Ev,b5,ov⟩:=hm
   have bG:=ov (by rw[ho];rfl)
   have aG:=hH.ok id
   simp only[au,ho]at aG
   obtain⟨b,es,clock,g1,g2,g0,g3⟩:=aG
   rw[<- bG]at g1;subst g1
   have iZ:=MapKept.run_getObj_map (P:=P) g2
   split at h
   ·rename_i i k' x hf
    injection h with h;injection h with e1 e2;injection e2 with e2 e3;subst e1;subst e2;subst e3
    obtain⟨r',q1,q2⟩:=cZ eJ c2 g3 hf
    cases r' with
    |none=>exact q2.elim
    |some p=>
     obtain⟨j',u⟩:=p
     obtain⟨rfl,_,DF,e,h4,h5,h6⟩:=q2
     have e:(es.eraseIdxIfInBounds i).toList=es.toList.eraseIdx i:=by simp
     obtain⟨t1,t2⟩:=tz (clock':=clock) (es':=es.eraseIdxIfInBounds i) (l':=l.eraseIdx i) hH b5 ho bG.symm g2 (oV g0) (by rw[e];exact g3.erase)
     refine⟨.value (.tuple #[]), .tuple #[],_,φ,_,_,_,hK, ?_, .inl rfl,t1,t2,⟨#[],rfl,rfl⟩,fun j hj=> .inl (by simp at hj;subst hj;exact b5)⟩
     simp only[Builtin.delete_,DG,Sem.run_bind,run_underlying sY,Result.andThen_ok,iZ,vl,q1,List.getElem?_toArray,List.getElem?_cons_zero,List.getElem?_cons_succ,MapKept.run_setObj_map _ g2,Sem.run_pure]
   ·rename_i hf
    injection h with h;injection h with e1 e2;injection e2 with e2 e3;subst e1;subst e2;subst e3
    obtain⟨r',q1,q2⟩:=cZ eJ c2 g3 hf
    cases r' with
    |some p=>exact q2.elim
    |none=>
     have hw:{w with heap:=w.heap.setIfInBounds b (.map es clock)}=w:=by
      have cu:b<w.heap.size:=by
       rcases Nat.lt_or_ge b w.heap.size with h|h
       ·exact h
       ·simp[Array.getElem?_eq_none h]at g2
      have:w.heap.setIfInBounds b (.map es clock)=w.heap:=by
       apply Array.ext_getElem?
       intro j
       rw[Array.getElem?_setIfInBounds]
       by_cases hj:b=j
       ·subst hj;rw[if_pos rfl,if_pos cu,g2]
       ·rw[if_neg hj]
      rw[this]
     refine⟨.value (.tuple #[]), .tuple #[],w,φ,_,_,_,hK, ?_, .inl rfl,by rw[gL];exact hH,by rw[gL];exact Trans.refl _ _ _,⟨#[],rfl,rfl⟩,by simp⟩
     simp only[Builtin.delete_,DG,Sem.run_bind,run_underlying sY,Result.andThen_ok,iZ,vl,q1,List.getElem?_toArray,List.getElem?_cons_zero,List.getElem?_cons_succ,MapKept.run_setObj_map _ g2,Sem.run_pure,hw]
   ·cases h
  ·cases h
 ·cases h
theorem nE(H:Hp)(i j:Nat)(x y:aa):H.put [(i,x),(j,y)]=(H.put [(i,x)]).put [(j,y)]:=by rw[<- bV];rfl
theorem sm(hH:af M φ H w)(cz: ¬H.us fr){t:TypeId}{x:V}{xv:Value}(hx:V.den (ad M φ H) φ H w x xv)(h:ba (hS P H.o fr t x) K):
 aY M φ H w fr ((do let v <- Instr.range t xv;pure (Next.value v):Sem Next).run P w) K:=by
 have hg:=bA h
 clear h
 obtain⟨v,Δ,rd,h,hK⟩:=hg
 have new:∀ (dO:Place) (H1:Hp) (obj:aa) (ob:Obj),af M dO H1 w-> ¬H1.us fr->au M (cN dO fr (.pointer (some ⟨w.heap.size,0,none⟩))) (H1.put [(fr,obj)]) (w.alloc ob) fr->
  af M (cN dO fr (.pointer (some ⟨w.heap.size,0,none⟩))) (H1.put [(fr,obj)]) (w.alloc ob)/\Trans dO H1 w (cN dO fr (.pointer (some ⟨w.heap.size,0,none⟩))) (H1.put [(fr,obj)]) (w.alloc ob):=by
  intro dO H1 obj ob h1 h2 h3
  have hv:∀b,cI (.pointer (some ⟨w.heap.size,0,none⟩))=some b->w.heap.size<=b/\b<(w.alloc ob).heap.size:=by
   intro b hb;simp[cI]at hb;subst hb;simp
  exact⟨ei h1 (bd w _) h2 _ _ hv h3,cF (bd w _) h2 _ _ fun b hb=>(hv b hb).1⟩
 have frozen:∀ (H1:Hp) (l:List (D×D)) (b:Nat) (es:Array MapEntry) (clock:Nat),af M φ H1 w-> ¬H1.us fr->w.heap[b]? =some (.map es clock)-> ¬ad M φ H1 b->dR es clock->(∃l',l'.Perm l/\ao (ad M φ H1) w l' es.toList)->
  au M (cN φ fr (.pointer (some ⟨w.heap.size,0,none⟩))) (H1.put [(fr, .kX l none)]) (w.alloc (.mapIter (some b) clock #[] clock)) fr:=by
  intro H1 l b es clock h1 h2 h3 h4 h5 h6
  have ht:=cF (φ:=φ) (H:=H1) (w:=w) (w':=w.alloc (.mapIter (some b) clock #[] clock)) (bd w _) h2 (.kX l none) (.pointer (some ⟨w.heap.size,0,none⟩)) (fun b hb=>by simp[cI]at hb;omega)
  obtain⟨k1,k2⟩:=ht.blocks (M:=M) b (.inr ⟨es,clock,h3⟩) h4
  unfold au
  simp only[aE,ak,if_true]
  refine⟨w.heap.size,rfl, .inr ⟨b,clock,#[],es,heap_alloc_new w _,k1.trans h3,k2,h5, ?_,fun k x e=>by cases e⟩⟩
  have e:(es.toList.filter fun e=> !(#[]:Array Nat).contains e.born)=es.toList:=List.filter_eq_self.2 (fun a _=>by simp)
  rw[e]
  obtain⟨l',h6,h7⟩:=h6
  exact⟨l',h6,ao.mono (ht.blocks (M:=M)) l' _ h7⟩
 unfold hS at h
 split at h
 ·rename_i ht
  split at h
  ·rename_i s
   injection h with h;injection h with e1 e2;injection e2 with e2 e3;subst e1;subst e2;subst e3
   obtain⟨st,rfl,hs⟩:=hx
   have iX:st=⟨⟨s⟩⟩:=by obtain⟨⟨a⟩⟩:=st;simp at hs;subst hs;rfl
   subst iX
   obtain⟨n1,n2⟩:=new φ H (.ot s 0) (.stringIter ⟨⟨s⟩⟩ 0) hH cz (by
    unfold au
    simp only[aE,ak,if_true]
    exact⟨w.heap.size,rfl,heap_alloc_new w _⟩)
   exact⟨_,_,_,_,_,_,_,hK,by simp[Instr.range,run_underlying ht], .inl rfl,n1,n2,⟨rfl,by simp,fun _=>⟨w.heap.size,by simp,rfl⟩⟩,fun j hj=> .inr (by simpa using hj)⟩
  ·cases h
 ·rename_i ht
  split at h
  ·injection h with h;injection h with e1 e2;injection e2 with e2 e3;subst e1;subst e2;subst e3
   simp only[V.den,D.den]at hx;subst hx
   obtain⟨n1,n2⟩:=new φ H (.kX [] none) (.mapIter none 0 #[] 0) hH cz (by
    unfold au
    simp only[aE,ak,if_true]
    exact⟨w.heap.size,rfl, .inl ⟨heap_alloc_new w _,rfl,rfl⟩⟩)
   exact⟨_,_,_,_,_,_,_,hK,by simp[Instr.range,run_underlying ht], .inl rfl,n1,n2,⟨rfl,by simp,fun _=>⟨w.heap.size,by simp,rfl⟩⟩,fun j hj=> .inr (by simpa using hj)⟩
  ·rename_i ks vs
   injection h with h;injection h with e1 e2;injection e2 with e2 e3;subst e1;subst e2;subst e3
   obtain⟨b,es,clock,p,rfl,g2,g4,g0,gp,g3,g5⟩:=hx
   have iZ:=MapKept.run_getObj_map (P:=P) g2
   obtain⟨l',g6,g7⟩:=jI (by rw[oU g3 g5];exact gp) (mQ g3 g5)
   obtain⟨n1,n2⟩:=new φ H _ _ hH cz (frozen H (ks.zip vs) b es clock hH cz g2 g4 g0 ⟨l',g6.perm,g7⟩)
   exact⟨_,_,_,_,_,_,_,hK,by simp[Instr.range,run_underlying ht,iZ], .inl rfl,n1,n2,⟨rfl,by simp,fun _=>⟨w.heap.size,by simp,rfl⟩⟩,fun j hj=> .inr (by simpa using hj)⟩
  ·rename_i id
   obtain⟨Ev,b5,ov⟩:=hx
   have aG:=hH.ok id
   split at h
   ·rename_i kt vt l ho
    injection h with h;injection h with e1 e2;injection e2 with e2 e3;subst e1;subst e2;subst e3
    obtain⟨f1,f2⟩:=qZ hH b5 ho
    have iU:(H.put [(id, .dA l)]).o id= .dA l:=by simp
    have Bb:=f1.ok id
    simp only[au,iU]at Bb
    obtain⟨b,es,clock,l',g1,g2,g4,g0,gl,g3⟩:=ig Bb
    have bG:=ov (by rw[ho];rfl)
    rw[<- bG]at g1;subst g1
    have iZ:=MapKept.run_getObj_map (P:=P) g2
    have Bc: ¬ (H.put [(id, .dA l)]).us fr:=by
     rw[bW]
     rintro(h|h)
     ·exact cz h
     ·exact cz (h ▸ b5)
    obtain⟨n1,n2⟩:=new φ _ _ _ f1 Bc (frozen _ l b es clock f1 Bc g2 g4 g0 ⟨l',gl.perm,g3⟩)
    refine⟨.value (.pointer (some ⟨w.heap.size,0,none⟩)), .pointer (some ⟨w.heap.size,0,none⟩),w.alloc (.mapIter (some b) clock #[] clock),_,_,_,_,hK,by simp[Instr.range,run_underlying ht,iZ], .inl rfl,by rw[nE];exact n1,by rw[nE];exact f2.trans n2, ?_,fun j hj=> ?_⟩
    ·rw[nE]
     exact⟨rfl,by simp,fun _=>⟨w.heap.size,by simp,rfl⟩⟩
    ·simp at hj
     rcases hj with rfl|rfl
     ·exact .inl b5
     ·exact .inr rfl
   ·rename_i l ho
    injection h with h;injection h with e1 e2;injection e2 with e2 e3;subst e1;subst e2;subst e3
    simp only[au,ho]at aG
    obtain⟨b,es,clock,l',g1,g2,g4,g0,gl,g3⟩:=ig aG
    have bG:=ov (by rw[ho];rfl)
    rw[<- bG]at g1;subst g1
    have iZ:=MapKept.run_getObj_map (P:=P) g2
    obtain⟨n1,n2⟩:=new φ H _ _ hH cz (frozen H l b es clock hH cz g2 g4 g0 ⟨l',gl.perm,g3⟩)
    exact⟨_,_,_,_,_,_,_,hK,by simp[Instr.range,run_underlying ht,iZ], .inl rfl,n1,n2,⟨rfl,by simp,fun _=>⟨w.heap.size,by simp,rfl⟩⟩,fun j hj=> .inr (by simpa using hj)⟩
   ·cases h
  ·cases h
 ·cases h
theorem re(hH:af M φ H w){id b:Nat}{obj obj':aa}{x y:Obj}(b5:H.us id)(ho:H.o id=obj)(hl:obj.live=true)(hr:obj.aM=true)(he:obj.aN=none)(tC:obj'.aM=true)(qV:obj'.aN=none)(bG:φ id= .pointer (some ⟨b,0,none⟩))(g2:w.heap[b]? =some x){w1:World}(Ey:w1.os=w.os/\w1.tape=w.tape/\w1.output=w.output/\w1.heap=w.heap)
 (lk:Trans φ H w φ (H.put [(id,obj')]) {w1 with heap:=w.heap.setIfInBounds b y}->au M φ (H.put [(id,obj')]) {w1 with heap:=w.heap.setIfInBounds b y} id):
 af M φ (H.put [(id,obj')]) {w1 with heap:=w.heap.setIfInBounds b y}/\Trans φ H w φ (H.put [(id,obj')]) {w1 with heap:=w.heap.setIfInBounds b y}:=by
 have tA:cp (· =b) w {w1 with heap:=w.heap.setIfInBounds b y}:=
  ⟨Ey.1,Ey.2.1,Ey.2.2.1,by simp,fun j _ hj=>by
   show(w.heap.setIfInBounds b y)[j]? =_
   rw[Array.getElem?_setIfInBounds,if_neg (fun e=>hj e.symm)]⟩
 have nA:(H.o id).live=true:=by rw[ho];exact hl
 have tB:cI (φ id)=some b:=by rw[bG];rfl
 have p0:=cT (w:=w) b5 nA tB tA obj' (by rw[ho,hr,tC]) (by rw[ho,he,qV])
 exact⟨dZ hH b5 nA tB tA _ (by rw[ho,hr,tC]) (by rw[ho,he,qV]) (lk p0),p0⟩
theorem oW(hH:af M φ H w){x:V}{xv:Value}{str:Bool}{ty:TypeId}(hx:V.den (ad M φ H) φ H w x xv)(h:ba (iK H.o x str) K):
 aY M φ H w fr ((do let v <- Instr.next xv str ty;pure (Next.value v):Sem Next).run P w) K:=by
 have hg:=bA h
 clear h
 obtain⟨v,Δ,rd,h,hK⟩:=hg
 unfold iK at h
 split at h
 ·rename_i id
  obtain⟨_,b5,ov⟩:=hx
  split at h
  ·rename_i s pos ho
   split at h
   ·rename_i Ez
    subst Ez
    obtain⟨b0,q1,rfl⟩:=ov (by rw[ho];rfl)
    have aG:=hH.ok id
    simp only[au,ho]at aG
    obtain⟨b,g1,g2⟩:=aG
    rw[q1]at g1;injection g1 with g1;injection g1 with g1;injection g1 with g1;subst g1
    have cl:(ByteArray.mk ⟨s⟩).size=s.length:=rfl
    split at h
    ·rename_i cu
     injection h with h;injection h with e1 e2;injection e2 with e2 e3;subst e1;subst e2;subst e3
     obtain⟨n1,n2⟩:=re (w1:=w) (y:= .stringIter ⟨⟨s⟩⟩ (pos+(Utf8.decode ⟨⟨s⟩⟩ pos).2)) (obj':= .ot s (pos+(Utf8.decode ⟨⟨s⟩⟩ pos).2)) hH b5 ho rfl rfl rfl rfl rfl q1 g2 ⟨rfl,rfl,rfl,rfl⟩ (fun _=>by
      unfold au
      simp only[aE,ak,if_true]
      refine⟨b0,q1, ?_⟩
      have cu:b0<w.heap.size:=by
       rcases Nat.lt_or_ge b0 w.heap.size with h|h
       ·exact h
       ·simp[Array.getElem?_eq_none h]at g2
      show(w.heap.setIfInBounds b0 _)[b0]? =_
      rw[Array.getElem?_setIfInBounds,if_pos rfl,if_pos cu])
     refine⟨.value (.tuple #[.bool true,goInt pos, .int .i32 (Utf8.decode ⟨⟨s⟩⟩ pos).1]),_,_,φ,_,_,_,hK, ?_, .inl rfl,n1,n2,⟨_,rfl, .bool true,_,rfl,rfl,_,_,rfl,rfl,_,_,rfl,rfl,rfl⟩,fun j hj=> .inl (by simp at hj;subst hj;exact b5)⟩
     simp only[Instr.next,getObj,setObj,Sem.run_bind,Sem.run,g2,Result.andThen,cl,cu,if_true]
     rfl
    ·rename_i cu
     injection h with h;injection h with e1 e2;injection e2 with e2 e3;subst e1;subst e2;subst e3
     refine aY.same hH (.tuple #[.bool false]) hK ?_ ⟨_,rfl, .bool false,_,rfl,rfl,rfl⟩
     simp only[Instr.next,getObj,Sem.run_bind,Sem.run,g2,Result.andThen,cl,cu,if_false]
     rfl
   ·cases h
  ·cases h
 ·cases h
theorem oX{es:List MapEntry}(hn:(es.map (·.born)).Nodup)(seen:Array Nat){e:MapEntry}{i:Nat}(hi:(es.filter fun e=> !seen.contains e.born)[i]? =some e):
 (es.filter fun x=> !(seen.push e.born).contains x.born)=(es.filter fun e=> !seen.contains e.born).eraseIdx i:=by
 have e1:(es.filter fun x=> !(seen.push e.born).contains x.born)=(es.filter fun e=> !seen.contains e.born).filter (fun x=>x.born !=e.born):=by
  rw[List.filter_filter]
  refine List.filter_congr fun x _=> ?_
  simp only[Array.contains_push]
  cases h1:seen.contains x.born<;>cases h2:(x.born==e.born)<;>simp_all[bne]
 rw[e1]
 have Hv:((es.filter fun e=> !seen.contains e.born).map (·.born)).Nodup:=hn.sublist (List.Sublist.map _ (List.filter_sublist ..))
 generalize (es.filter fun e=> !seen.contains e.born)=L at hi Hv|-
 induction L generalizing i with
 |nil=>simp at hi
 |cons y L ih=>
  obtain⟨n1,n2⟩:=List.nodup_cons.1 Hv
  cases i with
  |zero=>
   simp at hi;subst hi
   simp only[List.filter_cons,bne_self_eq_false,Bool.false_eq_true,if_false,List.eraseIdx_zero,List.tail_cons]
   refine List.filter_eq_self.2 fun x hx=> ?_
   simp only[bne_iff_ne,ne_eq]
   exact fun h=>n1 (by show y.born∈_;rw[<- h];exact List.mem_map.2 ⟨x,hx,rfl⟩)
  |succ i=>
   simp only[List.getElem?_cons_succ]at hi
   have hm:=List.mem_of_getElem? hi
   have iT:(y.born !=e.born)=true:=by
    simp only[bne_iff_ne,ne_eq]
    exact fun h=>n1 (by show y.born∈_;rw[h];exact List.mem_map.2 ⟨e,hm,rfl⟩)
   rw[List.filter_cons,iT,if_pos rfl,List.eraseIdx_cons_succ,ih hi n2]
theorem oY(hH:af M φ H w){x:V}{xv:Value}{ty:TypeId}(hx:V.den (ad M φ H) φ H w x xv){id:Nat}{l:List (D×D)}(h:iL H.o x=some (id,l))(hK:qY id l K):
 aY M φ H w fr ((do let v <- Instr.next xv false ty;pure (Next.value v):Sem Next).run P w) K:=by
 unfold iL at h
 split at h
 ·rename_i bt
  obtain⟨_,b5,ov⟩:=hx
  split at h
  ·rename_i l' last ho
   simp only[Option.some.injEq,Prod.mk.injEq]at h
   obtain⟨rfl,rfl⟩:=h
   obtain⟨b0,q1,rfl⟩:=ov (by rw[ho];rfl)
   have aG:=hH.ok bt
   simp only[au,ho]at aG
   obtain⟨b,g1,g2⟩:=aG
   rw[q1]at g1;injection g1 with g1;injection g1 with g1;injection g1 with g1;subst g1
   rcases g2 with⟨g2,rfl,_⟩|⟨m,since,seen,es,g2,g3,g4,g5,g6,_⟩
   ·refine aY.same hH (.tuple #[.bool false]) (hK.1 rfl) ?_ ⟨_,rfl, .bool false,_,rfl,rfl,rfl⟩
    simp only[Instr.next,getObj,Sem.run_bind,Sem.run,g2,Result.andThen]
    rfl
   ·have w9:=next_test_false seen es since since g5.1 (Nat.le_refl _)
    have iy:(es.filter fun e=> !seen.contains e.born).toList=es.toList.filter fun e=> !seen.contains e.born:=by simp
    obtain⟨l1,gp,g6⟩:=g6
    rw[<- iy]at g6
    have ly:∀x∈(es.filter fun e=> !seen.contains e.born).toList,x.born<since:=fun x hx=>g5.1 x (by simp at hx|-;exact hx.1)
    have EA:b0<w.heap.size:=by
     rcases Nat.lt_or_ge b0 w.heap.size with h|h
     ·exact h
     ·simp[Array.getElem?_eq_none h]at g2
    by_cases h0:(es.filter fun e=> !seen.contains e.born).size=0
    ·have hL:(es.filter fun e=> !seen.contains e.born)=#[]:=Array.eq_empty_of_size_eq_zero h0
     rw[hL]at g6
     have nA:l1=[]:=by cases l1 with|nil=>rfl|cons p l1=>obtain⟨e,es',h,_⟩:=g6;simp at h
     have Bd:l'=[]:=by rw[nA]at gp;exact gp.symm.eq_nil
     refine aY.same hH (.tuple #[.bool false]) (hK.1 Bd) ?_ ⟨_,rfl, .bool false,_,rfl,rfl,rfl⟩
     simp only[Instr.next,getObj,Sem.run_bind,Sem.run,g2,g3,Result.andThen,w9,Bool.false_eq_true,if_false,hL]
     simp[choose,Sem.run,Question.forced]
    ·have cG:∃ (j:Nat) (e:MapEntry) (w1:World),(es.filter fun e=> !seen.contains e.born).toList[j]? =some e/\(w1.os=w.os/\w1.tape=w.tape/\w1.output=w.output/\w1.heap=w.heap)/\
      (Instr.next (.pointer (some ⟨b0,0,none⟩)) false ty).run P w= .ok (.tuple #[.bool true,e.key,e.val]) {w1 with heap:=w.heap.setIfInBounds b0 (.mapIter (some m) since (seen.push e.born) since)}:=by
      simp only[Instr.next,getObj,Sem.run_bind,Sem.run,g2,g3,Result.andThen,w9,Bool.false_eq_true,if_false]
      generalize es.filter (fun e=> !seen.contains e.born)=L at ly h0|-
      have e1:L.filter (fun x=>decide (x.born<since))=L:=Array.filter_eq_self.2 (fun x hx=>by simpa using ly x (by simpa using hx))
      have e2:L.filter (fun x=>decide (x.born≥since))=#[]:=by
       rw[Array.filter_eq_empty_iff]
       intro x hx
       have:=ly x (by simpa using hx)
       simp
       omega
      have iT:L.isEmpty=false:=by simp[Array.isEmpty,h0]
      simp only[e1,e2,Array.append_empty,iT,Bool.false_eq_true,if_false,Array.empty_append,Array.size_map]
      have JX:∃ (j:Nat) (w1:World),j<L.size/\(w1.os=w.os/\w1.tape=w.tape/\w1.output=w.output/\w1.heap=w.heap)/\(choose (Question.mapNext L.size)).run P w= .ok j w1:=by
       by_cases hf:L.size<=1
       ·exact⟨0,w,by omega,⟨rfl,rfl,rfl,rfl⟩,by simp[choose,Sem.run,Question.forced,hf]⟩
       ·exact⟨_,w.drew,Nat.mod_lt _ (by omega),⟨rfl,rfl,rfl,rfl⟩,by
         simp only[choose,Sem.run,Question.forced,decide_eq_true_eq,hf,if_false,Question.cut]
         rfl⟩
      obtain⟨j,w1,hj,yj,cG⟩:=JX
      refine⟨j,L[j],w1,by simp[hj],yj, ?_⟩
      have JY:w1.heap[b0]? =some (.mapIter (some m) since seen since):=by rw[yj.2.2.2];exact g2
      simp only[cG,Array.getElem?_map,Array.getElem?_eq_getElem hj,Option.map_some,Sem.run_bind,setObj,Sem.run,JY,g2,Result.andThen,yj.2.2.2]
      rfl
     obtain⟨j,e,w1,DH,yj,cG⟩:=cG
     obtain⟨⟨k,x⟩,DA,sZ,Hw⟩:=g6.get DH
     obtain⟨j2,vM,rf⟩:=List.getElem_of_mem (gp.mem_iff.1 (List.mem_of_getElem? DA))
     have rf:l'[j2]? =some (k,x):=by rw[List.getElem?_eq_getElem vM,rf]
     have JZ:(l1.eraseIdx j).Perm (l'.eraseIdx j2):=by
      have xa:∀ {L:List (D×D)} {i:Nat} {n:D×D},L[i]? =some n->L.Perm (n::L.eraseIdx i):=by
       intro L i n h
       obtain⟨hi,e⟩:=List.getElem?_eq_some_iff.1 h
       have DB:L=L.take i++n::L.drop (i+1):=by rw[<- e,List.getElem_cons_drop,List.take_append_drop]
       rw[List.eraseIdx_eq_take_drop_succ]
       conv=>lhs;rw[DB]
       exact List.perm_middle
      exact List.Perm.cons_inv (((xa DA).symm.trans gp).trans (xa rf))
     have sX:e∈es.toList:=by
      have:=List.mem_of_getElem? DH
      rw[iy]at this
      exact(List.mem_filter.1 this).1
     obtain⟨n1,n2⟩:=re (w1:=w1) (y:= .mapIter (some m) since (seen.push e.born) since) (obj':= .kX (l'.eraseIdx j2) (some (k,x))) hH b5 ho rfl rfl rfl rfl rfl q1 g2 yj (fun ht=>by
      unfold au
      simp only[aE,ak,if_true]
      obtain⟨k1,k2⟩:=ht.blocks (M:=M) m (.inr ⟨es,since,g3⟩) g4
      refine⟨b0,q1, .inr ⟨m,since,seen.push e.born,es, ?_,k1.trans g3,k2,g5, ?_,fun k' x' EB=> ?_⟩⟩
      ·show(w.heap.setIfInBounds b0 _)[b0]? =_
       rw[Array.getElem?_setIfInBounds,if_pos rfl,if_pos EA]
      ·rw[iy]at DH g6
       rw[oX g5.2 seen DH]
       exact⟨_,JZ,ao.mono (ht.blocks (M:=M)) _ _ g6.erase⟩
      ·injection EB with EB;injection EB with h1 h2;subst h1;subst h2
       exact⟨e,sX,by simp,D.aq (ht.blocks (M:=M)) _ _ sZ,D.aq (ht.blocks (M:=M)) _ _ Hw⟩)
     refine⟨.value (.tuple #[.bool true,e.key,e.val]),_,_,φ,_,_,_,hK.2 j2 k x rf, ?_, .inl rfl,n1,n2,⟨_,rfl, .bool true,_,rfl,rfl,e.key,_,rfl,D.aq (n2.blocks (M:=M)) _ _ sZ,e.val,_,rfl,D.aq (n2.blocks (M:=M)) _ _ Hw,rfl⟩,fun j hj=> .inl (by simp at hj;subst hj;exact b5)⟩
     simp only[Sem.run_bind,cG,Result.andThen_ok,Sem.run_pure]
  ·cases h
 ·cases h
theorem sn(hH:af M φ H w){x:V}{xv:Value}(hx:V.den (ad M φ H) φ H w x xv)(h:ba (hU H.o x) K):
 aY M φ H w fr ((do let v <- Instr.entry xv;pure (Next.value v):Sem Next).run P w) K:=by
 have hg:=bA h
 clear h
 obtain⟨v,Δ,rd,h,hK⟩:=hg
 unfold hU at h
 split at h
 ·rename_i id
  obtain⟨_,b5,ov⟩:=hx
  split at h
  ·rename_i l k x ho
   injection h with h;injection h with e1 e2;injection e2 with e2 e3;subst e1;subst e2;subst e3
   obtain⟨b0,q1,rfl⟩:=ov (by rw[ho];rfl)
   have aG:=hH.ok id
   simp only[au,ho]at aG
   obtain⟨b,g1,g2⟩:=aG
   rw[q1]at g1;injection g1 with g1;injection g1 with g1;injection g1 with g1;subst g1
   rcases g2 with⟨_,_,g2⟩|⟨m,since,seen,es,g2,g3,g4,g5,g6,g7⟩
   ·cases g2
   ·obtain⟨e,h1,h2,h3,h4⟩:=g7 k x rfl
    have hf:es.find? (·.born==e.born)=some e:=by rw[<- Array.find?_toList];exact find_born e es.toList g5.2 h1
    refine aY.same hH (.tuple #[e.key,e.val]) hK ?_ ⟨_,rfl,e.key,_,rfl,h3,e.val,_,rfl,h4,rfl⟩
    simp only[Instr.entry,getObj,Sem.run_bind,Sem.run,g2,g3,Result.andThen,h2,bne_self_eq_false,Bool.false_eq_true,if_false,hf]
    rfl
  ·cases h
 ·cases h
theorem gX(hH:af M φ H w){t:TypeId}{m k v:V}{mv kv vv:Value}(hm:V.den (ad M φ H) φ H w m mv)(hk:V.den (ad M φ H) φ H w k kv)(hv:V.den (ad M φ H) φ H w v vv)
 (h:ba (eD P H.o t m k v) K):aY M φ H w fr ((do Instr.mapUpdate t mv kv vv;pure Next.skip:Sem Next).run P w) K:=by
 have hg:=bA h
 clear h
 obtain⟨v',Δ,rd,h,hK⟩:=hg
 unfold eD at h
 split at h
 ·rename_i kt vt kd vd id vh vi l ht Ba Ej vH
  rcases lu vH with⟨JU,JV,JW,rfl,ho,hr⟩|⟨rfl,hr,rfl⟩
  case inr=>cases hr
  injection hr with hr;injection hr with e1 e2;injection e2 with e2 e3;subst e1;subst e2;subst e3
  split at h
  ·rename_i hc
   obtain⟨c1,c2,c3,c4⟩:=hc
   have eJ:D.den (ad M φ H) w kd kv:=dp hH k kd kv (fun id ah=>by rw[c1]at ah;cases ah) Ba hk
   have vl:∀em,(Instr.checkKey em 10000 kt kv).run P w= .ok () w:=fun em=>iY em 100 kt kd c2 10000 (by decide) kv eJ
   have sY:=jH ht
   ·obtain⟨Ev,b5,ov⟩:=hm
    have bG:=ov (by rw[ho];rfl)
    have aG:=hH.ok id
    simp only[au,ho]at aG
    obtain⟨b,es,clock,g1,g2,g0,g3⟩:=aG
    rw[<- bG]at g1;subst g1
    have iZ:=MapKept.run_getObj_map (P:=P) g2
    have fR:id∉v.ids:=fun hm=>by have:=List.all_eq_true.1 c4 id hm;simp at this
    obtain⟨f1,f2,f3,f4,f5⟩:=bK hH v.ids (bR v _ hv)
    have iU:=(f4 id fR).trans ho
    have xb:=dp f1 v vd vv f3 Ej (V.aq f2 _ _ hv)
    have tD:=D.aq (f2.blocks (M:=M)) kd kv eJ
    have Hx:=ao.mono (f2.blocks (M:=M)) l _ g3
    have vJ:(bD H.o v.ids).map (·.1)=v.ids:=by rw[fu];simp[Function.comp_def]
    have turn:∀ (l':List (D×D)) (es':Array MapEntry) (clock':Nat),dR es' clock'->ao (ad M φ (H.put (bD H.o v.ids))) w l' es'.toList->K (.a8 []) (bD H.o v.ids++[(id, .map vh vi l')]) (id::v.ids)->
     (Instr.mapUpdate t (.map (some b)) kv vv).run P w= .ok () {w with heap:=w.heap.setIfInBounds b (.map es' clock')}->
     aY M φ H w fr ((do Instr.mapUpdate t (.map (some b)) kv vv;pure Next.skip:Sem Next).run P w) K:=by
     intro l' es' clock' J0 hl hK hr
     have tA:cp (· =b) w {w with heap:=w.heap.setIfInBounds b (.map es' clock')}:=
      ⟨rfl,rfl,rfl,by simp,fun j _ hj=>(MapKept.heap_set g2).2 j hj⟩
     have nA:((H.put (bD H.o v.ids)).o id).live=true:=by rw[iU];rfl
     have tB:cI (φ id)=some b:=by rw[<- bG];rfl
     have p0:=cT (w:=w) (w':={w with heap:=w.heap.setIfInBounds b (.map es' clock')}) ((f5 id).2 b5) nA tB tA (.map vh vi l') (by rw[iU];rfl) (by rw[iU];rfl)
     refine⟨.skip,undef,_,φ,_,_,_,hK,by simp only[Sem.run_bind,hr,Result.andThen_ok];rfl, .inr ⟨rfl,rfl⟩, ?_, ?_, ?_,fun j hj=> .inl ?_⟩
     ·rw[bV]
      refine dZ f1 ((f5 id).2 b5) nA tB tA _ (by rw[iU];rfl) (by rw[iU];rfl) ?_
      unfold au
      simp only[aE,ak,if_true]
      exact⟨b,es',clock',bG.symm,(MapKept.heap_set g2).1,J0,ao.mono (p0.blocks (M:=M)) l' _ hl⟩
     ·rw[bV];exact f2.trans p0
     ·exact⟨#[],rfl,rfl⟩
     ·rw[List.map_append,vJ]at hj
      simp only[List.map_cons,List.map_nil,List.mem_append,List.mem_singleton]at hj
      rcases hj with hj|rfl
      ·exact bR v _ hv j hj
      ·exact b5
    split at h
    ·rename_i i k' x hf
     split at h
     ·rename_i Be
      injection h with h;injection h with e1 e2;injection e2 with e2 e3;subst e1;subst e2;subst e3
      have J1:=D.bX _ _ Be
      subst J1
      obtain⟨r',q1,q2⟩:=cZ eJ c2 g3 hf
      cases r' with
      |none=>exact q2.elim
      |some p=>
       obtain⟨j',u⟩:=p
       obtain⟨rfl,_,DF,e,h4,h5,h6⟩:=q2
       rw[Nat.sub_zero]at h4
       have J2:=qh c3 h6 eJ
       have J3:es[i]? =some e:=by simpa using h4
       refine turn _ (es.modify i fun e=>{e with key:=kv,val:=vv}) clock (nD g0 h4 rfl) ?_ hK ?_
       ·rw[dL _ h4]
        exact ao.set Hx tD xb
       ·have hs:=sf (P:=P) (w':=w) c3 eJ
        simp only[Instr.mapUpdate,Sem.run_bind,run_underlying sY,Result.andThen_ok,iZ,vl,q1,J3,Option.map_some,Option.getD_some,J2,hs]
        exact MapKept.run_setObj_map _ g2
     ·cases h
    ·rename_i hf
     injection h with h;injection h with e1 e2;injection e2 with e2 e3;subst e1;subst e2;subst e3
     obtain⟨r',q1,q2⟩:=cZ eJ c2 g3 hf
     cases r' with
     |some p=>exact q2.elim
     |none=>
      refine turn _ (es.push {key:=kv,val:=vv,born:=clock}) (clock+1) (ql g0 rfl) ?_ hK ?_
      ·rw[Array.toList_push]
       exact ao.push Hx tD xb
      ·simp only[Instr.mapUpdate,Sem.run_bind,run_underlying sY,Result.andThen_ok,iZ,vl,q1]
       exact MapKept.run_setObj_map _ g2
    ·cases h
  ·cases h
 ·cases h
end
end Go.Proofs.YtbmnikpknlkbkaaGreat
namespace Go.Proofs.YtbmnikpknlkbkaaGreat
section
variable {P:Program}(w:World)(d:Nat){t:TypeId}
theorem Bf{ms}(ht:P.underlying t=some (.interface ms)):(Op.equalIn (d+1) t .nilIface .nilIface).run P w= .ok true w:=by simp[Op.equalIn,run_underlying ht]
theorem xc{ms}(ht:P.underlying t=some (.interface ms))(u:TypeId)(v:Value):(Op.equalIn (d+1) t (.iface u v) .nilIface).run P w= .ok false w:=by simp[Op.equalIn,run_underlying ht]
theorem xd{ms}(ht:P.underlying t=some (.interface ms))(u:TypeId)(v:Value):(Op.equalIn (d+1) t .nilIface (.iface u v)).run P w= .ok false w:=by simp[Op.equalIn,run_underlying ht]
theorem Bg{ms}(ht:P.underlying t=some (.interface ms)){a b:TypeId}{x y:D}{B:Nat->Prop}{w2:World}{u v:Value}{r:Bool}(h:D4 P a b x y=some r)(hx:D.den B w2 x u)(hy:D.den B w2 y v):(Op.equalIn (d+2) t (.iface a u) (.iface b v)).run P w= .ok r w:=by
 unfold D4 at h
 by_cases e:a=b
 ·subst e
  rw[if_pos rfl]at h
  split at h
  ·rename_i i k hi hk
   split at h
   ·rename_i hc
    split at h
    ·split at h
     ·rename_i Eu
      injection h with h;subst h
      simp only[D.den]at hx hy
      subst hx;subst hy;subst Eu
      simp[Op.equalIn,run_underlying ht,run_underlying hk,typeInfo,hi,hc]
     ·cases h
    ·cases h
   ·cases h
  ·cases h
 ·rw[if_neg e]at h
  injection h with h;subst h
  simp[Op.equalIn,run_underlying ht,e]
theorem Bh{a b c}(ht:P.underlying t=some (.func a b c)):(Op.equalIn (d+1) t .nilFunc .nilFunc).run P w= .ok true w:=by simp[Op.equalIn,run_underlying ht]
theorem Bi{a b c}(ht:P.underlying t=some (.func a b c))(f x y):(Op.equalIn (d+1) t (.func f x y) .nilFunc).run P w= .ok false w:=by simp[Op.equalIn,run_underlying ht]
theorem Bj{a b}(ht:P.underlying t=some (.map a b)):(Op.equalIn (d+1) t (.map none) (.map none)).run P w= .ok true w:=by simp[Op.equalIn,run_underlying ht]
theorem tE{a b}(ht:P.underlying t=some (.map a b))(x):(Op.equalIn (d+1) t (.map (some x)) (.map none)).run P w= .ok false w:=by simp[Op.equalIn,run_underlying ht]
theorem Bk{e}(ht:P.underlying t=some (.pointer e)):(Op.equalIn (d+1) t (.pointer none) (.pointer none)).run P w= .ok true w:=by simp[Op.equalIn,run_underlying ht]
theorem xe{e}(ht:P.underlying t=some (.pointer e))(a):(Op.equalIn (d+1) t (.pointer (some a)) (.pointer none)).run P w= .ok false w:=by simp[Op.equalIn,run_underlying ht]
theorem Bl{e}(ht:P.underlying t=some (.slice e))(b n c):(Op.equalIn (d+1) t (.slice b n c) (.slice none 0 0)).run P w= .ok b.isNone w:=by cases b<;>simp[Op.equalIn,run_underlying ht]
end
section
variable {P:Program}{M:Nat->Prop}{φ:Place}{H:Hp}{w w':World}{fr:Nat}{K:V->List (Nat×aa)->List Nat->Prop}{B:Nat->Prop}
theorem qn(hH:af M φ H w){x:V}{xv:Value}{es:List D}(h:cy H.o x=some es)(hx:V.den (ad M φ H) φ H w x xv):∃base n c,xv= .slice base n c/\(es≠[]->base≠none):=by
 have hd:∃x',cJ H.o x=some x'/\x'= .sl es:=by
  unfold cy at h
  split at h
  ·rename_i es' hd;injection h with h;subst h;exact⟨_,hd,rfl⟩
  ·cases h
 obtain⟨x',hd,rfl⟩:=hd
 obtain⟨f1,f2,f3,f4,f5⟩:=bK hH x.ids (bR x _ hx)
 have:=dp f1 x (.sl es) xv f3 hd (V.aq f2 _ _ hx)
 obtain⟨base,len,cap,rfl,h1,h2,h3,_⟩:=this
 refine⟨base,len,cap,rfl,fun iT hb=> ?_⟩
 have:=h3 hb
 have:es.length=0:=by omega
 exact iT (List.length_eq_zero_iff.1 this)
def tF:Value->Bool
 | .int _ _| .float _ _| .complex _ _ _| .string _=>false
 |_=>true
theorem rh(hH:af M φ H w){t:TypeId}{p q:Operand}{x y v:V}{xv yv:Value}(hx:V.den (ad M φ H) φ H w x xv)(hy:V.den (ad M φ H) φ H w y yv)(h:yc P H.o t (isConst p||isConst q) x y=some v):
 ∃r:Bool,(v= .d (.bool r)\/v= .cM)/\tF xv=true/\(∀op,(eqGuard op t p q xv yv).run P w= .ok () w)/\(Op.equal t xv yv).run P w= .ok r w:=by
 have cK:(∀a b, ¬ (xv= .agg a/\yv= .agg b))-> ¬ (xv= .nilIface/\yv= .nilIface)->∀op,(eqGuard op t p q xv yv).run P w= .ok () w:=by
  intro h1 h2 op
  unfold eqGuard
  cases op<;>cases xv<;>cases yv<;>first
   |(simp;done)
   |(exact absurd ⟨rfl,rfl⟩ (h1 _ _))
   |(exact absurd ⟨rfl,rfl⟩ h2)
 unfold yc at h
 cases ht:P.underlying t with
 |none=>simp[ht]at h
 |some td=>
  simp only[ht]at h
  have eq:∀r,(∀d,(Op.equalIn (d+1) t xv yv).run P w= .ok r w)->(Op.equal t xv yv).run P w= .ok r w:=fun r h=>h 9999
  cases td<;>simp only[reduceCtorEq]at h
  case interface ms=>
   split at h
   ·split at h
    ·rename_i hc
     injection h with h;subst h
     simp only[V.den,D.den]at hx hy;subst hx;subst hy
     refine⟨true, .inl rfl,rfl,fun op=> ?_,eq _ (fun d=>by rw[Bf w d ht])⟩
     simp only[Bool.or_eq_true]at hc
     unfold eqGuard
     rcases hc with hc|hc
     ·cases p<;>simp only[isConst,Bool.false_eq_true]at hc
      cases op<;>simp
     ·cases q<;>simp only[isConst,Bool.false_eq_true]at hc
      cases op<;>simp
    ·cases h
   ·injection h with h;subst h
    obtain⟨u,rfl,_⟩:=hx
    simp only[V.den,D.den]at hy;subst hy
    exact⟨false, .inl rfl,rfl,cK (fun _ _ h=>by cases h.1) (by rintro⟨h1,h2⟩;first|(cases h1;done)|(cases h2;done)),eq _ (fun d=>by rw[xc w d ht])⟩
   ·injection h with h;subst h
    obtain⟨u,rfl,_⟩:=hx
    simp only[V.den,D.den]at hy;subst hy
    exact⟨false, .inl rfl,rfl,cK (fun _ _ h=>by cases h.1) (by rintro⟨h1,h2⟩;first|(cases h1;done)|(cases h2;done)),eq _ (fun d=>by rw[xc w d ht])⟩
   ·injection h with h;subst h
    obtain⟨u,rfl,_⟩:=hy
    simp only[V.den,D.den]at hx;subst hx
    exact⟨false, .inl rfl,rfl,cK (fun _ _ h=>by cases h.1) (by rintro⟨h1,h2⟩;first|(cases h1;done)|(cases h2;done)),eq _ (fun d=>by rw[xd w d ht])⟩
   ·injection h with h;subst h
    obtain⟨u,rfl,_⟩:=hy
    simp only[V.den,D.den]at hx;subst hx
    exact⟨false, .inl rfl,rfl,cK (fun _ _ h=>by cases h.1) (by rintro⟨h1,h2⟩;first|(cases h1;done)|(cases h2;done)),eq _ (fun d=>by rw[xd w d ht])⟩
   ·rename_i a x b y
    simp only[Option.map_eq_some_iff]at h
    obtain⟨r,h1,rfl⟩:=h
    obtain⟨u,rfl,g1⟩:=hx
    obtain⟨u2,rfl,g2⟩:=hy
    exact⟨r, .inl rfl,rfl,cK (fun _ _ h=>by cases h.1) (by rintro⟨h1,h2⟩;first|(cases h1;done)|(cases h2;done)),Bg w 9998 ht h1 g1 g2⟩
   ·cases h
  case func a b c=>
   split at h
   ·injection h with h;subst h
    simp only[V.den,D.den]at hx hy;subst hx;subst hy
    exact⟨true, .inl rfl,rfl,cK (fun _ _ h=>by cases h.1) (by rintro⟨h1,h2⟩;first|(cases h1;done)|(cases h2;done)),eq _ (fun d=>by rw[Bh w d ht])⟩
   ·injection h with h;subst h
    obtain⟨f,c',rfl,_⟩:=hx
    simp only[V.den,D.den]at hy;subst hy
    exact⟨false, .inl rfl,rfl,cK (fun _ _ h=>by cases h.1) (by rintro⟨h1,h2⟩;first|(cases h1;done)|(cases h2;done)),eq _ (fun d=>by rw[Bi w d ht])⟩
   ·cases h
  case map a b=>
   split at h
   ·simp only[V.den,D.den]at hy;subst hy
    unfold jB at h
    split at h
    ·injection h with h;subst h
     simp only[V.den,D.den]at hx;subst hx
     exact⟨true, .inl rfl,rfl,cK (fun _ _ h=>by cases h.1) (by rintro⟨h1,h2⟩;first|(cases h1;done)|(cases h2;done)),eq _ (fun d=>by rw[Bj w d ht])⟩
    ·injection h with h;subst h
     obtain⟨bk,es,clock,_,rfl,_⟩:=hx
     exact⟨false, .inl rfl,rfl,cK (fun _ _ h=>by cases h.1) (by rintro⟨h1,h2⟩;first|(cases h1;done)|(cases h2;done)),eq _ (fun d=>by rw[tE w d ht])⟩
    ·rename_i id
     split at h
     ·rename_i ho
      injection h with h;subst h
      obtain⟨_,_,h3⟩:=hx
      have bG:=h3 (by rw[ho];rfl)
      have aG:=hH.ok id
      simp only[au,ho]at aG
      obtain⟨bk,es,clock,g1,_⟩:=aG
      rw[<- bG]at g1;subst g1
      exact⟨false, .inl rfl,rfl,cK (fun _ _ h=>by cases h.1) (by rintro⟨h1,h2⟩;first|(cases h1;done)|(cases h2;done)),eq _ (fun d=>by rw[tE w d ht])⟩
     ·rename_i ho
      injection h with h;subst h
      obtain⟨_,_,h3⟩:=hx
      have bG:=h3 (by rw[ho];rfl)
      have aG:=hH.ok id
      simp only[au,ho]at aG
      obtain⟨bk,es,clock,_,g1,_⟩:=aG
      rw[<- bG]at g1;subst g1
      exact⟨false, .inl rfl,rfl,cK (fun _ _ h=>by cases h.1) (by rintro⟨h1,h2⟩;first|(cases h1;done)|(cases h2;done)),eq _ (fun d=>by rw[tE w d ht])⟩
     ·cases h
    ·cases h
   ·cases h
  case pointer e=>
   split at h
   ·simp only[V.den,D.den]at hy;subst hy
    unfold jC at h
    split at h
    ·injection h with h;subst h
     simp only[V.den,D.den]at hx;subst hx
     exact⟨true, .inl rfl,rfl,cK (fun _ _ h=>by cases h.1) (by rintro⟨h1,h2⟩;first|(cases h1;done)|(cases h2;done)),eq _ (fun d=>by rw[Bk w d ht])⟩
    ·split at h
     ·rename_i hr
      injection h with h;subst h
      obtain⟨_,_,h3⟩:=hx
      obtain⟨bk,_,rfl⟩:=h3 hr
      exact⟨false, .inl rfl,rfl,cK (fun _ _ h=>by cases h.1) (by rintro⟨h1,h2⟩;first|(cases h1;done)|(cases h2;done)),eq _ (fun d=>by rw[xe w d ht])⟩
     ·cases h
    ·injection h with h;subst h
     obtain⟨a,ev,_,rfl,_⟩:=hx
     exact⟨false, .inl rfl,rfl,cK (fun _ _ h=>by cases h.1) (by rintro⟨h1,h2⟩;first|(cases h1;done)|(cases h2;done)),eq _ (fun d=>by rw[xe w d ht])⟩
    ·cases h
   ·cases h
  case slice e=>
   split at h
   ·simp only[V.den]at hy;subst hy
    unfold oC at h
    split at h
    ·injection h with h;subst h
     simp only[V.den]at hx;subst hx
     exact⟨true, .inl rfl,rfl,cK (fun _ _ h=>by cases h.1) (by rintro⟨h1,h2⟩;first|(cases h1;done)|(cases h2;done)),eq _ (fun d=>by rw[Bl w d ht];rfl)⟩
    ·split at h
     ·rename_i es hl
      obtain⟨base,n,c,rfl,hb⟩:=qn hH hl hx
      refine⟨base.isNone, ?_,rfl,cK (fun _ _ h=>by cases h.1) (by rintro⟨h1,h2⟩;first|(cases h1;done)|(cases h2;done)),eq _ ?_⟩
      ·split at h
       ·injection h with h;exact .inr h.symm
       ·rename_i iT
        injection h with h
        have:=hb iT
        cases base with
        |none=>exact absurd rfl this
        |some a=>exact .inl h.symm
      ·intro d
       rw[Bl w d ht]
     ·cases h
   ·cases h
  case struct fs=>
   split at h
   ·split at h
    ·rename_i hg
     simp only[Option.map_eq_some_iff]at h
     obtain⟨r,h1,rfl⟩:=h
     obtain⟨g1,g2⟩:=tt h1 hg (ad M φ H) w xv yv hx hy
     exact⟨r, .inl rfl,by obtain⟨_,rfl,_⟩:=hx;rfl,fun op=>g2 op p q,g1⟩
    ·cases h
   ·cases h
  case array n e=>
   split at h
   ·split at h
    ·rename_i hg
     simp only[Option.map_eq_some_iff]at h
     obtain⟨r,h1,rfl⟩:=h
     obtain⟨g1,g2⟩:=tt h1 hg (ad M φ H) w xv yv hx hy
     exact⟨r, .inl rfl,by obtain⟨_,rfl,_⟩:=hx;rfl,fun op=>g2 op p q,g1⟩
    ·cases h
   ·cases h
theorem vN(hH:af M φ H w){op:BinOp}{t:TypeId}{p q:Operand}{x y:V}{xv yv:Value}(hx:V.den (ad M φ H) φ H w x xv)(hy:V.den (ad M φ H) φ H w y yv)
 (h:ba (jD P H.o op t (isConst p||isConst q) x y) K):
 aY M φ H w fr ((do let y <- (do eqGuard op t p q xv yv;binOp op t xv yv);pure (Next.value y):Sem Next).run P w) K:=by
 have hg:=bA h
 clear h
 obtain⟨v,Δ,rd,h,hK⟩:=hg
 unfold jD at h
 split at h
 ·simp only[Option.map_eq_some_iff]at h
  obtain⟨u,h1,h2⟩:=h
  injection h2 with e1 e2;injection e2 with e2 e3;subst e1;subst e2;subst e3
  obtain⟨r,hv,EC,ED,he⟩:=rh (p:=p) (q:=q) hH hx hy h1
  refine aY.plain hH (.bool r) hK ?_ ?_
  ·have hb:(binOp .eql t xv yv).run P w= .ok (.bool r) w:=by
    unfold binOp
    cases xv<;>first|(simp[tF]at EC;done)|(cases yv<;>simp[he])
   simp[ED,hb]
  ·rcases hv with rfl|rfl
   ·rfl
   ·exact⟨r,rfl⟩
 ·simp only[Option.map_eq_some_iff,Option.bind_eq_some_iff]at h
  obtain⟨u',⟨u,h1,h3⟩,h2⟩:=h
  injection h2 with e1 e2;injection e2 with e2 e3;subst e1;subst e2;subst e3
  obtain⟨r,hv,EC,ED,he⟩:=rh (p:=p) (q:=q) hH hx hy h1
  refine aY.plain hH (.bool !r) hK ?_ ?_
  ·have hb:(binOp .neq t xv yv).run P w= .ok (.bool !r) w:=by
    unfold binOp
    cases xv<;>first|(simp[tF]at EC;done)|(cases yv<;>simp[he])
   simp[ED,hb]
  ·rcases hv with rfl|rfl
   ·simp only[vr,Option.some.injEq]at h3;subst h3;rfl
   ·simp only[vr,Option.some.injEq]at h3;subst h3;exact⟨!r,rfl⟩
 ·cases h
end
end Go.Proofs.YtbmnikpknlkbkaaGreat
namespace Go.Proofs.YtbmnikpknlkbkaaGreat
section
variable {P:Program}{M:Nat->Prop}{φ:Place}{H:Hp}{w w':World}{fr:Nat}{K:V->List (Nat×aa)->List Nat->Prop}
theorem nF(hH:af M φ H w){o:Oper}{a:Act}{q:Operand}(ho:o.op= .nilCheck q){x:V}(hx:V.den (ad M φ H) φ H w x (a.eval q))
 (h:e8 H.o x fun v=>K v [] []):aY M φ H w fr ((execOp a.eval o).run P w) K:=by
 unfold e8 at h
 have EE:=hx
 split at h
 ·rename_i id off
  obtain⟨h1,hK⟩:=h
  obtain⟨_,hu,hp⟩:=EE
  obtain⟨b,bG,hv⟩:=hp h1
  exact aY.same hH _ hK (by simp[execOp,ho,hv]) (hv ▸ hx)
 ·rename_i cs off
  obtain⟨b,ev,_,hv,_⟩:=EE
  exact aY.same hH _ h (by simp[execOp,ho,hv]) (hv ▸ hx)
 ·rename_i f first cap
  obtain⟨b,c,hv,_⟩:=EE
  exact aY.same hH _ h (by simp[execOp,ho,hv]) (hv ▸ hx)
 ·exact h.elim
theorem sq{t:TypeId}{k:IntKind}(h:rU P t=some k):P.underlying t=some (.int k):=by
 unfold rU at h
 cases hd:P.underlying t with
 |none=>simp[hd]at h
 |some d=>cases d<;>simp_all
theorem ja(s:S)(a:Act)(bH:∀i,V.den (ad M φ H) φ H w (s.env i) (a.tmps.getD i undef))(xs:Array Operand):
 V.aj (ad M φ H) φ H w (xs.toList.map s.ev) (xs.map a.eval).toList:=by
 simpa using eF s a bH xs.toList
theorem mR(hH:af M φ H w){s:S}(kP:s.o=H.o){a:Act}(bH:∀i,V.den (ad M φ H) φ H w (s.env i) (a.tmps.getD i undef))(cz: ¬H.us fr){o:Oper}{op:Op}(bE:o.op=op)(h:wX P s fr op K):
 aY M φ H w fr ((execOp a.eval o).run P w) K:=by
 have bI:=fU (M:=M) (φ:=φ) (H:=H) (w:=w) s a bH
 cases op<;>simp only[wX]at h<;>try (exact h.elim)
 case move x=>exact aY.same hH _ h (by simp[execOp,bE]) (bI x)
 case assign x=>exact aY.same hH _ h (by simp[execOp,bE]) (bI x)
 case pick c x y=>
  have:=th (P:=P) (fr:=fr) hH (bI c) (bI x) (bI y) h
  simpa[execOp,bE]using this
 case alloc t=>
  have:=rX (P:=P) (fr:=fr) hH cz h
  simpa[execOp,bE]using this
 case box t x=>
  have:=vE (P:=P) (fr:=fr) (t:=t) hH cz (bI x) h
  simpa[execOp,bE]using this
 case build t parts=>
  have:=rZ (P:=P) (fr:=fr) hH bH h
  simpa[execOp,bE]using this
 case buildSlice t len parts=>
  rw[kP]at h
  have:=lp (P:=P) (fr:=fr) hH cz bH h
  simpa[execOp,bE]using this
 case load t x=>
  rw[kP]at h
  have:=tg (P:=P) (fr:=fr) hH (bI x) h
  simpa[execOp,bE]using this
 case store t x y=>
  rw[kP]at h
  have:=r9 (P:=P) (fr:=fr) hH (bI x) (bI y) h
  simpa[execOp,bE]using this
 case nilCheck x=>
  rw[kP]at h
  exact nF hH bE (bI x) h
 case binOp op t x y yt=>
  rw[kP]at h
  rcases h with h|h
  ·have:=vB (P:=P) (fr:=fr) (p:=x) (q:=y) hH (bI x) (bI y) h
   simpa[execOp,bE]using this
  ·have:=vN (P:=P) (fr:=fr) (p:=x) (q:=y) hH (bI x) (bI y) h
   simpa[execOp,bE]using this
 case unOp op t x=>
  rcases h with h|⟨rfl,hx,hK⟩
  ·have:=yf (P:=P) (fr:=fr) hH (bI x) h
   simpa[execOp,bE]using this
  ·have hv:=bI x
   rw[hx]at hv
   obtain⟨b,hb⟩:=hv
   exact aY.same hH (.bool !b) hK (by simp[execOp,bE,hb,Op.unary]) ⟨_,rfl⟩
 case convert t u x=>
  obtain⟨EF,h⟩:=h
  split at h
  ·rename_i k k' n hk hx
   have hv:=bI x
   rw[hx]at hv
   simp only[V.den,D.den]at hv
   have hu:=sq hk
   obtain⟨d,hd⟩:=Option.isSome_iff_exists.1 EF
   refine aY.same hH (.int k (k.wrap n)) h ?_ rfl
   cases d<;>simp[execOp,bE,hv,convert,run_underlying hd,run_underlying hu,Conv.intToInt]
  ·exact h.elim
 case makeInterface t x=>
  obtain⟨⟨d,hd,fR⟩,h⟩:=h
  have hr:∀v,(Instr.makeInterface t v).run P w= .ok (.iface t v) w:=by
   intro v
   cases d<;>first|(simp at fR;done)|simp[Instr.makeInterface,run_underlying hd]
  have hv:=bI x
  split at h
  ·rename_i y hy
   rw[hy]at hv
   exact aY.same hH _ h (by simp[execOp,bE,hr]) ⟨_,rfl,hv⟩
  ·exact aY.same hH _ h (by simp[execOp,bE,hr]) ⟨_,rfl,hv⟩
 case makeFunc fn first cap=>
  exact aY.same hH _ h (by simp[execOp,bE,Instr.makeFunc]) ⟨_,_,rfl,ja s a bH first,ja s a bH cap⟩
 case makeSlice t l c=>
  have:=mn (P:=P) (fr:=fr) hH cz (bI l) (bI c) h
  simpa[execOp,bE]using this
 case fieldAddr t x f=>
  rw[kP]at h
  have:=mj (P:=P) (fr:=fr) hH (bI x) h
  simpa[execOp,bE]using this
 case indexAddr t x i=>
  rw[kP]at h
  have:=mm (P:=P) (fr:=fr) hH (bI x) (bI i) h
  simpa[execOp,bE]using this
 case extract x i=>
  split at h
  ·rename_i vs hx
   obtain⟨v,hv,hK⟩:=h
   have hd:=bI x
   rw[hx]at hd
   obtain⟨c,hc,hd⟩:=hd
   obtain⟨u,hu,vz⟩:=V.b7 _ _ _ _ hd hv
   refine aY.same hH u hK ?_ vz
   have mq:c[i]? =some u:=by simpa using hu
   simp[execOp,bE,hc,Instr.extract,mq]
  ·exact h.elim
 case call c=>
  obtain⟨vO,args,ts⟩:=c
  cases vO<;>simp only at h<;>try (exact h.elim)
  rename_i b
  unfold lj at h
  split at h
  ·rename_i x bS
   obtain⟨t,mo,h⟩:=h
   rw[kP]at h
   have e1:args=#[x]:=by apply Array.ext';simpa using bS
   have e2:ts=#[t]:=by apply Array.ext';simpa using mo
   subst e1;subst e2
   have:=vC (P:=P) (fr:=fr) (ty:=o.type) hH (bI x) h
   simpa[execOp,bE,resolve,invoke,builtin]using this
  ·rename_i x y bS
   have e1:args=#[x,y]:=by apply Array.ext';simpa using bS
   subst e1
   rw[kP]at h
   have:=h.elim (fun h=>tk (P:=P) (fr:=fr) (ty0:=o.type) hH cz (bI x) (bI y) h) (fun h=>qc (P:=P) (fr:=fr) (ty0:=o.type) hH cz (bI x) (bI y) h)
   simpa[execOp,bE,resolve,invoke,builtin]using this
  ·rename_i x y bS
   have e1:args=#[x,y]:=by apply Array.ext';simpa using bS
   subst e1
   unfold gJ at h
   split at h
   ·rename_i k u k' v heq
    simp only[List.cons.injEq,and_true]at heq
    obtain⟨rfl,hK⟩:=h
    have h1:=bI x
    have h2:=bI y
    rw[heq.1]at h1;rw[heq.2]at h2
    simp only[V.den,D.den]at h1 h2
    exact aY.same hH _ hK (by simp[execOp,bE,resolve,invoke,builtin,h1,h2,run_max_int2]) rfl
   ·exact h.elim
  ·rename_i x y bS
   have e1:args=#[x,y]:=by apply Array.ext';simpa using bS
   subst e1
   unfold gJ at h
   split at h
   ·rename_i k u k' v heq
    simp only[List.cons.injEq,and_true]at heq
    obtain⟨rfl,hK⟩:=h
    have h1:=bI x
    have h2:=bI y
    rw[heq.1]at h1;rw[heq.2]at h2
    simp only[V.den,D.den]at h1 h2
    exact aY.same hH _ hK (by simp[execOp,bE,resolve,invoke,builtin,h1,h2,run_min_int2]) rfl
   ·exact h.elim
  ·rename_i x y z bS
   have e1:args=#[x,y,z]:=by apply Array.ext';simpa using bS
   subst e1
   have hg:=bA h
   clear h
   obtain⟨v,Δ,rd,h,hK⟩:=hg
   simp only[Option.map_eq_some_iff,Prod.mk.injEq]at h
   obtain⟨v',h,rfl,rfl,rfl⟩:=h
   unfold tc at h
   split at h
   ·rename_i k u k' v Hk t q1 q2 q3
    split at h
    ·rename_i hk
     obtain⟨rfl,rfl⟩:=hk
     injection h with h;subst h
     have h1:=bI x
     have h2:=bI y
     have h3:=bI z
     rw[q1]at h1;rw[q2]at h2;rw[q3]at h3
     simp only[V.den,D.den]at h1 h2 h3
     exact aY.same hH _ hK (by simp[execOp,bE,resolve,invoke,builtin,h1,h2,h3,Builtin.max_,Builtin.max2]) rfl
    ·cases h
   ·cases h
  ·rename_i x y bS
   have e1:args=#[x,y]:=by apply Array.ext';simpa using bS
   subst e1
   rw[kP]at h
   have:=tv (P:=P) (fr:=fr) (ty0:=o.type) hH (bI x) (bI y) h
   simpa[execOp,bE,resolve,invoke,builtin]using this
  ·rename_i x y bS
   have e1:args=#[x,y]:=by apply Array.ext';simpa using bS
   subst e1
   obtain⟨t,ht,h⟩:=h
   rw[kP]at h
   have:=qm (P:=P) (fr:=fr) (ty0:=o.type) hH ht (bI x) (bI y) h
   simpa[execOp,bE,resolve,invoke,builtin]using this
  ·rename_i x bS
   have e1:args=#[x]:=by apply Array.ext';simpa using bS
   subst e1
   unfold vu at h
   split at h
   ·rename_i t mo
    have e2:ts=#[t]:=by apply Array.ext';simpa using mo
    subst e2
    split at h
    ·rename_i e ht
     split at h
     ·rename_i J4
      have hd:=bI x
      rw[J4]at hd
      simp only[V.den]at hd
      exact aY.same hH (.int .i64 0) h (by simp[execOp,bE,resolve,invoke,builtin,hd,Builtin.cap_,run_underlying (az ht),goInt]) rfl
     ·exact h.elim
    ·exact h.elim
   ·exact h.elim
  ·exact h.elim
 case slice t x lo hi mx=>
  rw[kP]at h
  have:=sb (P:=P) (fr:=fr) (lov:=lo.map a.eval) (hiv:=hi.map a.eval) (mxv:=mx.map a.eval) hH (bI x) (by cases lo<;>simp[bI]) (by cases hi<;>simp[bI]) (by cases mx<;>simp[bI]) h
  simpa[execOp,bE]using this
 case field t x f=>
  have:=sc (P:=P) (fr:=fr) hH (bI x) h
  simpa[execOp,bE]using this
 case index t x i=>
  have:=se (P:=P) (fr:=fr) hH (bI x) (bI i) h
  simpa[execOp,bE]using this
 case insert t m k v=>
  rw[kP]at h
  have:=gX (P:=P) (fr:=fr) hH (bI m) (bI k) (bI v) h
  simpa[execOp,bE]using this
 case typeAssert x xt t ok=>
  have:=qg (P:=P) (fr:=fr) (xt:=xt) hH (bI x) h
  simpa[execOp,bE]using this
 case makeMap t r=>
  cases r with
  |some x=>exact h.elim
  |none=>
   have:=oT (P:=P) (fr:=fr) hH cz h
   simpa[execOp,bE]using this
 case lookup t m k ok=>
  rw[kP]at h
  have:=qk (P:=P) (fr:=fr) hH (bI m) (bI k) h
  simpa[execOp,bE]using this
 case mapUpdate t m k v=>
  rw[kP]at h
  have:=gX (P:=P) (fr:=fr) hH (bI m) (bI k) (bI v) h
  simpa[execOp,bE]using this
 case range t x=>
  rw[kP]at h
  have:=sm (P:=P) (fr:=fr) hH cz (bI x) h
  simpa[execOp,bE]using this
 case next x str=>
  rw[kP]at h
  rcases h with h|⟨rfl,id,l,h1,h2⟩
  ·have:=oW (P:=P) (fr:=fr) (ty:=o.type) hH (bI x) h
   simpa[execOp,bE]using this
  ·have:=oY (P:=P) (fr:=fr) (ty:=o.type) hH (bI x) h1 h2
   simpa[execOp,bE]using this
 case entry x=>
  rw[kP]at h
  have:=sn (P:=P) (fr:=fr) hH (bI x) h
  simpa[execOp,bE]using this
end
end Go.Proofs.YtbmnikpknlkbkaaGreat
