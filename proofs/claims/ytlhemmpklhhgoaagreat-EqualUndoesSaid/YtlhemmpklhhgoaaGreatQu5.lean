/-
  A PART OF THE PROOF. Conditions: none.
-/
import Derived.WideKeyRuns
import Derived.Laws.IdiomRangeMap
import Derived.Test.YtlhemmpklhhgoaaGreatQu4
set_option linter.unusedSimpArgs false
set_option linter.unusedVariables false
namespace Go.Proofs.YtlhemmpklhhgoaaGreat
section
mutual
theorem D.dY:∀ (x y:D),x.same y=true->x=y
 | .int k a,y,h=>by cases y<;>simp_all[D.same]
 | .bool a,y,h=>by cases y<;>simp_all[D.same]
 | .str a,y,h=>by cases y<;>simp_all[D.same]
 | .eP,y,h=>by cases y<;>simp_all[D.same]
 | .kT,y,h=>by cases y<;>simp_all[D.same]
 | .cz,y,h=>by cases y<;>simp_all[D.same]
 | .dH,y,h=>by cases y<;>simp_all[D.same]
 | .agg cj,y,h=>by
   exact QF
 | .sl cj,y,h=>by
   exact QF
 | .iface t a,y,h=>by
   cases y<;>simp only[D.same,Bool.false_eq_true,Bool.and_eq_true,beq_iff_eq]at h
   rw[h.1,D.dY a _ h.2]
 | .mp ks vs,y,h=>by
   cases y<;>simp only[D.same,Bool.false_eq_true,Bool.and_eq_true]at h
   rw[D.dG ks _ h.1,D.dG vs _ h.2]
theorem D.dG:∀ (xs ys:List D),D.fW xs ys=true->xs=ys
 |[],ys,h=>by cases ys<;>simp_all[D.fW]
 |a::cj,ys,h=>by
  cases ys<;>simp only[D.fW,Bool.false_eq_true,Bool.and_eq_true]at h
  rw[D.dY a _ h.1,D.dG cj _ h.2]
end
section
variable {P:Program}{M:Nat->Prop}{φ:Place}{H:Hp}{w w':World}{fr:Nat}{K:V->List (Nat×ad)->List Nat->Prop}{B:Nat->Prop}
theorem rS{t kt vt:TypeId}(h:rO P t=some (kt,vt)):P.underlying t=some (.map kt vt):=by
 unfold rO at h
 cases hd:P.underlying t with
 |none=>simp[hd]at h
 |some d=>cases d<;>simp_all
theorem xK{x:D}(h:oP x=true){u v:Value}(hu:D.den B w x u)(hv:D.den B w x v):u=v:=by
 cases x<;>simp only[oP,Bool.false_eq_true]at h<;>simp only[D.den]at hu hv
 ·rw[hu,hv]
 ·rw[hu,hv]
 ·obtain⟨⟨⟨a⟩⟩,rfl,h1⟩:=hu
  obtain⟨⟨⟨b⟩⟩,rfl,h2⟩:=hv
  simp only at h1 h2
  rw[h1,h2]
theorem xL:∀ {xs:List D} (_:xs.all oP=true) {us vs:List Value} (_:D.aC B w xs us) (_:D.aC B w xs vs),us=vs
 |[],_,us,vs,hu,hv=>by simp only[D.aC]at hu hv;rw[hu,hv]
 |x::xs,h,us,vs,hu,hv=>by
  simp only[List.all_cons,Bool.and_eq_true]at h
  obtain⟨u,us,rfl,h1,h2⟩:=hu
  obtain⟨v,vs,rfl,h3,h4⟩:=hv
  rw[xK h.1 h1 h3,xL h.2 h2 h4]
theorem D2{x:D}(h:kE x=true){u v:Value}(hu:D.den B w x u)(hv:D.den B w x v):u=v:=by
 cases x with
 |agg cs=>
  simp only[kE]at h
  obtain⟨a,rfl,h1,_⟩:=hu
  obtain⟨b,rfl,h2,_⟩:=hv
  have:=xL h h1 h2
  congr 1
  exact Array.ext' this
 |_=>exact xK (by simpa[kE]using h) hu hv
theorem xM{x:D}(h:oP x=true){u:Value}(hu:D.den B w x u)(n:Nat):Instr.sameBits n u u=true:=by
 cases x<;>simp only[oP,Bool.false_eq_true]at h<;>simp only[D.den]at hu
 ·subst hu;cases n<;>simp[Instr.sameBits]
 ·subst hu;cases n<;>simp[Instr.sameBits]
 ·obtain⟨s,rfl,h1⟩:=hu
  have:(s==s)=true:=(MapKept.bytes_beq s s).2 rfl
  cases n<;>simp[Instr.sameBits,this]
theorem uN:∀ {xs:List D} (_:xs.all oP=true) {us:List Value} (_:D.aC B w xs us) (n:Nat),(us.zip us).all (fun(x,y)=>Instr.sameBits n x y)=true
 |[],_,us,hu,n=>by simp only[D.aC]at hu;subst hu;rfl
 |x::xs,h,us,hu,n=>by
  simp only[List.all_cons,Bool.and_eq_true]at h
  obtain⟨u,us,rfl,h1,h2⟩:=hu
  simp only[List.zip_cons_cons,List.all_cons,xM h.1 h1 n,Bool.true_and]
  exact uN h.2 h2 n
theorem D3{x:D}(h:kE x=true){u:Value}(hu:D.den B w x u)(n:Nat):Instr.sameBits (n+1) u u=true:=by
 cases x with
 |agg cs=>
  simp only[kE]at h
  obtain⟨a,rfl,h1,_⟩:=hu
  have:=uN h h1 n
  simp only[Instr.sameBits,beq_self_eq_true,Bool.true_and]
  exact this
 |_=>exact xM (by simpa[kE]using h) hu (n+1)
theorem HU{x:D}(h:kE x=true){u:Value}(hu:D.den B w x u):(Instr.keyThatStays u u).run P w'= .ok u w':=by
 simp[Instr.keyThatStays,D3 h hu 9999]
theorem qm(em:Bool):∀ (d:Nat) (t:TypeId) (x:D),oB P d t x=true->∀m,d<=m->∀u,D.den B w x u->(Instr.checkKey em m t u).run P w= .ok () w
 |0,_,_,h=>by simp[oB]at h
 |d+1,t,x,h=>by
  intro m hm u hu
  obtain⟨m,rfl⟩:∃k,m=k+1:=⟨m - 1,af⟩
  have IH:=fun t x h u hu=>qm em d t x h m af u hu
  unfold oB at h
  rw[Instr.checkKey]
  cases hs:bK P t with
  |none=>rw[hs]at h;cases h
  |some sh=>
   rw[hs]at h
   unfold bK at hs
   cases ht:P.underlying t with
   |none=>rw[ht]at hs;cases hs
   |some td=>
    rw[ht]at hs
    simp only[Sem.run_bind,run_underlying ht,Result.andThen_ok]
    cases td<;>simp only[Option.some.injEq,reduceCtorEq]at hs
    case int k0=>simp
    case bool=>simp
    case string=>simp
    case struct fs=>
     split at hs
     ·injection hs with hs;subst hs
      simp only at h
      cases x<;>simp only[Bool.false_eq_true]at h
      rename_i xs
      obtain⟨arr,rfl,ha,hf⟩:=hu
      simp only
      rw[<- Array.forIn_toList]
      rw[List.all_map]at h
      generalize fs.toList=L at h
      induction L with
      |nil=>simp
      |cons f L ih=>
       simp only[List.all_cons,Bool.and_eq_true,Function.comp]at h
       obtain⟨h1,h2⟩:=h
       split at h1
       ·rename_i y hy
        obtain⟨v,k1,k2⟩:=gX hy ha hf
        have k3:=IH _ _ h1 v k2
        by_cases hn:f.name= "_"
        ·simp only[List.forIn_cons,Sem.run_bind,hn,ne_eq,not_true_eq_false,if_false,Result.andThen_ok,Sem.run_pure]
         have:=ih h2
         simp only[Sem.run_bind,Sem.run_pure,ne_eq]at this
         exact this
        ·simp only[List.forIn_cons,Sem.run_bind,hn,ne_eq,not_false_eq_true,if_true,Result.andThen_ok,k1,k3,Sem.run_pure]
         have:=ih h2
         simp only[Sem.run_bind,Sem.run_pure,ne_eq]at this
         exact this
       ·cases h1
     ·cases hs
    case array n e=>
     split at hs
     ·rename_i hi
      injection hs with hs;subst hs
      simp only at h
      cases x<;>simp only[Bool.false_eq_true]at h
      rename_i xs
      obtain⟨arr,rfl,ha,hf⟩:=hu
      obtain⟨i,hi⟩:=Option.isSome_iff_exists.1 hi
      simp only[Std.Legacy.Range.forIn_eq_forIn_range',Std.Legacy.Range.size,Nat.sub_zero,Nat.add_one_sub_one,Nat.div_one]
      rw[List.range_eq_range']at h
      generalize List.range' 0 n=is at h
      induction is with
      |nil=>simp
      |cons j is ih=>
       simp only[List.all_cons,Bool.and_eq_true]at h
       obtain⟨h1,h2⟩:=h
       split at h1
       ·rename_i y hy
        obtain⟨v,k1,k2⟩:=gX hy ha hf
        have k3:=IH _ _ h1 v k2
        simp only[List.forIn_cons,Sem.run_bind,dK hi,Result.andThen_ok,k1,k3,Sem.run_pure]
        have:=ih h2
        simp only[Sem.run_bind,Sem.run_pure]at this
        exact this
       ·cases h1
     ·cases hs
def ki(B:Nat->Prop)(w:World)(es:List MapEntry)(i:Nat):Option (Nat×D×D)->Option (Nat×Value)->Prop
 |none,none=>True
 |some (j,k,x),some (j',v)=>j=j'/\i<=j/\D.den B w x v/\∃e,es[j - i]? =some e/\e.val=v/\D.den B w k e.key
 |_,_=>False
theorem ki.succ {es:List MapEntry}{e:MapEntry}{i:Nat}{r:Option (Nat×D×D)}{r':Option (Nat×Value)}(h:ki B w es (i+1) r r'):ki B w (e::es) i r r':=by
 cases r with
 |none=>cases r'<;>exact h
 |some p=>
  obtain⟨j,k,x⟩:=p
  cases r' with
  |none=>exact h
  |some q=>
   obtain⟨j',v⟩:=q
   obtain⟨h1,h2,h3,e',h4,h5⟩:=h
   refine⟨h1,af,h3,e', ?_,h5⟩
   rw[show j - i=(j - (i+1))+1 by omega]
   simpa using h4
theorem sV{kt:TypeId}{kd:D}{kv:Value}(hk:D.den B w kd kv):∀ (l:List (D×D)) (es:List MapEntry) (i:Nat) (r:Option (Nat×D×D)),aI B w l es->findD P kt kd l i=some r->
 ∃r',(Instr.findAsking kt kv es i).run P w= .ok r' w/\ki B w es i r r'
 |[],es,i,r,he,h=>by
  simp only[aI]at he;subst he
  simp only[findD,Option.some.injEq]at h;subst h
  exact⟨none,by simp[Instr.findAsking],trivial⟩
 |(k',x)::l,es,i,r,he,h=>by
  obtain⟨e,es,rfl,h1,h2,h3⟩:=he
  simp only[findD]at h
  split at h
  ·rename_i hq
   injection h with h;subst h
   have:=tR 100 kt _ _ _ hq 10000 bu B w _ _ hk h1
   refine⟨some (i,e.val),by simp[Instr.findAsking,Op.equal,Op.maxDepth,this],rfl,Nat.le_refl _,h2,e,aE,rfl,h1⟩
  ·rename_i hq
   have:=tR 100 kt _ _ _ hq 10000 bu B w _ _ hk h1
   obtain⟨r',g1,g2⟩:=sV hk l es (i+1) r h3 h
   exact⟨r',by simp[Instr.findAsking,Op.equal,Op.maxDepth,this,g1],g2.succ⟩
  ·cases h
theorem sW{td:TypeDesc}{kt:TypeId}(ht:P.underlying kt=some td)(hn:(match td with| .int _| .bool| .string=>true|_=>false)=true){x y:D}{r:Bool}(h:oO P 100 kt x y=some r){u v:Value}(hu:D.den B w x u)(hv:D.den B w y v):
 Instr.sameNow td u v=some r:=by
 unfold oO bK at h
 rw[ht]at h
 cases td<;>simp only[Bool.false_eq_true]at hn<;>simp only at h
 ·split at h
  ·injection h with h;subst h
   simp only[D.den]at hu hv;subst hu;subst hv;rfl
  ·cases h
 ·split at h
  ·split at h
   ·rename_i e;subst e;injection h with h;subst h
    simp only[D.den]at hu hv;subst hu;subst hv;simp[Instr.sameNow]
   ·cases h
  ·cases h
 ·split at h
  ·injection h with h;subst h
   obtain⟨s1,rfl,rfl⟩:=hu
   obtain⟨s2,rfl,rfl⟩:=hv
   simp only[Instr.sameNow,Option.some.injEq]
   obtain⟨⟨a⟩⟩:=s1
   obtain⟨⟨b⟩⟩:=s2
   rw[Bool.eq_iff_iff,MapKept.bytes_beq]
   simp
  ·cases h
theorem sX{td:TypeDesc}{kt:TypeId}(ht:P.underlying kt=some td)(hn:(match td with| .int _| .bool| .string=>true|_=>false)=true){kd:D}{kv:Value}(hk:D.den B w kd kv):∀ (l:List (D×D)) (es:List MapEntry) (i:Nat) (r:Option (Nat×D×D)),aI B w l es->findD P kt kd l i=some r->
 ∃r',Instr.findNow td kv es i=some r'/\ki B w es i r r'
 |[],es,i,r,he,h=>by
  simp only[aI]at he;subst he
  simp only[findD,Option.some.injEq]at h;subst h
  exact⟨none,by simp[Instr.findNow],trivial⟩
 |(k',x)::l,es,i,r,he,h=>by
  obtain⟨e,es,rfl,h1,h2,h3⟩:=he
  simp only[findD]at h
  split at h
  ·rename_i hq
   injection h with h;subst h
   have:=sW ht hn hq hk h1
   refine⟨some (i,e.val),by simp[Instr.findNow,this],rfl,Nat.le_refl _,h2,e,aE,rfl,h1⟩
  ·rename_i hq
   have:=sW ht hn hq hk h1
   obtain⟨r',g1,g2⟩:=sX ht hn hk l es (i+1) r h3 h
   exact⟨r',by simp[Instr.findNow,this,g1],g2.succ⟩
  ·cases h
theorem fX{kt:TypeId}{kd:D}{kv:Value}(hk:D.den B w kd kv)(hc:oB P 100 kt kd=true){l:List (D×D)}{es:List MapEntry}{r:Option (Nat×D×D)}(he:aI B w l es)(h:findD P kt kd l 0=some r):
 ∃r',(Instr.findKey kt kv es).run P w= .ok r' w/\ki B w es 0 r r':=by
 unfold oB bK at hc
 cases ht:P.underlying kt with
 |none=>simp[ht]at hc
 |some td=>
  have now:(match td with| .int _| .bool| .string=>true|_=>false)=true->∃r',(Instr.findKey kt kv es).run P w= .ok r' w/\ki B w es 0 r r':=by
   intro hn
   obtain⟨r',g1,g2⟩:=sX ht hn hk l es 0 r he h
   exact⟨r',MapKept.run_findKey ht g1,g2⟩
  have ask:(match P.underlying kt with|some (.array _ _)|some (.struct _)=>true|_=>false)=true->∃r',(Instr.findKey kt kv es).run P w= .ok r' w/\ki B w es 0 r r':=by
   intro hn
   obtain⟨r',g1,g2⟩:=sV hk l es 0 r he h
   exact⟨r',(run_findKey_eq w hn kv es).trans g1,g2⟩
  cases td<;>first
   |exact now rfl
   |(refine ask ?_;rw[ht];done)
   |(exfalso;simp[ht]at hc)
theorem aI.get:∀ {l:List (D×D)} {es:List MapEntry} {i:Nat} {e:MapEntry},aI B w l es->es[i]? =some e->∃p,l[i]? =some p/\D.den B w p.1 e.key/\D.den B w p.2 e.val
 |[],es,i,e,h,hi=>by simp only[aI]at h;subst h;simp at hi
 |(k,x)::l,es,i,e,h,hi=>by
  obtain⟨e',es,rfl,h1,h2,h3⟩:=h
  cases i with
  |zero=>simp at hi;subst hi;exact⟨(k,x),aE,h1,h2⟩
  |succ i=>simpa using aI.get h3 (by simpa using hi)
theorem aI.push:∀ {l:List (D×D)} {es:List MapEntry} {k x:D} {e:MapEntry},aI B w l es->D.den B w k e.key->D.den B w x e.val->aI B w (l++[(k,x)]) (es++[e])
 |[],es,k,x,e,h,h1,h2=>by simp only[aI]at h;subst h;exact⟨e,[],rfl,h1,h2,rfl⟩
 |(k',x')::l,es,k,x,e,h,h1,h2=>by
  obtain⟨e',es,rfl,g1,g2,g3⟩:=h
  exact⟨e',es++[e],rfl,g1,g2,aI.push g3 h1 h2⟩
theorem aI.set:∀ {l:List (D×D)} {es:List MapEntry} {i:Nat} {k x:D} {e:MapEntry},aI B w l es->D.den B w k e.key->D.den B w x e.val->aI B w (l.set i (k,x)) (es.set i e)
 |[],es,i,k,x,e,h,h1,h2=>by simp only[aI]at h;subst h;rfl
 |(k',x')::l,es,i,k,x,e,h,h1,h2=>by
  obtain⟨e',es,rfl,g1,g2,g3⟩:=h
  cases i with
  |zero=>exact⟨e,es,rfl,h1,h2,g3⟩
  |succ i=>exact⟨e',es.set i e,rfl,g1,g2,aI.set g3 h1 h2⟩
theorem BD(hH:az M φ H w)(cY: ¬H.us fr){t:TypeId}(h:db (mR P fr t) K):cN M φ H w fr ((do let v <- Instr.makeMap t none;pure (Next.value v):Sem Next).run P w) K:=by
 have hg:=du h
 clear h
 obtain⟨v,Δ,rd,h,hK⟩:=hg
 unfold mR at h
 split at h
 ·rename_i kt vt ht
  injection h with h;injection h with e1 e2;injection e2 with e2 e3;subst e1;subst e2;subst e3
  have hv:∀b,eg (.map (some w.heap.size))=some b->w.heap.size<=b/\b<(w.alloc (.map #[] 0)).heap.size:=by
   intro b hb;simp[eg]at hb;subst hb;simp
  have NA:=dJ (φ:=φ) (H:=H) (cn w (.map #[] 0)) cY (.map kt vt []) (.map (some w.heap.size)) fun b hb=>(hv b hb).1
  refine⟨_, .map (some w.heap.size),w.alloc (.map #[] 0),ay φ fr (.map (some w.heap.size)),_,_,_,hK,by simp[Instr.makeMap], .inl rfl,iB hH (cn w _) cY _ _ hv ?_,NA,⟨rfl,aE,fun _=>aE⟩,fun j hj=> .inr mL⟩
  unfold aR
  simp only[bG,aL,if_true]
  exact⟨w.heap.size,#[],0,rfl,heap_alloc_new w _,⟨fun e he=>by simp at he,aE⟩,rfl⟩
 ·cases h
theorem uO{o:Nat->ad}{m:V}{r:Option (Nat×TypeId×TypeId)}{l:List (D×D)}(h:oQ o m=some (r,l)):(∃id kt vt,m= .mp id/\o id= .map kt vt l/\r=some (id,kt,vt))\/(m= .d .dH/\r=none/\l=[]):=by
 unfold oQ at h
 split at h
 ·split at h
  ·rename_i ho
   simp only[Option.some.injEq,Prod.mk.injEq]at h;obtain⟨rfl,rfl⟩:=h;exact .inl ⟨_,_,_,rfl,ho,rfl⟩
  ·cases h
 ·simp only[Option.some.injEq,Prod.mk.injEq]at h;obtain⟨rfl,rfl⟩:=h;exact .inr ⟨rfl,rfl,rfl⟩
 ·cases h
theorem Ko{ks vs:List D}{es:List MapEntry}(h1:D.aC B w ks (es.map (·.key)))(h2:D.aC B w vs (es.map (·.val))):aI B w (ks.zip vs) es:=by
 have e1:=D.aA _ _ h1
 have e2:=D.aA _ _ h2
 simp only[List.length_map]at e1 e2
 refine(kU _ _).2 ?_
 rw[List.map_fst_zip (by omega),List.map_snd_zip (by omega)]
 exact⟨h1,h2⟩
def uP(l l':List (D×D)):Prop:=l'=l\/(l'.Perm l/\yW (l.map (·.1)))
theorem uP.perm {l l':List (D×D)}(h:uP l l'):l'.Perm l:=by
 rcases h with rfl|h
 ·exact List.Perm.refl _
 ·exact h.1
theorem HV{p q:List MapEntry}(hpq:p.Perm q):∀ {l:List (D×D)},aI B w l p->∃l',l'.Perm l/\aI B w l' q:=by
 induction hpq with
 |nil=>intro l h;exact⟨l,List.Perm.refl _,h⟩
 |cons x _ ih=>
  intro l h
  cases l with
  |nil=>cases h
  |cons y l=>
   obtain⟨k,v⟩:=y
   obtain⟨e,es,h0,h1,h2,h3⟩:=h
   injection h0 with h0 zh;subst h0;subst zh
   obtain⟨l',g1,g2⟩:=ih h3
   exact⟨(k,v)::l',g1.cons _,_,_,rfl,h1,h2,g2⟩
 |swap x y t=>
  intro l h
  match l,h with
  |[],h=>cases h
  |[(_,_)],h=>obtain⟨e,es,h0,_,_,h3⟩:=h;injection h0 with _ h0;have h3:es=[]:=h3;rw[h3]at h0;cases h0
  |(k,v)::(k',v')::l,h=>
   obtain⟨e,es,h0,h1,h2,e',es',zh,iz,mu,h3⟩:=h
   subst zh
   injection h0 with a b;subst a;injection b with b c;subst b;subst c
   exact⟨(k',v')::(k,v)::l,List.Perm.swap _ _ _,_,_,rfl,iz,mu,_,_,rfl,h1,h2,h3⟩
 |trans _ _ ih1 ih2=>
  intro l h
  obtain⟨l1,g1,g2⟩:=ih1 h
  obtain⟨l2,g3,g4⟩:=ih2 g2
  exact⟨l2,g3.trans g1,g4⟩
theorem rT{l:List (D×D)}{p:List MapEntry}{es:Array MapEntry}(hp:p=es.toList\/(p.Perm es.toList/\yW (l.map (·.1))))(h:aI B w l p):∃l',uP l l'/\aI B w l' es.toList:=by
 rcases hp with rfl|⟨h1,h2⟩
 ·exact⟨l, .inl rfl,h⟩
 ·obtain⟨l',g1,g2⟩:=HV h1 h
  exact⟨l', .inr ⟨g1,h2⟩,g2⟩
theorem pk{l:List (D×D)}{v:Value}(h:D.den B w (.mp (l.map (·.1)) (l.map (·.2))) v):∃m es clock l',v= .map (some m)/\w.heap[m]? =some (.map es clock)/\ ¬B m/\iC es clock/\uP l l'/\aI B w l' es.toList:=by
 obtain⟨m,es,clock,p,h1,h2,h3,h4,hp,h5,h6⟩:=h
 obtain⟨l',g1,g2⟩:=rT hp ((kU _ _).2 ⟨h5,h6⟩)
 exact⟨m,es,clock,l',h1,h2,h3,h4,g1,g2⟩
theorem BE{ks vs:List D}{p:List MapEntry}(h1:D.aC B w ks (p.map (·.key)))(h2:D.aC B w vs (p.map (·.val))):(ks.zip vs).map (·.1)=ks:=by
 have e1:=D.aA _ _ h1
 have e2:=D.aA _ _ h2
 simp only[List.length_map]at e1 e2
 exact List.map_fst_zip af
theorem NY{P:Program}{kt:TypeId}{kd:D}{n:Int}{b:Bool}(h:oO P 100 kt kd (.int .i64 n)=some b):bK P kt=some .int/\∃m,kd= .int .i64 m/\b=(m==n):=by
 unfold oO at h
 cases hs:bK P kt with
 |none=>simp[hs]at h
 |some sh=>
  cases sh<;>simp only[hs]at h
  case int=>
   cases kd<;>simp only at h
   all_goals first
    |(cases h;done)
    |(split at h
      ·rename_i e;subst e;injection h with h;exact⟨rfl,_,rfl,h.symm⟩
      ·cases h)
  all_goals first
   |(cases kd<;>simp at h;done)
   |(simp at h;done)
theorem pn{P:Program}{kt:TypeId}{m:Int}(hs:bK P kt=some .int):∀ (l:List (D×D)) (i:Nat),(∀k∈l.map (·.1),∃n,k= .int .i64 n)->∃r,findD P kt (.int .i64 m) l i=some r/\(match r with|some (_,_,x)=>(D.int .i64 m,x)∈l|none=>∀x,(D.int .i64 m,x)∉l)
 |[],i,_=>⟨none,rfl,aE⟩
 |(k,x)::l,i,h=>by
  obtain⟨n,rfl⟩:=h k aE
  have he:oO P 100 kt (.int .i64 m) (.int .i64 n)=some (m==n):=by simp[oO,hs]
  simp only[findD,he]
  by_cases e:m=n
  ·subst e
   exact⟨some (i, .int .i64 m,x),aE,aE⟩
  ·have e2:(m==n)=false:=by simpa using e
   obtain⟨r,h1,h2⟩:=pn hs l (i+1) (fun k hk=>h k (by simp at hk|-;exact .inr hk))
   refine⟨r,by simp only[e2];exact h1, ?_⟩
   cases r with
   |none=>intro y hy;rcases List.mem_cons.1 hy with hy|hy
          ·injection hy with hy _;injection hy with _ hy;exact e hy
          ·exact h2 y hy
   |some p=>exact List.mem_cons_of_mem _ h2
theorem HW{L:List (D×D)}(hn:(L.map (·.1)).Nodup){k x x':D}(f2:(k,x)∈L)(f4:(k,x')∈L):x'=x:=by
 induction L with
 |nil=>cases f2
 |cons y L ih=>
  rw[List.map_cons,List.nodup_cons]at hn
  rcases List.mem_cons.1 f2 with e1|e1<;>rcases List.mem_cons.1 f4 with e2|e2
  ·rw[<- e1]at e2;injection e2
  ·exact absurd (by rw[<- e1];exact List.mem_map.2 ⟨_,e2,rfl⟩) hn.1
  ·exact absurd (by rw[<- e2];exact List.mem_map.2 ⟨_,e1,rfl⟩) hn.1
  ·exact ih hn.2 e1 e2
theorem xN{P:Program}{kt:TypeId}{kd:D}{l l':List (D×D)}{r:Option (Nat×D×D)}(hl:uP l l')(h:findD P kt kd l 0=some r):∃r',findD P kt kd l' 0=some r'/\(match r,r' with|some (_,_,x),some (_,_,x')=>x'=x|none,none=>True|_,_=>False):=by
 rcases hl with rfl|⟨hp,hk⟩
 ·refine⟨r,h, ?_⟩
  cases r<;>trivial
 ·cases l with
  |nil=>
   have:l'=[]:=hp.eq_nil
   subst this
   refine⟨r,h, ?_⟩
   cases r<;>trivial
  |cons p l=>
   obtain⟨k0,x0⟩:=p
   obtain⟨n0,rfl⟩:=hk.2 k0 aE
   have hb:∃b,oO P 100 kt kd (.int .i64 n0)=some b:=by
    simp only[findD]at h
    cases he:oO P 100 kt kd (.int .i64 n0)with
    |none=>rw[he]at h;cases h
    |some b=>exact⟨b,rfl⟩
   obtain⟨b,hb⟩:=hb
   obtain⟨hs,m,rfl,_⟩:=NY hb
   obtain⟨r1,f1,f2⟩:=pn (m:=m) hs ((.int .i64 n0,x0)::l) 0 hk.2
   rw[h]at f1;injection f1 with f1;subst f1
   obtain⟨r',f3,f4⟩:=pn (m:=m) hs l' 0 (fun k hkk=>hk.2 k ((hp.map _).mem_iff.1 hkk))
   refine⟨r',f3, ?_⟩
   cases r with
   |none=>
    cases r' with
    |none=>trivial
    |some q=>obtain⟨_,_,x'⟩:=q;exact f2 x' (hp.mem_iff.1 f4)
   |some q=>
    obtain⟨_,_,x⟩:=q
    cases r' with
    |none=>exact f4 x (hp.mem_iff.2 f2)
    |some q'=>
     obtain⟨_,_,x'⟩:=q'
     exact HW hk.1 f2 (hp.mem_iff.1 f4)
theorem xO{ks vs:List D}{p:List MapEntry}(h1:D.aC B w ks (p.map (·.key)))(h2:D.aC B w vs (p.map (·.val))):aI B w (ks.zip vs) p:=Ko h1 h2
theorem D4(hH:az M φ H w){m:V}{mv:Value}{rd:List Nat}{l:List (D×D)}(hm:V.den (ak M φ H) φ H w m mv)(h:qc H.o m=some (rd,l)):
 (mv= .map none/\l=[])\/∃b es clock l',mv= .map (some b)/\w.heap[b]? =some (.map es clock)/\iC es clock/\uP l l'/\aI (ak M φ H) w l' es.toList:=by
 unfold qc at h
 split at h
 ·rename_i id
  obtain⟨Jm,Na,AU⟩:=hm
  have aV:=hH.ok id
  split at h
  ·rename_i ho
   simp only[Option.some.injEq,Prod.mk.injEq]at h;obtain⟨rfl,rfl⟩:=h
   simp only[aR,ho]at aV
   obtain⟨b,es,clock,g1,g2,g0,g3⟩:=aV
   exact .inr ⟨b,es,clock,_,(AU eC).trans g1,g2,g0, .inl rfl,g3⟩
  ·rename_i ho
   simp only[Option.some.injEq,Prod.mk.injEq]at h;obtain⟨rfl,rfl⟩:=h
   simp only[aR,ho]at aV
   obtain⟨b,es,clock,l',g1,g2,_,g0,g3⟩:=pk aV.den
   exact .inr ⟨b,es,clock,l',(AU eC).trans g1,g2,g0,g3⟩
  ·cases h
 ·simp only[Option.some.injEq,Prod.mk.injEq]at h;obtain⟨rfl,rfl⟩:=h
  simp only[V.den,D.den]at hm
  exact .inl ⟨hm,rfl⟩
 ·simp only[Option.some.injEq,Prod.mk.injEq]at h;obtain⟨rfl,rfl⟩:=h
  obtain⟨b,es,clock,p,g1,g2,_,g0,gp,g3,g4⟩:=hm
  obtain⟨l',g5,g6⟩:=rT (by rw[BE g3 g4];exact gp) (xO g3 g4)
  exact .inr ⟨b,es,clock,l',g1,g2,g0,g5,g6⟩
 ·cases h
theorem D5(hH:az M φ H w){t:TypeId}{m k:V}{mv kv:Value}{ok:Bool}(hm:V.den (ak M φ H) φ H w m mv)(hk:V.den (ak M φ H) φ H w k kv)(h:db (jg P H.o t m k ok) K):
 cN M φ H w fr ((do let v <- Instr.lookup t mv kv ok;pure (Next.value v):Sem Next).run P w) K:=by
 have hg:=du h
 clear h
 obtain⟨v,Δ,rd,h,hK⟩:=hg
 unfold jg at h
 split at h
 ·rename_i kt vt kd rd0 l ht Z1 HN
  split at h
  ·rename_i hc
   have kj:D.den (ak M φ H) w kd kv:=eH hH k kd kv (fun id ax=>by rw[hc.1]at ax;cases ax) Z1 hk
   have Nb:∀em,(Instr.checkKey em 10000 kt kv).run P w= .ok () w:=fun em=>qm em 100 kt kd hc.2 10000 bu kv kj
   have Jn:=rS ht
   have adV:∃ (es:Array MapEntry) (l':List (D×D)),uP l l'/\aI (ak M φ H) w l' es.toList/\∀ (r':Option (Nat×Value)) (val:Value),(Instr.findKey kt kv es.toList).run P w= .ok r' w->(match r' with|some (_,u)=>val=(if ok=true then .tuple #[u, .bool true]else u)|none=>∃z,(zeroValue vt).run P w= .ok z w/\val=(if ok=true then .tuple #[z, .bool false]else z))->(Instr.lookup t mv kv ok).run P w= .ok val w:=by
    rcases D4 hH hm HN with⟨rfl,rfl⟩|⟨b,es,clock,l',rfl,g2,_,gl,g3⟩
    case inr=>
     have mK:=MapKept.run_getObj_map (P:=P) g2
     refine⟨es,l',gl,g3,fun r' val q1 q2=> ?_⟩
     cases r' with
     |some p=>obtain⟨j,u⟩:=p;simp only at q2;subst q2;cases ok<;>simp[Instr.lookup,run_underlying Jn,mK,Nb,q1]
     |none=>obtain⟨z,z1,rfl⟩:=q2;cases ok<;>simp[Instr.lookup,run_underlying Jn,mK,Nb,q1,z1]
    case inl=>
     refine⟨#[],[], .inl rfl,rfl,fun r' val q1 q2=> ?_⟩
     cases r' with
     |some p=>obtain⟨j,u⟩:=p;simp only at q2;subst q2;cases ok<;>simp[Instr.lookup,run_underlying Jn,Nb,q1]
     |none=>obtain⟨z,z1,rfl⟩:=q2;cases ok<;>simp[Instr.lookup,run_underlying Jn,Nb,q1,z1]
   obtain⟨es,l',gl,g3,run⟩:=adV
   split at h
   ·rename_i j kk x hf
    injection h with h;injection h with e1 e2;injection e2 with e2 e3;subst e1;subst e2;subst e3
    obtain⟨r2,hf2,uQ⟩:=xN gl hf
    obtain⟨r',q1,q2⟩:=fX kj hc.2 g3 hf2
    cases r2 with
    |none=>exact uQ.elim
    |some p2=>
    obtain⟨_,_,x2⟩:=p2
    have hx2:x2=x:=uQ
    obtain rfl:=hx2
    cases r' with
    |none=>exact q2.elim
    |some p=>
     obtain⟨j',u⟩:=p
     obtain⟨_,_,Kp,_⟩:=q2
     refine cN.plain (v:=(if ok=true then .bP [.d x2, .d (.bool true)]else .d x2)) hH (if ok=true then .tuple #[u, .bool true]else u) hK (run _ _ q1 rfl) ?_
     cases ok
     ·exact Kp
     ·exact⟨#[u, .bool true],rfl,u,[.bool true],rfl,Kp, .bool true,[],rfl,rfl,rfl⟩
   ·rename_i hf
    split at h
    ·rename_i z hz
     injection h with h;injection h with e1 e2;injection e2 with e2 e3;subst e1;subst e2;subst e3
     obtain⟨r2,hf2,uQ⟩:=xN gl hf
     obtain⟨r',q1,q2⟩:=fX kj hc.2 g3 hf2
     cases r2 with
     |some p2=>exact uQ.elim
     |none=>
     cases r' with
     |some p=>exact q2.elim
     |none=>
      obtain⟨val,z1,z2⟩:=rR (M:=M) (φ:=φ) (H:=H) (w:=w) hz
      refine cN.plain hH (if ok=true then .tuple #[val, .bool false]else val) hK (run _ _ q1 ⟨val,z1,rfl⟩) ?_
      cases ok
      ·exact z2
      ·exact⟨#[val, .bool false],rfl,val,[.bool false],rfl,z2, .bool false,[],rfl,rfl,rfl⟩
    ·cases h
   ·cases h
  ·cases h
 ·cases h
theorem iF{es:Array MapEntry}{i:Nat}{e:MapEntry}(f:MapEntry->MapEntry)(h:es.toList[i]? =some e):(es.modify i f).toList=es.toList.set i (f e):=by
 apply List.ext_getElem?
 intro j
 simp only[Array.getElem?_toList,Array.getElem?_modify]
 rw[List.getElem?_set]
 have h':es[i]? =some e:=by simpa using h
 by_cases hj:i=j
 ·subst hj
  have ck:i<es.toList.length:=by
   rw[List.getElem?_eq_some_iff]at h;exact h.1
  simp only[if_true,h',Option.map_some,ck]
 ·simp[hj]
theorem D6{es:Array MapEntry}{clock:Nat}(h:iC es clock){e:MapEntry}(he:e.born=clock):iC (es.push e) (clock+1):=by
 obtain⟨h1,h2⟩:=h
 refine⟨fun x hx=> ?_, ?_⟩
 ·rw[Array.toList_push]at hx
  rcases List.mem_append.1 hx with hx|hx
  ·have:=h1 x hx;omega
  ·simp at hx;subst hx;omega
 ·rw[Array.toList_push,List.map_append,List.nodup_append]
  refine⟨h2,aE,fun a ha b hb=> ?_⟩
  obtain⟨x,hx,rfl⟩:=List.mem_map.1 ha
  simp only[List.map_cons,List.map_nil,List.mem_singleton]at hb
  have:=h1 x hx
  omega
theorem zi{es:Array MapEntry}{clock i:Nat}(h:iC es clock){e:MapEntry}(hi:es.toList[i]? =some e){f:MapEntry->MapEntry}(hf:(f e).born=e.born):iC (es.modify i f) clock:=by
 obtain⟨h1,h2⟩:=h
 unfold iC
 rw[iF f hi]
 have e1:(es.toList.set i (f e)).map (·.born)=es.toList.map (·.born):=by
  rw[List.map_set,hf]
  apply List.ext_getElem?
  intro j
  rw[List.getElem?_set]
  by_cases hj:i=j
  ·subst hj
   have ck:=(List.getElem?_eq_some_iff.1 hi).1
   rw[if_pos rfl,if_pos (by simpa using ck),List.getElem?_map,hi];rfl
  ·rw[if_neg hj]
 refine⟨fun x hx=> ?_,by rw[e1];exact h2⟩
 obtain⟨j,hj⟩:=List.mem_iff_getElem?.1 (List.mem_map.2 ⟨x,hx,rfl⟩:x.born∈(es.toList.set i (f e)).map (·.born))
 rw[e1]at hj
 obtain⟨y,hy,e2⟩:=List.mem_map.1 (List.mem_of_getElem? hj)
 have:=h1 y hy
 omega
theorem BF{es:Array MapEntry}{clock i:Nat}(h:iC es clock):iC (es.eraseIdxIfInBounds i) clock:=by
 obtain⟨h1,h2⟩:=h
 have e:(es.eraseIdxIfInBounds i).toList=es.toList.eraseIdx i:=aE
 unfold iC
 rw[e]
 exact⟨fun x hx=>h1 x (List.mem_of_mem_eraseIdx hx),h2.sublist (List.Sublist.map _ (List.eraseIdx_sublist ..))⟩
theorem aI.erase:∀ {l:List (D×D)} {es:List MapEntry} {i:Nat},aI B w l es->aI B w (l.eraseIdx i) (es.eraseIdx i)
 |[],es,i,h=>by simp only[aI]at h;subst h;simp[aI]
 |(k',x')::l,es,i,h=>by
  obtain⟨e',es,rfl,g1,g2,g3⟩:=h
  cases i with
  |zero=>exact g3
  |succ i=>exact⟨e',es.eraseIdx i,rfl,g1,g2,aI.erase g3⟩
theorem Kq(hH:az M φ H w){id b clock clock':Nat}{kt vt:TypeId}{l l':List (D×D)}{es es':Array MapEntry}(dT:H.us id)(ho:H.o id= .map kt vt l)(eM:φ id= .map (some b))(g2:w.heap[b]? =some (.map es clock))(h0:iC es' clock')(hl:aI (ak M φ H) w l' es'.toList):
 az M φ (H.put [(id, .map kt vt l')]) {w with heap:=w.heap.setIfInBounds b (.map es' clock')}/\Trans φ H w φ (H.put [(id, .map kt vt l')]) {w with heap:=w.heap.setIfInBounds b (.map es' clock')}:=by
 have Kr:ei (· =b) w {w with heap:=w.heap.setIfInBounds b (.map es' clock')}:=
  ⟨rfl,rfl,rfl,aE,fun j _ hj=>(MapKept.heap_set g2).2 j hj⟩
 have rz:(H.o id).live=true:=by rw[ho];rfl
 have Jo:eg (φ id)=some b:=by rw[eM];rfl
 have DA:=eS (w:=w) (w':={w with heap:=w.heap.setIfInBounds b (.map es' clock')}) dT rz Jo Kr (.map kt vt l') eC eC
 refine⟨gZ hH dT rz Jo Kr _ eC eC ?_,DA⟩
 unfold aR
 simp only[bG,aL,if_true]
 exact⟨b,es',clock',eM,(MapKept.heap_set g2).1,h0,aI.mono (DA.blocks (M:=M)) l' _ hl⟩
theorem D7(hH:az M φ H w){t:TypeId}{ts:Array TypeId}{m k:V}{mv kv:Value}(wV:ts.toList.head?=some t)(hm:V.den (ak M φ H) φ H w m mv)(hk:V.den (ak M φ H) φ H w k kv){ty0:TypeId}
 (h:db (nX P H.o t m k) K):cN M φ H w fr ((do let v <- Builtin.delete_ ts ty0 #[mv,kv];pure (Next.value v):Sem Next).run P w) K:=by
 have hg:=du h
 clear h
 obtain⟨v',Δ,rd,h,hK⟩:=hg
 have ht0:ts[0]? =some t:=by rw[<- Array.getElem?_toList, <- List.head?_eq_getElem?];exact wV
 unfold nX at h
 split at h
 ·rename_i kt vt kd id FM FN l ht Z1 HN
  rcases uO HN with⟨id2,kt2,vt2,rfl,ho,hr⟩|⟨rfl,hr,rfl⟩
  case inr=>cases hr
  injection hr with hr;injection hr with e1 e2;injection e2 with e2 e3;subst e1;subst e2;subst e3
  split at h
  ·rename_i hc
   obtain⟨c1,c2⟩:=hc
   have kj:D.den (ak M φ H) w kd kv:=eH hH k kd kv (fun id ax=>by rw[c1]at ax;cases ax) Z1 hk
   have Nb:∀em,(Instr.checkKey em 10000 kt kv).run P w= .ok () w:=fun em=>qm em 100 kt kd c2 10000 bu kv kj
   have Jn:=rS ht
   obtain⟨Jm,dT,AU⟩:=hm
   have eM:=AU eC
   have aV:=hH.ok id
   simp only[aR,ho]at aV
   obtain⟨b,es,clock,g1,g2,g0,g3⟩:=aV
   rw[<- eM]at g1;subst g1
   have mK:=MapKept.run_getObj_map (P:=P) g2
   split at h
   ·rename_i i k' x hf
    injection h with h;injection h with e1 e2;injection e2 with e2 e3;subst e1;subst e2;subst e3
    obtain⟨r',q1,q2⟩:=fX kj c2 g3 hf
    cases r' with
    |none=>exact q2.elim
    |some p=>
     obtain⟨j',u⟩:=p
     obtain⟨rfl,_,Kp,e,h4,h5,h6⟩:=q2
     have e:(es.eraseIdxIfInBounds i).toList=es.toList.eraseIdx i:=aE
     obtain⟨t1,t2⟩:=Kq (clock':=clock) (es':=es.eraseIdxIfInBounds i) (l':=l.eraseIdx i) hH dT ho eM.symm g2 (BF g0) (by rw[e];exact g3.erase)
     refine⟨.value (.tuple #[]), .tuple #[],_,φ,_,_,_,hK, ?_, .inl rfl,t1,t2,⟨#[],rfl,rfl⟩,fun j hj=> .inl J0⟩
     simp only[Builtin.delete_,ht0,Sem.run_bind,run_underlying Jn,Result.andThen_ok,mK,Nb,q1,List.getElem?_toArray,List.getElem?_cons_zero,List.getElem?_cons_succ,MapKept.run_setObj_map _ g2,Sem.run_pure]
   ·rename_i hf
    injection h with h;injection h with e1 e2;injection e2 with e2 e3;subst e1;subst e2;subst e3
    obtain⟨r',q1,q2⟩:=fX kj c2 g3 hf
    cases r' with
    |some p=>exact q2.elim
    |none=>
     have hw:{w with heap:=w.heap.setIfInBounds b (.map es clock)}=w:=by
      have ck:b<w.heap.size:=by
       rcases Nat.lt_or_ge b w.heap.size with h|h
       ·exact h
       ·simp[Array.getElem?_eq_none h]at g2
      have:w.heap.setIfInBounds b (.map es clock)=w.heap:=by
       apply Array.ext_getElem?
       intro j
       rw[Array.getElem?_setIfInBounds]
       by_cases hj:b=j
       ·subst hj;rw[if_pos rfl,if_pos ck,g2]
       ·rw[if_neg hj]
      rw[this]
     refine⟨.value (.tuple #[]), .tuple #[],w,φ,_,_,_,hK, ?_, .inl rfl,by rw[nZ];exact hH,by rw[nZ];exact Trans.refl _ _ _,⟨#[],rfl,rfl⟩,aE⟩
     simp only[Builtin.delete_,ht0,Sem.run_bind,run_underlying Jn,Result.andThen_ok,mK,Nb,q1,List.getElem?_toArray,List.getElem?_cons_zero,List.getElem?_cons_succ,MapKept.run_setObj_map _ g2,Sem.run_pure,hw]
   ·cases h
  ·cases h
 ·cases h
theorem zj(H:Hp)(i j:Nat)(x y:ad):H.put [(i,x),(j,y)]=(H.put [(i,x)]).put [(j,y)]:=by rw[<- dW];rfl
theorem HX(hH:az M φ H w)(cY: ¬H.us fr){t:TypeId}{x:V}{xv:Value}(hx:V.den (ak M φ H) φ H w x xv)(h:db (mS P H.o fr t x) K):
 cN M φ H w fr ((do let v <- Instr.range t xv;pure (Next.value v):Sem Next).run P w) K:=by
 have hg:=du h
 clear h
 obtain⟨v,Δ,rd,h,hK⟩:=hg
 have new:∀ (iP:Place) (H1:Hp) (obj:ad) (ob:Obj),az M iP H1 w-> ¬H1.us fr->aR M (ay iP fr (.pointer (some ⟨w.heap.size,0,none⟩))) (H1.put [(fr,obj)]) (w.alloc ob) fr->
  az M (ay iP fr (.pointer (some ⟨w.heap.size,0,none⟩))) (H1.put [(fr,obj)]) (w.alloc ob)/\Trans iP H1 w (ay iP fr (.pointer (some ⟨w.heap.size,0,none⟩))) (H1.put [(fr,obj)]) (w.alloc ob):=by
  intro iP H1 obj ob h1 h2 h3
  have hv:∀b,eg (.pointer (some ⟨w.heap.size,0,none⟩))=some b->w.heap.size<=b/\b<(w.alloc ob).heap.size:=by
   intro b hb;simp[eg]at hb;subst hb;simp
  exact⟨iB h1 (cn w _) h2 _ _ hv h3,dJ (cn w _) h2 _ _ fun b hb=>(hv b hb).1⟩
 have frozen:∀ (H1:Hp) (l:List (D×D)) (b:Nat) (es:Array MapEntry) (clock:Nat),az M φ H1 w-> ¬H1.us fr->w.heap[b]? =some (.map es clock)-> ¬ak M φ H1 b->iC es clock->(∃l',l'.Perm l/\aI (ak M φ H1) w l' es.toList)->
  aR M (ay φ fr (.pointer (some ⟨w.heap.size,0,none⟩))) (H1.put [(fr, .rq l none)]) (w.alloc (.mapIter (some b) clock #[] clock)) fr:=by
  intro H1 l b es clock h1 h2 h3 h4 h5 h6
  have ht:=dJ (φ:=φ) (H:=H1) (w:=w) (w':=w.alloc (.mapIter (some b) clock #[] clock)) (cn w _) h2 (.rq l none) (.pointer (some ⟨w.heap.size,0,none⟩)) (fun b hb=>by simp[eg]at hb;omega)
  obtain⟨k1,k2⟩:=ht.blocks (M:=M) b (.inr ⟨es,clock,h3⟩) h4
  unfold aR
  simp only[bG,aL,if_true]
  refine⟨w.heap.size,rfl, .inr ⟨b,clock,#[],es,heap_alloc_new w _,k1.trans h3,k2,h5, ?_,fun k x e=>by cases e⟩⟩
  have e:(es.toList.filter fun e=> !(#[]:Array Nat).contains e.born)=es.toList:=List.filter_eq_self.2 (fun a _=>aE)
  rw[e]
  obtain⟨l',h6,h7⟩:=h6
  exact⟨l',h6,aI.mono (ht.blocks (M:=M)) l' _ h7⟩
 unfold mS at h
 split at h
 ·rename_i ht
  split at h
  ·rename_i s
   injection h with h;injection h with e1 e2;injection e2 with e2 e3;subst e1;subst e2;subst e3
   obtain⟨st,rfl,hs⟩:=hx
   have jT:st=⟨⟨s⟩⟩:=by obtain⟨⟨a⟩⟩:=st;simp at hs;subst hs;rfl
   subst jT
   obtain⟨n1,n2⟩:=new φ H (.yX s 0) (.stringIter ⟨⟨s⟩⟩ 0) hH cY (by
    unfold aR
    simp only[bG,aL,if_true]
    exact⟨w.heap.size,rfl,heap_alloc_new w _⟩)
   exact YF
  ·cases h
 ·rename_i ht
  split at h
  ·injection h with h;injection h with e1 e2;injection e2 with e2 e3;subst e1;subst e2;subst e3
   simp only[V.den,D.den]at hx;subst hx
   obtain⟨n1,n2⟩:=new φ H (.rq [] none) (.mapIter none 0 #[] 0) hH cY (by
    unfold aR
    simp only[bG,aL,if_true]
    exact⟨w.heap.size,rfl, .inl ⟨heap_alloc_new w _,rfl,rfl⟩⟩)
   exact YF
  ·rename_i ks vs
   injection h with h;injection h with e1 e2;injection e2 with e2 e3;subst e1;subst e2;subst e3
   obtain⟨b,es,clock,p,rfl,g2,g4,g0,gp,g3,g5⟩:=hx
   have mK:=MapKept.run_getObj_map (P:=P) g2
   obtain⟨l',g6,g7⟩:=rT (by rw[BE g3 g5];exact gp) (xO g3 g5)
   obtain⟨n1,n2⟩:=new φ H _ _ hH cY (frozen H (ks.zip vs) b es clock hH cY g2 g4 g0 ⟨l',g6.perm,g7⟩)
   exact YE
  ·rename_i id
   obtain⟨Jm,dT,AU⟩:=hx
   have aV:=hH.ok id
   split at h
   ·rename_i kt vt l ho
    injection h with h;injection h with e1 e2;injection e2 with e2 e3;subst e1;subst e2;subst e3
    obtain⟨f1,f2⟩:=zc hH dT ho
    have wH:(H.put [(id, .b8 l)]).o id= .b8 l:=aE
    have Z2:=f1.ok id
    simp only[aR,wH]at Z2
    obtain⟨b,es,clock,l',g1,g2,g4,g0,gl,g3⟩:=pk Z2.den
    have eM:=AU eC
    rw[<- eM]at g1;subst g1
    have mK:=MapKept.run_getObj_map (P:=P) g2
    have Z3: ¬ (H.put [(id, .b8 l)]).us fr:=by
     rw[dX]
     rintro(h|h)
     ·exact cY h
     ·exact cY (h ▸ dT)
    obtain⟨n1,n2⟩:=new φ _ _ _ f1 Z3 (frozen _ l b es clock f1 Z3 g2 g4 g0 ⟨l',gl.perm,g3⟩)
    refine⟨.value (.pointer (some ⟨w.heap.size,0,none⟩)), .pointer (some ⟨w.heap.size,0,none⟩),w.alloc (.mapIter (some b) clock #[] clock),_,_,_,_,hK,by simp[Instr.range,run_underlying ht,mK], .inl rfl,by rw[zj];exact n1,by rw[zj];exact f2.trans n2, ?_,fun j hj=> ?_⟩
    ·rw[zj]
     exact⟨rfl,aE,fun _=>⟨w.heap.size,aE,rfl⟩⟩
    ·simp at hj
     rcases hj with rfl|rfl
     ·exact .inl dT
     ·exact .inr rfl
   ·rename_i l ho
    injection h with h;injection h with e1 e2;injection e2 with e2 e3;subst e1;subst e2;subst e3
    simp only[aR,ho]at aV
    obtain⟨b,es,clock,l',g1,g2,g4,g0,gl,g3⟩:=pk aV.den
    have eM:=AU eC
    rw[<- eM]at g1;subst g1
    have mK:=MapKept.run_getObj_map (P:=P) g2
    obtain⟨n1,n2⟩:=new φ H _ _ hH cY (frozen H l b es clock hH cY g2 g4 g0 ⟨l',gl.perm,g3⟩)
    exact YE
   ·cases h
  ·cases h
 ·cases h
theorem FY(hH:az M φ H w){id b:Nat}{obj obj':ad}{x y:Obj}(dT:H.us id)(ho:H.o id=obj)(hl:obj.live=true)(hr:obj.ct=true)(he:obj.cq=none)(HY:obj'.ct=true)(pQ:obj'.cq=none)(eM:φ id= .pointer (some ⟨b,0,none⟩))(g2:w.heap[b]? =some x){w1:World}(hw1:w1.os=w.os/\w1.tape=w.tape/\w1.output=w.output/\w1.heap=w.heap)
 (uH:Trans φ H w φ (H.put [(id,obj')]) {w1 with heap:=w.heap.setIfInBounds b y}->aR M φ (H.put [(id,obj')]) {w1 with heap:=w.heap.setIfInBounds b y} id):
 az M φ (H.put [(id,obj')]) {w1 with heap:=w.heap.setIfInBounds b y}/\Trans φ H w φ (H.put [(id,obj')]) {w1 with heap:=w.heap.setIfInBounds b y}:=by
 have Kr:ei (· =b) w {w1 with heap:=w.heap.setIfInBounds b y}:=
  ⟨hw1.1,hw1.2.1,hw1.2.2.1,aE,fun j _ hj=>by
   show(w.heap.setIfInBounds b y)[j]? =_
   rw[Array.getElem?_setIfInBounds,if_neg (fun e=>hj e.symm)]⟩
 have rz:(H.o id).live=true:=by rw[ho];exact hl
 have Jo:eg (φ id)=some b:=by rw[eM];rfl
 have DA:=eS (w:=w) dT rz Jo Kr obj' (by rw[ho,hr,HY]) (by rw[ho,he,pQ])
 exact⟨gZ hH dT rz Jo Kr _ (by rw[ho,hr,HY]) (by rw[ho,he,pQ]) (uH DA),DA⟩
theorem BG(hH:az M φ H w){x:V}{xv:Value}{str:Bool}{ty:TypeId}(hx:V.den (ak M φ H) φ H w x xv)(h:db (oR H.o x str) K):
 cN M φ H w fr ((do let v <- Instr.next xv str ty;pure (Next.value v):Sem Next).run P w) K:=by
 have hg:=du h
 clear h
 obtain⟨v,Δ,rd,h,hK⟩:=hg
 unfold oR at h
 split at h
 ·rename_i id
  obtain⟨_,dT,AU⟩:=hx
  split at h
  ·rename_i s pos ho
   split at h
   ·rename_i adW
    subst adW
    obtain⟨b0,q1,rfl⟩:=AU eC
    have aV:=hH.ok id
    simp only[aR,ho]at aV
    obtain⟨b,g1,g2⟩:=aV
    rw[q1]at g1;injection g1 with g1;injection g1 with g1;injection g1 with g1;subst g1
    have eh:(ByteArray.mk ⟨s⟩).size=s.length:=rfl
    split at h
    ·rename_i ck
     injection h with h;injection h with e1 e2;injection e2 with e2 e3;subst e1;subst e2;subst e3
     obtain⟨n1,n2⟩:=FY (w1:=w) (y:= .stringIter ⟨⟨s⟩⟩ (pos+(Utf8.decode ⟨⟨s⟩⟩ pos).2)) (obj':= .yX s (pos+(Utf8.decode ⟨⟨s⟩⟩ pos).2)) hH dT ho rfl rfl rfl rfl rfl q1 g2 ⟨rfl,rfl,rfl,rfl⟩ (fun _=>by
      unfold aR
      simp only[bG,aL,if_true]
      refine⟨b0,q1, ?_⟩
      have ck:b0<w.heap.size:=by
       rcases Nat.lt_or_ge b0 w.heap.size with h|h
       ·exact h
       ·simp[Array.getElem?_eq_none h]at g2
      show(w.heap.setIfInBounds b0 _)[b0]? =_
      rw[Array.getElem?_setIfInBounds,if_pos rfl,if_pos ck])
     refine⟨.value (.tuple #[.bool true,goInt pos, .int .i32 (Utf8.decode ⟨⟨s⟩⟩ pos).1]),_,_,φ,_,_,_,hK, ?_, .inl rfl,n1,n2,⟨_,rfl, .bool true,_,rfl,rfl,_,_,rfl,rfl,_,_,rfl,rfl,rfl⟩,fun j hj=> .inl J0⟩
     simp only[Instr.next,getObj,setObj,Sem.run_bind,Sem.run,g2,Result.andThen,eh,ck,if_true]
     rfl
    ·rename_i ck
     injection h with h;injection h with e1 e2;injection e2 with e2 e3;subst e1;subst e2;subst e3
     refine cN.same hH (.tuple #[.bool false]) hK ?_ ⟨_,rfl, .bool false,_,rfl,rfl,rfl⟩
     simp only[Instr.next,getObj,Sem.run_bind,Sem.run,g2,Result.andThen,eh,ck,if_false]
     rfl
   ·cases h
  ·cases h
 ·cases h
theorem BH{es:List MapEntry}(hn:(es.map (·.born)).Nodup)(seen:Array Nat){e:MapEntry}{i:Nat}(hi:(es.filter fun e=> !seen.contains e.born)[i]? =some e):
 (es.filter fun x=> !(seen.push e.born).contains x.born)=(es.filter fun e=> !seen.contains e.born).eraseIdx i:=by
 have e1:(es.filter fun x=> !(seen.push e.born).contains x.born)=(es.filter fun e=> !seen.contains e.born).filter (fun x=>x.born !=e.born):=by
  rw[List.filter_filter]
  refine List.filter_congr fun x _=> ?_
  simp only[Array.contains_push]
  cases h1:seen.contains x.born<;>cases h2:(x.born==e.born)<;>simp_all[bne]
 rw[e1]
 have Ks:((es.filter fun e=> !seen.contains e.born).map (·.born)).Nodup:=hn.sublist (List.Sublist.map _ (List.filter_sublist ..))
 generalize (es.filter fun e=> !seen.contains e.born)=L at hi Ks|-
 induction L generalizing i with
 |nil=>simp at hi
 |cons y L ih=>
  obtain⟨n1,n2⟩:=List.nodup_cons.1 Ks
  cases i with
  |zero=>
   simp at hi;subst hi
   simp only[List.filter_cons,bne_self_eq_false,Bool.false_eq_true,if_false,List.eraseIdx_zero,List.tail_cons]
   refine List.filter_eq_self.2 fun x hx=> ?_
   simp only[bne_iff_ne,ne_eq]
   exact fun h=>n1 (by show y.born∈_;rw[<- h];exact List.mem_map.2 ⟨x,hx,rfl⟩)
  |succ i=>
   simp only[List.getElem?_cons_succ]at hi
   have hm:=List.mem_of_getElem? hi
   have iZ:(y.born !=e.born)=true:=by
    simp only[bne_iff_ne,ne_eq]
    exact fun h=>n1 (by show y.born∈_;rw[h];exact List.mem_map.2 ⟨e,hm,rfl⟩)
   rw[List.filter_cons,iZ,if_pos rfl,List.eraseIdx_cons_succ,ih hi n2]
theorem BI(hH:az M φ H w){x:V}{xv:Value}{ty:TypeId}(hx:V.den (ak M φ H) φ H w x xv){id:Nat}{l:List (D×D)}(h:oS H.o x=some (id,l))(hK:FO id l K):
 cN M φ H w fr ((do let v <- Instr.next xv false ty;pure (Next.value v):Sem Next).run P w) K:=by
 unfold oS at h
 split at h
 ·rename_i AV
  obtain⟨_,dT,AU⟩:=hx
  split at h
  ·rename_i l' last ho
   simp only[Option.some.injEq,Prod.mk.injEq]at h
   obtain⟨rfl,rfl⟩:=h
   obtain⟨b0,q1,rfl⟩:=AU eC
   have aV:=hH.ok AV
   simp only[aR,ho]at aV
   obtain⟨b,g1,g2⟩:=aV
   rw[q1]at g1;injection g1 with g1;injection g1 with g1;injection g1 with g1;subst g1
   rcases g2 with⟨g2,rfl,_⟩|⟨m,since,seen,es,g2,g3,g4,g5,g6,_⟩
   ·refine cN.same hH (.tuple #[.bool false]) (hK.1 rfl) ?_ ⟨_,rfl, .bool false,_,rfl,rfl,rfl⟩
    simp only[Instr.next,getObj,Sem.run_bind,Sem.run,g2,Result.andThen]
    rfl
   ·have Q0:=next_test_false seen es since since g5.1 (Nat.le_refl _)
    have pR:(es.filter fun e=> !seen.contains e.born).toList=es.toList.filter fun e=> !seen.contains e.born:=aE
    obtain⟨l1,gp,g6⟩:=g6
    rw[<- pR]at g6
    have mD:∀x∈(es.filter fun e=> !seen.contains e.born).toList,x.born<since:=fun x hx=>g5.1 x (by simp at hx|-;exact hx.1)
    have adX:b0<w.heap.size:=by
     rcases Nat.lt_or_ge b0 w.heap.size with h|h
     ·exact h
     ·simp[Array.getElem?_eq_none h]at g2
    by_cases h0:(es.filter fun e=> !seen.contains e.born).size=0
    ·have hL:(es.filter fun e=> !seen.contains e.born)=#[]:=Array.eq_empty_of_size_eq_zero h0
     rw[hL]at g6
     have rz:l1=[]:=by cases l1 with|nil=>rfl|cons p l1=>obtain⟨e,es',h,_⟩:=g6;simp at h
     have HZ:l'=[]:=by rw[rz]at gp;exact gp.symm.eq_nil
     refine cN.same hH (.tuple #[.bool false]) (hK.1 HZ) ?_ ⟨_,rfl, .bool false,_,rfl,rfl,rfl⟩
     simp only[Instr.next,getObj,Sem.run_bind,Sem.run,g2,g3,Result.andThen,Q0,Bool.false_eq_true,if_false,hL]
     simp[choose,Sem.run,Question.forced]
    ·have ff:∃ (j:Nat) (e:MapEntry) (w1:World),(es.filter fun e=> !seen.contains e.born).toList[j]? =some e/\(w1.os=w.os/\w1.tape=w.tape/\w1.output=w.output/\w1.heap=w.heap)/\
      (Instr.next (.pointer (some ⟨b0,0,none⟩)) false ty).run P w= .ok (.tuple #[.bool true,e.key,e.val]) {w1 with heap:=w.heap.setIfInBounds b0 (.mapIter (some m) since (seen.push e.born) since)}:=by
      simp only[Instr.next,getObj,Sem.run_bind,Sem.run,g2,g3,Result.andThen,Q0,Bool.false_eq_true,if_false]
      generalize es.filter (fun e=> !seen.contains e.born)=L at mD h0|-
      have e1:L.filter (fun x=>decide (x.born<since))=L:=Array.filter_eq_self.2 (fun x hx=>by simpa using mD x xr)
      have e2:L.filter (fun x=>decide (x.born≥since))=#[]:=by
       rw[Array.filter_eq_empty_iff]
       intro x hx
       have:=mD x xr
       simp
       omega
      have iZ:L.isEmpty=false:=by simp[Array.isEmpty,h0]
      simp only[e1,e2,Array.append_empty,iZ,Bool.false_eq_true,if_false,Array.empty_append,Array.size_map]
      have hch:∃ (j:Nat) (w1:World),j<L.size/\(w1.os=w.os/\w1.tape=w.tape/\w1.output=w.output/\w1.heap=w.heap)/\(choose (Question.mapNext L.size)).run P w= .ok j w1:=by
       by_cases hf:L.size<=1
       ·exact⟨0,w,af,⟨rfl,rfl,rfl,rfl⟩,by simp[choose,Sem.run,Question.forced,hf]⟩
       ·exact⟨_,w.drew,Nat.mod_lt _ af,⟨rfl,rfl,rfl,rfl⟩,by
         simp only[choose,Sem.run,Question.forced,decide_eq_true_eq,hf,if_false,Question.cut]
         rfl⟩
      obtain⟨j,w1,hj,Ku,ff⟩:=hch
      refine⟨j,L[j],w1,by simp[hj],Ku, ?_⟩
      have g2':w1.heap[b0]? =some (.mapIter (some m) since seen since):=by rw[Ku.2.2.2];exact g2
      simp only[ff,Array.getElem?_map,Array.getElem?_eq_getElem hj,Option.map_some,Sem.run_bind,setObj,Sem.run,g2',g2,Result.andThen,Ku.2.2.2]
      rfl
     obtain⟨j,e,w1,W7,Ku,ff⟩:=ff
     obtain⟨⟨k,x⟩,hp0,DB,hp3⟩:=g6.get W7
     obtain⟨j2,Q1,FZ⟩:=List.getElem_of_mem (gp.mem_iff.1 (List.mem_of_getElem? hp0))
     have FZ:l'[j2]? =some (k,x):=by rw[List.getElem?_eq_getElem Q1,FZ]
     have gpe:(l1.eraseIdx j).Perm (l'.eraseIdx j2):=by
      have Q2:∀ {L:List (D×D)} {i:Nat} {n:D×D},L[i]? =some n->L.Perm (n::L.eraseIdx i):=by
       intro L i n h
       obtain⟨hi,e⟩:=List.getElem?_eq_some_iff.1 h
       have QV:L=L.take i++n::L.drop (i+1):=by rw[<- e,List.getElem_cons_drop,List.take_append_drop]
       rw[List.eraseIdx_eq_take_drop_succ]
       conv=>lhs;rw[QV]
       exact List.perm_middle
      exact List.Perm.cons_inv (((Q2 hp0).symm.trans gp).trans (Q2 FZ))
     have FW:e∈es.toList:=by
      have:=List.mem_of_getElem? W7
      rw[pR]at this
      exact(List.mem_filter.1 this).1
     obtain⟨n1,n2⟩:=FY (w1:=w1) (y:= .mapIter (some m) since (seen.push e.born) since) (obj':= .rq (l'.eraseIdx j2) (some (k,x))) hH dT ho rfl rfl rfl rfl rfl q1 g2 Ku (fun ht=>by
      unfold aR
      simp only[bG,aL,if_true]
      obtain⟨k1,k2⟩:=ht.blocks (M:=M) m (.inr ⟨es,since,g3⟩) g4
      refine⟨b0,q1, .inr ⟨m,since,seen.push e.born,es, ?_,k1.trans g3,k2,g5, ?_,fun k' x' Nc=> ?_⟩⟩
      ·show(w.heap.setIfInBounds b0 _)[b0]? =_
       rw[Array.getElem?_setIfInBounds,if_pos rfl,if_pos adX]
      ·rw[pR]at W7 g6
       rw[BH g5.2 seen W7]
       exact⟨_,gpe,aI.mono (ht.blocks (M:=M)) _ _ g6.erase⟩
      ·injection Nc with Nc;injection Nc with h1 h2;subst h1;subst h2
       exact⟨e,FW,aE,D.aS (ht.blocks (M:=M)) _ _ DB,D.aS (ht.blocks (M:=M)) _ _ hp3⟩)
     refine⟨.value (.tuple #[.bool true,e.key,e.val]),_,_,φ,_,_,_,hK.2 j2 k x FZ, ?_, .inl rfl,n1,n2,⟨_,rfl, .bool true,_,rfl,rfl,e.key,_,rfl,D.aS (n2.blocks (M:=M)) _ _ DB,e.val,_,rfl,D.aS (n2.blocks (M:=M)) _ _ hp3,rfl⟩,fun j hj=> .inl J0⟩
     simp only[Sem.run_bind,ff,Result.andThen_ok,Sem.run_pure]
  ·cases h
 ·cases h
theorem H4(hH:az M φ H w){x:V}{xv:Value}(hx:V.den (ak M φ H) φ H w x xv)(h:db (mT H.o x) K):
 cN M φ H w fr ((do let v <- Instr.entry xv;pure (Next.value v):Sem Next).run P w) K:=by
 have hg:=du h
 clear h
 obtain⟨v,Δ,rd,h,hK⟩:=hg
 unfold mT at h
 split at h
 ·rename_i id
  obtain⟨_,dT,AU⟩:=hx
  split at h
  ·rename_i l k x ho
   injection h with h;injection h with e1 e2;injection e2 with e2 e3;subst e1;subst e2;subst e3
   obtain⟨b0,q1,rfl⟩:=AU eC
   have aV:=hH.ok id
   simp only[aR,ho]at aV
   obtain⟨b,g1,g2⟩:=aV
   rw[q1]at g1;injection g1 with g1;injection g1 with g1;injection g1 with g1;subst g1
   rcases g2 with⟨_,_,g2⟩|⟨m,since,seen,es,g2,g3,g4,g5,g6,g7⟩
   ·cases g2
   ·obtain⟨e,h1,h2,h3,h4⟩:=g7 k x rfl
    have hf:es.find? (·.born==e.born)=some e:=by rw[<- Array.find?_toList];exact find_born e es.toList g5.2 h1
    refine cN.same hH (.tuple #[e.key,e.val]) hK ?_ ⟨_,rfl,e.key,_,rfl,h3,e.val,_,rfl,h4,rfl⟩
    simp only[Instr.entry,getObj,Sem.run_bind,Sem.run,g2,g3,Result.andThen,h2,bne_self_eq_false,Bool.false_eq_true,if_false,hf]
    rfl
  ·cases h
 ·cases h
theorem oV(hH:az M φ H w){t:TypeId}{m k v:V}{mv kv vv:Value}(hm:V.den (ak M φ H) φ H w m mv)(hk:V.den (ak M φ H) φ H w k kv)(hv:V.den (ak M φ H) φ H w v vv)
 (h:db (fN P H.o t m k v) K):cN M φ H w fr ((do Instr.mapUpdate t mv kv vv;pure Next.skip:Sem Next).run P w) K:=by
 have hg:=du h
 clear h
 obtain⟨v',Δ,rd,h,hK⟩:=hg
 unfold fN at h
 split at h
 ·rename_i kt vt kd vd id FM FN l ht Z1 hvd HN
  rcases uO HN with⟨id2,kt2,vt2,rfl,ho,hr⟩|⟨rfl,hr,rfl⟩
  case inr=>cases hr
  injection hr with hr;injection hr with e1 e2;injection e2 with e2 e3;subst e1;subst e2;subst e3
  split at h
  ·rename_i hc
   obtain⟨c1,c2,c3,c4⟩:=hc
   have kj:D.den (ak M φ H) w kd kv:=eH hH k kd kv (fun id ax=>by rw[c1]at ax;cases ax) Z1 hk
   have Nb:∀em,(Instr.checkKey em 10000 kt kv).run P w= .ok () w:=fun em=>qm em 100 kt kd c2 10000 bu kv kj
   have Jn:=rS ht
   ·obtain⟨Jm,dT,AU⟩:=hm
    have eM:=AU eC
    have aV:=hH.ok id
    simp only[aR,ho]at aV
    obtain⟨b,es,clock,g1,g2,g0,g3⟩:=aV
    rw[<- eM]at g1;subst g1
    have mK:=MapKept.run_getObj_map (P:=P) g2
    have lJ:id∉v.ids:=fun hm=>by have:=List.all_eq_true.1 c4 id hm;simp at this
    obtain⟨f1,f2,f3,f4,f5⟩:=cW hH v.ids (cO v _ hv)
    have wH:=(f4 id lJ).trans ho
    have Q3:=eH f1 v vd vv f3 hvd (V.aS f2 _ _ hv)
    have Kv:=D.aS (f2.blocks (M:=M)) kd kv kj
    have g3':=aI.mono (f2.blocks (M:=M)) l _ g3
    have NW:(bw H.o v.ids).map (·.1)=v.ids:=by rw[lU];simp[Function.comp_def]
    have turn:∀ (l':List (D×D)) (es':Array MapEntry) (clock':Nat),iC es' clock'->aI (ak M φ (H.put (bw H.o v.ids))) w l' es'.toList->K (.bP []) (bw H.o v.ids++[(id, .map FM FN l')]) (id::v.ids)->
     (Instr.mapUpdate t (.map (some b)) kv vv).run P w= .ok () {w with heap:=w.heap.setIfInBounds b (.map es' clock')}->
     cN M φ H w fr ((do Instr.mapUpdate t (.map (some b)) kv vv;pure Next.skip:Sem Next).run P w) K:=by
     intro l' es' clock' hl0 hl hK hr
     have Kr:ei (· =b) w {w with heap:=w.heap.setIfInBounds b (.map es' clock')}:=
      ⟨rfl,rfl,rfl,aE,fun j _ hj=>(MapKept.heap_set g2).2 j hj⟩
     have rz:((H.put (bw H.o v.ids)).o id).live=true:=by rw[wH];rfl
     have Jo:eg (φ id)=some b:=by rw[<- eM];rfl
     have DA:=eS (w:=w) (w':={w with heap:=w.heap.setIfInBounds b (.map es' clock')}) ((f5 id).2 dT) rz Jo Kr (.map FM FN l') sK sK
     refine⟨.skip,undef,_,φ,_,_,_,hK,by simp only[Sem.run_bind,hr,Result.andThen_ok];rfl, .inr ⟨rfl,rfl⟩, ?_, ?_, ?_,fun j hj=> .inl ?_⟩
     ·rw[dW]
      refine gZ f1 ((f5 id).2 dT) rz Jo Kr _ sK sK ?_
      unfold aR
      simp only[bG,aL,if_true]
      exact⟨b,es',clock',eM.symm,(MapKept.heap_set g2).1,hl0,aI.mono (DA.blocks (M:=M)) l' _ hl⟩
     ·rw[dW];exact f2.trans DA
     ·exact⟨#[],rfl,rfl⟩
     ·rw[List.map_append,NW]at hj
      simp only[List.map_cons,List.map_nil,List.mem_append,List.mem_singleton]at hj
      rcases hj with hj|rfl
      ·exact cO v _ hv j hj
      ·exact dT
    split at h
    ·rename_i i k' x hf
     split at h
     ·rename_i xP
      injection h with h;injection h with e1 e2;injection e2 with e2 e3;subst e1;subst e2;subst e3
      have hke:=D.dY _ _ xP
      subst hke
      obtain⟨r',q1,q2⟩:=fX kj c2 g3 hf
      cases r' with
      |none=>exact q2.elim
      |some p=>
       obtain⟨j',u⟩:=p
       obtain⟨rfl,_,Kp,e,h4,h5,h6⟩:=q2
       rw[Nat.sub_zero]at h4
       have hkv:=D2 c3 h6 kj
       have H5:es[i]? =some e:=by simpa using h4
       refine turn _ (es.modify i fun e=>{e with key:=kv,val:=vv}) clock (zi g0 h4 rfl) ?_ hK ?_
       ·rw[iF _ h4]
        exact aI.set g3' Kv Q3
       ·have hs:=HU (P:=P) (w':=w) c3 kj
        simp only[Instr.mapUpdate,Sem.run_bind,run_underlying Jn,Result.andThen_ok,mK,Nb,q1,H5,Option.map_some,Option.getD_some,hkv,hs]
        exact MapKept.run_setObj_map _ g2
     ·cases h
    ·rename_i hf
     injection h with h;injection h with e1 e2;injection e2 with e2 e3;subst e1;subst e2;subst e3
     obtain⟨r',q1,q2⟩:=fX kj c2 g3 hf
     cases r' with
     |some p=>exact q2.elim
     |none=>
      refine turn _ (es.push {key:=kv,val:=vv,born:=clock}) (clock+1) (D6 g0 rfl) ?_ hK ?_
      ·rw[Array.toList_push]
       exact aI.push g3' Kv Q3
      ·simp only[Instr.mapUpdate,Sem.run_bind,run_underlying Jn,Result.andThen_ok,mK,Nb,q1]
       exact MapKept.run_setObj_map _ g2
    ·cases h
  ·cases h
 ·cases h
end
end
section
section
variable {P:Program}(w:World)(d:Nat){t:TypeId}
theorem Z4{ms}(ht:P.underlying t=some (.interface ms)):(Op.equalIn (d+1) t .nilIface .nilIface).run P w= .ok true w:=yS
theorem YG{ms}(ht:P.underlying t=some (.interface ms))(u:TypeId)(v:Value):(Op.equalIn (d+1) t (.iface u v) .nilIface).run P w= .ok false w:=yS
theorem YH{ms}(ht:P.underlying t=some (.interface ms))(u:TypeId)(v:Value):(Op.equalIn (d+1) t .nilIface (.iface u v)).run P w= .ok false w:=yS
theorem Z5{ms}(ht:P.underlying t=some (.interface ms)){a b:TypeId}{x y:D}{B:Nat->Prop}{w2:World}{u v:Value}{r:Bool}(h:eqI P a b x y=some r)(hx:D.den B w2 x u)(hy:D.den B w2 y v):(Op.equalIn (d+2) t (.iface a u) (.iface b v)).run P w= .ok r w:=by
 unfold eqI at h
 by_cases e:a=b
 ·subst e
  rw[if_pos rfl]at h
  split at h
  ·rename_i i k hi hk
   split at h
   ·rename_i hc
    split at h
    ·split at h
     ·rename_i hkk
      injection h with h;subst h
      simp only[D.den]at hx hy
      subst hx;subst hy;subst hkk
      simp[Op.equalIn,run_underlying ht,run_underlying hk,typeInfo,hi,hc]
     ·cases h
    ·cases h
   ·cases h
  ·cases h
 ·rw[if_neg e]at h
  injection h with h;subst h
  simp[Op.equalIn,run_underlying ht,e]
theorem Z6{a b c}(ht:P.underlying t=some (.func a b c)):(Op.equalIn (d+1) t .nilFunc .nilFunc).run P w= .ok true w:=yS
theorem Z7{a b c}(ht:P.underlying t=some (.func a b c))(f x y):(Op.equalIn (d+1) t (.func f x y) .nilFunc).run P w= .ok false w:=yS
theorem Z8{a b}(ht:P.underlying t=some (.map a b)):(Op.equalIn (d+1) t (.map none) (.map none)).run P w= .ok true w:=yS
theorem YC{a b}(ht:P.underlying t=some (.map a b))(x):(Op.equalIn (d+1) t (.map (some x)) (.map none)).run P w= .ok false w:=yS
theorem Z9{e}(ht:P.underlying t=some (.pointer e)):(Op.equalIn (d+1) t (.pointer none) (.pointer none)).run P w= .ok true w:=yS
theorem YJ{e}(ht:P.underlying t=some (.pointer e))(a):(Op.equalIn (d+1) t (.pointer (some a)) (.pointer none)).run P w= .ok false w:=yS
theorem aaa{e}(ht:P.underlying t=some (.slice e))(b n c):(Op.equalIn (d+1) t (.slice b n c) (.slice none 0 0)).run P w= .ok b.isNone w:=by cases b<;>simp[Op.equalIn,run_underlying ht]
end
section
variable {P:Program}{M:Nat->Prop}{φ:Place}{H:Hp}{w w':World}{fr:Nat}{K:V->List (Nat×ad)->List Nat->Prop}{B:Nat->Prop}
theorem D8(hH:az M φ H w){x:V}{xv:Value}{es:List D}(h:eR H.o x=some es)(hx:V.den (ak M φ H) φ H w x xv):∃base n c,xv= .slice base n c/\(es≠[]->base≠none):=by
 have hd:∃x',dN H.o x=some x'/\x'= .sl es:=by
  unfold eR at h
  split at h
  ·rename_i es' hd;injection h with h;subst h;exact⟨_,hd,rfl⟩
  ·cases h
 obtain⟨x',hd,rfl⟩:=hd
 obtain⟨f1,f2,f3,f4,f5⟩:=cW hH x.ids (cO x _ hx)
 have:=eH f1 x (.sl es) xv f3 hd (V.aS f2 _ _ hx)
 obtain⟨base,len,cap,rfl,h1,h2,h3,_⟩:=this
 refine⟨base,len,cap,rfl,fun iZ hb=> ?_⟩
 have:=h3 hb
 have:es.length=0:=af
 exact iZ (List.length_eq_zero_iff.1 this)
def Qg:Value->Bool
 | .int _ _| .float _ _| .complex _ _ _| .string _=>false
 |_=>true
theorem F0(hH:az M φ H w){t:TypeId}{p q:Operand}{x y v:V}{xv yv:Value}(hx:V.den (ak M φ H) φ H w x xv)(hy:V.den (ak M φ H) φ H w y yv)(h:rF P H.o t (isConst p||isConst q) x y=some v):
 ∃r:Bool,(v= .d (.bool r)\/v= .fw)/\Qg xv=true/\(∀op,(eqGuard op t p q xv yv).run P w= .ok () w)/\(Op.equal t xv yv).run P w= .ok r w:=by
 have jt:(∀a b, ¬ (xv= .agg a/\yv= .agg b))-> ¬ (xv= .nilIface/\yv= .nilIface)->∀op,(eqGuard op t p q xv yv).run P w= .ok () w:=by
  intro h1 h2 op
  unfold eqGuard
  cases op<;>cases xv<;>cases yv<;>first
   |(simp;done)
   |(exact absurd ⟨rfl,rfl⟩ (h1 _ _))
   |(exact absurd ⟨rfl,rfl⟩ h2)
 unfold rF at h
 cases ht:P.underlying t with
 |none=>simp[ht]at h
 |some td=>
  simp only[ht]at h
  have eq:∀r,(∀d,(Op.equalIn (d+1) t xv yv).run P w= .ok r w)->(Op.equal t xv yv).run P w= .ok r w:=fun r h=>h 9999
  cases td<;>simp only[reduceCtorEq]at h
  case interface ms=>
   split at h
   ·split at h
    ·rename_i hc
     injection h with h;subst h
     simp only[V.den,D.den]at hx hy;subst hx;subst hy
     refine⟨true, .inl rfl,rfl,fun op=> ?_,eq _ (fun d=>by rw[Z4 w d ht])⟩
     simp only[Bool.or_eq_true]at hc
     unfold eqGuard
     rcases hc with hc|hc
     ·cases p<;>simp only[isConst,Bool.false_eq_true]at hc
      cases op<;>simp
     ·cases q<;>simp only[isConst,Bool.false_eq_true]at hc
      cases op<;>simp
    ·cases h
   ·exact ZI
   ·exact ZI
   ·exact ZH
   ·exact ZH
   ·rename_i a x b y
    simp only[Option.map_eq_some_iff]at h
    obtain⟨r,h1,rfl⟩:=h
    obtain⟨u,rfl,g1⟩:=hx
    obtain⟨u2,rfl,g2⟩:=hy
    exact⟨r, .inl rfl,rfl,jt (fun _ _ h=>by cases h.1) DJ,Z5 w 9998 ht h1 g1 g2⟩
   ·cases h
  case func a b c=>
   split at h
   ·injection h with h;subst h
    simp only[V.den,D.den]at hx hy;subst hx;subst hy
    exact⟨true, .inl rfl,rfl,jt (fun _ _ h=>by cases h.1) DJ,eq _ (fun d=>by rw[Z6 w d ht])⟩
   ·injection h with h;subst h
    obtain⟨f,c',rfl,_⟩:=hx
    simp only[V.den,D.den]at hy;subst hy
    exact⟨false, .inl rfl,rfl,jt (fun _ _ h=>by cases h.1) DJ,eq _ (fun d=>by rw[Z7 w d ht])⟩
   ·cases h
  case map a b=>
   split at h
   ·simp only[V.den,D.den]at hy;subst hy
    unfold rL at h
    split at h
    ·injection h with h;subst h
     simp only[V.den,D.den]at hx;subst hx
     exact⟨true, .inl rfl,rfl,jt (fun _ _ h=>by cases h.1) DJ,eq _ (fun d=>by rw[Z8 w d ht])⟩
    ·injection h with h;subst h
     obtain⟨bk,es,clock,_,rfl,_⟩:=hx
     exact YB
    ·rename_i id
     split at h
     ·rename_i ho
      injection h with h;subst h
      obtain⟨_,_,h3⟩:=hx
      have eM:=h3 eC
      have aV:=hH.ok id
      exact ZL
     ·rename_i ho
      injection h with h;subst h
      obtain⟨_,_,h3⟩:=hx
      have eM:=h3 eC
      have aV:=hH.ok id
      exact ZL
     ·cases h
    ·cases h
   ·cases h
  case pointer e=>
   split at h
   ·simp only[V.den,D.den]at hy;subst hy
    unfold rM at h
    split at h
    ·injection h with h;subst h
     simp only[V.den,D.den]at hx;subst hx
     exact⟨true, .inl rfl,rfl,jt (fun _ _ h=>by cases h.1) DJ,eq _ (fun d=>by rw[Z9 w d ht])⟩
    ·split at h
     ·rename_i hr
      injection h with h;subst h
      obtain⟨_,_,h3⟩:=hx
      obtain⟨bk,_,rfl⟩:=h3 hr
      exact YI
     ·cases h
    ·injection h with h;subst h
     obtain⟨a,ev,_,rfl,_⟩:=hx
     exact YI
    ·cases h
   ·cases h
  case slice e=>
   split at h
   ·simp only[V.den]at hy;subst hy
    unfold Bm at h
    split at h
    ·injection h with h;subst h
     simp only[V.den]at hx;subst hx
     exact⟨true, .inl rfl,rfl,jt (fun _ _ h=>by cases h.1) DJ,eq _ (fun d=>by rw[aaa w d ht];rfl)⟩
    ·split at h
     ·rename_i es hl
      obtain⟨base,n,c,rfl,hb⟩:=D8 hH hl hx
      refine⟨base.isNone, ?_,rfl,jt (fun _ _ h=>by cases h.1) DJ,eq _ ?_⟩
      ·split at h
       ·injection h with h;exact .inr h.symm
       ·rename_i iZ
        injection h with h
        have:=hb iZ
        cases base with
        |none=>exact absurd rfl this
        |some a=>exact .inl h.symm
      ·intro d
       rw[aaa w d ht]
     ·cases h
   ·cases h
  case struct fs=>
   split at h
   ·split at h
    ·rename_i hg
     exact Zu
    ·cases h
   ·cases h
  case array n e=>
   split at h
   ·split at h
    ·rename_i hg
     exact Zu
    ·cases h
   ·cases h
theorem NZ(hH:az M φ H w){op:BinOp}{t:TypeId}{p q:Operand}{x y:V}{xv yv:Value}(hx:V.den (ak M φ H) φ H w x xv)(hy:V.den (ak M φ H) φ H w y yv)
 (h:db (rN P H.o op t (isConst p||isConst q) x y) K):
 cN M φ H w fr ((do let y <- (do eqGuard op t p q xv yv;binOp op t xv yv);pure (Next.value y):Sem Next).run P w) K:=by
 have hg:=du h
 clear h
 obtain⟨v,Δ,rd,h,hK⟩:=hg
 unfold rN at h
 split at h
 ·simp only[Option.map_eq_some_iff]at h
  obtain⟨u,h1,h2⟩:=h
  injection h2 with e1 e2;injection e2 with e2 e3;subst e1;subst e2;subst e3
  obtain⟨r,hv,hwd,hgd,he⟩:=F0 (p:=p) (q:=q) hH hx hy h1
  refine cN.plain hH (.bool r) hK ?_ ?_
  ·have hb:(binOp .eql t xv yv).run P w= .ok (.bool r) w:=by
    unfold binOp
    exact Qf
   simp[hgd,hb]
  ·rcases hv with rfl|rfl
   ·rfl
   ·exact⟨r,rfl⟩
 ·simp only[Option.map_eq_some_iff,Option.bind_eq_some_iff]at h
  obtain⟨u',⟨u,h1,h3⟩,h2⟩:=h
  injection h2 with e1 e2;injection e2 with e2 e3;subst e1;subst e2;subst e3
  obtain⟨r,hv,hwd,hgd,he⟩:=F0 (p:=p) (q:=q) hH hx hy h1
  refine cN.plain hH (.bool !r) hK ?_ ?_
  ·have hb:(binOp .neq t xv yv).run P w= .ok (.bool !r) w:=by
    unfold binOp
    exact Qf
   simp[hgd,hb]
  ·rcases hv with rfl|rfl
   ·simp only[NI,Option.some.injEq]at h3;subst h3;rfl
   ·simp only[NI,Option.some.injEq]at h3;subst h3;exact⟨!r,rfl⟩
 ·cases h
end
end
section
section
variable {P:Program}{M:Nat->Prop}{φ:Place}{H:Hp}{w w':World}{fr:Nat}{K:V->List (Nat×ad)->List Nat->Prop}
theorem zk(hH:az M φ H w){o:Oper}{a:Act}{q:Operand}(ho:o.op= .nilCheck q){x:V}(hx:V.den (ak M φ H) φ H w x (a.eval q))
 (h:kW H.o x fun v=>K v [] []):cN M φ H w fr ((execOp a.eval o).run P w) K:=by
 unfold kW at h
 have AW:=hx
 split at h
 ·rename_i id off
  obtain⟨h1,hK⟩:=h
  obtain⟨_,hu,hp⟩:=AW
  obtain⟨b,eM,hv⟩:=hp h1
  exact cN.same hH _ hK (by simp[execOp,ho,hv]) (hv ▸ hx)
 ·rename_i cs off
  obtain⟨b,ev,_,hv,_⟩:=AW
  exact cN.same hH _ h (by simp[execOp,ho,hv]) (hv ▸ hx)
 ·rename_i f first cap
  obtain⟨b,c,hv,_⟩:=AW
  exact cN.same hH _ h (by simp[execOp,ho,hv]) (hv ▸ hx)
 ·exact h.elim
theorem H6{t:TypeId}{k:IntKind}(h:o9 P t=some k):P.underlying t=some (.int k):=by
 unfold o9 at h
 cases hd:P.underlying t with
 |none=>simp[hd]at h
 |some d=>cases d<;>simp_all
theorem qn(s:S)(a:Act)(ej:∀i,V.den (ak M φ H) φ H w (s.env i) (a.tmps.getD i undef))(xs:Array Operand):
 V.aC (ak M φ H) φ H w (xs.toList.map s.ev) (xs.map a.eval).toList:=by
 simpa using j9 s a ej xs.toList
theorem xQ(hH:az M φ H w){s:S}(pT:s.o=H.o){a:Act}(ej:∀i,V.den (ak M φ H) φ H w (s.env i) (a.tmps.getD i undef))(cY: ¬H.us fr){o:Oper}{op:Op}(fV:o.op=op)(h:QS P s fr op K):
 cN M φ H w fr ((execOp a.eval o).run P w) K:=by
 have dk:=mU (M:=M) (φ:=φ) (H:=H) (w:=w) s a ej
 cases op<;>simp only[QS]at h<;>try (exact h.elim)
 case move x=>exact cN.same hH _ h (by simp[execOp,fV]) (dk x)
 case assign x=>exact cN.same hH _ h (by simp[execOp,fV]) (dk x)
 case pick c x y=>
  have:=Ke (P:=P) (fr:=fr) hH (dk c) (dk x) (dk y) h
  exact iQ
 case alloc t=>
  have:=HI (P:=P) (fr:=fr) hH cY h
  exact iQ
 case box t x=>
  have:=NQ (P:=P) (fr:=fr) (t:=t) hH cY (dk x) h
  exact iQ
 case build t parts=>
  have:=HK (P:=P) (fr:=fr) hH ej h
  exact iQ
 case buildSlice t len parts=>
  rw[pT]at h
  have:=uK (P:=P) (fr:=fr) hH cY ej h
  exact iQ
 case load t x=>
  rw[pT]at h
  have:=Kd (P:=P) (fr:=fr) hH (dk x) h
  exact iQ
 case store t x y=>
  rw[pT]at h
  have:=HM (P:=P) (fr:=fr) hH (dk x) (dk y) h
  exact iQ
 case nilCheck x=>
  rw[pT]at h
  exact zk hH fV (dk x) h
 case binOp op t x y yt=>
  rw[pT]at h
  rcases h with h|h
  ·have:=NO (P:=P) (fr:=fr) (p:=x) (q:=y) hH (dk x) (dk y) h
   exact iQ
  ·have:=NZ (P:=P) (fr:=fr) (p:=x) (q:=y) hH (dk x) (dk y) h
   exact iQ
 case unOp op t x=>
  rcases h with h|⟨rfl,hx,hK⟩
  ·have:=TU (P:=P) (fr:=fr) hH (dk x) h
   exact iQ
  ·have hv:=dk x
   rw[hx]at hv
   obtain⟨b,hb⟩:=hv
   exact cN.same hH (.bool !b) hK (by simp[execOp,fV,hb,Op.unary]) ⟨_,rfl⟩
 case convert t u x=>
  obtain⟨adY,h⟩:=h
  split at h
  ·rename_i k k' n hk hx
   have hv:=dk x
   rw[hx]at hv
   simp only[V.den,D.den]at hv
   have hu:=H6 hk
   obtain⟨d,hd⟩:=Option.isSome_iff_exists.1 adY
   refine cN.same hH (.int k (k.wrap n)) h ?_ rfl
   cases d<;>simp[execOp,fV,hv,convert,run_underlying hd,run_underlying hu,Conv.intToInt]
  ·exact h.elim
 case makeInterface t x=>
  obtain⟨⟨d,hd,lJ⟩,h⟩:=h
  have hr:∀v,(Instr.makeInterface t v).run P w= .ok (.iface t v) w:=by
   intro v
   cases d<;>first|(simp at lJ;done)|simp[Instr.makeInterface,run_underlying hd]
  have hv:=dk x
  split at h
  ·rename_i y hy
   rw[hy]at hv
   exact Qq
  ·exact Qq
 case makeFunc fn first cap=>
  exact cN.same hH _ h (by simp[execOp,fV,Instr.makeFunc]) ⟨_,_,rfl,qn s a ej first,qn s a ej cap⟩
 case makeSlice t l c=>
  have:=wU (P:=P) (fr:=fr) hH cY (dk l) (dk c) h
  exact iQ
 case fieldAddr t x f=>
  rw[pT]at h
  have:=wR (P:=P) (fr:=fr) hH (dk x) h
  exact iQ
 case indexAddr t x i=>
  rw[pT]at h
  have:=wT (P:=P) (fr:=fr) hH (dk x) (dk i) h
  exact iQ
 case extract x i=>
  split at h
  ·rename_i vs hx
   obtain⟨v,hv,hK⟩:=h
   have hd:=dk x
   rw[hx]at hd
   obtain⟨c,hc,hd⟩:=hd
   obtain⟨u,hu,NN⟩:=V.dp _ _ _ _ hd hv
   refine cN.same hH u hK ?_ NN
   have A9:c[i]? =some u:=by simpa using hu
   simp[execOp,fV,hc,Instr.extract,A9]
  ·exact h.elim
 case call c=>
  obtain⟨Kw,args,ts⟩:=c
  cases Kw<;>simp only at h<;>try (exact h.elim)
  rename_i b
  unfold uF at h
  split at h
  ·rename_i x dz
   obtain⟨t,wV,h⟩:=h
   rw[pT]at h
   have e1:args=#[x]:=by apply Array.ext';simpa using dz
   have e2:ts=#[t]:=by apply Array.ext';simpa using wV
   subst e1;subst e2
   have:=NP (P:=P) (fr:=fr) (ty:=o.type) hH (dk x) h
   exact Nz
  ·rename_i x y dz
   have e1:args=#[x,y]:=by apply Array.ext';simpa using dz
   subst e1
   rw[pT]at h
   have:=h.elim (fun h=>Ki (P:=P) (fr:=fr) (ty0:=o.type) hH cY (dk x) (dk y) h) (fun h=>DX (P:=P) (fr:=fr) (ty0:=o.type) hH cY (dk x) (dk y) h)
   exact Nz
  ·rename_i x y dz
   have e1:args=#[x,y]:=by apply Array.ext';simpa using dz
   subst e1
   unfold nW at h
   split at h
   ·rename_i k u k' v heq
    simp only[List.cons.injEq,and_true]at heq
    obtain⟨rfl,hK⟩:=h
    have h1:=dk x
    have h2:=dk y
    rw[heq.1]at h1;rw[heq.2]at h2
    simp only[V.den,D.den]at h1 h2
    exact cN.same hH _ hK (by simp[execOp,fV,resolve,invoke,builtin,h1,h2,run_max_int2]) rfl
   ·exact h.elim
  ·rename_i x y dz
   have e1:args=#[x,y]:=by apply Array.ext';simpa using dz
   subst e1
   unfold nW at h
   split at h
   ·rename_i k u k' v heq
    simp only[List.cons.injEq,and_true]at heq
    obtain⟨rfl,hK⟩:=h
    have h1:=dk x
    have h2:=dk y
    rw[heq.1]at h1;rw[heq.2]at h2
    simp only[V.den,D.den]at h1 h2
    exact cN.same hH _ hK (by simp[execOp,fV,resolve,invoke,builtin,h1,h2,run_min_int2]) rfl
   ·exact h.elim
  ·rename_i x y z dz
   have e1:args=#[x,y,z]:=by apply Array.ext';simpa using dz
   subst e1
   have hg:=du h
   clear h
   obtain⟨v,Δ,rd,h,hK⟩:=hg
   simp only[Option.map_eq_some_iff,Prod.mk.injEq]at h
   obtain⟨v',h,rfl,rfl,rfl⟩:=h
   unfold Ka at h
   split at h
   ·rename_i k u k' v k'' t q1 q2 q3
    split at h
    ·rename_i hk
     obtain⟨rfl,rfl⟩:=hk
     injection h with h;subst h
     have h1:=dk x
     have h2:=dk y
     have h3:=dk z
     rw[q1]at h1;rw[q2]at h2;rw[q3]at h3
     simp only[V.den,D.den]at h1 h2 h3
     exact cN.same hH _ hK (by simp[execOp,fV,resolve,invoke,builtin,h1,h2,h3,Builtin.max_,Builtin.max2]) rfl
    ·cases h
   ·cases h
  ·rename_i x y dz
   have e1:args=#[x,y]:=by apply Array.ext';simpa using dz
   subst e1
   rw[pT]at h
   have:=Kn (P:=P) (fr:=fr) (ty0:=o.type) hH (dk x) (dk y) h
   exact Nz
  ·rename_i x y dz
   have e1:args=#[x,y]:=by apply Array.ext';simpa using dz
   subst e1
   obtain⟨t,ht,h⟩:=h
   rw[pT]at h
   have:=D7 (P:=P) (fr:=fr) (ty0:=o.type) hH ht (dk x) (dk y) h
   exact Nz
  ·rename_i x dz
   have e1:args=#[x]:=by apply Array.ext';simpa using dz
   subst e1
   unfold NJ at h
   split at h
   ·rename_i t wV
    have e2:ts=#[t]:=by apply Array.ext';simpa using wV
    subst e2
    split at h
    ·rename_i e ht
     split at h
     ·rename_i hxx
      have hd:=dk x
      rw[hxx]at hd
      simp only[V.den]at hd
      exact cN.same hH (.int .i64 0) h (by simp[execOp,fV,resolve,invoke,builtin,hd,Builtin.cap_,run_underlying (bf ht),goInt]) rfl
     ·exact h.elim
    ·exact h.elim
   ·exact h.elim
  ·exact h.elim
 case slice t x lo hi mx=>
  rw[pT]at h
  have:=HP (P:=P) (fr:=fr) (lov:=lo.map a.eval) (hiv:=hi.map a.eval) (mxv:=mx.map a.eval) hH (dk x) (by cases lo<;>simp[dk]) (by cases hi<;>simp[dk]) (by cases mx<;>simp[dk]) h
  exact iQ
 case field t x f=>
  have:=HQ (P:=P) (fr:=fr) hH (dk x) h
  exact iQ
 case index t x i=>
  have:=HT (P:=P) (fr:=fr) hH (dk x) (dk i) h
  exact iQ
 case insert t m k v=>
  rw[pT]at h
  have:=oV (P:=P) (fr:=fr) hH (dk m) (dk k) (dk v) h
  exact iQ
 case typeAssert x xt t ok=>
  have:=D1 (P:=P) (fr:=fr) (xt:=xt) hH (dk x) h
  exact iQ
 case makeMap t r=>
  cases r with
  |some x=>exact h.elim
  |none=>
   have:=BD (P:=P) (fr:=fr) hH cY h
   exact iQ
 case lookup t m k ok=>
  rw[pT]at h
  have:=D5 (P:=P) (fr:=fr) hH (dk m) (dk k) h
  exact iQ
 case mapUpdate t m k v=>
  rw[pT]at h
  have:=oV (P:=P) (fr:=fr) hH (dk m) (dk k) (dk v) h
  exact iQ
 case range t x=>
  rw[pT]at h
  have:=HX (P:=P) (fr:=fr) hH cY (dk x) h
  exact iQ
 case next x str=>
  rw[pT]at h
  rcases h with h|⟨rfl,id,l,h1,h2⟩
  ·have:=BG (P:=P) (fr:=fr) (ty:=o.type) hH (dk x) h
   exact iQ
  ·have:=BI (P:=P) (fr:=fr) (ty:=o.type) hH (dk x) h1 h2
   exact iQ
 case entry x=>
  rw[pT]at h
  have:=H4 (P:=P) (fr:=fr) hH (dk x) h
  exact iQ
end
end
end Go.Proofs.YtlhemmpklhhgoaaGreat
