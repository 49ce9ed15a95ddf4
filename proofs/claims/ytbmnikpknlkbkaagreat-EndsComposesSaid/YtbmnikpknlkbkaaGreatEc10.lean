/-
  A PART OF THE PROOF. Conditions: none.
-/
import Derived.Test.YtbmnikpknlkbkaaGreatEc9
set_option linter.unusedSimpArgs false
set_option linter.unusedVariables false
namespace Go.Proofs.YtbmnikpknlkbkaaGreat
theorem tO.C0 {P:Program}{g:FuncId}{ds:List D}{o:Nat->aa}{fr:Nat}{ty:TypeId}{sz:Nat}{es:List D}
 (h:jx P g (ds.map .d) (fun _=> .no) 0 (fun v o1 _=>(∃j ep,v= .osl j ep/\o1 j= .arr ep ty sz es)\/(v= .aI/\es=[]/\0<sz)) (fun _ _ _=>False)):
 tO P g (ds.map .d) [] o fr (.osl fr 0) [(fr, .arr 0 ty sz es)]:=by
 refine⟨h.1,fun o' us M φ w vals _ de hH hd=> ?_⟩
 let bN:Place:=fun _=> .nilFunc
 have ql:∀b, ¬bp bN (hp (fun _=> .no) 0) b:=by rintro b ⟨id,hl,_⟩;simp[hp,aa.live]at hl
 have hM:∀b,ad M φ ⟨o',us⟩ b->b<w.heap.size:=fun b hb=>hb.elim (hH.oE b) fun hl=>(hH.ours b hl).2
 have o4:=(V.bE _ _).1 hd
 refine(h.2 (ad M φ ⟨o',us⟩) bN w vals (jz bN hM) ((V.bE _ _).2 (D.aw (w:=w) (w':=w) (B:=ad M φ ⟨o',us⟩) (fun b _ hB=>⟨rfl,fun h=>h.elim hB (ql b)⟩) _ _ o4))).mono ?_
 rintro e w' ⟨eX,o1,n1,v,k1,k2,k3⟩
 have hk:dh (fun _=>False) w w':=⟨k2.bD.os,k2.bD.tape,k2.bD.output,k2.bD.size,fun k hk _=>k2.bD.block k hk (ql k)⟩
 have zk:(⟨o',us⟩:Hp).put [(fr, .arr 0 ty sz es)]=⟨put o' [(fr, .arr 0 ty sz es)],fun id=>us id\/id=fr⟩:=by
  simp only[Hp.put]
  congr 1
  funext id
  simp
 have fin:∀ (val:Value) (xs:List Value),(∀b,cW val=some b->w.heap.size<=b/\b<w'.heap.size)->0<sz->w'.ownsRow 0 ty sz val es.length xs->
  (et (ad M (aV φ fr val) ((⟨o',us⟩:Hp).put [(fr, .arr 0 ty sz es)])) w' sz es xs)->
  val.oneCell'=true->
  ∃ai,af M ai ⟨put o' [(fr, .arr 0 ty sz es)],fun id=>us id\/id=fr⟩ w'/\Trans φ ⟨o',us⟩ w ai ⟨put o' [(fr, .arr 0 ty sz es)],fun id=>us id\/id=fr⟩ w'/\
   ∃x9,Ending.returned val= .returned x9/\V.den (ad M ai ⟨put o' [(fr, .arr 0 ty sz es)],fun id=>us id\/id=fr⟩) ai ⟨put o' [(fr, .arr 0 ty sz es)],fun id=>us id\/id=fr⟩ w' (.osl fr 0) x9:=by
  intro val xs fG cK dm aY Jv
  have lh:=eS hH hk de (.arr 0 ty sz es) val fG (by
   unfold aq
   rw[show((⟨o',us⟩:Hp).put [(fr, .arr 0 ty sz es)]).o fr= .arr 0 ty sz es by simp]
   refine⟨cK,xs, ?_,aY⟩
   rw[show aV φ fr val fr=val by simp]
   exact dm)
  have F6:=cY (φ:=φ) (H:=⟨o',us⟩) hk de (.arr 0 ty sz es) val (fun b hb=>(fG b hb).1)
  rw[zk]at lh F6
  refine⟨aV φ fr val,lh,F6,val,rfl,Jv, .inr rfl,fun e he=> ?_⟩
  have dN:0=e:=by
   have:(put o' [(fr,aa.arr 0 ty sz es)] fr).aL=some 0:=by simp[put,aa.aL]
   rw[show(⟨put o' [(fr, .arr 0 ty sz es)],fun id=>us id\/id=fr⟩:Hp).o fr=put o' [(fr, .arr 0 ty sz es)] fr from rfl,this]at he
   injection he
  exact⟨by omega,fun _=>by simp⟩
 cases e with
 |outgrown=>exact k3.elim
 |panicked ch=>obtain⟨_,_,_,h⟩:=k3;exact h.elim
 |returned val=>
  obtain⟨g1,⟨j,ep,rfl,hj⟩|⟨rfl,rfl,cK⟩⟩:=k3
  ·obtain⟨v0,v1,v2⟩:=g1
   have da:val=eX j:=(v2 ep (by show(o1 j).aL=some ep;rw[hj];rfl)).2 rfl
   have bq:∀b,cW val=some b->bp eX (hp o1 n1) b:=fun b hb=>⟨j,by show(o1 j).live=true;rw[hj];rfl,by rw[<- da];exact hb⟩
   have fG:∀b,cW val=some b->w.heap.size<=b/\b<w'.heap.size:=fun b hb=>⟨(k2.grow b (bq b hb)).resolve_left (ql b),(k1.ours b (bq b hb)).2⟩
   have C1:=k1.ok j
   unfold aq at C1
   rw[show(hp o1 n1).o j= .arr ep ty sz es from hj]at C1
   obtain⟨cK,xs,dm,aY⟩:=C1
   have OV:∀b,ad M (aV φ fr val) ((⟨o',us⟩:Hp).put [(fr, .arr 0 ty sz es)]) b->ad (ad M φ ⟨o',us⟩) eX (hp o1 n1) b:=by
    rintro b (hb|⟨id,hl,hb⟩)
    ·exact .inl (.inl hb)
    ·by_cases e:id=fr
     ·subst e
      simp at hb
      exact .inr (bq b hb)
     ·simp[e]at hl hb
      exact .inl (.inr ⟨id,hl,hb⟩)
   exact fin val xs fG cK (by rw[da];exact dm) (aY.mono (w:=w') (w':=w') (fun b _ hB=>⟨rfl,fun h=>hB (OV b h)⟩)) v0
  ·have g1:val= .slice none 0 0:=g1
   subst g1
   exact fin _ [] (fun b hb=>by cases hb) cK (World.ownsRow_nil w' 0 ty sz) ⟨[],rfl,by simp,rfl⟩ rfl
theorem tO.z9 {P:Program}{g:FuncId}{args:List V}{ds:List D}{o:Nat->aa}{fr:Nat}{ty:TypeId}{sz:Nat}{es:List D}
 (dp:bt o args=some ds) (ku:D.gq es=true) (h:jx P g (ds.map .d) (fun _=> .no) 0 (fun v o1 _=>(∃j ep,v= .osl j ep/\o1 j= .arr ep ty sz es)\/(v= .aI/\es=[]/\0<sz)) (fun _ _ _=>False)):
 tO P g args (V.aP args) o fr (.osl fr 0) [(fr, .arr 0 ty sz es)]:=by
 refine⟨h.1,fun o' us M φ w vals LZ de hH hd=> ?_⟩
 obtain⟨f1,f2,f3,f4,f5⟩:=cj hH (V.aP args) (fun id ag=>(LZ id ag).2)
 generalize Pv:(⟨o',us⟩:Hp).put (b8 (⟨o',us⟩:Hp).o (V.aP args))=HF at f1 f2 f3
 let bN:Place:=fun _=> .nilFunc
 have ql:∀b, ¬bp bN (hp (fun _=> .no) 0) b:=by rintro b ⟨id,hl,_⟩;simp[hp,aa.live]at hl
 have hM:∀b,ad M φ HF b->b<w.heap.size:=fun b hb=>hb.elim (f1.oE b) fun hl=>(f1.ours b hl).2
 have o4:D.ak (ad M φ HF) w ds vals.toList:=cp f1 args ds _ (fun id ag=>by rw[f3 id ag];show(o' id).fz=(o id).fz;rw[(LZ id ag).1]) dp (V.aw f2 _ _ hd)
 refine(h.2 (ad M φ HF) bN w vals (jz bN hM) ((V.bE _ _).2 (D.aw (w:=w) (w':=w) (B:=ad M φ HF) (fun b _ hB=>⟨rfl,fun h=>h.elim hB (ql b)⟩) _ _ o4))).mono ?_
 rintro e w' ⟨eX,o1,n1,v,k1,k2,k3⟩
 have hk:dh (fun _=>False) w w':=⟨k2.bD.os,k2.bD.tape,k2.bD.output,k2.bD.size,fun k hk _=>k2.bD.block k hk (ql k)⟩
 have zk:(⟨o',us⟩:Hp).put [(fr, .arr 0 ty sz es)]=⟨put o' [(fr, .arr 0 ty sz es)],fun id=>us id\/id=fr⟩:=by
  simp only[Hp.put]
  congr 1
  funext id
  simp
 have fin:∀ (val:Value) (xs:List Value),(∀b,cW val=some b->w.heap.size<=b/\b<w'.heap.size)->0<sz->w'.ownsRow 0 ty sz val es.length xs->
  (et (ad M (aV φ fr val) ((⟨o',us⟩:Hp).put [(fr, .arr 0 ty sz es)])) w' sz es xs)->
  val.oneCell'=true->
  ∃ai,af M ai ⟨put o' [(fr, .arr 0 ty sz es)],fun id=>us id\/id=fr⟩ w'/\Trans φ ⟨o',us⟩ w ai ⟨put o' [(fr, .arr 0 ty sz es)],fun id=>us id\/id=fr⟩ w'/\
   ∃x9,Ending.returned val= .returned x9/\V.den (ad M ai ⟨put o' [(fr, .arr 0 ty sz es)],fun id=>us id\/id=fr⟩) ai ⟨put o' [(fr, .arr 0 ty sz es)],fun id=>us id\/id=fr⟩ w' (.osl fr 0) x9:=by
  intro val xs fG cK dm aY Jv
  have lh:=eS hH hk de (.arr 0 ty sz es) val fG (by
   unfold aq
   rw[show((⟨o',us⟩:Hp).put [(fr, .arr 0 ty sz es)]).o fr= .arr 0 ty sz es by simp]
   refine⟨cK,xs, ?_,aY⟩
   rw[show aV φ fr val fr=val by simp]
   exact dm)
  have F6:=cY (φ:=φ) (H:=⟨o',us⟩) hk de (.arr 0 ty sz es) val (fun b hb=>(fG b hb).1)
  rw[zk]at lh F6
  refine⟨aV φ fr val,lh,F6,val,rfl,Jv, .inr rfl,fun e he=> ?_⟩
  have dN:0=e:=by
   have:(put o' [(fr,aa.arr 0 ty sz es)] fr).aL=some 0:=by simp[put,aa.aL]
   rw[show(⟨put o' [(fr, .arr 0 ty sz es)],fun id=>us id\/id=fr⟩:Hp).o fr=put o' [(fr, .arr 0 ty sz es)] fr from rfl,this]at he
   injection he
  exact⟨by omega,fun _=>by simp⟩
 cases e with
 |outgrown=>exact k3.elim
 |panicked ch=>obtain⟨_,_,_,h⟩:=k3;exact h.elim
 |returned val=>
  obtain⟨g1,⟨j,ep,rfl,hj⟩|⟨rfl,rfl,cK⟩⟩:=k3
  ·obtain⟨v0,v1,v2⟩:=g1
   have da:val=eX j:=(v2 ep (by show(o1 j).aL=some ep;rw[hj];rfl)).2 rfl
   have bq:∀b,cW val=some b->bp eX (hp o1 n1) b:=fun b hb=>⟨j,by show(o1 j).live=true;rw[hj];rfl,by rw[<- da];exact hb⟩
   have fG:∀b,cW val=some b->w.heap.size<=b/\b<w'.heap.size:=fun b hb=>⟨(k2.grow b (bq b hb)).resolve_left (ql b),(k1.ours b (bq b hb)).2⟩
   have C1:=k1.ok j
   unfold aq at C1
   rw[show(hp o1 n1).o j= .arr ep ty sz es from hj]at C1
   obtain⟨cK,xs,dm,aY⟩:=C1
   obtain⟨evs,e1,e2,e3⟩:=aY
   exact fin val xs fG cK (by rw[da];exact dm) ⟨evs,e1,e2,D.ir _ _ ku e3⟩ v0
  ·have g1:val= .slice none 0 0:=g1
   subst g1
   exact fin _ [] (fun b hb=>by cases hb) cK (World.ownsRow_nil w' 0 ty sz) ⟨[],rfl,by simp,rfl⟩ rfl
theorem tO.Aa {P:Program}{g:FuncId}{args:List V}{ds:List D}{o0 o:Nat->aa}{rd:List Nat}{fr:Nat}{v:V}{Δ:List (Nat×aa)}(ag:V.aP args=[])(dp:bt o0 args=some ds)
 (h:tO P g (ds.map .d) rd o fr v Δ):tO P g args rd o fr v Δ:=
 ⟨h.1,fun o' us M φ w vals h1 h2 hH hd=>h.2 o' us M φ w vals h1 h2 hH ((V.bE _ _).2 (cp hH args ds _ (by rw[ag];intro id h;cases h) dp hd))⟩
end Go.Proofs.YtbmnikpknlkbkaaGreat
namespace Go.Proofs.YtbmnikpknlkbkaaGreat
def BD(P:Program)(f:FuncId):Prop:=
 fJ P f/\∀ (w:World) (b:Nat) (es:Array MapEntry) (clock:Nat),w.heap[b]? =some (.map es clock)->
  Calls P f #[.map (some b)] w fun e w'=>e= .returned (.map (some w.heap.size))/\w'=w.alloc (.map es clock)
theorem jx.C2 {P:Program}{f:FuncId}(h:BD P f){o:Nat->aa}{nx id:Nat}{kt vt:TypeId}{l:List (D×D)}(ho:o id= .map kt vt l){K X:V->(Nat->aa)->Nat->Prop}
 (hK:K (.mp nx) (aV o nx (.map kt vt l)) (nx+1)):jx P f [.mp id] o nx K X:=by
 refine⟨h.1,fun M φ w vals hH hd=> ?_⟩
 have hlen:=V.aj _ _ hd
 obtain⟨v,rfl⟩:∃v,vals=#[v]:=by
  match vals,hlen with
  |⟨[v]⟩,_=>exact⟨v,rfl⟩
 obtain⟨v',mM,zl⟩:=V.cD _ _ 0 (.mp id) hd rfl
 simp only[List.getElem?_cons_zero,Option.some.injEq]at mM
 subst mM
 have a8:=hH.ok id
 have px:(hp o nx).o id= .map kt vt l:=ho
 simp only[aq,px]at a8
 obtain⟨b,es,clock,e1,e2,e3,e4⟩:=a8
 have hv:v=φ id:=zl.2.2 (by rw[px];rfl)
 rw[hv,e1]
 refine(h.2 w b es clock e2).mono fun e w' ⟨he,hw⟩=> ?_
 subst he;subst hw
 have de: ¬ (hp o nx).us nx:=fun h=>Nat.lt_irrefl _ h
 have zk:(hp o nx).put [(nx, .map kt vt l)]=hp (aV o nx (.map kt vt l)) (nx+1):=by
  simp only[Hp.put,hp]
  congr 1
  funext j
  simp only[List.map_cons,List.map_nil,List.mem_singleton,eq_iff_iff]
  omega
 have L0:∀c,cW (.map (some w.heap.size))=some c->w.heap.size<=c/\c<(w.alloc (.map es clock)).heap.size:=by
  intro c hc;simp[cW]at hc;subst hc;simp
 have ht:=cY (φ:=φ) (H:=hp o nx) (bF w (.map es clock)) de (.map kt vt l) (.map (some w.heap.size)) fun c hc=>(L0 c hc).1
 refine⟨aV φ nx (.map (some w.heap.size)),aV o nx (.map kt vt l),nx+1, .mp nx, ?_, ?_, ?_,hK⟩
 ·rw[<- zk]
  refine eS hH (bF w _) de _ _ L0 ?_
  unfold aq
  simp only[aU,ax,if_true]
  exact⟨w.heap.size,es,clock,rfl,heap_alloc_new w _,e3,au.mono (ht.blocks (M:=M)) l _ e4⟩
 ·rw[<- zk];exact ht
 ·rw[<- zk];exact⟨rfl,by simp,fun _=>by simp⟩
end Go.Proofs.YtbmnikpknlkbkaaGreat
namespace Go.Proofs.YtbmnikpknlkbkaaGreat
inductive Tr (α:Type) where
 |e (f:Nat->α)
 |n (x:α) (l r:Tr α)
noncomputable def Tr.get {α:Type}(t:Tr α):Nat->α:=
 Tr.rec (motive:=fun _=>Nat->α) (fun f=>f) (fun x _ _ l r k=>Bool.rec (Bool.rec (r (Nat.sub (Nat.div k 2) 1)) (l (Nat.div k 2)) (Nat.beq (Nat.mod k 2) 1)) x (Nat.beq k 0)) t
theorem Tr.uY {α:Type}(f:Nat->α):(Tr.e f).get=f:=rfl
noncomputable def Tr.n8 {α:Type}(x:α):Nat->Tr α->Nat->Tr α
 |0,t,k=> .e (aV t.get k x)
 |d+1, .e f,k=>match Nat.beq k 0 with
  |true=> .n x (.e fun i=>f (2*i+1)) (.e fun i=>f (2*i+2))
  |false=>match Nat.beq (k%2) 1 with
   |true=> .n (f 0) (Tr.n8 x d (.e fun i=>f (2*i+1)) (k/2)) (.e fun i=>f (2*i+2))
   |false=> .n (f 0) (.e fun i=>f (2*i+1)) (Tr.n8 x d (.e fun i=>f (2*i+2)) (k/2 - 1))
 |d+1, .n y l r,k=>match Nat.beq k 0 with
  |true=> .n x l r
  |false=>match Nat.beq (k%2) 1 with
   |true=> .n y (Tr.n8 x d l (k/2)) r
   |false=> .n y l (Tr.n8 x d r (k/2 - 1))
noncomputable def Tr.set {α:Type}(t:Tr α)(k:Nat)(x:α):Tr α:=Tr.n8 x 24 t k
theorem Tr.n9 {α:Type}{x:α}{l r:Tr α}{k:Nat}:(Tr.n x l r).get k=if k=0 then x else if k%2=1 then l.get (k/2)else r.get (k/2 - 1):=by
 show @Bool.rec (fun _=>α) (@Bool.rec (fun _=>α) (r.get (k/2 - 1)) (l.get (k/2)) (Nat.beq (k%2) 1)) x (Nat.beq k 0)=_
 by_cases h:k=0
 ·subst h;rfl
 ·have:Nat.beq k 0=false:=by cases k with|zero=>exact absurd rfl h|succ k=>rfl
  simp only[this,h,if_false]
  by_cases h2:k%2=1
  ·simp[h2]
  ·have:Nat.beq (k%2) 1=false:=by
    cases hb:Nat.beq (k%2) 1 with
    |false=>rfl
    |true=>exact absurd (Nat.eq_of_beq_eq_true hb) h2
   simp[h2,this]
theorem Tr.jk {α:Type}(x:α):∀ (d:Nat) (t:Tr α) (k:Nat),(Tr.n8 x d t k).get=aV t.get k x
 |0,t,k=>rfl
 |d+1, .e f,k=>by
  funext i
  simp only[Tr.n8]
  have hb:∀a b:Nat,Nat.beq a b=decide (a=b):=fun a b=>by
   cases h:Nat.beq a b with
   |true=>simp[Nat.eq_of_beq_eq_true h]
   |false=>simp[Nat.ne_of_beq_eq_false h]
  rw[hb,hb]
  by_cases h:k=0
  ·subst h
   simp only[decide_true,Tr.n9,ax]
   by_cases hi:i=0
   ·simp[hi]
   ·simp only[hi,if_false]
    by_cases h2:i%2=1
    ·simp only[h2,if_true,Tr.uY];congr 1;omega
    ·simp only[h2,if_false,Tr.uY];congr 1;omega
  ·simp only[h,decide_false]
   by_cases hk:k%2=1
   ·simp only[hk,decide_true,Tr.n9,Tr.jk x d,ax,Tr.uY]
    by_cases hi:i=0
    ·subst hi;simp[Ne.symm h]
    ·simp only[hi,if_false]
     by_cases h2:i%2=1
     ·simp only[h2,if_true]
      have e1:2*(i/2)+1=i:=by omega
      rw[e1]
      by_cases e:i=k
      ·simp[e]
      ·rw[if_neg e,if_neg (by omega)]
     ·simp only[h2,if_false]
      rw[if_neg (by intro e;subst e;exact h2 hk)]
      congr 1;omega
   ·simp only[hk,decide_false,Tr.n9,Tr.jk x d,ax,Tr.uY]
    by_cases hi:i=0
    ·subst hi;simp[Ne.symm h]
    ·simp only[hi,if_false]
     by_cases h2:i%2=1
     ·simp only[h2,if_true]
      rw[if_neg (by intro e;subst e;exact hk h2)]
      congr 1;omega
     ·simp only[h2,if_false]
      have e1:2*(i/2 - 1)+2=i:=by omega
      rw[e1]
      by_cases e:i=k
      ·simp[e]
      ·rw[if_neg e,if_neg (by omega)]
 |d+1, .n y l r,k=>by
  funext i
  simp only[Tr.n8]
  have hb:∀a b:Nat,Nat.beq a b=decide (a=b):=fun a b=>by
   cases h:Nat.beq a b with
   |true=>simp[Nat.eq_of_beq_eq_true h]
   |false=>simp[Nat.ne_of_beq_eq_false h]
  rw[hb,hb]
  by_cases h:k=0
  ·subst h
   simp only[decide_true,Tr.n9,ax]
   by_cases hi:i=0
   ·simp[hi]
   ·simp[hi]
  ·simp only[h,decide_false]
   by_cases hk:k%2=1
   ·simp only[hk,decide_true,Tr.n9,Tr.jk x d,ax]
    by_cases hi:i=0
    ·subst hi;simp[Ne.symm h]
    ·simp only[hi,if_false]
     by_cases h2:i%2=1
     ·simp only[h2,if_true]
      by_cases e:i=k
      ·simp[e]
      ·rw[if_neg e,if_neg (by omega)]
     ·simp only[h2,if_false]
      rw[if_neg (by intro e;subst e;exact h2 hk)]
   ·simp only[hk,decide_false,Tr.n9,Tr.jk x d,ax]
    by_cases hi:i=0
    ·subst hi;simp[Ne.symm h]
    ·simp only[hi,if_false]
     by_cases h2:i%2=1
     ·simp only[h2,if_true]
      rw[if_neg (by intro e;subst e;exact hk h2)]
     ·simp only[h2,if_false]
      by_cases e:i=k
      ·simp[e]
      ·rw[if_neg e,if_neg (by omega)]
theorem Tr.eQ {α:Type}(t:Tr α)(k:Nat)(x:α):(t.set k x).get=aV t.get k x:=Tr.jk x 24 t k
noncomputable def Nat.fc {β:Type}(n:Nat)(c:Nat->β):β:=Nat.rec (motive:=fun _=>β) (c 0) (fun m _=>c (Nat.succ m)) n
theorem Nat.bZ {β:Type}(n:Nat)(c:Nat->β):Nat.fc n c=c n:=by cases n<;>rfl
noncomputable def Int.fc {β:Type}(n:Int)(c:Int->β):β:=Int.rec (motive:=fun _=>β) (fun m=>Nat.fc m fun m=>c (.ofNat m)) (fun m=>Nat.fc m fun m=>c (.negSucc m)) n
theorem Int.bZ {β:Type}(n:Int)(c:Int->β):Int.fc n c=c n:=by cases n<;>simp only[Int.fc,Nat.bZ]
mutual
noncomputable def D.fc {β:Type}:D->(D->β)->β
 | .int k n,c=>Int.fc n fun n=>c (.int k n)
 | .bool b,c=>match b with|true=>c (.bool true)|false=>c (.bool false)
 | .agg l,c=>D.od l fun l=>c (.agg l)
 | .sl l,c=>D.od l fun l=>c (.sl l)
 | .iface t x,c=>D.fc x fun x=>c (.iface t x)
 | .str s,c=>c (.str s)
 | .dS,c=>c .dS
 | .fg,c=>c .fg
 | .aM,c=>c .aM
 | .c0,c=>c .c0
 | .mp ks vs,c=>D.od ks fun ks=>D.od vs fun vs=>c (.mp ks vs)
noncomputable def D.od {β:Type}:List D->(List D->β)->β
 |[],c=>c []
 |x::xs,c=>D.fc x fun x=>D.od xs fun xs=>c (x::xs)
end
mutual
theorem D.bZ {β:Type}:∀ (x:D) (c:D->β),D.fc x c=c x
 | .int k n,c=>by simp only[D.fc,Int.bZ]
 | .bool b,c=>by cases b<;>rfl
 | .agg l,c=>by simp only[D.fc,D.dH l]
 | .sl l,c=>by simp only[D.fc,D.dH l]
 | .iface t x,c=>by simp only[D.fc,D.bZ x]
 | .mp ks vs,c=>by simp only[D.fc,D.dH ks,D.dH vs]
 | .str _,_| .dS,_| .fg,_| .aM,_| .c0,_=>by simp only[D.fc]
theorem D.dH {β:Type}:∀ (x:List D) (c:List D->β),D.od x c=c x
 |[],c=>by simp only[D.od]
 |x::xs,c=>by simp only[D.od,D.bZ x,D.dH xs]
end
mutual
noncomputable def V.fc {β:Type}:V->(V->β)->β
 | .d x,c=>D.fc x fun x=>c (.d x)
 | .agg l,c=>V.od l fun l=>c (.agg l)
 | .bJ l,c=>V.od l fun l=>c (.bJ l)
 | .ptr i o,c=>Nat.fc i fun i=>Nat.fc o fun o=>c (.ptr i o)
 | .osl i o,c=>Nat.fc i fun i=>Nat.fc o fun o=>c (.osl i o)
 | .pe a b i j k,c=>Nat.fc a fun a=>Nat.fc b fun b=>Nat.fc i fun i=>Nat.fc j fun j=>Nat.fc k fun k=>c (.pe a b i j k)
 | .pp l o,c=>D.od l fun l=>Nat.fc o fun o=>c (.pp l o)
 | .func f a b,c=>V.od a fun a=>V.od b fun b=>c (.func f a b)
 | .iface t x,c=>V.fc x fun x=>c (.iface t x)
 | .jU l,c=>D.od l fun l=>c (.jU l)
 | .nm i j k,c=>Nat.fc i fun i=>Nat.fc j fun j=>Nat.fc k fun k=>c (.nm i j k)
 | .mp i,c=>Nat.fc i fun i=>c (.mp i)
 | .js i,c=>Nat.fc i fun i=>c (.js i)
 | .aI,c=>c .aI
 | .aE,c=>c .aE
 | .dy,c=>c .dy
noncomputable def V.od {β:Type}:List V->(List V->β)->β
 |[],c=>c []
 |x::xs,c=>V.fc x fun x=>V.od xs fun xs=>c (x::xs)
end
mutual
theorem V.bZ {β:Type}:∀ (x:V) (c:V->β),V.fc x c=c x
 | .d x,c=>by simp only[V.fc,D.bZ]
 | .agg l,c=>by simp only[V.fc,V.dH l]
 | .bJ l,c=>by simp only[V.fc,V.dH l]
 | .pp l o,c=>by simp only[V.fc,D.dH,Nat.bZ]
 | .func f a b,c=>by simp only[V.fc,V.dH a,V.dH b]
 | .iface t x,c=>by simp only[V.fc,V.bZ x]
 | .jU l,c=>by simp only[V.fc,D.dH]
 | .ptr _ _,_| .osl _ _,_| .pe _ _ _ _ _,_| .nm _ _ _,_| .mp _,_| .js _,_| .aI,_| .aE,_| .dy,_=>by simp only[V.fc,Nat.bZ]
theorem V.dH {β:Type}:∀ (x:List V) (c:List V->β),V.od x c=c x
 |[],c=>by simp only[V.od]
 |x::xs,c=>by simp only[V.od,V.bZ x,V.dH xs]
end
section
variable {β:Type}
noncomputable def F7(k:IntKind)(n:Int)(c:V->β):β:=Int.fc n fun n=>c (.d (.int k n))
noncomputable def F8(b:Bool)(c:V->β):β:= @Bool.rec (fun _=>β) (c (.d (.bool false))) (c (.d (.bool true))) b
noncomputable def C3(x:D)(c:V->β):β:=D.fc x fun x=>c (.d x)
noncomputable def vD(x:D):(V->β)->β:=match x with| .int k n=>F7 k n| .bool b=>F8 b|x=>C3 x
noncomputable def F9(i o:Nat)(c:V->β):β:=Nat.fc i fun i=>Nat.fc o fun o=>c (.ptr i o)
noncomputable def Ga(i o:Nat)(c:V->β):β:=Nat.fc i fun i=>Nat.fc o fun o=>c (.osl i o)
noncomputable def L1(a b i j k:Nat)(c:V->β):β:=Nat.fc a fun a=>Nat.fc b fun b=>Nat.fc i fun i=>Nat.fc j fun j=>Nat.fc k fun k=>c (.pe a b i j k)
noncomputable def V.ED (v:V):(V->β)->β:=match v with| .d x=>vD x| .ptr i o=>F9 i o| .osl i o=>Ga i o| .pe a b i j k=>L1 a b i j k|v=>V.fc v
theorem V.C4 (v:V)(c:V->β):V.ED v c=c v:=by
 cases v
 case d x=>
  cases x
  case int k n=>simp only[V.ED,vD,F7,Int.bZ]
  case bool b=>cases b<;>rfl
  all_goals exact D.bZ _ _
 case ptr i o=>simp only[V.ED,F9,Nat.bZ]
 case osl i o=>simp only[V.ED,Ga,Nat.bZ]
 case pe a b i j k=>simp only[V.ED,L1,Nat.bZ]
 all_goals exact V.bZ _ _
end
noncomputable def EE{β:Type}:List (D×D)->(List (D×D)->β)->β
 |[],c=>c []
 |(a,b)::l,c=>D.fc a fun a=>D.fc b fun b=>EE l fun l=>c ((a,b)::l)
theorem ya{β:Type}:∀ (x:List (D×D)) (c:List (D×D)->β),EE x c=c x
 |[],c=>rfl
 |(a,b)::l,c=>by simp only[EE,D.bZ,ya l]
noncomputable def aa.fc {β:Type}(x:aa)(c:aa->β):β:=
 match x with
 | .row cs=>V.od cs fun cs=>c (.row cs)
 | .arr e t s es=>Nat.fc e fun e=>Nat.fc s fun s=>D.od es fun es=>c (.arr e t s es)
 | .ky e es=>Nat.fc e fun e=>D.od es fun es=>c (.ky e es)
 | .map kt vt l=>EE l fun l=>c (.map kt vt l)
 | .dT l=>EE l fun l=>c (.dT l)
 | .lS l last=>EE l fun l=>c (.lS l last)
 | .oB l pos=>Nat.fc pos fun pos=>c (.oB l pos)
 |x=>c x
theorem aa.bZ {β:Type}(x:aa)(c:aa->β):aa.fc x c=c x:=by cases x<;>simp only[aa.fc,V.dH,D.dH,Nat.bZ,ya]
noncomputable def Tr.pM {α β:Type}(x:α)(d:Nat):Tr α->Nat->(Tr α->β)->β:=
 Nat.rec (motive:=fun _=>Tr α->Nat->(Tr α->β)->β) (fun t k c=>c (.e (aV t.get k x)))
  (fun _ ih t k c=>Tr.rec (motive:=fun _=>β) (fun f=>
   Bool.rec (Bool.rec (ih (.e fun i=>f (2*i+2)) (Nat.sub (Nat.div k 2) 1) fun r=>c (.n (f 0) (.e fun i=>f (2*i+1)) r)) (ih (.e fun i=>f (2*i+1)) (Nat.div k 2) fun l=>c (.n (f 0) l (.e fun i=>f (2*i+2)))) (Nat.beq (Nat.mod k 2) 1))
    (c (.n x (.e fun i=>f (2*i+1)) (.e fun i=>f (2*i+2)))) (Nat.beq k 0))
   (fun y l r _ _=>Bool.rec (Bool.rec (ih r (Nat.sub (Nat.div k 2) 1) fun r=>c (.n y l r)) (ih l (Nat.div k 2) fun l=>c (.n y l r)) (Nat.beq (Nat.mod k 2) 1)) (c (.n x l r)) (Nat.beq k 0)) t) d
theorem Tr.oe {α β:Type}(x:α):∀ (d:Nat) (t:Tr α) (k:Nat) (c:Tr α->β),Tr.pM x d t k c=c (Tr.n8 x d t k)
 |0,t,k,c=>rfl
 |d+1, .e f,k,c=>by
  show @Bool.rec (fun _=>β) (@Bool.rec (fun _=>β) (Tr.pM x d (.e fun i=>f (2*i+2)) (k/2 - 1) fun r=>c (.n (f 0) (.e fun i=>f (2*i+1)) r)) (Tr.pM x d (.e fun i=>f (2*i+1)) (k/2) fun l=>c (.n (f 0) l (.e fun i=>f (2*i+2)))) (Nat.beq (k%2) 1)) (c (.n x (.e fun i=>f (2*i+1)) (.e fun i=>f (2*i+2)))) (Nat.beq k 0)=_
  simp only[Tr.n8,Tr.oe x d]
  cases Nat.beq k 0
  ·cases Nat.beq (k%2) 1<;>rfl
  ·rfl
 |d+1, .n y l r,k,c=>by
  show @Bool.rec (fun _=>β) (@Bool.rec (fun _=>β) (Tr.pM x d r (k/2 - 1) fun r=>c (.n y l r)) (Tr.pM x d l (k/2) fun l=>c (.n y l r)) (Nat.beq (k%2) 1)) (c (.n x l r)) (Nat.beq k 0)=_
  simp only[Tr.n8,Tr.oe x d]
  cases Nat.beq k 0
  ·cases Nat.beq (k%2) 1<;>rfl
  ·rfl
noncomputable def Tr.C5 {α β:Type}(t:Tr α)(k:Nat)(x:α)(c:Tr α->β):β:=Tr.pM x 24 t k c
theorem Tr.uZ {α β:Type}(t:Tr α)(k:Nat)(x:α)(c:Tr α->β):t.C5 k x c=c (t.set k x):=Tr.oe x 24 t k c
structure St where
 env:Tr V
 o:Tr aa
 nx:Nat
noncomputable def St.S (st:St):S:=⟨st.env.get,st.o.get,st.nx⟩
noncomputable def wu(o:Tr aa)(Δ:List (Nat×aa)):Tr aa:=Δ.foldl (fun f x=>f.set x.1 x.2) o
noncomputable def mF(env:Tr V)(dst:Option Tmp)(v:V):Tr V:=match dst with|some d=>env.set d v|none=>env
noncomputable def og{β:Type}(o:Tr aa):List (Nat×aa)->(Tr aa->β)->β
 |[],c=>c o
 |(i,x)::Δ,c=>aa.fc x fun x=>o.C5 i x fun o=>og o Δ c
theorem jl{β:Type}:∀ (Δ:List (Nat×aa)) (o:Tr aa) (c:Tr aa->β),og o Δ c=c (wu o Δ)
 |[],o,c=>rfl
 |(i,x)::Δ,o,c=>by simp only[og,aa.bZ,Tr.uZ,jl Δ];rfl
noncomputable def iE{β:Type}(env:Tr V)(dst:Option Tmp)(v:V)(c:Tr V->β):β:=match dst with|some d=>V.ED v fun v=>env.C5 d v c|none=>c env
theorem fB{β:Type}(env:Tr V)(dst:Option Tmp)(v:V)(c:Tr V->β):iE env dst v c=c (mF env dst v):=by
 cases dst<;>simp only[iE,mF,V.C4,Tr.uZ]
theorem fP:∀ (Δ:List (Nat×aa)) (o:Tr aa),(wu o Δ).get=put o.get Δ
 |[],_=>rfl
 |x::Δ,o=>by
  simp only[wu,put,List.foldl_cons]
  have:=fP Δ (o.set x.1 x.2)
  simp only[wu,put]at this
  rw[this,Tr.eQ]
theorem cZ(env:Tr V)(dst:Option Tmp)(v:V):(mF env dst v).get=aJ env.get dst v:=by
 cases dst<;>simp[mF,aJ,Tr.eQ]
section C6
def BE(x:Operand)(_:Program)(s:S)(_:Nat):Option eu:=one (s.ev x)
def Gb(c a b:Operand)(_:Program)(s:S)(_:Nat):Option eu:=iD (ll (s.ev c) (s.ev a) (s.ev b))
def C7(t:TypeId)(parts:Array (Nat×Operand))(P:Program)(s:S)(_:Nat):Option eu:=iD (qn P t (parts.toList.map fun p=>(p.1,s.ev p.2)))
def sK(t:TypeId)(len:Nat)(parts:Array (Nat×Operand))(P:Program)(s:S)(fr:Nat):Option eu:=ef P s.o fr t len (parts.toList.map fun p=>(p.1,s.ev p.2))
def Gc(t:TypeId)(x:Operand)(P:Program)(s:S)(_:Nat):Option eu:=jc P s.o t (s.ev x)
def C8(t:TypeId)(x v:Operand)(P:Program)(s:S)(_:Nat):Option eu:=l6 P s.o t (s.ev x) (s.ev v)
def Jw(x:Operand)(_:Program)(s:S)(_:Nat):Option eu:=iD (fm s.o (s.ev x))
noncomputable def Gd(op:BinOp):IntKind->Int->Int->Option V:=
 match op with
 | .add=>fun k a b=>some (.d (.int k (k.wrap (Int.add a b))))
 | .sub=>fun k a b=>some (.d (.int k (k.wrap (Int.sub a b))))
 | .mul=>fun k a b=>some (.d (.int k (k.wrap (Int.mul a b))))
 |op=>r8 op
theorem Ab(op:BinOp):Gd op=r8 op:=by cases op<;>rfl
def asInt(x:V):Option (IntKind×Int):=match x with| .d (.int k a)=>some (k,a)|_=>none
def yb(op:BinOp)(t:TypeId)(c:Bool)(x y:V)(P:Program)(o:Nat->aa):Option eu:=cy P o op t c x y
noncomputable def Ge(op:BinOp)(t:TypeId)(x y:Operand)(P:Program)(s:S)(_:Nat):Option eu:=
 match asInt (s.ev x)with
 |some (k,a)=>match asInt (s.ev y)with
  |some (k',b)=>if k=k' then match Gd op k a b with
   |some v=>some (v,[],[])
   |none=>yb op t (isConst x||isConst y) (s.ev x) (s.ev y) P s.o
   else none
  |none=>yb op t (isConst x||isConst y) (s.ev x) (s.ev y) P s.o
 |none=>yb op t (isConst x||isConst y) (s.ev x) (s.ev y) P s.o
theorem sL{x:V}{k:IntKind}{a:Int}(h:asInt x=some (k,a)):x= .d (.int k a):=by
 unfold asInt at h;split at h
 ·injection h with h;cases h;rfl
 ·cases h
def uc(t:TypeId)(x:Operand)(f:Nat)(P:Program)(s:S)(_:Nat):Option eu:=iD (eL P s.o t (s.ev x) f)
def ud(t:TypeId)(x i:Operand)(P:Program)(s:S)(_:Nat):Option eu:=eK P s.o t (s.ev x) (s.ev i)
def C9(op:Op)(P:Program)(s:S)(fr:Nat):Option eu:=ei P s fr op
noncomputable def Ac(op:Op):Program->S->Nat->Option eu:=
 match op with
 | .move x=>BE x
 | .assign x=>BE x
 | .pick c a b=>Gb c a b
 | .build t parts=>C7 t parts
 | .buildSlice t len parts=>sK t len parts
 | .load t x=>Gc t x
 | .store t x v=>C8 t x v
 | .nilCheck x=>Jw x
 | .binOp op t x y _=>Ge op t x y
 | .fieldAddr t x f=>uc t x f
 | .indexAddr t x i=>ud t x i
 |op=>C9 op
theorem u0{op:Op}{P:Program}{s:S}{fr:Nat}{r:eu}(h:Ac op P s fr=some r):ei P s fr op=some r:=by
 cases op
 case binOp op t x y yt=>
  simp only[Ac,Ge,Ab]at h
  have e:ei P s fr (.binOp op t x y yt)=cy P s.o op t (isConst x||isConst y) (s.ev x) (s.ev y):=rfl
  rw[e]
  split at h
  ·rename_i k a hx
   split at h
   ·rename_i k' b hy
    split at h
    ·rename_i hk
     split at h
     ·rename_i v hv
      unfold cy qm
      simp only[sL hx,sL hy,if_pos hk,hv]
      exact h
     ·exact h
    ·cases h
   ·exact h
  ·exact h
 all_goals exact h
end C6
inductive FD where
 |fn (n:Nat) (ic:IC) (rs:List ResultVar)
 |Jx (n:Nat) (jE fW:IC) (g t:Nat) (fk:List Operand) (rs:List ResultVar) (m r r1:Nat) (sJ:IC)
 |L2
 |no
def FD.Ok (P:Program)(f:Nat):FD->Prop
 | .fn n ic rs=>aF P f n ic rs
 | .Jx n jE fW g t fk rs m r r1 sJ=>x5 P f n jE fW g t fk rs/\uX P g m r r1 sJ
 | .L2=>BD P f
 | .no=>True
inductive CR where
 |ret (v:V) (o:Tr aa) (nx:Nat)|ba (v:V) (o:Tr aa) (nx:Nat)
def CR.to (K X:V->(Nat->aa)->Nat->Prop):CR->Prop
 | .ret v o nx=>K v o.get nx
 | .ba v o nx=>X v o.get nx
inductive RO where
 |ok (st:St)|ba (v:V) (st:St)
def RO.to (K:S->Prop)(X:V->S->Prop):RO->Prop
 | .ok st=>K st.S
 | .ba v st=>X v st.S
inductive cV where
 |r (x:R)|c (x:CR)
abbrev Kt:=eY->St->Option cV
abbrev cC:=Nat->Bool->Nat->IC->St->Kt->Option cV
noncomputable def wv(P:Program)(rs:List ResultVar)(st:St)(kc:CR->Option cV):Option cV:=
 match iw P st.S rs with
 |some [v]=>kc (.ret v st.o st.nx)
 |some vs=>kc (.ret (.bJ vs) st.o st.nx)
 |none=>none
noncomputable def BF(P:Program)(rs:List ResultVar)(kc:CR->Option cV):Kt:=fun e st=>
 match e with
 | .normal=>wv P rs st kc
 | .ret=>wv P rs st kc
 | .ba v=>kc (.ba v st.o st.nx)
 | .exit _=>none
noncomputable def yc(P:Program)(rs:List ResultVar)(kc:CR->Option cV)(env:Tr V):Kt:=fun e s4=>
 match e with
 | .normal=>wv P rs ⟨env,s4.o,s4.nx⟩ kc
 | .ret=>wv P rs ⟨env,s4.o,s4.nx⟩ kc
 |_=>none
def Gf:eY->Option V
 | .normal=>some (.d .dS)
 | .ret=>some (.d .dS)
 | .ba v=>some v
 | .exit _=>none
noncomputable def yd(P:Program)(rec:cC)(rs:List ResultVar)(jJ:List V)(m r r1:Nat)(sJ:IC)(kc:CR->Option cV):Kt:=fun e s3=>
 match Gf e with
 |some u=>if jJ.length<=m then rec s3.nx true m sJ ⟨.e (aV (aV (bT jJ) r u) r1 u),s3.o,s3.nx⟩ (yc P rs kc s3.env)else none
 |none=>none
noncomputable def u1(P:Program)(rec:cC)(n t:Nat)(fW:IC)(g:Nat)(fk:List Operand)(rs:List ResultVar)(m r r1:Nat)(sJ:IC)(kc:CR->Option cV):Kt:=fun e s1=>
 match e with
 | .normal=>rec s1.nx false n fW ⟨s1.env.set t (.func (.func g) [] (fk.map s1.S.ev)),s1.o,s1.nx⟩ (yd P rec rs (fk.map s1.S.ev) m r r1 sJ kc)
 |_=>none
noncomputable def ye(P:Program)(bg:Nat->FD)(rec:cC)(g:Nat)(args:List V)(o:Tr aa)(nx:Nat)(kc:CR->Option cV):Option cV:=
 match bg g with
 | .fn n ic rs=>if args.length<=n then rec nx false n ic ⟨.e (bT args),o,nx⟩ (BF P rs kc)else none
 | .Jx n jE fW g t fk rs m r r1 sJ=>if args.length<=n then rec nx true n jE ⟨.e (bT args),o,nx⟩ (u1 P rec n t fW g fk rs m r r1 sJ kc)else none
 | .L2=>match args with
   |[.mp id]=>match o.get id with
    | .map kt vt l=>kc (.ret (.mp nx) (o.set nx (.map kt vt l)) (nx+1))
    |_=>none
   |_=>none
 | .no=>none
def oh:V->List V
 | .bJ vs=>vs
 |v=>[v]
noncomputable def u3(r:CR):Option R:=
 match r with
 | .ret v o _=>match v with
   | .bJ [_]=>none
   |v=>match bt o.get (oh v)with
    |some rs=>some (.ret rs)
    |none=>none
 | .ba v o _=>match dk o.get v with
   |some x=>some (.ba x)
   |none=>none
noncomputable def Gg{β:Type}(x:R)(c:R->β):β:=match x with| .ret l=>D.od l fun l=>c (.ret l)| .ba d=>D.fc d fun d=>c (.ba d)
theorem ue{β:Type}(x:R)(c:R->β):Gg x c=c x:=by cases x<;>simp only[Gg,D.dH,D.bZ]
noncomputable def sM(r:CR):Option cV:=match u3 r with|some x=>Gg x fun x=>some (.r x)|none=>none
theorem yf{r:CR}{a:cV}(h:sM r=some a):∃x,u3 r=some x/\a= .r x:=by
 unfold sM at h
 split at h
 ·rename_i x hx;rw[ue]at h;injection h with h;exact⟨x,hx,h.symm⟩
 ·cases h
def yg(out:R)(o:Tr aa)(nx:Nat):CR:=
 match out with
 | .ret rs=> .ret (gQ rs) o nx
 | .ba x=> .ba (.d x) o nx
structure lD (P:Program) where
 Gh:Nat->Bool
 fx:Nat->List D->Option R
 ok:∀g ds out,fx g ds=some out->cR P g ds out
def yh(l:List (Nat×List D×R))(g:Nat)(ds:List D):Option R:=
 match l with
 |[]=>none
 |x::l=>match Nat.beq x.1 g with
  |true=>match D.dY x.2.1 ds with
   |true=>some x.2.2
   |false=>yh l g ds
  |false=>yh l g ds
theorem qJ{P:Program}:∀ {l:List (Nat×List D×R)},(∀x∈l,cR P x.1 x.2.1 x.2.2)->∀g ds out,yh l g ds=some out->cR P g ds out
 |[],_,_,_,_,h=>by cases h
 |x::l,hl,g,ds,out,h=>by
  simp only[yh]at h
  split at h
  ·rename_i hg
   split at h
   ·rename_i hd
    injection h with h
    have:=hl x (by simp)
    rw[Nat.eq_of_beq_eq_true hg,D.ct _ _ hd,h]at this
    exact this
   ·exact qJ (fun y hy=>hl y (by simp[hy])) g ds out h
  ·exact qJ (fun y hy=>hl y (by simp[hy])) g ds out h
def lD.of {P:Program}(Gh:Nat->Bool)(l:List (Nat×List D×R))(h:∀x∈l,cR P x.1 x.2.1 x.2.2):lD P:=⟨Gh,yh l,qJ h⟩
noncomputable def Ad(P:Program)(bg:Nat->FD)(md:lD P)(rec:cC)(g:Nat)(ds:List D):Option R:=
 match md.fx g ds with
 |some out=>some out
 |none=>match ye P bg rec g (ds.map .d) (.e fun _=> .no) 0 sM with
  |some (.r x)=>some x
  |_=>none
noncomputable def BG(out:R)(o:Tr aa)(nx:Nat)(args:List V)(kc:CR->Option cV):Option cV:=
 match out.flat with
 |true=>kc (yg out o (nx+1))
 |false=>match out.iW with
  |true=>kc (yg out (wu o (lT o.get (V.aP args))) (nx+1))
  |false=>kc (yg out (wu o (b8 o.get (V.aP args))) (nx+1))
noncomputable def u4(P:Program)(bg:Nat->FD)(md:lD P)(rec:cC)(g:Nat)(args:List V)(o:Tr aa)(nx:Nat)(kc:CR->Option cV):Option cV:=
 match md.Gh g,bt o.get args with
 |true,some ds=>match Ad P bg md rec g ds with
  |some out=>BG out o nx args kc
  |none=>none
 |_,_=>ye P bg rec g args o nx kc
noncomputable def yi(id:Nat)(kc:CR->Option cV):Kt:=fun e s2=>
 match e with
 | .ba v=>kc (.ba v s2.o s2.nx)
 |e=>match s2.o.get id with
  | .loop nf m en p c d _ _=>match e with
    | .normal=>kc (.ret (.d (.bool true)) (s2.o.set id (.loop nf m en p c d .ready none)) s2.nx)
    | .ret=>kc (.ret (.d (.bool false)) (s2.o.set id (.loop nf m en p c d .done (some .ret))) s2.nx)
    | .exit j=>kc (.ret (.d (.bool false)) (s2.o.set id (.loop nf m en p c d .done (some (.exit j)))) s2.nx)
    | .ba _=>none
  |_=>none
noncomputable def u5(rec:cC)(id nx n:Nat)(fW:IC)(kc:CR->Option cV):Kt:=fun e s1=>
 match e with
 | .normal=>match s1.o.get id with
   | .loop nf m en p c d .ready pd=>rec nx true n fW ⟨s1.env,s1.o.set id (.loop nf m en p c d .busy pd),s1.nx⟩ (yi id kc)
   |_=>none
 | .ba v=>kc (.ba v s1.o s1.nx)
 |_=>none
noncomputable def Da(P:Program)(rec:cC)(id:Nat)(args:List V)(o:Tr aa)(nx:Nat)(kc:CR->Option cV):Option cV:=
 match o.get id with
 | .loop nf n env ps jE fW _ _=>if nf=P.funcs.size/\id<nx/\ps.all (fun t=>decide (t<n))=true/\args.length=ps.length then
  rec nx true n jE ⟨.e (tX (bU env) ps args),o,nx⟩ (u5 rec id nx n fW kc)
   else none
 |_=>none
noncomputable def pO(P:Program)(st:St)(o:bz)(kr:RO->Option cV):Option cV:=
 match Ac o.op P st.S st.nx with
 |some (v,Δ,_)=>iE st.env o.dst v fun e=>og st.o Δ fun ob=>Nat.fc (st.nx+1) fun n=>kr (.ok ⟨e,ob,n⟩)
 |none=>none
noncomputable def Gi(st:St)(dst:Option Nat)(kr:RO->Option cV)(c:CR):Option cV:=
 match c with
 | .ret v o nx=>iE st.env dst v fun e=>Nat.fc nx fun nx=>kr (.ok ⟨e,o,nx⟩)
 | .ba v o nx=>kr (.ba v ⟨st.env,o,nx⟩)
noncomputable def yj(c:Call)(P:Program)(bg:Nat->FD)(md:lD P)(rec:cC)(st:St)(o:bz)(kr:RO->Option cV):Option cV:=
 match c.callee with
 | .value f=>match st.S.ev f with
   | .func (.func g) first cap=>u4 P bg md rec g (first++c.args.toList.map st.S.ev++cap) st.o st.nx (Gi st o.dst kr)
   | .js id=>Da P rec id (c.args.toList.map st.S.ev) st.o st.nx (Gi st o.dst kr)
   |_=>none
 | .invoke r m=>match nH P m (st.S.ev r)with
   |some (g,y)=>u4 P bg md rec g (y::c.args.toList.map st.S.ev) st.o st.nx (Gi st o.dst kr)
   |none=>none
 |_=>pO P st o kr
noncomputable def Db(x:Operand)(P:Program)(_:Nat->FD)(_:lD P)(_:cC)(st:St)(_:bz)(kr:RO->Option cV):Option cV:=
 match st.S.ev x with
 | .d (.iface t y)=>kr (.ba (.d (.iface t y)) st)
 | .iface t y=>kr (.ba (.iface t y) st)
 |_=>none
noncomputable def Gj(P:Program)(_:Nat->FD)(_:lD P)(_:cC)(st:St)(o:bz)(kr:RO->Option cV):Option cV:=pO P st o kr
def R.same:R->R->Bool
 | .ret a, .ret b=>D.dY a b
 | .ba a, .ba b=>a.same b
 |_,_=>false
theorem R.cP {x y:R}(h:x.same y=true):x=y:=by
 cases x<;>cases y<;>simp only[R.same,Bool.false_eq_true]at h
 ·rw[D.ct _ _ h]
 ·rw[D.cP _ _ h]
noncomputable def HT(f:Nat->Option cV):Nat->Option cV
 |0=>none
 |n+1=>match n with
  |0=>f 0
  |n=>match HT f n with
   |some (.r a)=>match f n with
    |some (.r b)=>match R.same a b with
     |true=>some (.r a)
     |false=>none
    |_=>none
   |_=>none
theorem yk{f:Nat->Option cV}{a:cV}:∀ {n:Nat},HT f n=some a->∀i,i<n->f i=some a
 |0,h,_,_=>by cases h
 |1,h,i,hi=>by obtain rfl:i=0:=by omega
               exact h
 |n+2,h,i,hi=>by
  simp only[HT]at h
  split at h
  ·rename_i x hx
   split at h
   ·rename_i y hy
    split at h
    ·rename_i he
     have e:=R.cP he
     subst e
     rw[<- h]
     by_cases e:i=n+1
     ·subst e;exact hy
     ·exact yk hx i (by omega)
    ·cases h
   ·cases h
  ·cases h
noncomputable def Ae(st:St)(dst:Option Nat)(kr:RO->Option cV)(v:V)(Δ:List (Nat×aa)):Option cV:=
 iE st.env dst v fun e=>og st.o Δ fun ob=>Nat.fc (st.nx+1) fun n=>kr (.ok ⟨e,ob,n⟩)
noncomputable def yl(x:Operand)(str:Bool)(P:Program)(_:Nat->FD)(_:lD P)(_:cC)(st:St)(o:bz)(kr:RO->Option cV):Option cV:=
 match kH st.o.get (st.S.ev x)with
 |some (id,l)=>match str with
  |true=>none
  |false=>match l with
   |[]=>Ae st o.dst kr (.bJ [.d (.bool false)]) []
   |_=>HT (fun i=>match l[i]? with
    |some (k,x)=>Ae st o.dst kr (.bJ [.d (.bool true), .d k, .d x]) [(id, .lS (l.eraseIdx i) (some (k,x)))]
    |none=>none) l.length
 |none=>pO P st o kr
noncomputable def OW(op:Op):(P:Program)->(Nat->FD)->lD P->cC->St->bz->(RO->Option cV)->Option cV:=
 match op with
 | .call c=>yj c
 | .panic x=>Db x
 | .next x str=>yl x str
 |_=>Gj
noncomputable def HU(P:Program)(bg:Nat->FD)(md:lD P)(rec:cC)(st:St)(o:bz)(kr:RO->Option cV):Option cV:=OW o.op P bg md rec st o kr
noncomputable def L3(next:St->Option cV)(kr:RO->Option cV):RO->Option cV:=fun r=>match r with| .ok st=>next st| .ba v st=>kr (.ba v st)
noncomputable def qK(P:Program)(bg:Nat->FD)(md:lD P)(rec:cC)(kr:RO->Option cV):List bz->St->Option cV
 |[],st=>kr (.ok st)
 |o::l,st=>match(match o.gd with
   |none=>some true
   |some (d,want)=>match st.env.get d with
    | .d (.bool b)=>some (b==want)
    | .bJ []=>some false
    |_=>none)with
  |some true=>HU P bg md rec st o (L3 (qK P bg md rec kr l) kr)
  |some false=>iE st.env o.dst (.bJ []) fun e=>Nat.fc (st.nx+1) fun n=>qK P bg md rec kr l ⟨e,st.o,n⟩
  |none=>none
section
variable {P:Program}{bg:Nat->FD}{md:lD P}
noncomputable def db(P:Program)(rec:cC):Prop:=∀b rd n ic st k a,rec b rd n ic st k=some a->∀Q:eY->S->Prop,(∀e st',k e st'=some a->Q e st'.S)->m9 P n b rd ic Q st.S
theorem ng{rs:List ResultVar}{st:St}{kc:CR->Option cV}{a:cV}(h:wv P rs st kc=some a){K X:V->(Nat->aa)->Nat->Prop}(hr:∀r,kc r=some a->r.to K X):iB P rs K X .ret st.S:=by
 unfold wv at h
 unfold iB
 split at h
 ·rename_i v hv;simp only[hv];exact hr _ h
 ·rename_i vs hv hn
  simp only[hn]
  exact hr _ h
 ·cases h
theorem jm(aO:P.follows .mixedOrders=true)(bI:∀g,(bg g).Ok P g){rec:cC}(a7:db P rec){g:Nat}{args:List V}{o:Tr aa}{nx:Nat}{kc:CR->Option cV}{a:cV}(h:ye P bg rec g args o nx kc=some a){K X:V->(Nat->aa)->Nat->Prop}(hr:∀r,kc r=some a->r.to K X):
 jx P g args o.get nx K X:=by
 have a8:=bI g
 unfold ye at h
 split at h
 ·rename_i n ic rs ht
  rw[ht]at a8
  split at h
  ·rename_i hl
   refine jx.n3 aO a8 hl ?_
   refine a7 _ _ _ _ _ _ _ h _ fun e st he=> ?_
   unfold BF at he
   cases e with
   |normal=>exact ng he hr
   |ret=>exact ng he hr
   |ba v=>exact hr _ he
   |exit j=>cases he
  ·cases h
 ·rename_i n jE fW g' t fk rs m r0 r1 sJ ht
  rw[ht]at a8
  split at h
  ·rename_i hl
   refine jx.x8 aO a8.1 a8.2 hl (a7 _ _ _ _ _ _ _ h _ fun e s1 he=> ?_)
   unfold u1 at he
   cases e with
   |normal=>
    have hb:m9 P n s1.nx false fW (ub P m r0 r1 sJ (fk.map s1.S.ev) rs K X) ⟨aV s1.env.get t (.func (.func g') [] (fk.map s1.S.ev)),s1.o.get,s1.nx⟩:=by
     have:=a7 _ _ _ _ _ _ _ he (ub P m r0 r1 sJ (fk.map s1.S.ev) rs K X) (fun e s3 EF=>by
      unfold yd at EF
      split at EF
      ·rename_i u hu
       split at EF
       ·rename_i mO
        have OX:wo P m r0 r1 sJ (fk.map s1.S.ev) u s3.o.get s3.nx fun o nx=>iB P rs K X .ret ⟨s3.env.get,o,nx⟩:=by
         refine⟨mO,a7 _ _ _ _ _ _ _ EF _ fun e4 s4 HV=> ?_⟩
         unfold yc at HV
         cases e4 with
         |normal=>exact ng (st:=⟨s3.env,s4.o,s4.nx⟩) HV hr
         |ret=>exact ng (st:=⟨s3.env,s4.o,s4.nx⟩) HV hr
         |_=>cases HV
        cases e<;>simp only[Gf,Option.some.injEq,reduceCtorEq]at hu<;>subst hu<;>exact OX
       ·cases EF
      ·cases EF)
     simp only[St.S,Tr.eQ]at this
     exact this
    exact hb
   |_=>cases he
  ·cases h
 ·rename_i ht
  rw[ht]at a8
  split at h
  ·split at h
   ·rename_i kt vt l ho
    have h2:=hr _ h
    simp only[CR.to,Tr.eQ]at h2
    exact jx.C2 a8 ho h2
   ·cases h
  ·cases h
 ·cases h
theorem ym{r:CR}{out:R}(ho:u3 r=some out):r.to (fun v o _=>∃vs rs,v=(match vs with|[v]=>v|vs=> .bJ vs)/\bt o vs=some rs/\out= .ret rs) (fun v o _=>∃x,dk o v=some x/\out= .ba x):=by
 unfold u3 at ho
 split at ho
 ·rename_i v o nx
  split at ho
  ·cases ho
  ·rename_i hv
   split at ho
   ·rename_i rs ER
    injection ho with ho;subst ho
    refine⟨oh v,rs, ?_,ER,rfl⟩
    cases v with
    |bJ vs=>
     match vs,hv with
     |[],_=>rfl
     |[x],hv=>exact absurd rfl (hv x)
     |_::_::_,_=>rfl
    |_=>rfl
   ·cases ho
 ·split at ho
  ·rename_i x hx
   injection ho with ho;subst ho
   exact⟨x,hx,rfl⟩
  ·cases ho
theorem sN(aO:P.follows .mixedOrders=true)(bI:∀g,(bg g).Ok P g){rec:cC}(a7:db P rec){g:Nat}{ds:List D}{out:R}(h:ye P bg rec g (ds.map .d) (.e fun _=> .no) 0 sM=some (.r out)):cR P g ds out:=by
 refine cR.kb (jm aO bI a7 h fun r hr=> ?_)
 obtain⟨x,hx,he⟩:=yf hr
 injection he with he;subst he
 exact ym hx
theorem qL(aO:P.follows .mixedOrders=true)(bI:∀g,(bg g).Ok P g){rec:cC}(a7:db P rec){g:Nat}{ds:List D}{out:R}(h:Ad P bg md rec g ds=some out):cR P g ds out:=by
 unfold Ad at h
 split at h
 ·rename_i OY ho
  injection h with h;subst h
  exact md.ok _ _ _ ho
 ·split at h
  ·rename_i x hr;injection h with h;subst h;exact sN aO bI a7 hr
  ·cases h
theorem sO(aO:P.follows .mixedOrders=true)(bI:∀g,(bg g).Ok P g){rec:cC}(a7:db P rec){g:Nat}{args:List V}{o:Tr aa}{nx:Nat}{kc:CR->Option cV}{a:cV}(h:u4 P bg md rec g args o nx kc=some a){K X:V->(Nat->aa)->Nat->Prop}(hr:∀r,kc r=some a->r.to K X):
 A5 P g args o.get nx K X:=by
 unfold u4 at h
 split at h
 ·rename_i ds Pw dp
  split at h
  ·rename_i out yn
   have hP:=qL aO bI a7 yn
   refine .inl ⟨ds,dp,out,hP, ?_⟩
   unfold BG at h
   split at h
   ·rename_i hf
    refine .inr (.inl ⟨hf, ?_⟩)
    cases out<;>exact hr _ h
   ·split at h
    ·rename_i hf
     refine .inr (.inr ⟨hf, ?_⟩)
     rw[<- fP]
     cases out<;>exact hr _ h
    ·refine .inl ?_
     rw[<- fP]
     cases out<;>exact hr _ h
  ·cases h
 ·exact .inr (jm aO bI a7 h hr)
theorem Af(aO:P.follows .mixedOrders=true){rec:cC}(a7:db P rec){id:Nat}{args:List V}{o:Tr aa}{nx:Nat}{kc:CR->Option cV}{a:cV}(h:Da P rec id args o nx kc=some a){K X:V->(Nat->aa)->Nat->Prop}(hr:∀r,kc r=some a->r.to K X):
 dF P id args o.get nx K X:=by
 unfold Da at h
 split at h
 ·rename_i nf n env ps jE fW st pd ho
  split at h
  ·rename_i hc
   obtain⟨rfl,br,FV,hl⟩:=hc
   refine dF.n3 aO ho br FV hl ?_
   refine a7 _ _ _ _ _ _ _ h _ fun e s1 he=> ?_
   unfold u5 at he
   cases e with
   |normal=>
    simp only at he
    split at he
    ·rename_i nf m en p c d pd gI
     refine⟨nf,m,en,p,c,d,pd,gI, ?_⟩
     have:=a7 _ _ _ _ _ _ _ he (ua id K X) (fun e s2 h2=>by
      unfold yi at h2
      split at h2
      ·exact hr _ h2
      ·rename_i AZ
       split at h2
       ·rename_i FP m' Jy p' c' d' st' pd' Dc
        cases e with
        |ba v=>cases h2
        |normal=>have h3:=hr _ h2;simp only[CR.to,Tr.eQ]at h3;exact⟨FP,m',Jy,p',c',d',st',pd',Dc,h3⟩
        |ret=>have h3:=hr _ h2;simp only[CR.to,Tr.eQ]at h3;exact⟨FP,m',Jy,p',c',d',st',pd',Dc,h3⟩
        |exit j=>have h3:=hr _ h2;simp only[CR.to,Tr.eQ]at h3;exact⟨FP,m',Jy,p',c',d',st',pd',Dc,h3⟩
       ·cases h2)
     simp only[St.S,Tr.eQ]at this
     exact this
    ·cases he
   |ba v=>exact hr _ he
   |_=>cases he
  ·cases h
 ·cases h
theorem oi{st:St}{o:bz}{kr:RO->Option cV}{a:cV}(h:pO P st o kr=some a){K:S->Prop}{X:V->S->Prop}(hr:∀r,kr r=some a->r.to K X):match ei P st.S st.S.nx o.op with
 |some (v,Δ,_)=>K ⟨aJ st.S.env o.dst v,put st.S.o Δ,st.S.nx+1⟩
 |none=>False:=by
 unfold pO at h
 split at h
 ·rename_i v Δ rd he
  have he:=u0 he
  simp only[fB,jl,Nat.bZ]at h
  have hr:=hr _ h
  simp only[RO.to,St.S,cZ,fP]at hr
  have dN:ei P st.S st.S.nx o.op=some (v,Δ,rd):=he
  simp only[dN]
  exact hr
 ·cases h
theorem u6{st:St}{dst:Option Nat}{kr:RO->Option cV}{v:V}{Δ:List (Nat×aa)}{a:cV}(h:Ae st dst kr v Δ=some a){K:S->Prop}{X:V->S->Prop}(hr:∀r,kr r=some a->r.to K X):K ⟨aJ st.S.env dst v,put st.S.o Δ,st.S.nx+1⟩:=by
 unfold Ae at h
 simp only[fB,jl,Nat.bZ]at h
 have hr:=hr _ h
 simp only[RO.to,St.S,cZ,fP]at hr
 exact hr
theorem Dd(aO:P.follows .mixedOrders=true)(bI:∀g,(bg g).Ok P g){rec:cC}(a7:db P rec){st:St}{o:bz}{kr:RO->Option cV}{a:cV}(h:HU P bg md rec st o kr=some a){K:S->Prop}{X:V->S->Prop}(hr:∀r,kr r=some a->r.to K X):wE P st.S o X K:=by
 have cr:∀r,Gi st o.dst kr r=some a->r.to (fun v o' nx'=>K ⟨aJ st.S.env o.dst v,o',nx'⟩) (fun v o' nx'=>X v ⟨st.S.env,o',nx'⟩):=by
  intro r hx
  unfold Gi at hx
  split at hx
  ·simp only[fB,Nat.bZ]at hx
   have hr:=hr _ hx
   simp only[RO.to,St.S,cZ]at hr
   exact hr
  ·exact hr _ hx
 unfold HU at h
 unfold wE
 cases cw:o.op
 case call c=>
  rw[cw]at h
  have h:yj c P bg md rec st o kr=some a:=h
  unfold yj at h
  cases hf:c.callee
  case value f=>
   simp only[hf]at h|-
   split at h
   ·rename_i g first cap hv
    simp only[hv]
    have:=sO aO bI a7 h cr
    rcases this with⟨ds,dp,hP⟩|hC
    ·have De:bt st.S.o (first++List.map st.S.ev c.args.toList++cap)=some ds:=dp
     simp only[De]
     exact .inl hP
    ·split
     ·exact .inr (.inl hC)
     ·exact .inl hC
   ·rename_i id hv
    simp only[hv]
    exact Af aO a7 h cr
   ·cases h
  case invoke r m=>
   simp only[hf]at h|-
   split at h
   ·rename_i g y hv
    simp only[hv]
    exact sO aO bI a7 h cr
   ·cases h
  all_goals
   simp only[hf]at h|-
   have:=oi h hr
   rw[cw]at this
   exact this
 case panic x=>
  rw[cw]at h
  have h:Db x P bg md rec st o kr=some a:=h
  unfold Db at h
  split at h
  ·rename_i hv;simp only[hv];exact hr _ h
  ·rename_i hv;simp only[hv];exact hr _ h
  ·cases h
 case next x str=>
  rw[cw]at h
  have h:yl x str P bg md rec st o kr=some a:=h
  unfold yl at h
  have hl:kH st.S.o (st.S.ev x)=kH st.o.get (st.S.ev x):=rfl
  simp only[hl]
  split at h
  ·rename_i id l ag
   simp only[ag]
   cases str with
   |true=>cases h
   |false=>
    refine⟨rfl,fun e=> ?_,fun i k y e=> ?_⟩
    ·subst e
     exact u6 h hr
    ·cases l with
     |nil=>simp at e
     |cons p l=>
      have:=yk h i (List.getElem?_eq_some_iff.1 e).1
      rw[e]at this
      exact u6 this hr
  ·rename_i ag
   simp only[ag]
   have:=oi h hr
   rw[cw]at this
   exact this
 all_goals
  have h2:pO P st o kr=some a:=by rw[cw]at h;exact h
  have:=oi h2 hr
  rw[cw]at this
  exact this
theorem nh(aO:P.follows .mixedOrders=true)(bI:∀g,(bg g).Ok P g){rec:cC}(a7:db P rec){kr:RO->Option cV}{a:cV}{K:S->Prop}{X:V->S->Prop}(hr:∀r,kr r=some a->r.to K X):∀ (l:List bz) (st:St),qK P bg md rec kr l st=some a->kf P X K l st.S
 |[],st,h=>hr (.ok st) h
 |o::l,st,h=>by
  simp only[qK,fB,Nat.bZ]at h
  simp only[kf]
  have op:HU P bg md rec st o (L3 (qK P bg md rec kr l) kr)=some a->wE P st.S o X (kf P X K l):=by
   intro h
   refine Dd aO bI a7 h fun r L4=> ?_
   cases r with
   |ok Df=>exact nh aO bI a7 hr l Df L4
   |ba v Df=>exact hr (.ba v Df) L4
  have sk:qK P bg md rec kr l ⟨mF st.env o.dst (.bJ []),st.o,st.nx+1⟩=some a->kf P X K l ⟨aJ st.S.env o.dst (.bJ []),st.S.o,st.S.nx+1⟩:=by
   intro h
   have:=nh aO bI a7 hr l _ h
   simp only[St.S,cZ]at this
   exact this
  cases hg:o.gd with
  |none=>simp only[hg]at h;exact op h
  |some p=>
   obtain⟨d,want⟩:=p
   simp only[hg]at h
   have he:st.S.env d=st.env.get d:=rfl
   simp only[he]
   cases hv:st.env.get d with
   |d x=>
    cases x with
    |bool b=>
     simp only[hv]at h|-
     by_cases e:b=want
     ·subst e
      simp only[beq_self_eq_true]at h
      rw[if_pos rfl];exact op h
     ·have:(b==want)=false:=by simpa using e
      rw[this]at h
      rw[if_neg e];exact sk h
    |_=>simp[hv]at h
   |bJ vs=>
    cases vs with
    |nil=>simp only[hv]at h|-;exact sk h
    |cons a bu=>simp[hv]at h
   |_=>simp[hv]at h
end
end Go.Proofs.YtbmnikpknlkbkaaGreat
