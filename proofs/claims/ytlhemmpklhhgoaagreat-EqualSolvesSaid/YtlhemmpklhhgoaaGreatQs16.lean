/-
  A PART OF THE PROOF. Conditions: none.
-/
import Derived.Test.YtlhemmpklhhgoaaGreatQs15
set_option linter.unusedSimpArgs false
set_option linter.unusedVariables false
section
namespace Go.Proofs.YtlhemmpklhhgoaaGreat
open Go.Shelf
def Cq:Go.Shelf.Ren:=⟨fun|189=>135|125=>163|257=>162|128=>184|129=>185|294=>175|295=>176|296=>177|297=>178|298=>179|299=>180|216=>181|300=>182|301=>183|328=>188|329=>189|330=>190|331=>191|332=>192|215=>193|343=>201|n=>n,fun|28=>142|3=>3|46=>193|0=>0|51=>205|53=>207|4=>4|183=>197|182=>196|131=>202|5=>5|9=>9|218=>214|222=>218|228=>220|229=>221|n=>n,fun|n=>n⟩
theorem Gc:Go.Proofs.Lays.n189 Tryz.prog Cq:={
 mixed:=ah
 f125:=Tryz.func163.trans (congrArg some ah)
 f128:=Tryz.func184.trans (congrArg some ah)
 f129:=Tryz.func185.trans (congrArg some ah)
 f189:=Tryz.func135.trans (congrArg some ah)
 f215:=Tryz.func193.trans (congrArg some ah)
 f216:=Tryz.func181.trans (congrArg some ah)
 f257:=Tryz.func162.trans (congrArg some ah)
 f294:=Tryz.func175.trans (congrArg some ah)
 f295:=Tryz.func176.trans (congrArg some ah)
 f296:=Tryz.func177.trans (congrArg some ah)
 f297:=Tryz.func178.trans (congrArg some ah)
 f298:=Tryz.func179.trans (congrArg some ah)
 f299:=Tryz.func180.trans (congrArg some ah)
 f300:=Tryz.func182.trans (congrArg some ah)
 f301:=Tryz.func183.trans (congrArg some ah)
 f328:=Tryz.func188.trans (congrArg some ah)
 f329:=Tryz.func189.trans (congrArg some ah)
 f330:=Tryz.func190.trans (congrArg some ah)
 f331:=Tryz.func191.trans (congrArg some ah)
 f332:=Tryz.func192.trans (congrArg some ah)
 f343:=Tryz.func201.trans (congrArg some ah)
 t0:=Tryz.underlying0
 a0:=Tryz.isAgg0
 z0:=Tryz.sizeOf0
 v0:=Tryz.zeroValue0
 t3:=Tryz.underlying3
 a3:=Tryz.isAgg3
 z3:=Tryz.sizeOf3
 v3:=Tryz.zeroValue3
 t4:=Tryz.underlying4
 a4:=Tryz.isAgg4
 z4:=Tryz.sizeOf4
 v4:=Tryz.zeroValue4
 t5:=Tryz.underlying5
 a5:=Tryz.isAgg5
 z5:=Tryz.sizeOf5
 v5:=Tryz.zeroValue5
 t9:=Tryz.underlying9
 a9:=Tryz.isAgg9
 z9:=Tryz.sizeOf9
 v9:=Tryz.zeroValue9
 t28:=Tryz.underlying142
 a28:=Tryz.isAgg142
 z28:=Tryz.sizeOf142
 v28:=Tryz.zeroValue142
 t46:=Tryz.underlying193
 a46:=Tryz.isAgg193
 z46:=Tryz.sizeOf193
 v46:=Tryz.zeroValue193
 t51:=Tryz.underlying205
 a51:=Tryz.isAgg205
 z51:=Tryz.sizeOf205
 v51:=Tryz.zeroValue205
 t53:=Tryz.underlying207
 a53:=Tryz.isAgg207
 z53:=Tryz.sizeOf207
 v53:=Tryz.zeroValue207
 t131:=Tryz.underlying202
 a131:=Tryz.isAgg202
 z131:=Tryz.sizeOf202
 v131:=Tryz.zeroValue202
 t182:=Tryz.underlying196
 a182:=Tryz.isAgg196
 z182:=Tryz.sizeOf196
 v182:=Tryz.zeroValue196
 t183:=Tryz.underlying197
 a183:=Tryz.isAgg197
 z183:=Tryz.sizeOf197
 v183:=Tryz.zeroValue197
 t218:=Tryz.underlying214
 a218:=Tryz.isAgg214
 z218:=Tryz.sizeOf214
 v218:=Tryz.zeroValue214
 t222:=Tryz.underlying218
 a222:=Tryz.isAgg218
 z222:=Tryz.sizeOf218
 v222:=Tryz.zeroValue218
 t228:=Tryz.underlying220
 a228:=Tryz.isAgg220
 z228:=Tryz.sizeOf220
 v228:=Tryz.zeroValue220
 t229:=Tryz.underlying221
 a229:=Tryz.isAgg221
 z229:=Tryz.sizeOf221
 v229:=Tryz.zeroValue221}
theorem HZ:Co Tryz.prog 135:=fun dT off cap zs w h1 h2 h3=>Any.slices_Sort_int Gc dT off cap zs w h1 h2 h3
theorem H3:∀ (p:Option Addr) (cap:Nat) (w:World),Calls Tryz.prog 135 #[.slice p 0 cap] w fun e w'=>e= .returned (.tuple #[])/\w'=w:=fun p cap w=>Any.slices_Sort_int_none Gc p cap w
theorem Cr:Enters Tryz.prog 135:=⟨_,Tryz.func135,ah,ah⟩
end Go.Proofs.YtlhemmpklhhgoaaGreat
end
namespace Go.Proofs.YtlhemmpklhhgoaaGreat
end Go.Proofs.YtlhemmpklhhgoaaGreat
namespace Go.Proofs.YtlhemmpklhhgoaaGreat
theorem Ek{o:Nat->ad}{nx:Nat}{Δ:List (Nat×ad)}(h:∀x∈Δ,x.1<nx):(hp o nx).put Δ=hp (put o Δ) nx:=by
 simp only[Hp.put,hp]
 congr 1
 funext j
 simp only[List.mem_map,eq_iff_iff]
 exact⟨fun h2=>h2.elim (fun h=>h) fun⟨x,hx,e⟩=>e ▸ h x hx, .inl⟩
theorem cI.El {P:Program}{g:FuncId}{args:List V}{o:Nat->ad}{nx id:Nat}{kt vt:TypeId}{l:List (D×D)}{K X:V->(Nat->ad)->Nat->Prop}(ho:o id= .map kt vt l)(au:id<nx)
 (h:cI P g args (az o id (.bU l)) nx K X):cI P g args o nx K X:=by
 refine⟨h.1,fun M φ w vals hH hd=> ?_⟩
 obtain⟨h1,h2⟩:=yN hH (id:=id) au ho
 have gk:(hp o nx).put [(id, .bU l)]=hp (az o id (.bU l)) nx:=Ek (fun x hx=>by simp at hx;subst hx;exact au)
 rw[gk]at h1 h2
 have hB:∀b, ¬ao M φ (hp o nx) b-> ¬ao M φ (hp (az o id (.bU l)) nx) b:=by
  rintro b hn (hb|⟨j,hl,hb⟩)
  ·exact hn (.inl hb)
  ·refine hn (.inr ⟨j, ?_,hb⟩)
   by_cases e:j=id
   ·subst e;show(o j).live=true;rw[ho];rfl
   ·have hl:(az o id (.bU l) j).live=true:=hl
    rw[ae _ _ _ _ e]at hl;exact hl
 refine(h.2 M φ w vals h1 (V.eX (H:=hp o nx) hB _ _ (fun j hj=>⟨?_,rfl,V.eK _ _ hd j hj⟩) hd)).mono ?_
 ·show kQ (az o id (.bU l) j) (o j)
  by_cases e:j=id
  ·subst e;rw[ab,ho];exact⟨fun _=>rfl,fun e he=>by cases he⟩
  ·rw[ae _ _ _ _ e];exact kQ.rfl' rfl
 ·rintro e w' ⟨aE,o',nx',v,k1,k2,k3⟩
  exact⟨aE,o',nx',v,k1,h2.trans k2,k3⟩
theorem cI.seal {P:Program}{g:FuncId}{args:List V}{o:Nat->ad}{nx:Nat}{K X:V->(Nat->ad)->Nat->Prop}
 (h:cI P g args o nx (fun v o' nx'=>∃x,dU o' v=some x/\K (.d x) (put o' (bL o' v.ids)) nx') X):cI P g args o nx K X:=by
 refine⟨h.1,fun M φ w vals hH hd=>(h.2 M φ w vals hH hd).mono ?_⟩
 rintro e w' ⟨aE,o',nx',v,k1,k2,k3⟩
 cases e with
 |returned val=>
  obtain⟨k4,x,k5,k6⟩:=k3
  have hu:=fun id au=>cK v val k4 id au
  obtain⟨f1,f2,f3,f4,f5⟩:=cQ (H:=hp o' nx') k1 v.ids hu
  have gk:(hp o' nx').put (bL o' v.ids)=hp (put o' (bL o' v.ids)) nx':=Ek (fun y hy=>by
   simp only[bL,List.mem_map]at hy
   obtain⟨id,au,rfl⟩:=hy
   exact hu id au)
  have f1':=f1;have f2':=f2
  rw[show bL (hp o' nx').o v.ids=bL o' v.ids from rfl,gk]at f1' f2'
  have UM:∀k,cD aE ((hp o' nx').put (bL o' v.ids)) k->cD aE (hp o' nx') k:=by
   rintro k ⟨id,g1,g2⟩
   by_cases au:id∈v.ids
   ·have:=f3 id au
    rw[show((hp o' nx').put (bL o' v.ids)).o id=_ from this]at g1
    refine⟨id, ?_,g2⟩
    revert g1
    cases(hp o' nx').o id<;>simp[ad.fz,ad.live]
   ·have:=f4 id au
    rw[show((hp o' nx').put (bL o' v.ids)).o id=_ from this]at g1
    exact⟨id,g1,g2⟩
  have h4:V.den (ao M aE ((hp o' nx').put (bL o' v.ids))) aE ((hp o' nx').put (bL o' v.ids)) w' v val:=
   V.lu (H:=hp o' nx') (fun k h h'=>h (h'.imp id (UM k))) v val (fun id au=>by
     have dY:(hp o' nx').us id:=(V.ly v val k4) id au
     refine⟨?_,rfl,(f5 id).2 dY⟩
     by_cases hm:id∈v.ids
     ·rw[show((hp o' nx').put (bL o' v.ids)).o id=_ from f3 id hm];exact kQ.fz _
     ·rw[show((hp o' nx').put (bL o' v.ids)).o id=_ from f4 id hm];exact kQ.rfl' rfl) k4
  have h5:=eT f1 (o:=o') v x val (fun id au=>f3 id au) k5 h4
  rw[show(hp o' nx').put (bL (hp o' nx').o v.ids)=hp (put o' (bL o' v.ids)) nx' from gk]at h5
  exact⟨aE,_,nx', .d x,f1',k2.trans f2',h5,k6⟩
 |panicked ch=>exact⟨aE,o',nx',v,k1,k2,k3⟩
 |outgrown=>exact k3.elim
section
section
variable {B:Nat->Prop}{w:World}
end
end
@[reducible] def mpD (m:List (Int×D)):D:= .mp ((enc (D.int .i64) m).map (·.1)) ((enc (D.int .i64) m).map (·.2))
theorem oe(m:List (Int×D)):(((enc (D.int .i64) m).map (·.1)).zip ((enc (D.int .i64) m).map (·.2)))=enc (D.int .i64) m:=NU _ m
theorem H4:∀ {l:List Int},Ej l->l.Nodup:=by
 intro l h
 exact List.Pairwise.imp (fun h=>af) h
theorem K4(a b:List Tm)(ha:a.length<=9223372036854775807)(hb:b.length<=9223372036854775807)(g:Nat)(h:∀x∈a,∀y∈b,a8 Tryz.prog g [x.d,y.d] (.ret [.bool (fX x y)]))(o:Nat->ad)(nx:Nat)(hg:Good o nx)(K X:V->(Nat->ad)->Nat->Prop)
 (hK:∀o' nx',nx<=nx'->Good o' nx'->(∀j,j<nx->o' j=o j)->K (.d (.bool (a.length==b.length&&ij a b))) o' nx'):
 cI Tryz.prog 133 [.d (.sl (a.map Tm.d)), .d (.sl (b.map Tm.d)), .func (.func g) [] []] o nx K X:=by
 refine cI.aI mix QM aF ?_
 rw[Ue]
 refine kR ?_
 refine ak (fun h1=> ?_) (fun h1=> ?_)
 ·refine bW ?_
  have:(a.length==b.length&&ij a b)=false:=by
   have:(a.length==b.length)=false:=by
    rw[Bool.eq_false_iff];intro h
    simp at h;simp[h]at h1
   rw[this];rfl
  rw[this]at hK
  exact hK _ _ af (hg.mono af) (fun _ _=>rfl)
 ·have hl:a.length=b.length:=by simp at h1;omega
  have IA:(a.length==b.length)=true:=by simpa using hl
  rw[IA,Bool.true_and]at hK
  refine kR ?_
  refine aB (fun k:Nat=>⟨aX [.d (.sl (a.map Tm.d)), .d (.sl (b.map Tm.d)), .func (.func g) [] [], .aa, .aa, .aa, .aa, .aa, .aa, .aa, .aa, .aa, .aa, .aa, .aa, .d (.sl (a.map Tm.d)), .d (.i a.length), .d (.i k)],o,nx⟩)
   (fun k=>k<=a.length/\∀i,i<k->∀x y,a[i]? =some x->b[i]? =some y->fX x y=true) (fun k=>a.length - k) 0 ⟨Nat.zero_le _,fun i h=>af⟩ (bA.bJ _ (Nat.le_refl _) af hg (fun _ _=>rfl) ?_) (fun k hk=> ?_)
  ·exact dp
  refine bW ?_
  refine ak (fun h2=> ?_) (fun h2=> ?_)
  ·simp at h2
   obtain⟨x,hx⟩:=ay h2
   obtain⟨y,hy⟩:=ay (l:=b) (k:=k) af
   refine Mp hx hy ?_
   refine aw (h x (List.mem_of_getElem? hx) y (List.mem_of_getElem? hy)) rfl ?_
   refine bW ?_
   refine ak (fun h3=> ?_) (fun h3=> ?_)
   ·refine bW ?_
    simp at h3
    have:ij a b=false:=by
     rw[Bool.eq_false_iff];intro h4
     have:=(il _ _ hl).1 h4 k x y hx hy
     rw[h3]at this;cases this
    rw[this]at hK
    refine hK _ _ af ?_ (fun j hj=>by(repeat(first|rfl|rw[ab]|rw[ae _ _ _ _ (by omega)])))
    exact dI
   ·refine bW ?_
    simp at h3
    refine aj (k+1) ⟨h2,fun i hi u v hu hv=> ?_⟩ af (bA.bJ _ (Nat.le_refl _) af hg (fun j hj=>by(repeat(first|rfl|rw[ab]|rw[ae _ _ _ _ (by omega)]))) ?_)
    ·by_cases e:i=k
     ·subst e
      rw[hx]at hu;rw[hy]at hv
      exact OQ
     ·exact hk.2 i af u v hu hv
    ·exact dp
  ·refine bW ?_
   simp at h2
   have:ij a b=true:=(il _ _ hl).2 fun i x y hx hy=>hk.2 i (by have:=(List.getElem?_eq_some_iff.1 hx).1;omega) x y hx hy
   rw[this]at hK
   exact hK _ _ af (hg.mono af) (fun _ _=>rfl)
theorem K5(n:Int):a8 Tryz.prog 80 [.i n] (.ret [(Tm.mk 1 n []).d]):=by
 refine a8.aI mix aao aF ?_
 rw[c80]
 refine bW ?_
 rw[Tm.DY]
 rfl
def lk:List (Int×Int)->Int->Option Int
 |[],_=>none
 |p::m,v=>if p.1=v then some p.2 else lk m v
abbrev Keys(m:List (Int×Int)):Prop:=(m.map (·.1)).Nodup
def ints(m:List (Int×Int)):List (Int×D):=m.map fun p=>(p.1,D.i p.2)
def bN:List (Int×Tm)->Int->Option Tm
 |[],_=>none
 |p::l,v=>if p.1=v then some p.2 else bN l v
mutual
def Tm.wf:Tm->Prop
 | .mk op _ kids=>(op=1->kids=[])/\(op=8->kids.length=2)/\Tm.wfs kids
def Tm.wfs:List Tm->Prop
 |[]=>True
 |k::l=>k.wf/\Tm.wfs l
end
theorem Tm.Gd:∀l:List Tm,Tm.wfs l↔∀k∈l,k.wf
 |[]=>by simp[Tm.wfs]
 |k::l=>by simp[Tm.wfs,Tm.Gd l]
theorem Tm.Em (t:Tm):t.wf↔(t.op=1->t.kids=[])/\(t.op=8->t.kids.length=2)/\∀k∈t.kids,k.wf:=by cases t;simp[Tm.wf,Tm.Gd,Tm.op,Tm.kids]
theorem U3{t:Tm}(h:t.kids.length=2):∃a b,t.kids=[a,b]:=by
 match hk:t.kids with
 |[a,b]=>exact⟨a,b,rfl⟩
 |[]=>rw[hk]at h;cases h
 |[_]=>rw[hk]at h;cases h
 |_::_::_::_=>rw[hk]at h;simp at h
theorem jJ{b:List (Int×Tm)}{v:Int}:bN b v=none↔v∉b.map (·.1):=by
 induction b with
 |nil=>simp[bN]
 |cons p l ih=>
  simp only[bN,List.map_cons,List.mem_cons,not_or]
  split
  ·rename_i h;simp[h]
  ·rename_i h;rw[ih];exact⟨fun h2=>⟨fun e=>h e.symm,h2⟩,fun h2=>h2.2⟩
theorem cJ{b:List (Int×Tm)}{v:Int}{x:Tm}(h:bN b v=some x):(v,x)∈b:=by
 induction b with
 |nil=>cases h
 |cons p l ih=>
  simp only[bN]at h
  split at h
  ·rename_i e;injection h with h;subst h;subst e;exact List.mem_cons_self ..
  ·exact List.mem_cons_of_mem _ (ih h)
theorem jK{b:List (Int×Tm)}(hb:(b.map (·.1)).Nodup){v:Int}{x:Tm}:bN b v=some x↔(v,x)∈b:=by
 refine⟨cJ,fun h=> ?_⟩
 induction b with
 |nil=>cases h
 |cons p l ih=>
  rw[List.map_cons,List.nodup_cons]at hb
  simp only[bN]
  rcases List.mem_cons.1 h with e|h
  ·subst e;simp
  ·rw[if_neg (fun e=>hb.1 (by rw[e];exact List.mem_map.2 ⟨_,h,rfl⟩)),ih hb.2 h]
def Cs(b:Bool)(x:Tm×Int):Bool:=b&&x.1.op !=1
def Rq(t:Tm):Bool:=(pre t 1).all fun x=>x.1.op !=1
theorem th:∀ (l:List (Tm×Int)) (b:Bool),(aK (wD (fun _=>none) Cs) b l).1=(b&&l.all fun x=>x.1.op !=1)
 |[],b=>by simp[aK]
 |x::l,b=>by
  have e1:wD (fun _=>(none:Option jR)) Cs b x=(Cs b x,true):=rfl
  rw[aK,e1]
  simp only[if_true]
  rw[th l,Cs,List.all_cons,Bool.and_assoc]
theorem En(s:aD)(hs:s.Fits)(t:Tm)(ht:t.Fin):a8 Tryz.prog 129 [s.d,t.d] (.ret [.bool (jH s [t]&&nF t), .bool (jH s [t]&&nF t&&Rq t), .i (mD (jH s [t]))]):=by
 refine a8.aI mix QK aF ?_
 rw[Uc]
 refine bW ?_
 refine aw (NX s hs [t] aF (fun x hx=>by simp at hx;subst hx;exact ht)) rfl ?_
 cases h1:jH s [t]with
 |false=>simp+contextual (disch:=first|omega|simp only[go_sem,false_implies]) only[go_sem,wrap64,if_pos,and_self];simp[mD]
 |true=>
  refine kR ?_
  refine dD (vM t _ _ _ _ ?_)
  refine kR ?_
  refine nE (σ:=Bool) t ht.fits ht.mC [.aa, .aa, .aa, .ptr 1 0, .aa, .aa, .aa, .ptr 10 0] ?_ bV rfl dI xg (ab _ _ _)
   (fun b=>az (az (az (az (az (fun _=> .no) 0 (.row s.row)) 1 (.row t.row)) 7 (.arr 0 33 3 [t.d])) 10 (.row [.d (.bool b)])) 13 (.row t.row)) (fun _=>none) Cs (fun _=>True) true trivial rfl (fun id au=> ?_) (fun _ _ _ _ _ _=>trivial) ?_ ?_
  ·exact IW
  ·rw[ug]
  ·intro L hL xa x hx s' h1 h2 o3 n3 hI hn ho K X ef
   simp only[pq]
   have hg:=hI.cm
   have q1:o3 10= .row [.d (.bool s')]:=hI.eq 10 af
   refine bW ?_
   refine nA hL (pd:=none) ?_ ?_
   ·(repeat(first|rfl|rw[ab]|rw[ae _ _ _ _ (by omega)]))
    exact ho
   refine pP q1 ?_
   refine ef _ _ _ .busy none af ⟨dI,af,fun id au=> ?_⟩ c6 (fun id h3 h4=>by(repeat(first|rfl|rw[ab]|rw[ae _ _ _ _ (by omega)])))
   by_cases e:id=10
   ·exact oV
   ·rw[ae _ _ _ _ e];(repeat(first|rfl|rw[ab]|rw[ae _ _ _ _ (by omega)]))
    rw[hI.eq id au]
    simp only[aH,e,if_false]
  ·intro o' n' hI
   have hf:=th (pre t 1) true
   rw[Bool.true_and]at hf
   rw[hf]at hI
   have q0:o' 1= .row t.row:=hI.eq 1 af
   have q1:o' 10= .row [.d (.bool (Rq t))]:=hI.eq 10 af
   simp only[qp]
   refine rk q0 q1 ?_
   refine aw (HT t ht) rfl ?_
   cases hv:nF t<;>(simp+contextual (disch:=first|omega|simp only[go_sem,false_implies]) only[go_sem,wrap64,if_pos,q0,q1];refine aN bV ?_;simp+contextual (disch:=first|omega|simp only[go_sem,false_implies]) only[go_sem,wrap64,if_pos,and_self];simp[mD])
theorem Ge{v op n:Int}(h:op≠8):∀ (l:List Tm) (i:Nat),zU v op n l i=l.any (fO v)
 |[],i=>rfl
 |k::l,i=>by
  have:(op==8)=false:=by simpa using h
  simp[zU,Ge h l,this]
theorem K6{s:aD}{t:Tm}(h:bw s t=true)(h1:t.op=1):t.kids=[]:=by
 simp[bw,h1]at h
 exact h.1
theorem Rr(l:List Int)(n:Int)(hl:l.length<=1000000):a8 Tryz.prog 151 [.sl (l.map .i), .i n] (.ret [.bool (l.contains n)]):=by
 refine a8.aI mix aa7 aF ?_
 rw[aa6]
 refine bW ?_
 refine aB (fun k:Nat=>⟨aX [.d (.sl (l.map .i)), .d (.i n), .aa, .aa, .aa, .d (.i k)],fun _=> .no,0⟩)
  (fun k=>k<=l.length/\(l.take k).contains n=false) (fun k=>l.length - k) 0 ⟨Nat.zero_le _,aF⟩ (bA.d0 _ ?_) (fun k hk=> ?_)
 ·exact dp
 refine bW ?_
 refine ak (fun h2=> ?_) (fun h2=> ?_)
 ·simp at h2
  obtain⟨x,hx⟩:=ay h2
  refine pP hx ?_
  refine ak (fun h3=> ?_) (fun h3=> ?_)
  ·refine bW ?_
   have:l.contains n=true:=by
    exact XS
   rw[this]
  ·refine bW ?_
   refine aj (k+1) ⟨h2, ?_⟩ af (bA.d0 _ ?_)
   ·have h4: ¬n=x:=fun e=>by subst e;simp at h3
    have h5:=hk.2
    rw[List.take_add_one,hx]
    rw[Bool.eq_false_iff]at h5|-
    intro hc;apply h5
    rw[List.contains_iff_mem]at hc|-
    rcases List.mem_append.1 hc with hc|hc
    ·exact hc
    ·simp at hc;exact absurd hc h4
   ·exact dp
 ·simp at h2
  refine bW ?_
  have:=hk.2
  rw[List.take_of_length_le (by omega)]at this
  rw[this]
theorem vX:∀ (l:List Int) (n:Int),∃k,k<=l.length/\(∀x∈l.take k,x<n)/\(∀x,l[k]? =some x-> ¬x<n)/\oC l n=if l[k]? =some n then l else l.take k++n::l.drop k
 |[],n=>⟨0,Nat.zero_le _,aF,aF,by simp[oC]⟩
 |x::l,n=>by
  obtain⟨k,h1,h2,h3,h4⟩:=vX l n
  by_cases hx:x<n
  ·refine⟨k+1,by simp;omega, ?_,by simpa using h3, ?_⟩
   ·intro y hy
    simp only[List.take_succ_cons,List.mem_cons]at hy
    rcases hy with rfl|hy
    ·exact hx
    ·exact h2 y hy
   ·simp only[oC,if_pos hx,h4,List.getElem?_cons_succ,List.take_succ_cons,List.drop_succ_cons]
    split<;>simp
  ·refine⟨0,Nat.zero_le _,aF,by simpa using hx, ?_⟩
   simp only[oC,if_neg hx]
   by_cases e:x=n
   ·subst e;simp
   ·simp[e]
theorem ab7(l:List Int)(n:Int)(hl:l.length<=1000000):a8 Tryz.prog 155 [.sl (l.map .i), .i n] (.ret [.sl ((oC l n).map .i)]):=by
 obtain⟨j,j1,j2,j3,j4⟩:=vX l n
 have tk:∀ (i:Nat) (l:List Int),List.take i (l.map D.i)=(l.take i).map D.i:=fun i l=>List.map_take.symm
 have dr:∀ (i:Nat) (l:List Int),List.drop i (l.map D.i)=(l.drop i).map D.i:=fun i l=>List.map_drop.symm
 have ap:∀ (a b:List Int),a.map D.i++[D.i n]++b.map D.i=(a++n::b).map D.i:=fun a b=>aF
 refine a8.aI mix aa9 aF ?_
 rw[aa8]
 refine bW ?_
 refine aB (fun k:Nat=>⟨aX [.d (.sl (l.map .i)), .d (.i n), .aa, .aa, .aa, .d (.i k)],fun _=> .no,0⟩)
  (fun k=>k<=j) (fun k=>l.length - k) 0 (Nat.zero_le _) (bA.d0 _ ?_) (fun k hk=> ?_)
 ·exact dp
 by_cases hkj:k=j
 ·subst hkj
  by_cases h5:k<l.length
  ·obtain⟨x,hx⟩:=ay h5
   have h6:=j3 x hx
   have pR:(k:Int)<l.length:=af
   refine IQ hx pR h6 ?_
   refine ak (fun h3=> ?_) (fun h3=> ?_)
   ·refine bW ?_
    have e:x=n:=by simpa using h3
    rw[j4,if_pos (by rw[hx,e])]
   ·have e: ¬x=n:=by simpa using h3
    rw[j4,if_neg (by rw[hx];simpa using e)]
    refine RJ hx pR h6 tk dr ?_
    rw[ap]
    refine aN bV ?_
    exact pK
  ·have pR: ¬ (k:Int)<l.length:=af
   have hx:l[k]? =none:=by simp;omega
   rw[j4,if_neg (by rw[hx];simp)]
   refine RK pR tk dr ?_
   rw[ap]
   refine aN bV ?_
   exact pK
 ·have b8:k<l.length:=af
  obtain⟨x,hx⟩:=ay b8
  have pR:(k:Int)<l.length:=af
  have h6:x<n:=j2 x (List.mem_of_getElem? (i:=k) (by rw[List.getElem?_take_of_lt (by omega)];exact hx))
  refine IQ hx pR h6 ?_
  refine aj (k+1) af af (bA.d0 _ ?_)
  exact dp
theorem H5{op n:Int}{i:Nat}{l:List Int}{k:Nat}{v:Int}(h:l[k]? =some v)(out:List Int):pE op n i (l.take (k+1)) out=if(op !=8||(i:Int)!=1||v !=n)=true then oC (pE op n i (l.take k) out) v else pE op n i (l.take k) out:=by
 unfold pE
 rw[List.take_add_one,h,List.foldl_append]
 rfl
theorem U4{t a body:Tm}{v:Int}(h8:t.op=8)(hk:t.kids=[a,body]):fO v t=(fO v a||(fO v body&& !(t.n==v))):=by
 rw[sd,hk,h8]
 simp[zU]
theorem nH{v n:Int}:fO v (.mk 1 n [])=(n==v):=rfl
theorem K7{t:Tm}{v:Int}(h1:t.op≠1)(h8:t.op≠8):fO v t=t.kids.any (fO v):=by rw[sd,if_neg h1,Ge h8]
def aem(R:Int->Int->Prop)(x y:Int):Int->Int->Prop:=fun v w=>(v=x/\w=y)\/(v≠x/\w≠y/\R v w)
inductive Al:(Int->Int->Prop)->Tm->Tm->Prop where
 |var {R:Int->Int->Prop} {v w:Int} (h:R v w):Al R (.mk 1 v []) (.mk 1 w [])
 |Eo {R:Int->Int->Prop} {n m:Int} {a a' b b':Tm} (ha:Al R a a') (hb:Al (aem R n m) b b'):Al R (.mk 8 n [a,b]) (.mk 8 m [a',b'])
 |node {R:Int->Int->Prop} {op n:Int} {l l':List Tm} (h1:op≠1) (h8:op≠8) (hl:l.length=l'.length) (h:∀ (i:Nat) (k k':Tm),l[i]? =some k->l'[i]? =some k'->Al R k k'):Al R (.mk op n l) (.mk op n l')
theorem Al.mono {R:Int->Int->Prop}{t t':Tm}(h:Al R t t'):∀ {S:Int->Int->Prop},(∀v w,R v w->S v w)->Al S t t':=by
 induction h with
 |var h=>exact fun hs=> .var (hs _ _ h)
 |Eo ha hb iha ihb=>
  exact fun hs=> .Eo (iha hs) (ihb fun v w h=>h.elim Or.inl fun h=>Or.inr ⟨h.1,h.2.1,hs _ _ h.2.2⟩)
 |node h1 h8 hl h ih=>exact fun hs=> .node h1 h8 hl fun i k k' g g'=>ih i k k' g g' hs
def ab8(R S:Int->Int->Prop):Int->Int->Prop:=fun v w=>∃u,R v u/\S u w
theorem Al.comp {R:Int->Int->Prop}{t t1:Tm}(h:Al R t t1):∀ {S:Int->Int->Prop} {t2:Tm},Al S t1 t2->Al (ab8 R S) t t2:=by
 induction h with
 |var h=>
  intro S t2 h2
  generalize he:Tm.mk 1 _ []=x at h2
  cases h2 with
  |var h3=>injection he with _ e _;subst e;exact .var ⟨_,h,h3⟩
  |Eo _ _=>injection he with e;cases e
  |node g1 _ _ _=>injection he with e;exact absurd e.symm g1
 |Eo ha hb iha ihb=>
  intro S t2 h2
  generalize he:Tm.mk 8 _ _=x at h2
  cases h2 with
  |var h3=>injection he with e;cases e
  |Eo g1 g2=>
   injection he with _ e1 e2
   injection e2 with e2 e3
   injection e3 with e3 _
   subst e1;subst e2;subst e3
   refine .Eo (iha g1) ((ihb g2).mono ?_)
   rintro v w ⟨u,(⟨p1,p2⟩|⟨p1,p2,p3⟩),(⟨q1,q2⟩|⟨q1,q2,q3⟩)⟩
   ·exact Or.inl ⟨p1,q2⟩
   ·exact absurd p2 q1
   ·exact absurd q1 p2
   ·exact Or.inr ⟨p1,q2,u,p3,q3⟩
  |node g1 g8 _ _=>injection he with e;exact absurd e.symm g8
 |node h1 h8 hl h ih=>
  intro S t2 h2
  generalize he:Tm.mk _ _ _=x at h2
  cases h2 with
  |var h3=>injection he with e;exact absurd e h1
  |Eo _ _=>injection he with e;exact absurd e h8
  |node g1 g8 gl g3=>
   injection he with e1 e2 e3
   subst e1;subst e2;subst e3
   refine .node h1 h8 (hl.trans gl) fun i k k2 hk hk2=> ?_
   have b8:i<_:=(List.getElem?_eq_some_iff.1 hk).1
   have PL:=List.getElem?_eq_getElem (hl ▸ b8)
   exact ih i k _ hk PL (g3 i _ k2 PL hk2)
theorem NY{t:Tm}(hw:t.wf)(h:t.op=1):t= .mk 1 t.n []:=by
 obtain⟨op,n,kids⟩:=t
 rw[Tm.Em]at hw
 simp only[Tm.op,Tm.n,Tm.kids]at h hw|-
 rw[h,hw.1 h]
def IC.snd:IC->IC
 | .seq _ y=>y
 |c=>c
def IC.fst:IC->IC
 | .seq x _=>x
 | .block _ x=>x
 | .loop x=>x
 | .cond _ x _=>x
 |c=>c
@[reducible] def aen (m:List (Int×Int)):ad:= .map 3 3 (enc (D.int .i64) (ints m))
@[reducible] def aeo (m:List (Int×Int)):ad:= .bU (enc (D.int .i64) (ints m))
def BdV(o:Nat->ad)(bv:V)(m:List (Int×Int)):Prop:=(bv= .d .fj/\m=[])\/∃b,bv= .mp b/\o b=aeo m
structure aep (o:Nat->ad) (nx cid fid:Nat) (bv:V) (mB bd fr:List (Int×Int)) (n:Int) (sz:Nat):Prop where
 cm:Good o nx
 hc:o cid= .row [.d (.i n), .mp fid]
 hf:o fid=aen fr
 hb:BdV o bv mB
 kb:Keys mB
 lk:∀v,lk mB v=lk bd v
 n0:0<=n
 n1:n+sz<=1000000
@[go_sem] theorem WR {P:Program} {kt:TypeId} {k:D} {i:Nat}:findD P kt k [] i=some none:=rfl
theorem eO{c:Nat}{G:List Gr}{so:Nat->ad}{gone:Nat->Prop}{x x' y y':ad}(h:x=y)(h':x'=y')(hs:wV c G so gone y y'):wV c G so gone x x':=by rw[h,h'];exact hs
theorem mc:∀l:List Tm,l.length<=oB l
 |[]=>by simp[oB]
 |k::l=>by have:=mc l;have:=Tm.pC k;rw[lB,List.length_cons];omega
theorem Tm.mI {t k:Tm}(hk:k∈t.kids):k.sz+1<=t.sz:=by
 have:=Tm.yj hk
 rw[Tm.Cl,Tm.Cl]at this
 omega
theorem Tm.yn:∀t:Tm,t.mC<=t.sz:=by
 refine Tm.ei fun t ih=> ?_
 have h:Tm.iS t.kids<=t.sz - 1:=(n9 _ _).2 fun k hk=>by have:=ih k hk;have:=Tm.mI hk;omega
 have:=Tm.pC t
 rw[Tm.vQ]
 omega
theorem Tm.iu:∀t:Tm,t.sz<=1000000->t.fits:=by
 refine Tm.ei fun t ih h=> ?_
 rw[Tm.bK]
 refine⟨?_,fun k hk=>ih k hk (by have:=Tm.mI hk;omega)⟩
 have:=mc t.kids
 rw[Tm.iH]at h
 omega
def jW(b:List (Int×Tm)):List (Int×D):=b.map fun p=>(p.1,p.2.d)
@[reducible] def H6 (b:List (Int×Tm)):D:=mpD (jW b)
theorem vY:∀ (m:List (Int×Tm)) (v:Int) (i:Nat),(match jb v (jW m) i with|some (_,x)=>some x|none=>none)=(bN m v).map Tm.d
 |[],_,_=>rfl
 |p::m,v,i=>by
  have ih:=vY m v (i+1)
  simp only[jW,List.map_cons,jb,bN]at ih|-
  by_cases h:v=p.1
  ·subst h;simp
  ·have h2: ¬p.1=v:=fun e=>h e.symm
   simp only[beq_iff_eq,h,h2,if_false]
   exact ih
theorem fw{m:List (Int×Tm)}{v:Int}{x:Tm}(h:bN m v=some x):∃j,jb v (jW m) 0=some (j,x.d):=by
 have:=vY m v 0
 rw[h]at this
 cases h2:jb v (jW m) 0 with
 |none=>rw[h2]at this;cases this
 |some p=>obtain⟨j,y⟩:=p;rw[h2]at this;simp at this;subst this;exact⟨j,rfl⟩
theorem dn{m:List (Int×Tm)}{v:Int}(h:bN m v=none):jb v (jW m) 0=none:=by
 have:=vY m v 0
 rw[h]at this
 cases h2:jb v (jW m) 0 with
 |none=>rfl
 |some p=>rw[h2]at this;cases this
theorem se{K:V->List (Nat×ad)->Prop}{id:Nat}{m:List (Int×Tm)}(h0:m=[]->K (.bT [.d (.bool false)]) [])
 (h1:∀ (i:Nat) k x,m[i]? =some (k,x)->K (.bT [.d (.bool true), .d (.int .i64 k), .d x.d]) [(id, .ra (enc (D.int .i64) (jW (m.eraseIdx i))) (some (.int .i64 k,x.d)))]):FF K id (enc (D.int .i64) (jW m)):=by
 refine HM _ (fun h=>h0 ?_) fun i k x h=> ?_
 ·cases m with
  |nil=>rfl
  |cons x l=>simp[jW]at h
 ·unfold jW at h|-
  rw[List.getElem?_map]at h
  cases hm:m[i]? with
  |none=>rw[hm]at h;cases h
  |some p=>
   rw[hm]at h
   simp at h
   obtain⟨rfl,rfl⟩:=h
   have:=h1 i p.1 p.2 (by rw[hm])
   rw[l9]
   exact this
@[reducible] def dt (m:List (Int×Tm)):ad:= .map 3 33 (enc (D.int .i64) (jW m))
theorem vZ{m:List (Int×Tm)}{v:Int}{x:Tm}(h:bN m v=none):HL v x.d (jW m)=jW (m++[(v,x)]):=by
 unfold HL
 rw[dn h]
 simp[jW]
theorem nI(s:aD):∀t:Tm,ig s t=true->t.wf:=by
 refine Tm.ei fun t ih h=> ?_
 rw[lz,Bool.and_eq_true,List.all_eq_true]at h
 rw[Tm.Em]
 refine⟨fun h1=>K6 h.1 h1,fun h8=> ?_,fun k hk=>ih k hk (h.2 k hk)⟩
 have:=h.1
 simp[bw,h8]at this
 omega
theorem NZ{s:aD}{t:Tm}(h:jF s t=true):t.wf/\t.sz<=40/\t.mC<=12:=by
 simp only[jF,Bool.and_eq_true,decide_eq_true_eq,vR]at h
 exact⟨nI s t h.2,af,af⟩
def ai(l:List TB):List (Int×Tm):=l.map fun x=>(x.var,x.term)
theorem Ep{s:aD}{op n:Int}{l l':List Tm}(h:l'.length=l.length):bw s (.mk op n l')=bw s (.mk op n l):=by
 unfold bw
 dsimp only[Tm.op,Tm.n,Tm.kids]
 rw[h]
 rfl
theorem H7{s:aD}{k:Int}(h:0<=k/\k<20):bw s (.mk 1 k [])=true:=by
 have:dJ k 0 19=true:=by simp[dJ];omega
 simp[bw,Tm.op,Tm.n,Tm.kids,this]
theorem K8{s:aD}:∀t:Tm,ig s t=true->∀v,fO v t=true->0<=v/\v<20:=by
 refine Tm.ei fun t ih h v hv=> ?_
 have hw:=(Tm.Em t).1 (nI s t h)
 rw[lz,Bool.and_eq_true,List.all_eq_true]at h
 by_cases h1:t.op=1
 ·rw[sd,if_pos h1]at hv
  have hv:t.n=v:=by simpa using hv
  have:=h.1
  simp[bw,h1,dJ]at this
  omega
 ·by_cases h8:t.op=8
  ·obtain⟨a,body,hk⟩:=U3 (hw.2.1 h8)
   rw[U4 h8 hk,Bool.or_eq_true,Bool.and_eq_true]at hv
   rcases hv with hv|hv
   ·exact ih a (by rw[hk];simp) (h.2 a (by rw[hk];simp)) v hv
   ·exact ih body (by rw[hk];simp) (h.2 body (by rw[hk];simp)) v hv.1
  ·rw[K7 h1 h8,List.any_eq_true]at hv
   obtain⟨k,hk,hv⟩:=hv
   exact ih k hk (h.2 k hk) v hv
def findF(l:List TB)(n:Int):Int:=match l.findIdx? (·.var==n)with|some i=>i|none=> -1
theorem U5(l:List TB)(n:Int)(hl:l.length<=1000000):a8 Tryz.prog 123 [.sl (l.map TB.d), .i n] (.ret [.i (findF l n)]):=by
 refine a8.aI mix aaO aF ?_
 rw[aaN]
 refine bW ?_
 refine aB (fun k:Nat=>⟨aX [.d (.sl (l.map TB.d)), .d (.i n), .aa, .aa, .aa, .d (.i k)],fun _=> .no,0⟩)
  (fun k=>k<=l.length/\∀j x,j<k->l[j]? =some x->x.var≠n) (fun k=>l.length - k) 0 ⟨Nat.zero_le _,fun _ _ h=>absurd h af⟩ (bA.d0 _ ?_) (fun k hk=> ?_)
 ·exact dp
 refine sG ?_
 refine ak (fun h2=> ?_) (fun h2=> ?_)
 ·simp at h2
  obtain⟨x,hx⟩:=ay h2
  refine sF hx ?_
  refine ak (fun h3=> ?_) (fun h3=> ?_)
  ·have kW:x.var=n:=by simpa using h3
   have:findF l n=k:=by
    have:l.findIdx? (·.var==n)=some k:=by
     rw[List.findIdx?_eq_some_iff_getElem]
     obtain⟨C5,e⟩:=List.getElem?_eq_some_iff.1 hx
     refine⟨C5,by rw[e];simpa using kW,fun j hj=> ?_⟩
     have:=hk.2 j _ hj (List.getElem?_eq_getElem af)
     simpa using this
    rw[findF,this]
   rw[this]
   exact pK
  ·have kW:x.var≠n:=by simpa using h3
   refine bW ?_
   refine aj (k+1) ⟨h2,fun j y hj hy=> ?_⟩ af (bA.d0 _ ?_)
   ·by_cases e:j=k
    ·exact OW
    ·exact hk.2 j y af hy
   ·exact dp
 ·simp at h2
  have:findF l n= -1:=by
   have:l.findIdx? (·.var==n)=none:=by
    rw[List.findIdx?_eq_none_iff]
    intro x hx
    obtain⟨j,hj,e⟩:=List.getElem_of_mem hx
    have:=hk.2 j x af (by rw[List.getElem?_eq_getElem hj,e])
    simpa using this
   rw[findF,this]
  rw[this]
  exact pK
theorem uh(l:List TB)(n:Int):(findF l n<0/\bN (ai l) n=none)\/∃ (k:Nat) (x:TB),findF l n=k/\l[k]? =some x/\bN (ai l) n=some x.term:=by
 induction l with
 |nil=>left;exact⟨by simp[findF],rfl⟩
 |cons y l ih=>
  by_cases h:y.var=n
  ·right
   refine⟨0,y, ?_,rfl, ?_⟩
   ·simp[findF,List.findIdx?_cons,h]
   ·simp[ai,bN,h]
  ·have hf:bN (ai (y::l)) n=bN (ai l) n:=by simp[ai,bN,h]
   have h':(y.var==n)=false:=by simpa using h
   rw[hf]
   unfold findF at ih|-
   rw[List.findIdx?_cons,h']
   simp only[Bool.false_eq_true,if_false]
   rcases ih with⟨h1,h2⟩|⟨k,x,h1,h2,h3⟩
   ·left
    refine⟨?_,h2⟩
    cases hi:l.findIdx? (·.var==n)with
    |none=>simp
    |some i=>rw[hi]at h1;simp at h1;omega
   ·right
    refine⟨k+1,x, ?_,h2,h3⟩
    cases hi:l.findIdx? (·.var==n)with
    |none=>rw[hi]at h1;simp at h1;try omega
    |some i=>rw[hi]at h1;simp at h1|-;try omega
def jX(g:List Int)(i:Int):Nat:=(g.filter fun x=>decide (x<i)).length
theorem nJ{g:List Int}{i:Int}(h:∀x∈g,i<=x):jX g i=0:=by
 unfold jX
 rw[List.filter_eq_nil_iff.2 (fun x hx=>by have:=h x hx;simp;omega)];rfl
theorem N0{g:List Int}{i:Int}(h:∀x∈g,x<i):jX g i=g.length:=by
 unfold jX
 rw[List.filter_eq_self.2 (fun x hx=>by simpa using h x hx)]
theorem Ct:∀ {g:List Int},Ej g->∀i:Int,if i∈g then g[jX g i]? =some i/\jX g (i+1)=jX g i+1 else jX g (i+1)=jX g i
 |[],_,i=>by simp[jX]
 |x::g,hg,i=>by
  have WS:=List.pairwise_cons.1 hg
  have ih:=Ct WS.2 i
  have hc:∀j,jX (x::g) j=(if x<j then 1 else 0)+jX g j:=fun j=>by
   unfold jX
   rw[List.filter_cons]
   by_cases e:x<j
   ·simp[e];omega
   ·simp[e]
  rcases Int.lt_trichotomy x i with h|h|h
  ·have hm:(i∈x::g)↔i∈g:=by simp;omega
   simp only[hm,hc,if_pos h,if_pos (show x<i+1 by omega)]
   split
   ·rename_i e
    rw[if_pos e]at ih
    refine⟨?_,af⟩
    rw[show 1+jX g i=jX g i+1 by omega,List.getElem?_cons_succ]
    exact ih.1
   ·rename_i e
    rw[if_neg e]at ih
    omega
  ·subst h
   have z1:jX g x=0:=nJ fun y hy=>by have:=WS.1 y hy;omega
   have z2:jX g (x+1)=0:=nJ fun y hy=>by have:=WS.1 y hy;omega
   rw[if_pos (by simp),hc,hc,z1,z2,if_neg (by omega),if_pos (by omega)]
   exact⟨rfl,rfl⟩
  ·have hm: ¬i∈x::g:=by
    intro hm
    rcases List.mem_cons.1 hm with rfl|hm
    ·omega
    ·have:=WS.1 i hm;omega
   have z1:jX g i=0:=nJ fun y hy=>by have:=WS.1 y hy;omega
   have z2:jX g (i+1)=0:=nJ fun y hy=>by have:=WS.1 y hy;omega
   rw[if_neg hm,hc,hc,z1,z2,if_neg (by omega),if_neg (by omega)]
theorem zV{ns:List Int}(h:∀n∈ns,0<=n/\n<20)(hi:Ej ns):ns.length<=20:=by
 have hc:∀k:Nat,jX ns (k:Int)<=k:=by
  intro k
  induction k with
  |zero=>show jX ns (0:Int)<=0;rw[nJ (fun x hx=>(h x hx).1)];exact Nat.le_refl _
  |succ k ih=>
   have:=Ct hi (k:Int)
   rw[Int.natCast_succ]
   split at this<;>omega
 have:jX ns (20:Int)<=20:=hc 20
 rwa [N0 (fun x hx=>(h x hx).2)]at this
mutual
def aV(b:List (Int×Tm)):Tm->Tm
 | .mk op n kids=>if op=1 then(match bN b n with|some x=>x|none=> .mk op n kids)else .mk op n (N1 b kids)
def N1(b:List (Int×Tm)):List Tm->List Tm
 |[]=>[]
 |k::l=>aV b k::N1 b l
end
theorem Cu(b:List (Int×Tm)):∀l:List Tm,N1 b l=l.map (aV b)
 |[]=>rfl
 |k::l=>by simp[N1,Cu b l]
theorem si(b:List (Int×Tm))(t:Tm):aV b t=if t.op=1 then(match bN b t.n with|some x=>x|none=>t)else .mk t.op t.n (t.kids.map (aV b)):=by
 cases t;simp only[aV,Cu,Tm.op,Tm.n,Tm.kids];rfl
def Lv(b:List (Int×Tm))(v:Int):Tm:=match bN b v with|some x=>x|none=> .mk 1 v []
def vop(t:Tm):Prop:=(1<=t.op/\t.op<=3)\/t.op=5
def Vs(s:aD)(t:Tm):Prop:=ig s t=true/\fM t=true
theorem sj{s:aD}{t:Tm}:Vs s t↔bw s t=true/\vop t/\∀k∈t.kids,Vs s k:=by
 unfold Vs vop
 rw[lz,rZ]
 simp only[Bool.and_eq_true,List.all_eq_true,Bool.or_eq_true,decide_eq_true_eq,beq_iff_eq]
 constructor
 ·rintro⟨⟨h1,h2⟩,h3,h4⟩;exact⟨h1,h4,fun k hk=>⟨h2 k hk,h3 k hk⟩⟩
 ·rintro⟨h1,h2,h3⟩;exact⟨⟨h1,fun k hk=>(h3 k hk).1⟩,fun k hk=>(h3 k hk).2,h2⟩
theorem Vs.jV {s:aD}{t k:Tm}(h:Vs s t)(hk:k∈t.kids):Vs s k:=(sj.1 h).2.2 k hk
theorem Vs.eta {s:aD}{t:Tm}(h:Vs s t)(h1:t.op=1):t= .mk 1 t.n []:=NY (nI s t h.1) h1
theorem Vs.n8 {s:aD}{t:Tm}(h:Vs s t):t.op≠8:=by rcases(sj.1 h).2.1 with h|h<;>omega
theorem Vs.range {s:aD}{t:Tm}(h:Vs s t){v:Int}(hv:fO v t=true):0<=v/\v<20:=K8 t h.1 v hv
theorem Vs.var {s:aD}{v:Int}(h:0<=v/\v<20):Vs s (.mk 1 v []):=sj.2 ⟨H7 h,Or.inl ⟨by show(1:Int)<=1;omega,by show(1:Int)<=3;omega⟩,fun k hk=>by cases hk⟩
theorem Vs.mk' {s:aD}{t:Tm}{l:List Tm}(h:Vs s t)(hl:l.length=t.kids.length)(hk:∀k∈l,Vs s k):Vs s (.mk t.op t.n l):=
 sj.2 ⟨by rw[Ep hl,Tm.eta];exact(sj.1 h).1,(sj.1 h).2.1,hk⟩
theorem gN{t:Tm}(h1:t.op=1){v:Int}:fO v t=true↔t.n=v:=by rw[sd,if_pos h1];simp
theorem oT{s:aD}{t:Tm}(h:Vs s t)(h1:t.op≠1){v:Int}:fO v t=true↔∃k∈t.kids,fO v k=true:=by rw[K7 h1 h.n8,List.any_eq_true]
theorem e8{b:List (Int×Tm)}{s:aD}{t:Tm}(h:Vs s t)(h1:t.op=1):aV b t=Lv b t.n:=by
 rw[si,if_pos h1,Lv]
 cases bN b t.n with
 |some x=>rfl
 |none=>exact h.eta h1
theorem jL{b:List (Int×Tm)}{v:Int}:aV b (.mk 1 v [])=Lv b v:=by rw[si];rfl
theorem fZ{b:List (Int×Tm)}{t:Tm}(h1:t.op≠1):aV b t= .mk t.op t.n (t.kids.map (aV b)):=by rw[si,if_neg h1]
theorem K9{s:aD}{b c:List (Int×Tm)}:∀t:Tm,Vs s t->(∀v,fO v t=true->Lv b v=Lv c v)->aV b t=aV c t:=by
 refine Tm.ei fun t ih hv h=> ?_
 by_cases h1:t.op=1
 ·rw[e8 hv h1,e8 hv h1,h _ ((gN h1).2 rfl)]
 ·rw[fZ h1,fZ h1,List.map_congr_left fun k hk=>ih k hk (hv.jV hk) fun v La=>h v ((oT hv h1).2 ⟨k,hk,La⟩)]
theorem ui{s:aD}{b c d:List (Int×Tm)}:∀t:Tm,Vs s t->(∀v,fO v t=true->aV c (Lv b v)=Lv d v)->aV c (aV b t)=aV d t:=by
 refine Tm.ei fun t ih hv h=> ?_
 by_cases h1:t.op=1
 ·rw[e8 hv h1,e8 hv h1,h _ ((gN h1).2 rfl)]
 ·rw[fZ h1,fZ h1 (b:=d),fZ (by exact h1)]
  show Tm.mk t.op t.n ((t.kids.map (aV b)).map (aV c))=_
  rw[List.map_map,List.map_congr_left (f:=aV c∘aV b) (g:=aV d) fun k hk=>ih k hk (hv.jV hk) fun v La=>h v ((oT hv h1).2 ⟨k,hk,La⟩)]
theorem Cv{s:aD}{b:List (Int×Tm)}:∀t:Tm,Vs s t->(∀v,fO v t=true->bN b v=none)->aV b t=t:=by
 refine Tm.ei fun t ih hv h=> ?_
 by_cases h1:t.op=1
 ·rw[e8 hv h1,Lv,h _ ((gN h1).2 rfl)]
  exact(hv.eta h1).symm
 ·rw[fZ h1,List.map_congr_left (g:=id) fun k hk=>ih k hk (hv.jV hk) fun v La=>h v ((oT hv h1).2 ⟨k,hk,La⟩),List.map_id]
  exact Tm.eta t
theorem Vs.Lv {s:aD}{b:List (Int×Tm)}(hb:∀p∈b,Vs s p.2){v:Int}(h:0<=v/\v<20):Vs s (Lv b v):=by
 unfold YtlhemmpklhhgoaaGreat.Lv
 cases hl:bN b v with
 |some x=>exact hb _ (cJ hl)
 |none=>exact Vs.var h
theorem Vs.sub {s:aD}{b:List (Int×Tm)}(hb:∀p∈b,Vs s p.2):∀t:Tm,Vs s t->Vs s (aV b t):=by
 refine Tm.ei fun t ih hv=> ?_
 by_cases h1:t.op=1
 ·rw[e8 hv h1];exact Vs.Lv hb (hv.range ((gN h1).2 rfl))
 ·rw[fZ h1]
  refine hv.mk' aF fun k hk=> ?_
  obtain⟨x,hx,rfl⟩:=List.mem_map.1 hk
  exact ih x hx (hv.jV hx)
theorem tj{s:aD}{b:List (Int×Tm)}(hb:∀p∈b,Vs s p.2):∀t:Tm,Vs s t->∀v,fO v (aV b t)=true↔∃u,fO u t=true/\fO v (Lv b u)=true:=by
 refine Tm.ei fun t ih hv v=> ?_
 by_cases h1:t.op=1
 ·rw[e8 hv h1]
  simp only[gN h1]
  exact⟨fun h=>⟨_,rfl,h⟩,fun⟨u,e,h⟩=>e ▸ h⟩
 ·have HY:=Vs.sub hb t hv
  rw[fZ h1]at HY|-
  rw[oT HY (by exact h1)]
  simp only[oT hv h1,Tm.kids,List.mem_map]
  constructor
  ·rintro⟨_,⟨k,hk,rfl⟩,h⟩
   obtain⟨u,h2,h3⟩:=(ih k hk (hv.jV hk) v).1 h
   exact⟨u,⟨k,hk,h2⟩,h3⟩
  ·rintro⟨u,⟨k,hk,h2⟩,h3⟩
   exact⟨_,⟨k,hk,rfl⟩,(ih k hk (hv.jV hk) v).2 ⟨u,h2,h3⟩⟩
theorem ab9{b:List (Int×Tm)}{t:Tm}(h1:t.op≠1):(aV b t).op=t.op/\(aV b t).n=t.n/\(aV b t).kids=t.kids.map (aV b):=by rw[fZ h1];exact⟨rfl,rfl,rfl⟩
def mz:List TB->Int->Tm->List TB
 |[],n,t=>[⟨n,t⟩]
 |x::l,n,t=>if x.var<n then x::mz l n t else⟨n,t⟩::x::l
abbrev sn(n:Int)(t:Tm):List (Int×Tm):=[(n,t)]
def iI(l:List TB)(n:Int)(t:Tm):List TB:=mz (l.map fun x=>⟨x.var,aV (sn n t) x.term⟩) n t
def bG(F:Tm->Tm->List TB->Option (List TB×Bool)):List Tm->List Tm->List TB->Option (List TB×Bool)
 |k::ks,k'::c9,l=>match F k k' l with
  |some (l1,true)=>bG F ks c9 l1
  |some (l1,false)=>some (l1,false)
  |none=>none
 |_,_,l=>some (l,true)
def dh:Nat->Tm->Tm->List TB->Option (List TB×Bool)
 |0,_,_,_=>none
 |f+1,a,c,l=>
  if fX (aV (ai l) a) (aV (ai l) c)=true then some (l,true)
  else if(aV (ai l) a).op=1/\(aV (ai l) c).op=1 then some (iI l (max (aV (ai l) a).n (aV (ai l) c).n) (.mk 1 (min (aV (ai l) a).n (aV (ai l) c).n) []),true)
  else if(aV (ai l) a).op=1 then some (iI l (aV (ai l) a).n (aV (ai l) c), !(ct (aV (ai l) c)).contains (aV (ai l) a).n)
  else if(aV (ai l) c).op=1 then some (iI l (aV (ai l) c).n (aV (ai l) a), !(ct (aV (ai l) a)).contains (aV (ai l) c).n)
  else if(aV (ai l) a).op≠(aV (ai l) c).op\/(aV (ai l) a).n≠(aV (ai l) c).n\/(aV (ai l) a).kids.length≠(aV (ai l) c).kids.length then some ([],false)
  else bG (dh f) (aV (ai l) a).kids (aV (ai l) c).kids l
theorem U6{l:List TB}{n:Int}{t:Tm}(hn:bN (ai l) n=none)(v:Int):bN (ai (mz l n t)) v=if v=n then some t else bN (ai l) v:=by
 induction l with
 |nil=>
  simp only[mz,ai,List.map_cons,List.map_nil,bN]
  by_cases e:v=n
  ·simp[e]
  ·exact I8
 |cons x l ih=>
  simp only[ai,List.map_cons,bN]at hn
  by_cases e1:x.var=n
  ·rw[if_pos e1]at hn;cases hn
  ·rw[if_neg e1]at hn
   have ih:=ih hn
   simp only[mz]
   split
   ·simp only[ai,List.map_cons,bN]at ih|-
    by_cases e:x.var=v
    ·rw[if_pos e,if_pos e,if_neg fun h=>e1 (e.trans h)]
    ·rw[if_neg e,if_neg e];exact ih
   ·simp only[ai,List.map_cons,bN]
    by_cases e:v=n
    ·simp[e]
    ·exact I8
theorem Lb(l:List TB)(g:Tm->Tm)(v:Int):bN (ai (l.map fun x=>⟨x.var,g x.term⟩)) v=(bN (ai l) v).map g:=by
 induction l with
 |nil=>rfl
 |cons x l ih=>
  simp only[ai,List.map_cons,bN]at ih|-
  split
  ·rfl
  ·exact ih
theorem zW{l:List TB}{n:Int}{t:Tm}(hn:bN (ai l) n=none)(v:Int):bN (ai (iI l n t)) v=if v=n then some t else(bN (ai l) v).map (aV (sn n t)):=by
 unfold iI
 rw[U6 (by rw[Lb,hn];rfl),Lb]
theorem v7{n v:Int}{t:Tm}:Lv (sn n t) v=if v=n then t else .mk 1 v []:=by
 simp only[Lv,sn,bN]
 by_cases e:v=n
 ·simp[e]
 ·exact I8
theorem og{l:List TB}{n:Int}{t:Tm}(hn:bN (ai l) n=none)(v:Int):Lv (ai (iI l n t)) v=if v=n then t else aV (sn n t) (Lv (ai l) v):=by
 simp only[Lv,zW hn]
 by_cases e:v=n
 ·simp[e]
 ·simp only[if_neg e]
  cases h:bN (ai l) v with
  |some x=>rfl
  |none=>simp only[Option.map_none];rw[jL,v7,if_neg e]
structure gf (s:aD) (l:List TB):Prop where
 srt:l.Pairwise fun x y=>x.var<y.var
 ok:∀x∈l,(0<=x.var/\x.var<20)/\Vs s x.term
 idem:∀x∈l,∀u,fO u x.term=true->bN (ai l) u=none
theorem gf.nil {s:aD}:gf s []:=⟨List.Pairwise.nil,fun _ h=>(by cases h),fun _ h=>(by cases h)⟩
theorem gf.bd {s:aD}{l:List TB}(h:gf s l):∀p∈ai l,Vs s p.2:=fun p hp=>by
 obtain⟨x,hx,rfl⟩:=List.mem_map.1 hp
 exact(h.ok x hx).2
theorem lC{l:List TB}{v:Int}{t:Tm}(h:bN (ai l) v=some t):∃x∈l,x.var=v/\x.term=t:=by
 obtain⟨x,hx,e⟩:=List.mem_map.1 (cJ h)
 injection e with e1 e2
 exact⟨x,hx,e1,e2⟩
theorem gf.N2 {s:aD}{l:List TB}(h:gf s l){v u:Int}(hu:fO u (Lv (ai l) v)=true):bN (ai l) u=none:=by
 unfold Lv at hu
 cases hl:bN (ai l) v with
 |some x=>
  rw[hl]at hu
  obtain⟨y,hy,e1,e2⟩:=lC hl
  exact h.idem y hy u (e2 ▸ hu)
 |none=>
  rw[hl]at hu
  have:v=u:=by rw[nH]at hu;simpa using hu
  exact this ▸ hl
theorem gf.free {s:aD}{l:List TB}(h:gf s l){t:Tm}(ht:Vs s t){u:Int}(hu:fO u (aV (ai l) t)=true):bN (ai l) u=none:=by
 obtain⟨w,_,h2⟩:=(tj h.bd t ht u).1 hu
 exact h.N2 h2
def oD(l l':List TB):Prop:=∀v,aV (ai l') (Lv (ai l) v)=Lv (ai l') v
theorem oD.sub {s:aD}{l l':List TB}(h:oD l l'){t:Tm}(ht:Vs s t):aV (ai l') (aV (ai l) t)=aV (ai l') t:=ui t ht fun v _=>h v
theorem oD.refl {s:aD}{l:List TB}(h:gf s l):oD l l:=fun v=>by
 cases hl:bN (ai l) v with
 |none=>rw[show Lv (ai l) v= .mk 1 v [] by simp[Lv,hl],jL];simp[Lv,hl]
 |some x=>
  have hx:Lv (ai l) v=x:=by simp[Lv,hl]
  obtain⟨y,hy,e1,e2⟩:=lC hl
  rw[hx]
  exact Cv (s:=s) x (e2 ▸ (h.ok y hy).2) fun u hu=>h.idem y hy u (e2 ▸ hu)
theorem oD.trans {s:aD}{l l' l'':List TB}(hl:gf s l)(h:oD l l')(h':oD l' l'')(hr:∀v,bN (ai l) v≠none->0<=v/\v<20):oD l l'':=fun v=>by
 cases hv:bN (ai l) v with
 |none=>rw[show Lv (ai l) v= .mk 1 v [] by simp[Lv,hv],jL]
 |some x=>
  have hx:Lv (ai l) v=x:=by simp[Lv,hv]
  obtain⟨y,hy,e1,e2⟩:=lC hv
  have HY:Vs s x:=e2 ▸ (hl.ok y hy).2
  rw[hx, <- h'.sub HY, <- hx,h v,h' v]
theorem gf.Av {s:aD}{l:List TB}(h:gf s l){v:Int}(hv:bN (ai l) v≠none):0<=v/\v<20:=by
 cases hl:bN (ai l) v with
 |none=>exact absurd hl hv
 |some x=>obtain⟨y,hy,e1,e2⟩:=lC hl;exact e1 ▸ (h.ok y hy).1
theorem uj{l:List TB}{n:Int}{t:Tm}{x:TB}:x∈mz l n t↔x=⟨n,t⟩\/x∈l:=by
 induction l with
 |nil=>simp[mz]
 |cons y l ih=>
  simp only[mz]
  split
  ·simp only[List.mem_cons,ih]
   constructor
   ·rintro(h|h|h)
    ·exact Or.inr (Or.inl h)
    ·exact Or.inl h
    ·exact Or.inr (Or.inr h)
   ·rintro(h|h|h)
    ·exact Or.inr (Or.inl h)
    ·exact Or.inl h
    ·exact Or.inr (Or.inr h)
  ·simp only[List.mem_cons]
theorem N3{l:List TB}{n:Int}{t:Tm}(h:l.Pairwise fun x y=>x.var<y.var)(hn:∀x∈l,x.var≠n):(mz l n t).Pairwise fun x y=>x.var<y.var:=by
 induction l with
 |nil=>simp[mz]
 |cons y l ih=>
  rw[List.pairwise_cons]at h
  simp only[mz]
  split
  ·rename_i hy
   rw[List.pairwise_cons]
   refine⟨fun z hz=> ?_,ih h.2 fun x hx=>hn x mm⟩
   rcases uj.1 hz with rfl|hz
   ·exact hy
   ·exact h.1 z hz
  ·rename_i hy
   have:=hn y aF
   rw[List.pairwise_cons,List.pairwise_cons]
   refine⟨fun z hz=> ?_,h⟩
   rcases List.mem_cons.1 hz with rfl|hz
   ·show n<z.var;omega
   ·have:=h.1 z hz;show n<z.var;omega
theorem wX{l:List TB}{n:Int}(h:bN (ai l) n=none):∀x∈l,x.var≠n:=fun x hx e=>by
 rw[jJ]at h
 exact h (List.mem_map.2 ⟨(x.var,x.term),List.mem_map.2 ⟨x,hx,rfl⟩,e⟩)
theorem qK{s:aD}{l:List TB}(h:gf s l){n:Int}{t:Tm}(hr:0<=n/\n<20)(hn:bN (ai l) n=none)(ht:Vs s t)(hf:∀u,fO u t=true->bN (ai l) u=none)(II: ¬fO n t=true):gf s (iI l n t):=by
 have h1:∀p∈sn n t,Vs s p.2:=fun p hp=>by simp[sn]at hp;subst hp;exact ht
 have Lc:∀u,u≠n->bN (ai l) u=none->bN (ai (iI l n t)) u=none:=fun u e hu=>by rw[zW hn,if_neg e,hu];rfl
 refine⟨?_,fun x hx=> ?_,fun x hx u hu=> ?_⟩
 ·refine N3 ?_ ?_
  ·rw[List.pairwise_map];exact h.srt
  ·intro x hx
   obtain⟨y,hy,rfl⟩:=List.mem_map.1 hx
   exact wX hn y hy
 ·rcases uj.1 hx with rfl|hx
  ·exact⟨hr,ht⟩
  ·obtain⟨y,hy,rfl⟩:=List.mem_map.1 hx
   exact⟨(h.ok y hy).1,Vs.sub h1 _ (h.ok y hy).2⟩
 ·rcases uj.1 hx with rfl|hx
  ·exact Lc u (fun e=>II (e ▸ hu)) (hf u hu)
  ·obtain⟨y,hy,rfl⟩:=List.mem_map.1 hx
   obtain⟨w,hw,PB⟩:=(tj h1 _ (h.ok y hy).2 u).1 hu
   rw[v7]at PB
   split at PB
   ·exact Lc u (fun e=>II (e ▸ PB)) (hf u PB)
   ·rename_i e
    have:w=u:=by rw[nH]at PB;simpa using PB
    subst this
    exact Lc w e (h.idem y hy w hw)
theorem v8{s:aD}{l:List TB}(h:gf s l){n:Int}{t:Tm}(hn:bN (ai l) n=none):oD l (iI l n t):=fun v=>by
 cases hl:bN (ai l) v with
 |none=>rw[show Lv (ai l) v= .mk 1 v [] by simp[Lv,hl],jL]
 |some x=>
  have hx:Lv (ai l) v=x:=by simp[Lv,hl]
  obtain⟨y,hy,e1,e2⟩:=lC hl
  have hvn:v≠n:=fun e=>by rw[e,hn]at hl;cases hl
  rw[og hn,if_neg hvn,hx]
  refine K9 (s:=s) x (e2 ▸ (h.ok y hy).2) fun u hu=> ?_
  have hu2:bN (ai l) u=none:=h.idem y hy u (e2 ▸ hu)
  rw[og hn,show Lv (ai l) u= .mk 1 u [] by simp[Lv,hu2],jL,v7]
  split<;>rfl
theorem gf.H8 {s:aD}{l:List TB}(h:gf s l){t:Tm}(ht:Vs s t)(h1:(aV (ai l) t).op=1):(0<=(aV (ai l) t).n/\(aV (ai l) t).n<20)/\bN (ai l) (aV (ai l) t).n=none/\aV (ai l) t= .mk 1 (aV (ai l) t).n []:=by
 have hv:=Vs.sub h.bd t ht
 have hf:fO (aV (ai l) t).n (aV (ai l) t)=true:=(gN h1).2 rfl
 exact⟨hv.range hf,h.free ht hf,hv.eta h1⟩
theorem jM{s:aD}:∀ (f:Nat) (a c:Tm) (l l':List TB),dh f a c l=some (l',true)->gf s l->Vs s a->Vs s c->gf s l'/\oD l l'
 |0,_,_,_,_,h,_,_,_=>by cases h
 |f+1,a,c,l,l',h,hl,ha,hc=>by
  have va:=Vs.sub hl.bd a ha
  have vc:=Vs.sub hl.bd c hc
  have fa:=fun u=>hl.free ha (u:=u)
  have fc:=fun u=>hl.free hc (u:=u)
  have na:=hl.H8 ha
  have nc:=hl.H8 hc
  simp only[dh]at h
  generalize aV (ai l) a=a0 at*
  generalize aV (ai l) c=c0 at*
  split at h
  ·injection h with h;injection h with h;subst h;exact⟨hl,oD.refl hl⟩
  ·rename_i hs
   split at h
   ·rename_i h1
    injection h with h;injection h with h;subst h
    obtain⟨r1,u1,e1⟩:=na h1.1
    obtain⟨r2,u2,e2⟩:=nc h1.2
    have fG:a0.n≠c0.n:=fun e=>hs (by rw[fY,e1,e2,e])
    have A6:bN (ai l) (max a0.n c0.n)=none:=by rcases Int.le_total a0.n c0.n with h|h<;>simp[Int.max_def]<;>split<;>assumption
    have hmn:bN (ai l) (min a0.n c0.n)=none:=by rcases Int.le_total a0.n c0.n with h|h<;>simp[Int.min_def]<;>split<;>assumption
    refine⟨qK hl af A6 (Vs.var af) (fun u hu=> ?_) (fun hu=> ?_),v8 hl A6⟩
    ·have:min a0.n c0.n=u:=by rw[nH]at hu;simpa using hu
     exact this ▸ hmn
    ·have:min a0.n c0.n=max a0.n c0.n:=by rw[nH]at hu;simpa using hu
     omega
   ·split at h
    ·rename_i h1 h2
     injection h with h;injection h with h h3;subst h
     obtain⟨r1,u1,e1⟩:=na h2
     have lI: ¬fO a0.n c0=true:=fun hh=>by
      have:(ct c0).contains a0.n=true:=List.contains_iff_mem.2 (((cX c0).2 _).2 hh)
      rw[this]at h3;cases h3
     exact⟨qK hl r1 u1 vc (fun u hu=>fc u hu) lI,v8 hl u1⟩
    ·split at h
     ·rename_i h1 h2 kW
      injection h with h;injection h with h h3;subst h
      obtain⟨r2,u2,e2⟩:=nc kW
      have lI: ¬fO c0.n a0=true:=fun hh=>by
       have:(ct a0).contains c0.n=true:=List.contains_iff_mem.2 (((cX a0).2 _).2 hh)
       rw[this]at h3;cases h3
      exact⟨qK hl r2 u2 va (fun u hu=>fa u hu) lI,v8 hl u2⟩
     ·split at h
      ·injection h with h;injection h with _ h;cases h
      ·have key:∀ (ks c9:List Tm) (l:List TB),(∀k∈ks,Vs s k)->(∀k∈c9,Vs s k)->gf s l->bG (dh f) ks c9 l=some (l',true)->gf s l'/\oD l l':=by
        intro ks
        induction ks with
        |nil=>intro c9 l _ _ hl h;simp only[bG]at h;injection h with h;injection h with h;subst h;exact⟨hl,oD.refl hl⟩
        |cons k ks wY=>
         intro c9 l h1 h2 hl h
         cases c9 with
         |nil=>simp only[bG]at h;injection h with h;injection h with h;subst h;exact⟨hl,oD.refl hl⟩
         |cons k' c9=>
          simp only[bG]at h
          split at h
          ·rename_i l1 e
           obtain⟨g1,g2⟩:=jM f k k' l l1 e hl (h1 k aF) (h2 k' aF)
           obtain⟨g3,g4⟩:=wY c9 l1 (fun x hx=>h1 x mm) (fun x hx=>h2 x mm) g1 h
           exact⟨g3,g2.trans hl g4 (fun v=>hl.Av)⟩
          ·injection h with h;injection h with _ h;cases h
          ·cases h
       exact key _ _ _ (fun k hk=>va.jV hk) (fun k hk=>vc.jV hk) hl h
def mj:Nat->List (Int×Tm)->Tm->Option Tm
 |0,_,_=>none
 |f+1,b,t=>if t.op=1 then(match bN b t.n with|some x=>mj f b x|none=>some t)else some t
theorem gK{b:List (Int×Tm)}:∀ {f g:Nat} {t x:Tm},mj f b t=some x->f<=g->mj g b t=some x
 |0,_,_,_,h,_=>by cases h
 |f+1,0,_,_,_,h=>af
 |f+1,g+1,t,x,h,hg=>by
  simp only[mj]at h|-
  split
  ·rename_i h1
   rw[if_pos h1]at h
   cases hl:bN b t.n with
   |none=>rw[hl]at h;exact h
   |some y=>rw[hl]at h;exact gK (f:=f) h af
  ·rename_i h1
   rw[if_neg h1]at h
   exact h
structure lD (s:aD) (b:List (Int×Tm)) (l:List TB) (ρ:Int->Nat) (R:Nat):Prop where
 keys:(b.map (·.1)).Nodup
 Av:∀v,bN b v=none↔bN (ai l) v=none
 ok:∀v x,bN b v=some x->Vs s x/\Lv (ai l) v=aV (ai l) x/\∀u,fO u x=true->ρ u<ρ v
 bd:∀v,ρ v<=R
theorem lD.nil {s:aD}:lD s [] [] (fun _=>0) 0:=⟨List.nodup_nil,fun _=>Iff.rfl,fun _ _ h=>(by cases h),fun _=>Nat.le_refl _⟩
theorem lD.at {s:aD}{b:List (Int×Tm)}{l:List TB}{ρ:Int->Nat}{R:Nat}(h:lD s b l ρ R):∀ (m:Nat) (t:Tm),Vs s t->(t.op=1->ρ t.n<=m)->∃x,mj (m+2) b t=some x/\Vs s x/\aV (ai l) x=aV (ai l) t/\(x.op=1->bN b x.n=none)/\(t.op≠1->x=t)/\(t.op=1->(∀u,fO u x=true->ρ u<=ρ t.n)/\(x.op≠1->∀u,fO u x=true->ρ u<ρ t.n)):=by
 intro m
 induction m with
 |zero=>
  intro t hv hm
  by_cases h1:t.op=1
  ·cases hl:bN b t.n with
   |none=>
    exact Yd
   |some x=>
    obtain⟨g1,g2,g3⟩:=h.ok _ _ hl
    by_cases hx:x.op=1
    ·have:=g3 x.n ((gN hx).2 rfl)
     have:=hm h1
     omega
    ·refine⟨x,by simp only[mj,if_pos h1,hl,if_neg hx],g1,by rw[<- g2,e8 hv h1],fun h=>absurd h hx,fun h=>absurd h1 h,fun _=>⟨fun u hu=>Nat.le_of_lt (g3 u hu),fun _=>g3⟩⟩
  ·exact XA
 |succ m ih=>
  intro t hv hm
  by_cases h1:t.op=1
  ·cases hl:bN b t.n with
   |none=>
    exact Yd
   |some x=>
    obtain⟨g1,g2,g3⟩:=h.ok _ _ hl
    obtain⟨y,i1,i2,i3,i4,i5,i6⟩:=ih x g1 (fun hx=>by have:=g3 x.n ((gN hx).2 rfl);have:=hm h1;omega)
    refine⟨y,by rw[mj,if_pos h1,hl];exact i1,i2,by rw[i3, <- g2,e8 hv h1],i4,fun h=>absurd h1 h,fun _=> ?_⟩
    by_cases hx:x.op=1
    ·have g4:=g3 x.n ((gN hx).2 rfl)
     exact⟨fun u hu=>by have:=(i6 hx).1 u hu;omega,fun h2 u hu=>by have:=(i6 hx).2 h2 u hu;omega⟩
    ·rw[i5 hx]
     exact⟨fun u hu=>Nat.le_of_lt (g3 u hu),fun _=>g3⟩
  ·exact XA
theorem lD.root {s:aD}{b:List (Int×Tm)}{l:List TB}{ρ:Int->Nat}{R:Nat}(h:lD s b l ρ R){t:Tm}(hv:Vs s t):∃x,mj (R+2) b t=some x/\Vs s x/\aV (ai l) x=aV (ai l) t/\(x.op=1->bN b x.n=none)/\(t.op≠1->x=t)/\(t.op=1->(∀u,fO u x=true->ρ u<=ρ t.n)/\(x.op≠1->∀u,fO u x=true->ρ u<ρ t.n)):=
 h.at R t hv fun _=>h.bd _
theorem Cw(l:List (Int×Tm))(p:Int×Tm)(v:Int):bN (l++[p]) v=match bN l v with|some x=>some x|none=>if p.1=v then some p.2 else none:=by
 induction l with
 |nil=>simp[bN]
 |cons q l ih=>
  simp only[List.cons_append,bN]
  split
  ·rfl
  ·exact ih
theorem one_sub{s:aD}{l:List TB}{n:Int}{t:Tm}(hn:bN (ai l) n=none){x:Tm}(hx:Vs s x):aV (sn n t) (aV (ai l) x)=aV (ai (iI l n t)) x:=by
 refine ui x hx fun u _=> ?_
 rw[og hn]
 split
 ·rename_i e
  rw[e,show Lv (ai l) n= .mk 1 n [] by simp[Lv,hn],jL,v7,if_pos rfl]
 ·rfl
theorem lD.ext {s:aD}{b:List (Int×Tm)}{l:List TB}{ρ:Int->Nat}{R:Nat}(h:lD s b l ρ R)(hl:gf s l){n:Int}(hn:bN b n=none){y:Tm}(hy:Vs s y)(hny: ¬fO n (aV (ai l) y)=true):
 ∃H9 R',lD s (b++[(n,y)]) (iI l n (aV (ai l) y)) H9 R':=by
 have MU:=(h.Av n).1 hn
 refine⟨fun v=>if fO n (Lv (ai l) v)=true then R+1+ρ v else ρ v,2*R+1, ?_,fun v=> ?_,fun v x hx=> ?_,fun v=> ?_⟩
 ·rw[List.map_append,List.map_cons,List.map_nil,List.nodup_append]
  refine⟨h.keys,aF,fun a ha c hc=> ?_⟩
  simp at hc
  subst hc
  exact fun e=>(jJ.1 hn) (e ▸ ha)
 ·rw[Cw,zW MU]
  by_cases e:v=n
  ·subst e;simp[hn]
  ·rw[if_neg e]
   cases hv:bN b v with
   |some x=>
    simp only[reduceCtorEq,false_iff]
    intro h2
    cases h3:bN (ai l) v with
    |some y=>rw[h3]at h2;cases h2
    |none=>rw[(h.Av v).2 h3]at hv;cases hv
   |none=>
    simp[(h.Av v).1 hv]
    exact fun h=>e h.symm
 ·rw[Cw]at hx
  cases hv:bN b v with
  |some z=>
   rw[hv]at hx
   injection hx with hx
   subst hx
   have hvn:v≠n:=fun e=>by rw[e,hn]at hv;cases hv
   obtain⟨g1,g2,g3⟩:=h.ok v z hv
   refine⟨g1,by rw[og MU,if_neg hvn,g2,one_sub MU g1],fun u hu=> ?_⟩
   have h3:=g3 u hu
   have h4:fO n (Lv (ai l) u)=true->fO n (Lv (ai l) v)=true:=fun h5=>by rw[g2];exact(tj hl.bd z g1 n).2 ⟨u,hu,h5⟩
   by_cases h5:fO n (Lv (ai l) u)=true
   ·rw[if_pos h5,if_pos (h4 h5)];omega
   ·rw[if_neg h5];split<;>omega
  |none=>
   rw[hv]at hx
   simp only at hx
   split at hx
   ·rename_i e
    injection hx with hx
    subst hx;subst e
    refine⟨hy, ?_,fun u hu=> ?_⟩
    ·rw[og MU,if_pos rfl, <- one_sub MU hy]
     exact(Cv (s:=s) _ (Vs.sub hl.bd y hy) fun v hv=>by
      have: ¬n=v:=fun e=>by subst e;exact hny hv
      simp[sn,bN,this]).symm
    ·have h5: ¬fO n (Lv (ai l) u)=true:=fun h5=>hny ((tj hl.bd y hy n).2 ⟨u,hu,h5⟩)
     have h6:fO n (Lv (ai l) n)=true:=by rw[show Lv (ai l) n= .mk 1 n [] by simp[Lv,MU],nH];simp
     have:=h.bd u
     simp only[if_neg h5,if_pos h6]
     omega
   ·cases hx
 ·have:=h.bd v
  split<;>omega
theorem uk{s:aD}{l:List TB}{b:List (Int×Tm)}{ρ:Int->Nat}{R:Nat}(h:lD s b l ρ R){x:Tm}(hx:Vs s x)(hr:x.op=1->bN b x.n=none):(aV (ai l) x).op=x.op/\(aV (ai l) x).n=x.n/\(aV (ai l) x).kids.length=x.kids.length/\(x.op=1->aV (ai l) x=x)/\(x.op≠1->(aV (ai l) x).kids=x.kids.map (aV (ai l))):=by
 by_cases h1:x.op=1
 ·have:aV (ai l) x=x:=by
   rw[e8 hx h1,show Lv (ai l) x.n= .mk 1 x.n [] by simp[Lv,(h.Av _).1 (hr h1)]]
   exact(hx.eta h1).symm
  rw[this]
  exact⟨rfl,rfl,rfl,fun _=>rfl,fun h=>absurd h1 h⟩
 ·obtain⟨g1,g2,g3⟩:=ab9 (b:=ai l) h1
  exact⟨g1,g2,by rw[g3];simp,fun h=>absurd h h1,fun _=>g3⟩
theorem me{F G:Tm->Tm->List TB->Option (List TB×Bool)}(Cy:∀k k' l r,F k k' l=some r->G k k' l=some r):∀ {ks c9:List Tm} {l:List TB} {r:List TB×Bool},bG F ks c9 l=some r->bG G ks c9 l=some r
 |[],_,_,_,h=>by simp only[bG]at h|-;exact h
 |_::_,[],_,_,h=>by simp only[bG]at h|-;exact h
 |k::ks,k'::c9,b,r,h=>by
  simp only[bG]at h|-
  split at h
  ·rename_i b1 e;rw[Cy _ _ _ _ e];exact me Cy h
  ·rename_i b1 e;rw[Cy _ _ _ _ e];exact h
  ·cases h
theorem lE:∀ {f g:Nat} {a c:Tm} {l:List TB} {r:List TB×Bool},dh f a c l=some r->f<=g->dh g a c l=some r
 |0,_,_,_,_,_,h,_=>by cases h
 |f+1,0,_,_,_,_,_,h=>af
 |f+1,g+1,a,c,l,r,h,hg=>by
  simp only[dh]at h|-
  repeat' (split at h<;>rename_i hh<;>first|rw[if_pos hh]|rw[if_neg hh])
  all_goals first
   |exact h
   |exact me (fun k k' l r hk=>lE hk af) h
theorem N4(l:List TB)(n:Int)(t:Tm):(mz l n t).length=l.length+1:=by
 induction l with
 |nil=>rfl
 |cons x l ih=>simp only[mz];split<;>simp[ih]
theorem IX(l:List TB)(n:Int)(t:Tm):(iI l n t).length=l.length+1:=by rw[iI,N4,List.length_map]
theorem Gf:∀ (f:Nat) (a c:Tm) (l l':List TB),dh f a c l=some (l',true)->l'=l\/l.length<l'.length
 |0,_,_,_,_,h=>by cases h
 |f+1,a,c,l,l',h=>by
  simp only[dh]at h
  split at h
  ·injection h with h;injection h with h;exact Or.inl h.symm
  ·split at h
   ·exact R5
   ·split at h
    ·exact R5
    ·split at h
     ·exact R5
     ·split at h
      ·injection h with h;injection h with _ h;cases h
      ·have key:∀ (ks c9:List Tm) (l:List TB),bG (dh f) ks c9 l=some (l',true)->l'=l\/l.length<l'.length:=by
        intro ks
        induction ks with
        |nil=>intro c9 l h;simp only[bG]at h;injection h with h;injection h with h;exact Or.inl h.symm
        |cons k ks wY=>
         intro c9 l h
         cases c9 with
         |nil=>simp only[bG]at h;injection h with h;injection h with h;exact Or.inl h.symm
         |cons k' c9=>
          simp only[bG]at h
          split at h
          ·rename_i l1 e
           have h1:=Gf f k k' l l1 e
           have h2:=wY c9 l1 h
           rcases h1 with rfl|h1
           ·exact h2
           ·rcases h2 with rfl|h2
            ·exact Or.inr h1
            ·exact Or.inr af
          ·injection h with h;injection h with _ h;cases h
          ·cases h
       exact key _ _ _ h
theorem gf.len {s:aD}{l:List TB}(h:gf s l):l.length<=20:=by
 have:=zV (ns:=l.map (·.var)) (fun n hn=>by obtain⟨x,hx,rfl⟩:=List.mem_map.1 hn;exact(h.ok x hx).1) (by rw[Ej,List.pairwise_map];exact h.srt)
 rwa [List.length_map]at this
theorem yo{s:aD}:∀ (N z:Nat) (a c:Tm) (l:List TB),20 - l.length<=N->(aV (ai l) a).sz<=z->gf s l->Vs s a->Vs s c->∃f r,dh f a c l=some r:=by
 intro N
 induction N using Nat.strongRecOn with
 |ind N ihN=>
 intro z
 induction z with
 |zero=>intro a c l _ hz;have:=Tm.pC (aV (ai l) a);omega
 |succ z ihz=>
  intro a c l hN hz hl ha hc
  have va:=Vs.sub hl.bd a ha
  have vc:=Vs.sub hl.bd c hc
  have key:∀ (ks c9:List Tm) (l1:List TB),(∀k∈ks,k∈(aV (ai l) a).kids)->(∀k∈c9,Vs s k)->gf s l1->(l1=l\/l.length<l1.length)->∃f r,bG (dh f) ks c9 l1=some r:=by
   intro ks
   induction ks with
   |nil=>intro c9 l1 _ _ _ _;exact⟨0,_,rfl⟩
   |cons k ks wY=>
    intro c9 l1 m1 m2 pO TX
    cases c9 with
    |nil=>exact⟨0,_,rfl⟩
    |cons k' c9=>
     have hk:=m1 k aF
     have vk:=va.jV hk
     have GW:∃f r,dh f k k' l1=some r:=by
      rcases TX with rfl|TX
      ·refine ihz k k' l1 hN ?_ pO vk (m2 k' aF)
       have:aV (ai l1) k=k:=Cv (s:=s) k vk fun v hv=>by
        by_cases h1:(aV (ai l1) a).op=1
        ·rw[va.eta h1]at hk;cases hk
        ·exact hl.free ha ((oT va h1).2 ⟨k,hk,hv⟩)
       rw[this]
       have:=Tm.mI hk
       omega
      ·have h20:=pO.len
       exact ihN (20 - l1.length) af _ k k' l1 (Nat.le_refl _) (Nat.le_refl _) pO vk (m2 k' aF)
     obtain⟨f,⟨l2,ok⟩,e⟩:=GW
     cases ok with
     |false=>exact⟨f,(l2,false),by simp only[bG,e]⟩
     |true=>
      obtain⟨o1,_⟩:=jM f k k' l1 l2 e pO vk (m2 k' aF)
      have hle:=Gf f k k' l1 l2 e
      obtain⟨f2,r2,e2⟩:=wY c9 l2 (fun y hy=>m1 y lJ) (fun y hy=>m2 y lJ) o1 (by
       rcases hle with rfl|h
       ·exact TX
       ·right
        rcases TX with rfl|h2
        ·exact h
        ·omega)
      refine⟨max f f2,r2, ?_⟩
      simp only[bG]
      rw[lE e (Nat.le_max_left _ _)]
      exact me (fun k k' l r hk=>lE hk (Nat.le_max_right _ _)) e2
  obtain⟨f,r,e⟩:=key (aV (ai l) a).kids (aV (ai l) c).kids l (fun _ h=>h) (fun k hk=>vc.jV hk) hl (Or.inl rfl)
  refine⟨f+1, ?_⟩
  simp only[dh]
  repeat' split
  all_goals first
   |exact⟨_,rfl⟩
   |exact⟨r,e⟩
mutual
def sq:Tm->List Int
 | .mk op n kids=>if op=1 then [n]else N5 kids
def N5:List Tm->List Int
 |[]=>[]
 |k::l=>sq k++N5 l
end
theorem Cz:∀l:List Tm,N5 l=l.flatMap sq
 |[]=>rfl
 |k::l=>by rw[N5,Cz l,List.flatMap_cons]
theorem Ld(t:Tm):sq t=if t.op=1 then [t.n]else t.kids.flatMap sq:=by
 cases t;rw[sq,Cz];rfl
theorem Rt{s:aD}:∀t:Tm,Vs s t->∀v,v∈sq t↔fO v t=true:=by
 refine Tm.ei fun t ih hv v=> ?_
 rw[Ld]
 by_cases h1:t.op=1
 ·rw[if_pos h1,gN h1,List.mem_singleton];exact eq_comm
 ·rw[if_neg h1,oT hv h1,List.mem_flatMap]
  exact⟨fun⟨k,hk,h⟩=>⟨k,hk,(ih k hk (hv.jV hk) v).1 h⟩,fun⟨k,hk,h⟩=>⟨k,hk,(ih k hk (hv.jV hk) v).2 h⟩⟩
inductive nK (b:List (Int×Tm)) (n:Int):Tm->Prop where
 |here {t:Tm}:fO n t=true->nK b n t
 |step {t:Tm} {v:Int} {x:Tm}:fO v t=true->bN b v=some x->nK b n x->nK b n t
theorem nK.mono {b c:List (Int×Tm)}(h:∀v x,bN b v=some x->bN c v=some x){t:Tm}{n:Int}(hr:nK b n t):nK c n t:=by
 induction hr with
 |here h1=>exact .here h1
 |step h1 h2 _ ih=>exact .step h1 (h _ _ h2) ih
def Le(F:Tm->List Int->Option (Bool×List Int))(b:List (Int×Tm))(n:Int):List Int->List Int->Option (Bool×List Int)
 |[],met=>some (false,met)
 |v::vs,met=>if v=n then some (true,met)else
  match bN b v with
  |none=>Le F b n vs met
  |some x=>if v∈met then Le F b n vs met else
   match F x (dS met v)with
   |some (true,m)=>some (true,m)
   |some (false,m)=>Le F b n vs m
   |none=>none
def Ml:Nat->List (Int×Tm)->Int->Tm->List Int->Option (Bool×List Int)
 |0,_,_,_,_=>none
 |f+1,b,n,t,met=>Le (Ml f b n) b n (sq t) met
theorem qL{F G:Tm->List Int->Option (Bool×List Int)}(Cy:∀x m r,F x m=some r->G x m=some r){b:List (Int×Tm)}{n:Int}:∀ {vs met:List Int} {r:Bool×List Int},Le F b n vs met=some r->Le G b n vs met=some r
 |[],_,_,h=>h
 |v::vs,met,r,h=>by
  simp only[Le]at h|-
  split at h
  ·rename_i e;rw[if_pos e];exact h
  ·rename_i e
   rw[if_neg e]
   split at h
   ·exact qL Cy h
   ·split at h
    ·rename_i e2;rw[if_pos e2];exact qL Cy h
    ·rename_i x _ e2
     rw[if_neg e2]
     cases hF:F x (dS met v)with
     |none=>rw[hF]at h;cases h
     |some q=>
      rw[hF]at h
      rw[Cy _ _ _ hF]
      obtain⟨is,m⟩:=q
      cases is with
      |true=>exact h
      |false=>exact qL Cy h
theorem CA{b:List (Int×Tm)}{n:Int}:∀ {f g:Nat} {t:Tm} {met:List Int} {r:Bool×List Int},Ml f b n t met=some r->f<=g->Ml g b n t met=some r
 |0,_,_,_,_,h,_=>by cases h
 |f+1,0,_,_,_,h,hg=>af
 |f+1,g+1,t,met,r,h,hg=>qL (fun x m q hq=>CA hq af) h
def Er(b:List (Int×Tm))(n:Int)(m:List Int)(t:Tm):Prop:=∀v,fO v t=true->v≠n/\∀x,bN b v=some x->v∈m
theorem Er.mono {b:List (Int×Tm)}{n:Int}{m m':List Int}(h:∀v∈m,v∈m'){t:Tm}(ht:Er b n m t):Er b n m' t:=fun v hv=>⟨(ht v hv).1,fun x hx=>h v ((ht v hv).2 x hx)⟩
def LdQ(b:List (Int×Tm))(n:Int)(met:List Int)(t:Tm)(is:Bool)(fh:List Int):Prop:=
 (is=true->nK b n t)/\(is=false->(∀v∈met,v∈fh)/\Er b n fh t/\∀v∈fh,v∉met->∀x,bN b v=some x->Er b n fh x)
def wH(b:List (Int×Tm))(met:List Int):Nat:=((b.map (·.1)).filter fun v=> !met.contains v).length
theorem um{b:List (Int×Tm)}{met:List Int}{v:Int}{x:Tm}(h:bN b v=some x)(hm:v∉met):wH b (dS met v)<wH b met:=by
 unfold wH
 have hv:v∈b.map (·.1):=List.mem_map.2 ⟨_,cJ h,rfl⟩
 generalize b.map (·.1)=ks at hv
 have hle:∀ks:List Int,(ks.filter fun u=> !(dS met v).contains u).length<=(ks.filter fun u=> !met.contains u).length:=by
  intro ks
  refine(List.Sublist.length_le ?_)
  rw[show(ks.filter fun u=> !(dS met v).contains u)=(ks.filter fun u=> !met.contains u).filter fun u=> !(dS met v).contains u by
   rw[List.filter_filter]
   congr 1
   funext u
   cases e:(dS met v).contains u with
   |true=>rfl
   |false=>
    cases e2:met.contains u with
    |false=>rfl
    |true=>
     rw[List.contains_iff_mem]at e2
     have:(dS met v).contains u=true:=List.contains_iff_mem.2 (jI.2 (.inl e2))
     rw[this]at e;cases e]
  exact List.filter_sublist
 induction ks with
 |nil=>cases hv
 |cons u ks ih=>
  by_cases e:u=v
  ·subst e
   have h1:(dS met u).contains u=true:=List.contains_iff_mem.2 (jI.2 (.inr rfl))
   have h2:met.contains u=false:=by rw[Bool.eq_false_iff];intro h;exact hm (List.contains_iff_mem.1 h)
   rw[List.filter_cons,List.filter_cons,h1,h2]
   simp only[Bool.not_true,Bool.false_eq_true,if_false,Bool.not_false,if_true,List.length_cons]
   have:=hle ks
   omega
  ·have pN:v∈ks:=by
    rcases List.mem_cons.1 hv with h|h
    ·exact absurd h.symm e
    ·exact h
   have:=ih pN
   rw[List.filter_cons,List.filter_cons]
   have hu:(dS met v).contains u=met.contains u:=by
    rw[Bool.eq_iff_iff,List.contains_iff_mem,List.contains_iff_mem,jI]
    exact⟨fun h=>h.elim id fun h=>absurd h e, .inl⟩
   rw[hu]
   split
   ·rw[List.length_cons,List.length_cons];omega
   ·exact this
theorem CB{b:List (Int×Tm)}{m m':List Int}(h:∀v∈m,v∈m'):wH b m'<=wH b m:=by
 unfold wH
 refine List.Sublist.length_le ?_
 rw[show((b.map (·.1)).filter fun u=> !m'.contains u)=((b.map (·.1)).filter fun u=> !m.contains u).filter fun u=> !m'.contains u by
  rw[List.filter_filter]
  congr 1
  funext u
  cases e:m'.contains u with
  |true=>rfl
  |false=>
   cases e2:m.contains u with
   |false=>rfl
   |true=>
    rw[List.contains_iff_mem]at e2
    have:m'.contains u=true:=List.contains_iff_mem.2 (h u e2)
    rw[this]at e;cases e]
 exact List.filter_sublist
theorem Gg{s:aD}{b:List (Int×Tm)}(hb:∀p∈b,Vs s p.2)(n:Int):∀ (N:Nat) (t:Tm) (met:List Int),wH b met<=N->Vs s t->∃is fh,Ml (N+1) b n t met=some (is,fh)/\LdQ b n met t is fh
 |N,t,met,hN,ht=>by
  have key:∀ (vs met:List Int),wH b met<=N->(∀v∈vs,fO v t=true)->∃is fh,Le (Ml N b n) b n vs met=some (is,fh)/\(is=true->nK b n t)/\
   (is=false->(∀v∈met,v∈fh)/\(∀v∈vs,v≠n/\∀x,bN b v=some x->v∈fh)/\∀v∈fh,v∉met->∀x,bN b v=some x->Er b n fh x):=by
   intro vs
   induction vs with
   |nil=>intro met _ _;exact⟨false,met,rfl,fun h=>(by cases h),fun _=>⟨fun _ h=>h,fun _ h=>(by cases h),fun v h h'=>absurd h h'⟩⟩
   |cons v vs ih=>
    intro met hm HY
    have hv:=HY v aF
    have U7:∀u∈vs,fO u t=true:=fun u hu=>HY u (by simp[hu])
    simp only[Le]
    by_cases e:v=n
    ·rw[if_pos e]
     exact⟨true,met,rfl,fun _=> .here (e ▸ hv),fun h=>by cases h⟩
    ·rw[if_neg e]
     cases hl:bN b v with
     |none=>
      obtain⟨is,fh,h1,h2,h3⟩:=ih met hm U7
      refine⟨is,fh,h1,h2,fun h=>⟨(h3 h).1,fun u hu=> ?_,(h3 h).2.2⟩⟩
      rcases List.mem_cons.1 hu with rfl|hu
      ·exact⟨e,fun x hx=>by rw[hl]at hx;cases hx⟩
      ·exact(h3 h).2.1 u hu
     |some x=>
      simp only
      by_cases e2:v∈met
      ·rw[if_pos e2]
       obtain⟨is,fh,h1,h2,h3⟩:=ih met hm U7
       refine⟨is,fh,h1,h2,fun h=>⟨(h3 h).1,fun u hu=> ?_,(h3 h).2.2⟩⟩
       rcases List.mem_cons.1 hu with rfl|hu
       ·exact⟨e,fun _ _=>(h3 h).1 _ e2⟩
       ·exact(h3 h).2.1 u hu
      ·rw[if_neg e2]
       have hu:=um hl e2
       obtain⟨N',rfl⟩:∃N',N=N'+1:=⟨N - 1,af⟩
       obtain⟨is1,m1,g1,g2,g3⟩:=Gg hb n N' x (dS met v) af (hb _ (cJ hl))
       rw[g1]
       cases is1 with
       |true=>exact⟨true,m1,rfl,fun _=> .step hv hl (g2 rfl),fun h=>by cases h⟩
       |false=>
        obtain⟨k1,k2,k3⟩:=g3 rfl
        have k0:∀u∈met,u∈m1:=fun u hu=>k1 u (jI.2 (.inl hu))
        obtain⟨is,fh,h1,h2,h3⟩:=ih m1 (by have:=CB (b:=b) k0;omega) U7
        refine⟨is,fh,h1,h2,fun h=> ?_⟩
        obtain⟨j1,j2,j3⟩:=h3 h
        refine⟨fun u hu=>j1 u (k0 u hu),fun u hu=> ?_,fun u hu hnu y hy=> ?_⟩
        ·rcases List.mem_cons.1 hu with rfl|hu
         ·exact⟨e,fun _ _=>j1 _ (k1 _ (jI.2 (.inr rfl)))⟩
         ·exact j2 u hu
        ·by_cases Iy:u∈m1
         ·by_cases huv:u=v
          ·subst huv
           rw[hl]at hy
           cases hy
           exact k2.mono j1
          ·exact(k3 u Iy (fun h=>(jI.1 h).elim hnu huv) y hy).mono j1
         ·exact j3 u hu Iy y hy
  obtain⟨is,fh,h1,h2,h3⟩:=key (sq t) met hN fun v hv=>(Rt t ht v).1 hv
  exact⟨is,fh,h1,h2,fun h=>⟨(h3 h).1,fun v hv=>(h3 h).2.1 v ((Rt t ht v).2 hv),(h3 h).2.2⟩⟩
theorem U8{s:aD}{b:List (Int×Tm)}(hb:∀p∈b,Vs s p.2)(n:Int){t:Tm}(ht:Vs s t):∃is fh,Ml (b.length+1) b n t []=some (is,fh)/\(is=true↔nK b n t):=by
 have hN:wH b []<=b.length:=by
  unfold wH
  exact XK
 obtain⟨is,fh,h1,h2,h3⟩:=Gg hb n b.length t [] hN ht
 refine⟨is,fh,h1,h2,fun hr=> ?_⟩
 cases is with
 |true=>rfl
 |false=>
  obtain⟨_,k2,k3⟩:=h3 rfl
  exfalso
  have:∀t,nK b n t-> ¬Er b n fh t:=by
   intro t hr
   induction hr with
   |here h=>exact fun hs=>(hs _ h).1 rfl
   |step h1 h2 _ ih=>exact fun hs=>ih (k3 _ ((hs _ h1).2 _ h2) aF _ h2)
  exact this t hr k2
def pG(l more:List Int):List Int:=more.foldl dS l
theorem Es:∀ {more l:List Int} {v:Int},v∈pG l more↔v∈l\/v∈more
 |[],l,v=>by simp[pG]
 |u::more,l,v=>by
  show v∈pG (dS l u) more↔_
  rw[Es,jI,List.mem_cons,or_assoc]
theorem Lf:∀ (more l:List Int),∃r,pG l more=l++r
 |[],l=>⟨[],by simp[pG]⟩
 |u::more,l=>by
  obtain⟨r,hr⟩:=Lf more (dS l u)
  show ∃r,pG (dS l u) more=_
  rw[hr]
  unfold dS
  split
  ·exact⟨r,rfl⟩
  ·exact⟨[u]++r,by rw[List.append_assoc]⟩
theorem wa:∀ (more l:List Int),l.Nodup->(pG l more).Nodup
 |[],l,h=>h
 |u::more,l,h=>wa more (dS l u) (Ei u h)
def Lg(b:List (Int×Tm))(all:List Int)(v:Int):List Int:=match bN b v with
 |some x=>pG all (ct x)
 |none=>all
theorem N6(b:List (Int×Tm))(all:List Int)(v:Int):∃r,Lg b all v=all++r:=by
 unfold Lg
 split
 ·exact Lf _ _
 ·exact⟨[],aF⟩
theorem Ia(b:List (Int×Tm)){all:List Int}(v:Int)(h:all.Nodup):(Lg b all v).Nodup:=by
 unfold Lg
 split
 ·exact wa _ _ h
 ·exact h
theorem Ib{l:List Int}(hn:l.Nodup)(h:∀v∈l,0<=v/\v<20):l.length<=20:=by
 have:∀ (n:Nat) (l:List Int),l.Nodup->(∀v∈l,0<=v/\v<(n:Int))->l.length<=n:=by
  intro n
  induction n with
  |zero=>
   intro l _ h
   cases l with
   |nil=>exact Nat.le_refl _
   |cons a l=>have:=h a aF;omega
  |succ n ih=>
   intro l hn h
   have h1:=ih (l.erase (n:Int)) (hn.erase _) fun v hv=>by
    have fG:v≠(n:Int):=fun e=>by
     subst e
     exact hn.not_mem_erase hv
    have:=h v (List.mem_of_mem_erase hv)
    omega
   have h2:l.length<=(l.erase (n:Int)).length+1:=by
    by_cases hm:(n:Int)∈l
    ·rw[List.length_erase_of_mem hm];omega
    ·rw[List.erase_of_not_mem hm];omega
   omega
 exact this 20 l hn h
structure N7 (s:aD) (b:List (Int×Tm)) (t:Tm) (i:Nat) (all:List Int):Prop where
 nd:all.Nodup
 rg:∀v∈all,0<=v/\v<20
 le:i<=all.length
 fst:∀v,fO v t=true->v∈all
 snd:∀v∈all,nK b v t
 cl:∀j,j<i->∀v x,all[j]? =some v->bN b v=some x->∀u,fO u x=true->u∈all
theorem N7.zero {s:aD}{b:List (Int×Tm)}{t:Tm}(ht:Vs s t):N7 s b t 0 (pG [] (ct t)):=by
 have hm:∀v,v∈pG [] (ct t)↔fO v t=true:=fun v=>by rw[Es,(cX t).2 v];simp
 exact⟨wa _ _ List.nodup_nil,fun v hv=>ht.range ((hm v).1 hv),Nat.zero_le _,fun v hv=>(hm v).2 hv,fun v hv=> .here ((hm v).1 hv),fun j hj=>absurd hj (Nat.not_lt_zero _)⟩
theorem nK.trans {b:List (Int×Tm)}{t:Tm}{v:Int}(h:nK b v t){x:Tm}(hx:bN b v=some x){n:Int}(hn:nK b n x):nK b n t:=by
 induction h with
 |here h1=>exact .step h1 hx hn
 |step h1 h2 _ ih=>exact .step h1 h2 ih
theorem N7.succ {s:aD}{b:List (Int×Tm)}(hb:∀p∈b,Vs s p.2){t:Tm}{i:Nat}{all:List Int}(h:N7 s b t i all){v:Int}(hv:all[i]? =some v):N7 s b t (i+1) (Lg b all v):=by
 obtain⟨r,hr⟩:=N6 b all v
 have hi:=(List.getElem?_eq_some_iff.1 hv).1
 have hvm:=List.mem_of_getElem? hv
 have hm:∀u,u∈Lg b all v↔u∈all\/∃x,bN b v=some x/\fO u x=true:=fun u=>by
  unfold Lg
  cases hl:bN b v with
  |none=>simp
  |some x=>simp only[Es,(cX x).2 u,Option.some.injEq,exists_eq_left']
 refine⟨Ia b v h.nd,fun u hu=> ?_,by rw[hr,List.length_append];omega,fun u hu=>(hm u).2 (.inl (h.fst u hu)),fun u hu=> ?_,fun j hj w x hw hx u hu=> ?_⟩
 ·rcases(hm u).1 hu with hu|⟨x,hx,hu⟩
  ·exact h.rg u hu
  ·exact(hb _ (cJ hx)).range hu
 ·rcases(hm u).1 hu with hu|⟨x,hx,hu⟩
  ·exact h.snd u hu
  ·exact(h.snd v hvm).trans hx (.here hu)
 ·rw[hr,List.getElem?_append_left (by omega)]at hw
  rcases Nat.lt_or_ge j i with hji|hji
  ·exact(hm u).2 (.inl (h.cl j hji w x hw hx u hu))
  ·have:j=i:=af
   subst this
   rw[hv]at hw
   cases hw
   exact(hm u).2 (.inr ⟨x,hx,hu⟩)
end Go.Proofs.YtlhemmpklhhgoaaGreat
