/-
  A PART OF THE PROOF. Conditions: none.
-/
import Derived.Test.YtlhemmpklhhgoaaGreatQu15
set_option linter.unusedSimpArgs false
set_option linter.unusedVariables false
section
namespace Go.Proofs.YtlhemmpklhhgoaaGreat
open Go.Shelf
def CT:Go.Shelf.Ren:=⟨fun|189=>135|125=>163|257=>162|128=>184|129=>185|294=>175|295=>176|296=>177|297=>178|298=>179|299=>180|216=>181|300=>182|301=>183|328=>188|329=>189|330=>190|331=>191|332=>192|215=>193|343=>201|n=>n,fun|28=>142|3=>3|46=>193|0=>0|51=>205|53=>207|4=>4|183=>197|182=>196|131=>202|5=>5|9=>9|218=>214|222=>218|228=>220|229=>221|n=>n,fun|n=>n⟩
theorem GQ:Go.Proofs.Lays.n189 Tryz.prog CT:={
 mixed:=ah
 f125:=Tryz.func163.trans (congrArg some ah)
 f128:=Tryz.func184.trans (congrArg some ah)
 f129:=Tryz.func185.trans (congrArg some ah)
 f189:=Tryz.func135.trans (congrArg some ah)
 f215:=Tryz.func193.trans (congrArg some ah)
 f216:=Tryz.func181.trans (congrArg some ah)
 f257:=Tryz.func162.trans (congrArg some ah)
 f294:=Tryz.func175.trans (congrArg some ah)
 f295:=Tryz.func176.trans (congrArg some ah)
 f296:=Tryz.func177.trans (congrArg some ah)
 f297:=Tryz.func178.trans (congrArg some ah)
 f298:=Tryz.func179.trans (congrArg some ah)
 f299:=Tryz.func180.trans (congrArg some ah)
 f300:=Tryz.func182.trans (congrArg some ah)
 f301:=Tryz.func183.trans (congrArg some ah)
 f328:=Tryz.func188.trans (congrArg some ah)
 f329:=Tryz.func189.trans (congrArg some ah)
 f330:=Tryz.func190.trans (congrArg some ah)
 f331:=Tryz.func191.trans (congrArg some ah)
 f332:=Tryz.func192.trans (congrArg some ah)
 f343:=Tryz.func201.trans (congrArg some ah)
 t0:=Tryz.underlying0
 a0:=Tryz.isAgg0
 z0:=Tryz.sizeOf0
 v0:=Tryz.zeroValue0
 t3:=Tryz.underlying3
 a3:=Tryz.isAgg3
 z3:=Tryz.sizeOf3
 v3:=Tryz.zeroValue3
 t4:=Tryz.underlying4
 a4:=Tryz.isAgg4
 z4:=Tryz.sizeOf4
 v4:=Tryz.zeroValue4
 t5:=Tryz.underlying5
 a5:=Tryz.isAgg5
 z5:=Tryz.sizeOf5
 v5:=Tryz.zeroValue5
 t9:=Tryz.underlying9
 a9:=Tryz.isAgg9
 z9:=Tryz.sizeOf9
 v9:=Tryz.zeroValue9
 t28:=Tryz.underlying142
 a28:=Tryz.isAgg142
 z28:=Tryz.sizeOf142
 v28:=Tryz.zeroValue142
 t46:=Tryz.underlying193
 a46:=Tryz.isAgg193
 z46:=Tryz.sizeOf193
 v46:=Tryz.zeroValue193
 t51:=Tryz.underlying205
 a51:=Tryz.isAgg205
 z51:=Tryz.sizeOf205
 v51:=Tryz.zeroValue205
 t53:=Tryz.underlying207
 a53:=Tryz.isAgg207
 z53:=Tryz.sizeOf207
 v53:=Tryz.zeroValue207
 t131:=Tryz.underlying202
 a131:=Tryz.isAgg202
 z131:=Tryz.sizeOf202
 v131:=Tryz.zeroValue202
 t182:=Tryz.underlying196
 a182:=Tryz.isAgg196
 z182:=Tryz.sizeOf196
 v182:=Tryz.zeroValue196
 t183:=Tryz.underlying197
 a183:=Tryz.isAgg197
 z183:=Tryz.sizeOf197
 v183:=Tryz.zeroValue197
 t218:=Tryz.underlying214
 a218:=Tryz.isAgg214
 z218:=Tryz.sizeOf214
 v218:=Tryz.zeroValue214
 t222:=Tryz.underlying218
 a222:=Tryz.isAgg218
 z222:=Tryz.sizeOf218
 v222:=Tryz.zeroValue218
 t228:=Tryz.underlying220
 a228:=Tryz.isAgg220
 z228:=Tryz.sizeOf220
 v228:=Tryz.zeroValue220
 t229:=Tryz.underlying221
 a229:=Tryz.isAgg221
 z229:=Tryz.sizeOf221
 v229:=Tryz.zeroValue221}
theorem IZ:CS Tryz.prog 135:=fun eg off cap zs w h1 h2 h3=>Any.slices_Sort_int GQ eg off cap zs w h1 h2 h3
theorem I0:∀ (p:Option Addr) (cap:Nat) (w:World),Calls Tryz.prog 135 #[.slice p 0 cap] w fun e w'=>e= .returned (.tuple #[])/\w'=w:=fun p cap w=>Any.slices_Sort_int_none GQ p cap w
theorem CU:Enters Tryz.prog 135:=⟨_,Tryz.func135,ah,ah⟩
end Go.Proofs.YtlhemmpklhhgoaaGreat
end
namespace Go.Proofs.YtlhemmpklhhgoaaGreat
end Go.Proofs.YtlhemmpklhhgoaaGreat
namespace Go.Proofs.YtlhemmpklhhgoaaGreat
theorem Aj{o:Nat->ad}{nx:Nat}{Δ:List (Nat×ad)}(h:∀x∈Δ,x.1<nx):(hp o nx).put Δ=hp (put o Δ) nx:=by
 simp only[Hp.put,hp]
 congr 1
 funext j
 simp only[List.mem_map,eq_iff_iff]
 exact⟨fun h2=>h2.elim (fun h=>h) fun⟨x,hx,e⟩=>e ▸ h x hx, .inl⟩
theorem bQ.ES {P:Program}{g:FuncId}{args:List V}{o:Nat->ad}{nx id:Nat}{kt vt:TypeId}{l:List (D×D)}{K X:V->(Nat->ad)->Nat->Prop}(ho:o id= .map kt vt l)(ax:id<nx)
 (h:bQ P g args (ay o id (.b8 l)) nx K X):bQ P g args o nx K X:=by
 refine⟨h.1,fun M φ w vals hH hd=> ?_⟩
 obtain⟨h1,h2⟩:=zc hH (id:=id) ax ho
 have fg:(hp o nx).put [(id, .b8 l)]=hp (ay o id (.b8 l)) nx:=Aj (fun x hx=>by simp at hx;subst hx;exact ax)
 rw[fg]at h1 h2
 have hB:∀b, ¬ak M φ (hp o nx) b-> ¬ak M φ (hp (ay o id (.b8 l)) nx) b:=by
  rintro b hn (hb|⟨j,hl,hb⟩)
  ·exact hn (.inl hb)
  ·refine hn (.inr ⟨j, ?_,hb⟩)
   by_cases e:j=id
   ·subst e;show(o j).live=true;rw[ho];rfl
   ·have hl:(ay o id (.b8 l) j).live=true:=hl
    rw[ae _ _ _ _ e]at hl;exact hl
 refine(h.2 M φ w vals h1 (V.eA (H:=hp o nx) hB _ _ (fun j hj=>⟨?_,rfl,V.ed _ _ hd j hj⟩) hd)).mono ?_
 ·show jU (ay o id (.b8 l) j) (o j)
  by_cases e:j=id
  ·subst e;rw[ab,ho];exact⟨fun _=>rfl,fun e he=>by cases he⟩
  ·rw[ae _ _ _ _ e];exact jU.rfl' rfl
 ·rintro e w' ⟨aF,o',nx',v,k1,k2,k3⟩
  exact⟨aF,o',nx',v,k1,h2.trans k2,k3⟩
theorem bQ.seal {P:Program}{g:FuncId}{args:List V}{o:Nat->ad}{nx:Nat}{K X:V->(Nat->ad)->Nat->Prop}
 (h:bQ P g args o nx (fun v o' nx'=>∃x,dN o' v=some x/\K (.d x) (put o' (bw o' v.ids)) nx') X):bQ P g args o nx K X:=by
 refine⟨h.1,fun M φ w vals hH hd=>(h.2 M φ w vals hH hd).mono ?_⟩
 rintro e w' ⟨aF,o',nx',v,k1,k2,k3⟩
 cases e with
 |returned val=>
  obtain⟨k4,x,k5,k6⟩:=k3
  have hu:=fun id ax=>cO v val k4 id ax
  obtain⟨f1,f2,f3,f4,f5⟩:=cW (H:=hp o' nx') k1 v.ids hu
  have fg:(hp o' nx').put (bw o' v.ids)=hp (put o' (bw o' v.ids)) nx':=Aj (fun y hy=>by
   simp only[bw,List.mem_map]at hy
   obtain⟨id,ax,rfl⟩:=hy
   exact hu id ax)
  have SP:=f1;have SQ:=f2
  rw[show bw (hp o' nx').o v.ids=bw o' v.ids from rfl,fg]at SP SQ
  have Nj:∀k,cG aF ((hp o' nx').put (bw o' v.ids)) k->cG aF (hp o' nx') k:=by
   rintro k ⟨id,g1,g2⟩
   by_cases ax:id∈v.ids
   ·have:=f3 id ax
    rw[show((hp o' nx').put (bw o' v.ids)).o id=_ from this]at g1
    refine⟨id, ?_,g2⟩
    revert g1
    cases(hp o' nx').o id<;>simp[ad.fz,ad.live]
   ·have:=f4 id ax
    rw[show((hp o' nx').put (bw o' v.ids)).o id=_ from this]at g1
    exact⟨id,g1,g2⟩
  have h4:V.den (ak M aF ((hp o' nx').put (bw o' v.ids))) aF ((hp o' nx').put (bw o' v.ids)) w' v val:=
   V.jK (H:=hp o' nx') (fun k h h'=>h (h'.imp id (Nj k))) v val (fun id ax=>by
     have dT:(hp o' nx').us id:=(V.jq v val k4) id ax
     refine⟨?_,rfl,(f5 id).2 dT⟩
     by_cases hm:id∈v.ids
     ·rw[show((hp o' nx').put (bw o' v.ids)).o id=_ from f3 id hm];exact jU.fz _
     ·rw[show((hp o' nx').put (bw o' v.ids)).o id=_ from f4 id hm];exact jU.rfl' rfl) k4
  have h5:=eH f1 (o:=o') v x val (fun id ax=>f3 id ax) k5 h4
  rw[show(hp o' nx').put (bw (hp o' nx').o v.ids)=hp (put o' (bw o' v.ids)) nx' from fg]at h5
  exact⟨aF,_,nx', .d x,SP,k2.trans SQ,h5,k6⟩
 |panicked ch=>exact⟨aF,o',nx',v,k1,k2,k3⟩
 |outgrown=>exact k3.elim
section
section
variable {B:Nat->Prop}{w:World}
end
end
@[reducible] def mpD (m:List (Int×D)):D:= .mp ((enc (D.int .i64) m).map (·.1)) ((enc (D.int .i64) m).map (·.2))
theorem oo(m:List (Int×D)):(((enc (D.int .i64) m).map (·.1)).zip ((enc (D.int .i64) m).map (·.2)))=enc (D.int .i64) m:=OV _ m
theorem I1:∀ {l:List Int},ER l->l.Nodup:=by
 intro l h
 exact List.Pairwise.imp (fun h=>af) h
theorem LV(a b:List Tm)(ha:a.length<=9223372036854775807)(hb:b.length<=9223372036854775807)(g:Nat)(h:∀x∈a,∀y∈b,aW Tryz.prog g [x.d,y.d] (.ret [.bool (iJ x y)]))(o:Nat->ad)(nx:Nat)(hg:Good o nx)(K X:V->(Nat->ad)->Nat->Prop)
 (hK:∀o' nx',nx<=nx'->Good o' nx'->(∀j,j<nx->o' j=o j)->K (.d (.bool (a.length==b.length&&ir a b))) o' nx'):
 bQ Tryz.prog 133 [.d (.sl (a.map Tm.d)), .d (.sl (b.map Tm.d)), .func (.func g) [] []] o nx K X:=by
 refine bQ.aH mix R9 aE ?_
 rw[Vw]
 refine fM ?_
 refine ao (fun h1=> ?_) (fun h1=> ?_)
 ·refine cS ?_
  have:(a.length==b.length&&ir a b)=false:=by
   have:(a.length==b.length)=false:=by
    rw[Bool.eq_false_iff];intro h
    simp at h;simp[h]at h1
   rw[this];rfl
  rw[this]at hK
  exact hK _ _ af (hg.mono af) (fun _ _=>rfl)
 ·have hl:a.length=b.length:=by simp at h1;omega
  have HZ:(a.length==b.length)=true:=by simpa using hl
  rw[HZ,Bool.true_and]at hK
  refine fM ?_
  refine aG (fun k:Nat=>⟨aY [.d (.sl (a.map Tm.d)), .d (.sl (b.map Tm.d)), .func (.func g) [] [], .aa, .aa, .aa, .aa, .aa, .aa, .aa, .aa, .aa, .aa, .aa, .aa, .d (.sl (a.map Tm.d)), .d (.i a.length), .d (.i k)],o,nx⟩)
   (fun k=>k<=a.length/\∀i,i<k->∀x y,a[i]? =some x->b[i]? =some y->iJ x y=true) (fun k=>a.length - k) 0 ⟨Nat.zero_le _,fun i h=>af⟩ (bI.bE _ (Nat.le_refl _) af hg (fun _ _=>rfl) ?_) (fun k hk=> ?_)
  ·exact dA
  refine cS ?_
  refine ao (fun h2=> ?_) (fun h2=> ?_)
  ·simp at h2
   obtain⟨x,hx⟩:=aD h2
   obtain⟨y,hy⟩:=aD (l:=b) (k:=k) af
   refine Jy hx hy ?_
   refine aw (h x (List.mem_of_getElem? hx) y (List.mem_of_getElem? hy)) rfl ?_
   refine cS ?_
   refine ao (fun h3=> ?_) (fun h3=> ?_)
   ·refine cS ?_
    simp at h3
    have:ir a b=false:=by
     rw[Bool.eq_false_iff];intro h4
     have:=(iu _ _ hl).1 h4 k x y hx hy
     rw[h3]at this;cases this
    rw[this]at hK
    refine hK _ _ af ?_ (fun j hj=>by(repeat(first|rfl|rw[ab]|rw[ae _ _ _ _ (by omega)])))
    exact dE
   ·refine cS ?_
    simp at h3
    refine aj (k+1) ⟨h2,fun i hi u v hu hv=> ?_⟩ af (bI.bE _ (Nat.le_refl _) af hg (fun j hj=>by(repeat(first|rfl|rw[ab]|rw[ae _ _ _ _ (by omega)]))) ?_)
    ·by_cases e:i=k
     ·subst e
      rw[hx]at hu;rw[hy]at hv
      exact Qk
     ·exact hk.2 i af u v hu hv
    ·exact dA
  ·refine cS ?_
   simp at h2
   have:ir a b=true:=(iu _ _ hl).2 fun i x y hx hy=>hk.2 i (by have:=(List.getElem?_eq_some_iff.1 hx).1;omega) x y hx hy
   rw[this]at hK
   exact hK _ _ af (hg.mono af) (fun _ _=>rfl)
def lk:List (Int×Int)->Int->Option Int
 |[],_=>none
 |p::m,v=>if p.1=v then some p.2 else lk m v
abbrev Keys(m:List (Int×Int)):Prop:=(m.map (·.1)).Nodup
def ints(m:List (Int×Int)):List (Int×D):=m.map fun p=>(p.1,D.i p.2)
def bS:List (Int×Tm)->Int->Option Tm
 |[],_=>none
 |p::l,v=>if p.1=v then some p.2 else bS l v
mutual
def Tm.wf:Tm->Prop
 | .mk op _ kids=>(op=1->kids=[])/\(op=8->kids.length=2)/\Tm.wfs kids
def Tm.wfs:List Tm->Prop
 |[]=>True
 |k::l=>k.wf/\Tm.wfs l
end
theorem Tm.GR:∀l:List Tm,Tm.wfs l↔∀k∈l,k.wf
 |[]=>by simp[Tm.wfs]
 |k::l=>by simp[Tm.wfs,Tm.GR l]
theorem Tm.ET (t:Tm):t.wf↔(t.op=1->t.kids=[])/\(t.op=8->t.kids.length=2)/\∀k∈t.kids,k.wf:=by cases t;simp[Tm.wf,Tm.GR,Tm.op,Tm.kids]
theorem Wi{t:Tm}(h:t.kids.length=2):∃a b,t.kids=[a,b]:=by
 match hk:t.kids with
 |[a,b]=>exact⟨a,b,rfl⟩
 |[]=>rw[hk]at h;cases h
 |[_]=>rw[hk]at h;cases h
 |_::_::_::_=>rw[hk]at h;simp at h
theorem lz{b:List (Int×Tm)}{v:Int}:bS b v=none↔v∉b.map (·.1):=by
 induction b with
 |nil=>simp[bS]
 |cons p l ih=>
  simp only[bS,List.map_cons,List.mem_cons,not_or]
  split
  ·rename_i h;simp[h]
  ·rename_i h;rw[ih];exact⟨fun h2=>⟨fun e=>h e.symm,h2⟩,fun h2=>h2.2⟩
theorem cK{b:List (Int×Tm)}{v:Int}{x:Tm}(h:bS b v=some x):(v,x)∈b:=by
 induction b with
 |nil=>cases h
 |cons p l ih=>
  simp only[bS]at h
  split at h
  ·rename_i e;injection h with h;subst h;subst e;exact List.mem_cons_self ..
  ·exact List.mem_cons_of_mem _ (ih h)
theorem lA{b:List (Int×Tm)}(hb:(b.map (·.1)).Nodup){v:Int}{x:Tm}:bS b v=some x↔(v,x)∈b:=by
 refine⟨cK,fun h=> ?_⟩
 induction b with
 |nil=>cases h
 |cons p l ih=>
  rw[List.map_cons,List.nodup_cons]at hb
  simp only[bS]
  rcases List.mem_cons.1 h with e|h
  ·subst e;simp
  ·rw[if_neg (fun e=>hb.1 (by rw[e];exact List.mem_map.2 ⟨_,h,rfl⟩)),ih hb.2 h]
def CV(b:Bool)(x:Tm×Int):Bool:=b&&x.1.op !=1
def SR(t:Tm):Bool:=(pre t 1).all fun x=>x.1.op !=1
theorem tn:∀ (l:List (Tm×Int)) (b:Bool),(aN (wK (fun _=>none) CV) b l).1=(b&&l.all fun x=>x.1.op !=1)
 |[],b=>by simp[aN]
 |x::l,b=>by
  have e1:wK (fun _=>(none:Option jS)) CV b x=(CV b x,true):=rfl
  rw[aN,e1]
  simp only[if_true]
  rw[tn l,CV,List.all_cons,Bool.and_assoc]
theorem EU(s:aB)(hs:s.Fits)(t:Tm)(ht:t.Fin):aW Tryz.prog 129 [s.d,t.d] (.ret [.bool (iW s [t]&&nI t), .bool (iW s [t]&&nI t&&SR t), .i (mJ (iW s [t]))]):=by
 refine aW.aH mix R7 aE ?_
 rw[Vu]
 refine cS ?_
 refine aw (OY s hs [t] aE (fun x hx=>by simp at hx;subst hx;exact ht)) rfl ?_
 cases h1:iW s [t]with
 |false=>simp+contextual (disch:=first|omega|simp only[go_sem,false_implies]) only[go_sem,wrap64,if_pos,and_self];simp[mJ]
 |true=>
  refine fM ?_
  refine bY (vR t _ _ _ _ ?_)
  refine fM ?_
  refine nH (σ:=Bool) t ht.fits ht.ma [.aa, .aa, .aa, .ptr 1 0, .aa, .aa, .aa, .ptr 10 0] ?_ bu rfl dE xo (ab _ _ _)
   (fun b=>ay (ay (ay (ay (ay (fun _=> .no) 0 (.row s.row)) 1 (.row t.row)) 7 (.arr 0 33 3 [t.d])) 10 (.row [.d (.bool b)])) 13 (.row t.row)) (fun _=>none) CV (fun _=>True) true trivial rfl (fun id ax=> ?_) (fun _ _ _ _ _ _=>trivial) ?_ ?_
  ·exact JC
  ·rw[ud]
  ·intro L hL xi x hx s' h1 h2 o3 n3 hI hn ho K X eD
   simp only[px]
   have hg:=hI.cC
   have q1:o3 10= .row [.d (.bool s')]:=hI.eq 10 af
   refine cS ?_
   refine nE hL (pd:=none) ?_ ?_
   ·(repeat(first|rfl|rw[ab]|rw[ae _ _ _ _ (by omega)]))
    exact ho
   refine oz q1 ?_
   refine eD _ _ _ .busy none af ⟨dE,af,fun id ax=> ?_⟩ cA (fun id h3 h4=>by(repeat(first|rfl|rw[ab]|rw[ae _ _ _ _ (by omega)])))
   by_cases e:id=10
   ·exact uq
   ·rw[ae _ _ _ _ e];(repeat(first|rfl|rw[ab]|rw[ae _ _ _ _ (by omega)]))
    rw[hI.eq id ax]
    simp only[aL,e,if_false]
  ·intro o' n' hI
   have hf:=tn (pre t 1) true
   rw[Bool.true_and]at hf
   rw[hf]at hI
   have q0:o' 1= .row t.row:=hI.eq 1 af
   have q1:o' 10= .row [.d (.bool (SR t))]:=hI.eq 10 af
   simp only[qw]
   refine Nv q0 q1 ?_
   refine aw (IQ t ht) rfl ?_
   cases hv:nI t<;>(simp+contextual (disch:=first|omega|simp only[go_sem,false_implies]) only[go_sem,wrap64,if_pos,q0,q1];refine aO bu ?_;simp+contextual (disch:=first|omega|simp only[go_sem,false_implies]) only[go_sem,wrap64,if_pos,and_self];simp[mJ])
theorem GS{v op n:Int}(h:op≠8):∀ (l:List Tm) (i:Nat),Ai v op n l i=l.any (gv v)
 |[],i=>rfl
 |k::l,i=>by
  have:(op==8)=false:=by simpa using h
  simp[Ai,GS h l,this]
theorem LW{s:aB}{t:Tm}(h:bn s t=true)(h1:t.op=1):t.kids=[]:=by
 simp[bn,h1]at h
 exact h.1
theorem vZ:∀ (l:List Int) (n:Int),∃k,k<=l.length/\(∀x∈l.take k,x<n)/\(∀x,l[k]? =some x-> ¬x<n)/\oF l n=if l[k]? =some n then l else l.take k++n::l.drop k
 |[],n=>⟨0,Nat.zero_le _,aE,aE,by simp[oF]⟩
 |x::l,n=>by
  obtain⟨k,h1,h2,h3,h4⟩:=vZ l n
  by_cases hx:x<n
  ·refine⟨k+1,by simp;omega, ?_,by simpa using h3, ?_⟩
   ·intro y hy
    simp only[List.take_succ_cons,List.mem_cons]at hy
    rcases hy with rfl|hy
    ·exact hx
    ·exact h2 y hy
   ·simp only[oF,if_pos hx,h4,List.getElem?_cons_succ,List.take_succ_cons,List.drop_succ_cons]
    split<;>simp
  ·refine⟨0,Nat.zero_le _,aE,by simpa using hx, ?_⟩
   simp only[oF,if_neg hx]
   by_cases e:x=n
   ·subst e;simp
   ·simp[e]
theorem acS(l:List Int)(n:Int)(hl:l.length<=1000000):aW Tryz.prog 155 [.sl (l.map .i), .i n] (.ret [.sl ((oF l n).map .i)]):=by
 obtain⟨j,j1,j2,j3,j4⟩:=vZ l n
 have tk:∀ (i:Nat) (l:List Int),List.take i (l.map D.i)=(l.take i).map D.i:=fun i l=>List.map_take.symm
 have dr:∀ (i:Nat) (l:List Int),List.drop i (l.map D.i)=(l.drop i).map D.i:=fun i l=>List.map_drop.symm
 have ap:∀ (a b:List Int),a.map D.i++[D.i n]++b.map D.i=(a++n::b).map D.i:=fun a b=>aE
 refine aW.aH mix abT aE ?_
 rw[abS]
 refine cS ?_
 refine aG (fun k:Nat=>⟨aY [.d (.sl (l.map .i)), .d (.i n), .aa, .aa, .aa, .d (.i k)],fun _=> .no,0⟩)
  (fun k=>k<=j) (fun k=>l.length - k) 0 (Nat.zero_le _) (bI.d0 _ ?_) (fun k hk=> ?_)
 ·exact dA
 by_cases hkj:k=j
 ·subst hkj
  by_cases h5:k<l.length
  ·obtain⟨x,hx⟩:=aD h5
   have h6:=j3 x hx
   have Jj:(k:Int)<l.length:=af
   refine wM hx Jj h6 ?_
   refine ao (fun h3=> ?_) (fun h3=> ?_)
   ·refine cS ?_
    have e:x=n:=by simpa using h3
    rw[j4,if_pos (by rw[hx,e])]
   ·have e: ¬x=n:=by simpa using h3
    rw[j4,if_neg (by rw[hx];simpa using e)]
    simp+contextual (disch:=first|omega|simp only[go_sem,false_implies]) only[go_sem,wrap64,if_pos,hx,Jj,h6,tk,dr,List.take_length,List.length_map,List.length_take,List.length_drop,List.length_append,List.length_cons,List.length_nil]
    rw[ap]
    refine aO bu ?_
    exact pV
  ·have Jj: ¬ (k:Int)<l.length:=af
   have hx:l[k]? =none:=by simp;omega
   rw[j4,if_neg (by rw[hx];simp)]
   simp+contextual (disch:=first|omega|simp only[go_sem,false_implies]) only[go_sem,wrap64,if_pos,Jj,tk,dr,List.take_length,List.length_map,List.length_take,List.length_drop,List.length_append,List.length_cons,List.length_nil]
   rw[ap]
   refine aO bu ?_
   exact pV
 ·have ck:k<l.length:=af
  obtain⟨x,hx⟩:=aD ck
  have Jj:(k:Int)<l.length:=af
  have h6:x<n:=j2 x (List.mem_of_getElem? (i:=k) (by rw[List.getElem?_take_of_lt (by omega)];exact hx))
  refine wM hx Jj h6 ?_
  refine aj (k+1) af af (bI.d0 _ ?_)
  exact dA
theorem I2{op n:Int}{i:Nat}{l:List Int}{k:Nat}{v:Int}(h:l[k]? =some v)(out:List Int):pK op n i (l.take (k+1)) out=if(op !=8||(i:Int)!=1||v !=n)=true then oF (pK op n i (l.take k) out) v else pK op n i (l.take k) out:=by
 unfold pK
 rw[List.take_add_one,h,List.foldl_append]
 rfl
theorem Wj{t a body:Tm}{v:Int}(h8:t.op=8)(hk:t.kids=[a,body]):gv v t=(gv v a||(gv v body&& !(t.n==v))):=by
 rw[sw,hk,h8]
 simp[Ai]
theorem nK{v n:Int}:gv v (.mk 1 n [])=(n==v):=rfl
theorem LX{t:Tm}{v:Int}(h1:t.op≠1)(h8:t.op≠8):gv v t=t.kids.any (gv v):=by rw[sw,if_neg h1,GS h8]
def ae5(R:Int->Int->Prop)(x y:Int):Int->Int->Prop:=fun v w=>(v=x/\w=y)\/(v≠x/\w≠y/\R v w)
inductive Al:(Int->Int->Prop)->Tm->Tm->Prop where
 |var {R:Int->Int->Prop} {v w:Int} (h:R v w):Al R (.mk 1 v []) (.mk 1 w [])
 |EV {R:Int->Int->Prop} {n m:Int} {a a' b b':Tm} (ha:Al R a a') (hb:Al (ae5 R n m) b b'):Al R (.mk 8 n [a,b]) (.mk 8 m [a',b'])
 |node {R:Int->Int->Prop} {op n:Int} {l l':List Tm} (h1:op≠1) (h8:op≠8) (hl:l.length=l'.length) (h:∀ (i:Nat) (k k':Tm),l[i]? =some k->l'[i]? =some k'->Al R k k'):Al R (.mk op n l) (.mk op n l')
theorem Al.mono {R:Int->Int->Prop}{t t':Tm}(h:Al R t t'):∀ {S:Int->Int->Prop},(∀v w,R v w->S v w)->Al S t t':=by
 induction h with
 |var h=>exact fun hs=> .var (hs _ _ h)
 |EV ha hb iha ihb=>
  exact fun hs=> .EV (iha hs) (ihb fun v w h=>h.elim Or.inl fun h=>Or.inr ⟨h.1,h.2.1,hs _ _ h.2.2⟩)
 |node h1 h8 hl h ih=>exact fun hs=> .node h1 h8 hl fun i k k' g g'=>ih i k k' g g' hs
def acT(R S:Int->Int->Prop):Int->Int->Prop:=fun v w=>∃u,R v u/\S u w
theorem Al.comp {R:Int->Int->Prop}{t t1:Tm}(h:Al R t t1):∀ {S:Int->Int->Prop} {t2:Tm},Al S t1 t2->Al (acT R S) t t2:=by
 induction h with
 |var h=>
  intro S t2 h2
  generalize he:Tm.mk 1 _ []=x at h2
  cases h2 with
  |var h3=>injection he with _ e _;subst e;exact .var ⟨_,h,h3⟩
  |EV _ _=>injection he with e;cases e
  |node g1 _ _ _=>injection he with e;exact absurd e.symm g1
 |EV ha hb iha ihb=>
  intro S t2 h2
  generalize he:Tm.mk 8 _ _=x at h2
  cases h2 with
  |var h3=>injection he with e;cases e
  |EV g1 g2=>
   injection he with _ e1 e2
   injection e2 with e2 e3
   injection e3 with e3 _
   subst e1;subst e2;subst e3
   refine .EV (iha g1) ((ihb g2).mono ?_)
   rintro v w ⟨u,(⟨p1,p2⟩|⟨p1,p2,p3⟩),(⟨q1,q2⟩|⟨q1,q2,q3⟩)⟩
   ·exact Or.inl ⟨p1,q2⟩
   ·exact absurd p2 q1
   ·exact absurd q1 p2
   ·exact Or.inr ⟨p1,q2,u,p3,q3⟩
  |node g1 g8 _ _=>injection he with e;exact absurd e.symm g8
 |node h1 h8 hl h ih=>
  intro S t2 h2
  generalize he:Tm.mk _ _ _=x at h2
  cases h2 with
  |var h3=>injection he with e;exact absurd e h1
  |EV _ _=>injection he with e;exact absurd e h8
  |node g1 g8 gl g3=>
   injection he with e1 e2 e3
   subst e1;subst e2;subst e3
   refine .node h1 h8 (hl.trans gl) fun i k k2 hk DC=> ?_
   have ck:i<_:=(List.getElem?_eq_some_iff.1 hk).1
   have Nd:=List.getElem?_eq_getElem (hl ▸ ck)
   exact ih i k _ hk Nd (g3 i _ k2 Nd DC)
theorem OZ{t:Tm}(hw:t.wf)(h:t.op=1):t= .mk 1 t.n []:=by
 obtain⟨op,n,kids⟩:=t
 rw[Tm.ET]at hw
 simp only[Tm.op,Tm.n,Tm.kids]at h hw|-
 rw[h,hw.1 h]
def IC.snd:IC->IC
 | .seq _ y=>y
 |c=>c
def IC.fst:IC->IC
 | .seq x _=>x
 | .block _ x=>x
 | .loop x=>x
 | .cond _ x _=>x
 |c=>c
@[reducible] def ae6 (m:List (Int×Int)):ad:= .map 3 3 (enc (D.int .i64) (ints m))
@[reducible] def ae7 (m:List (Int×Int)):ad:= .b8 (enc (D.int .i64) (ints m))
def BdV(o:Nat->ad)(bv:V)(m:List (Int×Int)):Prop:=(bv= .d .dH/\m=[])\/∃b,bv= .mp b/\o b=ae7 m
structure ae8 (o:Nat->ad) (nx cid fid:Nat) (bv:V) (mB bd fr:List (Int×Int)) (n:Int) (sz:Nat):Prop where
 cC:Good o nx
 hc:o cid= .row [.d (.i n), .mp fid]
 hf:o fid=ae6 fr
 hb:BdV o bv mB
 kb:Keys mB
 lk:∀v,lk mB v=lk bd v
 n0:0<=n
 n1:n+sz<=1000000
@[go_sem] theorem X9 {P:Program} {kt:TypeId} {k:D} {i:Nat}:findD P kt k [] i=some none:=rfl
theorem qV{c:Nat}{G:List Gr}{so:Nat->ad}{gone:Nat->Prop}{x x' y y':ad}(h:x=y)(h':x'=y')(hs:CE c G so gone y y'):CE c G so gone x x':=by rw[h,h'];exact hs
theorem mi:∀l:List Tm,l.length<=rB l
 |[]=>by simp[rB]
 |k::l=>by have:=mi l;have:=Tm.su k;rw[qR,List.length_cons];omega
theorem Tm.mP {t k:Tm}(hk:k∈t.kids):k.sz+1<=t.sz:=by
 have:=Tm.yu hk
 rw[Tm.CO,Tm.CO]at this
 omega
theorem Tm.yy:∀t:Tm,t.ma<=t.sz:=by
 refine Tm.fj fun t ih=> ?_
 have h:Tm.iH t.kids<=t.sz - 1:=(oh _ _).2 fun k hk=>by have:=ih k hk;have:=Tm.mP hk;omega
 have:=Tm.su t
 rw[Tm.pH]
 omega
theorem Tm.dv:∀t:Tm,t.sz<=1000000->t.fits:=by
 refine Tm.fj fun t ih h=> ?_
 rw[Tm.b9]
 refine⟨?_,fun k hk=>ih k hk (by have:=Tm.mP hk;omega)⟩
 have:=mi t.kids
 rw[Tm.jL]at h
 omega
def jW(b:List (Int×Tm)):List (Int×D):=b.map fun p=>(p.1,p.2.d)
@[reducible] def DD (b:List (Int×Tm)):D:=mpD (jW b)
theorem v7:∀ (m:List (Int×Tm)) (v:Int) (i:Nat),(match jh v (jW m) i with|some (_,x)=>some x|none=>none)=(bS m v).map Tm.d
 |[],_,_=>rfl
 |p::m,v,i=>by
  have ih:=v7 m v (i+1)
  simp only[jW,List.map_cons,jh,bS]at ih|-
  by_cases h:v=p.1
  ·subst h;simp
  ·have h2: ¬p.1=v:=fun e=>h e.symm
   simp only[beq_iff_eq,h,h2,if_false]
   exact ih
theorem fL{m:List (Int×Tm)}{v:Int}{x:Tm}(h:bS m v=some x):∃j,jh v (jW m) 0=some (j,x.d):=by
 have:=v7 m v 0
 rw[h]at this
 cases h2:jh v (jW m) 0 with
 |none=>rw[h2]at this;cases this
 |some p=>obtain⟨j,y⟩:=p;rw[h2]at this;simp at this;subst this;exact⟨j,rfl⟩
theorem eB{m:List (Int×Tm)}{v:Int}(h:bS m v=none):jh v (jW m) 0=none:=by
 have:=v7 m v 0
 rw[h]at this
 cases h2:jh v (jW m) 0 with
 |none=>rfl
 |some p=>rw[h2]at this;cases this
theorem sy{K:V->List (Nat×ad)->Prop}{id:Nat}{m:List (Int×Tm)}(h0:m=[]->K (.bP [.d (.bool false)]) [])
 (h1:∀ (i:Nat) k x,m[i]? =some (k,x)->K (.bP [.d (.bool true), .d (.int .i64 k), .d x.d]) [(id, .rq (enc (D.int .i64) (jW (m.eraseIdx i))) (some (.int .i64 k,x.d)))]):Gi K id (enc (D.int .i64) (jW m)):=by
 refine II _ (fun h=>h0 ?_) fun i k x h=> ?_
 ·cases m with
  |nil=>rfl
  |cons x l=>simp[jW]at h
 ·unfold jW at h|-
  rw[List.getElem?_map]at h
  cases hm:m[i]? with
  |none=>rw[hm]at h;cases h
  |some p=>
   rw[hm]at h
   simp at h
   obtain⟨rfl,rfl⟩:=h
   have:=h1 i p.1 p.2 (by rw[hm])
   rw[mg]
   exact this
@[reducible] def dh (m:List (Int×Tm)):ad:= .map 3 33 (enc (D.int .i64) (jW m))
theorem CW{m:List (Int×Tm)}{v:Int}{x:Tm}(h:bS m v=none):IG v x.d (jW m)=jW (m++[(v,x)]):=by
 unfold IG
 rw[eB h]
 simp[jW]
theorem nL(s:aB):∀t:Tm,iq s t=true->t.wf:=by
 refine Tm.fj fun t ih h=> ?_
 rw[lu,Bool.and_eq_true,List.all_eq_true]at h
 rw[Tm.ET]
 refine⟨fun h1=>LW h.1 h1,fun h8=> ?_,fun k hk=>ih k hk (h.2 k hk)⟩
 have:=h.1
 simp[bn,h8]at this
 omega
theorem GU{s:aB}{t:Tm}(h:gr s t=true):t.wf/\t.sz<=40/\t.ma<=12:=by
 simp only[gr,Bool.and_eq_true,decide_eq_true_eq,qS]at h
 exact⟨nL s t h.2,af,af⟩
def ai(l:List TB):List (Int×Tm):=l.map fun x=>(x.var,x.term)
theorem EW{s:aB}{op n:Int}{l l':List Tm}(h:l'.length=l.length):bn s (.mk op n l')=bn s (.mk op n l):=by
 unfold bn
 dsimp only[Tm.op,Tm.n,Tm.kids]
 rw[h]
 rfl
theorem I3{s:aB}{k:Int}(h:0<=k/\k<20):bn s (.mk 1 k [])=true:=by
 have:dQ k 0 19=true:=by simp[dQ];omega
 simp[bn,Tm.op,Tm.n,Tm.kids,this]
theorem LY{s:aB}:∀t:Tm,iq s t=true->∀v,gv v t=true->0<=v/\v<20:=by
 refine Tm.fj fun t ih h v hv=> ?_
 have hw:=(Tm.ET t).1 (nL s t h)
 rw[lu,Bool.and_eq_true,List.all_eq_true]at h
 by_cases h1:t.op=1
 ·rw[sw,if_pos h1]at hv
  have hv:t.n=v:=by simpa using hv
  have:=h.1
  simp[bn,h1,dQ]at this
  omega
 ·by_cases h8:t.op=8
  ·obtain⟨a,body,hk⟩:=Wi (hw.2.1 h8)
   rw[Wj h8 hk,Bool.or_eq_true,Bool.and_eq_true]at hv
   rcases hv with hv|hv
   ·exact ih a (by rw[hk];simp) (h.2 a (by rw[hk];simp)) v hv
   ·exact ih body (by rw[hk];simp) (h.2 body (by rw[hk];simp)) v hv.1
  ·rw[LX h1 h8,List.any_eq_true]at hv
   obtain⟨k,hk,hv⟩:=hv
   exact ih k hk (h.2 k hk) v hv
def findF(l:List TB)(n:Int):Int:=match l.findIdx? (·.var==n)with|some i=>i|none=> -1
theorem Ak(l:List TB)(n:Int):(findF l n<0/\bS (ai l) n=none)\/∃ (k:Nat) (x:TB),findF l n=k/\l[k]? =some x/\bS (ai l) n=some x.term:=by
 induction l with
 |nil=>left;exact⟨by simp[findF],rfl⟩
 |cons y l ih=>
  by_cases h:y.var=n
  ·right
   refine⟨0,y, ?_,rfl, ?_⟩
   ·simp[findF,List.findIdx?_cons,h]
   ·simp[ai,bS,h]
  ·have hf:bS (ai (y::l)) n=bS (ai l) n:=by simp[ai,bS,h]
   have h':(y.var==n)=false:=by simpa using h
   rw[hf]
   unfold findF at ih|-
   rw[List.findIdx?_cons,h']
   simp only[Bool.false_eq_true,if_false]
   rcases ih with⟨h1,h2⟩|⟨k,x,h1,h2,h3⟩
   ·left
    refine⟨?_,h2⟩
    cases hi:l.findIdx? (·.var==n)with
    |none=>simp
    |some i=>rw[hi]at h1;simp at h1;omega
   ·right
    refine⟨k+1,x, ?_,h2,h3⟩
    cases hi:l.findIdx? (·.var==n)with
    |none=>rw[hi]at h1;simp at h1;try omega
    |some i=>rw[hi]at h1;simp at h1|-;try omega
def jX(g:List Int)(i:Int):Nat:=(g.filter fun x=>decide (x<i)).length
theorem nM{g:List Int}{i:Int}(h:∀x∈g,i<=x):jX g i=0:=by
 unfold jX
 rw[List.filter_eq_nil_iff.2 (fun x hx=>by have:=h x hx;simp;omega)];rfl
theorem O0{g:List Int}{i:Int}(h:∀x∈g,x<i):jX g i=g.length:=by
 unfold jX
 rw[List.filter_eq_self.2 (fun x hx=>by simpa using h x hx)]
theorem CX:∀ {g:List Int},ER g->∀i:Int,if i∈g then g[jX g i]? =some i/\jX g (i+1)=jX g i+1 else jX g (i+1)=jX g i
 |[],_,i=>by simp[jX]
 |x::g,hg,i=>by
  have Ya:=List.pairwise_cons.1 hg
  have ih:=CX Ya.2 i
  have hc:∀j,jX (x::g) j=(if x<j then 1 else 0)+jX g j:=fun j=>by
   unfold jX
   rw[List.filter_cons]
   by_cases e:x<j
   ·simp[e];omega
   ·simp[e]
  rcases Int.lt_trichotomy x i with h|h|h
  ·have hm:(i∈x::g)↔i∈g:=by simp;omega
   simp only[hm,hc,if_pos h,if_pos (show x<i+1 by omega)]
   split
   ·rename_i e
    rw[if_pos e]at ih
    refine⟨?_,af⟩
    rw[show 1+jX g i=jX g i+1 by omega,List.getElem?_cons_succ]
    exact ih.1
   ·rename_i e
    rw[if_neg e]at ih
    omega
  ·subst h
   have z1:jX g x=0:=nM fun y hy=>by have:=Ya.1 y hy;omega
   have z2:jX g (x+1)=0:=nM fun y hy=>by have:=Ya.1 y hy;omega
   rw[if_pos (by simp),hc,hc,z1,z2,if_neg (by omega),if_pos (by omega)]
   exact⟨rfl,rfl⟩
  ·have hm: ¬i∈x::g:=by
    intro hm
    rcases List.mem_cons.1 hm with rfl|hm
    ·omega
    ·have:=Ya.1 i hm;omega
   have z1:jX g i=0:=nM fun y hy=>by have:=Ya.1 y hy;omega
   have z2:jX g (i+1)=0:=nM fun y hy=>by have:=Ya.1 y hy;omega
   rw[if_neg hm,hc,hc,z1,z2,if_neg (by omega),if_neg (by omega)]
theorem Am{ns:List Int}(h:∀n∈ns,0<=n/\n<20)(hi:ER ns):ns.length<=20:=by
 have hc:∀k:Nat,jX ns (k:Int)<=k:=by
  intro k
  induction k with
  |zero=>show jX ns (0:Int)<=0;rw[nM (fun x hx=>(h x hx).1)];exact Nat.le_refl _
  |succ k ih=>
   have:=CX hi (k:Int)
   rw[Int.natCast_succ]
   split at this<;>omega
 have:jX ns (20:Int)<=20:=hc 20
 rwa [O0 (fun x hx=>(h x hx).2)]at this
mutual
def aZ(b:List (Int×Tm)):Tm->Tm
 | .mk op n kids=>if op=1 then(match bS b n with|some x=>x|none=> .mk op n kids)else .mk op n (O2 b kids)
def O2(b:List (Int×Tm)):List Tm->List Tm
 |[]=>[]
 |k::l=>aZ b k::O2 b l
end
theorem CY(b:List (Int×Tm)):∀l:List Tm,O2 b l=l.map (aZ b)
 |[]=>rfl
 |k::l=>by simp[O2,CY b l]
theorem An(b:List (Int×Tm))(t:Tm):aZ b t=if t.op=1 then(match bS b t.n with|some x=>x|none=>t)else .mk t.op t.n (t.kids.map (aZ b)):=by
 cases t;simp only[aZ,CY,Tm.op,Tm.n,Tm.kids];rfl
def Lv(b:List (Int×Tm))(v:Int):Tm:=match bS b v with|some x=>x|none=> .mk 1 v []
def vop(t:Tm):Prop:=(1<=t.op/\t.op<=3)\/t.op=5
def Vs(s:aB)(t:Tm):Prop:=iq s t=true/\eV t=true
theorem sA{s:aB}{t:Tm}:Vs s t↔bn s t=true/\vop t/\∀k∈t.kids,Vs s k:=by
 unfold Vs vop
 rw[lu,ss]
 simp only[Bool.and_eq_true,List.all_eq_true,Bool.or_eq_true,decide_eq_true_eq,beq_iff_eq]
 constructor
 ·rintro⟨⟨h1,h2⟩,h3,h4⟩;exact⟨h1,h4,fun k hk=>⟨h2 k hk,h3 k hk⟩⟩
 ·rintro⟨h1,h2,h3⟩;exact⟨⟨h1,fun k hk=>(h3 k hk).1⟩,fun k hk=>(h3 k hk).2,h2⟩
theorem Vs.mF {s:aB}{t k:Tm}(h:Vs s t)(hk:k∈t.kids):Vs s k:=(sA.1 h).2.2 k hk
theorem Vs.eta {s:aB}{t:Tm}(h:Vs s t)(h1:t.op=1):t= .mk 1 t.n []:=OZ (nL s t h.1) h1
theorem Vs.n8 {s:aB}{t:Tm}(h:Vs s t):t.op≠8:=by rcases(sA.1 h).2.1 with h|h<;>omega
theorem Vs.range {s:aB}{t:Tm}(h:Vs s t){v:Int}(hv:gv v t=true):0<=v/\v<20:=LY t h.1 v hv
theorem Vs.var {s:aB}{v:Int}(h:0<=v/\v<20):Vs s (.mk 1 v []):=sA.2 ⟨I3 h,Or.inl ⟨by show(1:Int)<=1;omega,by show(1:Int)<=3;omega⟩,fun k hk=>by cases hk⟩
theorem Vs.mk' {s:aB}{t:Tm}{l:List Tm}(h:Vs s t)(hl:l.length=t.kids.length)(hk:∀k∈l,Vs s k):Vs s (.mk t.op t.n l):=
 sA.2 ⟨by rw[EW hl,Tm.eta];exact(sA.1 h).1,(sA.1 h).2.1,hk⟩
theorem iA{t:Tm}(h1:t.op=1){v:Int}:gv v t=true↔t.n=v:=by rw[sw,if_pos h1];simp
theorem qW{s:aB}{t:Tm}(h:Vs s t)(h1:t.op≠1){v:Int}:gv v t=true↔∃k∈t.kids,gv v k=true:=by rw[LX h1 h.n8,List.any_eq_true]
theorem jb{b:List (Int×Tm)}{s:aB}{t:Tm}(h:Vs s t)(h1:t.op=1):aZ b t=Lv b t.n:=by
 rw[An,if_pos h1,Lv]
 cases bS b t.n with
 |some x=>rfl
 |none=>exact h.eta h1
theorem nN{b:List (Int×Tm)}{v:Int}:aZ b (.mk 1 v [])=Lv b v:=by rw[An];rfl
theorem jN{b:List (Int×Tm)}{t:Tm}(h1:t.op≠1):aZ b t= .mk t.op t.n (t.kids.map (aZ b)):=by rw[An,if_neg h1]
theorem LZ{s:aB}{b c:List (Int×Tm)}:∀t:Tm,Vs s t->(∀v,gv v t=true->Lv b v=Lv c v)->aZ b t=aZ c t:=by
 refine Tm.fj fun t ih hv h=> ?_
 by_cases h1:t.op=1
 ·rw[jb hv h1,jb hv h1,h _ ((iA h1).2 rfl)]
 ·rw[jN h1,jN h1,List.map_congr_left fun k hk=>ih k hk (hv.mF hk) fun v L0=>h v ((qW hv h1).2 ⟨k,hk,L0⟩)]
theorem Ao{s:aB}{b c d:List (Int×Tm)}:∀t:Tm,Vs s t->(∀v,gv v t=true->aZ c (Lv b v)=Lv d v)->aZ c (aZ b t)=aZ d t:=by
 refine Tm.fj fun t ih hv h=> ?_
 by_cases h1:t.op=1
 ·rw[jb hv h1,jb hv h1,h _ ((iA h1).2 rfl)]
 ·rw[jN h1,jN h1 (b:=d),jN (by exact h1)]
  show Tm.mk t.op t.n ((t.kids.map (aZ b)).map (aZ c))=_
  rw[List.map_map,List.map_congr_left (f:=aZ c∘aZ b) (g:=aZ d) fun k hk=>ih k hk (hv.mF hk) fun v L0=>h v ((qW hv h1).2 ⟨k,hk,L0⟩)]
theorem L1{s:aB}{b:List (Int×Tm)}:∀t:Tm,Vs s t->(∀v,gv v t=true->bS b v=none)->aZ b t=t:=by
 refine Tm.fj fun t ih hv h=> ?_
 by_cases h1:t.op=1
 ·rw[jb hv h1,Lv,h _ ((iA h1).2 rfl)]
  exact(hv.eta h1).symm
 ·rw[jN h1,List.map_congr_left (g:=id) fun k hk=>ih k hk (hv.mF hk) fun v L0=>h v ((qW hv h1).2 ⟨k,hk,L0⟩),List.map_id]
  exact Tm.eta t
theorem Vs.Lv {s:aB}{b:List (Int×Tm)}(hb:∀p∈b,Vs s p.2){v:Int}(h:0<=v/\v<20):Vs s (Lv b v):=by
 unfold YtlhemmpklhhgoaaGreat.Lv
 cases hl:bS b v with
 |some x=>exact hb _ (cK hl)
 |none=>exact Vs.var h
theorem Vs.sub {s:aB}{b:List (Int×Tm)}(hb:∀p∈b,Vs s p.2):∀t:Tm,Vs s t->Vs s (aZ b t):=by
 refine Tm.fj fun t ih hv=> ?_
 by_cases h1:t.op=1
 ·rw[jb hv h1];exact Vs.Lv hb (hv.range ((iA h1).2 rfl))
 ·rw[jN h1]
  refine hv.mk' aE fun k hk=> ?_
  obtain⟨x,hx,rfl⟩:=List.mem_map.1 hk
  exact ih x hx (hv.mF hx)
theorem tp{s:aB}{b:List (Int×Tm)}(hb:∀p∈b,Vs s p.2):∀t:Tm,Vs s t->∀v,gv v (aZ b t)=true↔∃u,gv u t=true/\gv v (Lv b u)=true:=by
 refine Tm.fj fun t ih hv v=> ?_
 by_cases h1:t.op=1
 ·rw[jb hv h1]
  simp only[iA h1]
  exact⟨fun h=>⟨_,rfl,h⟩,fun⟨u,e,h⟩=>e ▸ h⟩
 ·have IY:=Vs.sub hb t hv
  rw[jN h1]at IY|-
  rw[qW IY (by exact h1)]
  simp only[qW hv h1,Tm.kids,List.mem_map]
  constructor
  ·rintro⟨_,⟨k,hk,rfl⟩,h⟩
   obtain⟨u,h2,h3⟩:=(ih k hk (hv.mF hk) v).1 h
   exact⟨u,⟨k,hk,h2⟩,h3⟩
  ·rintro⟨u,⟨k,hk,h2⟩,h3⟩
   exact⟨_,⟨k,hk,rfl⟩,(ih k hk (hv.mF hk) v).2 ⟨u,h2,h3⟩⟩
theorem acU{b:List (Int×Tm)}{t:Tm}(h1:t.op≠1):(aZ b t).op=t.op/\(aZ b t).n=t.n/\(aZ b t).kids=t.kids.map (aZ b):=by rw[jN h1];exact⟨rfl,rfl,rfl⟩
def sB:List TB->Int->Tm->List TB
 |[],n,t=>[⟨n,t⟩]
 |x::l,n,t=>if x.var<n then x::sB l n t else⟨n,t⟩::x::l
abbrev w9(n:Int)(t:Tm):List (Int×Tm):=[(n,t)]
def jO(l:List TB)(n:Int)(t:Tm):List TB:=sB (l.map fun x=>⟨x.var,aZ (w9 n t) x.term⟩) n t
def dM(F:Tm->Tm->List TB->Option (List TB×Bool)):List Tm->List Tm->List TB->Option (List TB×Bool)
 |k::ks,k'::dx,l=>match F k k' l with
  |some (l1,true)=>dM F ks dx l1
  |some (l1,false)=>some (l1,false)
  |none=>none
 |_,_,l=>some (l,true)
def iM:Nat->Tm->Tm->List TB->Option (List TB×Bool)
 |0,_,_,_=>none
 |f+1,a,c,l=>
  if iJ (aZ (ai l) a) (aZ (ai l) c)=true then some (l,true)
  else if(aZ (ai l) a).op=1/\(aZ (ai l) c).op=1 then some (jO l (max (aZ (ai l) a).n (aZ (ai l) c).n) (.mk 1 (min (aZ (ai l) a).n (aZ (ai l) c).n) []),true)
  else if(aZ (ai l) a).op=1 then some (jO l (aZ (ai l) a).n (aZ (ai l) c), !(cX (aZ (ai l) c)).contains (aZ (ai l) a).n)
  else if(aZ (ai l) c).op=1 then some (jO l (aZ (ai l) c).n (aZ (ai l) a), !(cX (aZ (ai l) a)).contains (aZ (ai l) c).n)
  else if(aZ (ai l) a).op≠(aZ (ai l) c).op\/(aZ (ai l) a).n≠(aZ (ai l) c).n\/(aZ (ai l) a).kids.length≠(aZ (ai l) c).kids.length then some ([],false)
  else dM (iM f) (aZ (ai l) a).kids (aZ (ai l) c).kids l
theorem Wk{l:List TB}{n:Int}{t:Tm}(hn:bS (ai l) n=none)(v:Int):bS (ai (sB l n t)) v=if v=n then some t else bS (ai l) v:=by
 induction l with
 |nil=>
  simp only[sB,ai,List.map_cons,List.map_nil,bS]
  by_cases e:v=n
  ·simp[e]
  ·exact JR
 |cons x l ih=>
  simp only[ai,List.map_cons,bS]at hn
  by_cases e1:x.var=n
  ·rw[if_pos e1]at hn;cases hn
  ·rw[if_neg e1]at hn
   have ih:=ih hn
   simp only[sB]
   split
   ·simp only[ai,List.map_cons,bS]at ih|-
    by_cases e:x.var=v
    ·rw[if_pos e,if_pos e,if_neg fun h=>e1 (e.trans h)]
    ·rw[if_neg e,if_neg e];exact ih
   ·simp only[ai,List.map_cons,bS]
    by_cases e:v=n
    ·simp[e]
    ·exact JR
theorem L2(l:List TB)(g:Tm->Tm)(v:Int):bS (ai (l.map fun x=>⟨x.var,g x.term⟩)) v=(bS (ai l) v).map g:=by
 induction l with
 |nil=>rfl
 |cons x l ih=>
  simp only[ai,List.map_cons,bS]at ih|-
  split
  ·rfl
  ·exact ih
theorem Ap{l:List TB}{n:Int}{t:Tm}(hn:bS (ai l) n=none)(v:Int):bS (ai (jO l n t)) v=if v=n then some t else(bS (ai l) v).map (aZ (w9 n t)):=by
 unfold jO
 rw[Wk (by rw[L2,hn];rfl),L2]
theorem Aq{n v:Int}{t:Tm}:Lv (w9 n t) v=if v=n then t else .mk 1 v []:=by
 simp only[Lv,w9,bS]
 by_cases e:v=n
 ·simp[e]
 ·exact JR
theorem qX{l:List TB}{n:Int}{t:Tm}(hn:bS (ai l) n=none)(v:Int):Lv (ai (jO l n t)) v=if v=n then t else aZ (w9 n t) (Lv (ai l) v):=by
 simp only[Lv,Ap hn]
 by_cases e:v=n
 ·simp[e]
 ·simp only[if_neg e]
  cases h:bS (ai l) v with
  |some x=>rfl
  |none=>simp only[Option.map_none];rw[nN,Aq,if_neg e]
structure jP (s:aB) (l:List TB):Prop where
 srt:l.Pairwise fun x y=>x.var<y.var
 ok:∀x∈l,(0<=x.var/\x.var<20)/\Vs s x.term
 idem:∀x∈l,∀u,gv u x.term=true->bS (ai l) u=none
theorem jP.nil {s:aB}:jP s []:=⟨List.Pairwise.nil,fun _ h=>j5,fun _ h=>j5⟩
theorem jP.bd {s:aB}{l:List TB}(h:jP s l):∀p∈ai l,Vs s p.2:=fun p hp=>by
 obtain⟨x,hx,rfl⟩:=List.mem_map.1 hp
 exact(h.ok x hx).2
theorem lB{l:List TB}{v:Int}{t:Tm}(h:bS (ai l) v=some t):∃x∈l,x.var=v/\x.term=t:=by
 obtain⟨x,hx,e⟩:=List.mem_map.1 (cK h)
 injection e with e1 e2
 exact⟨x,hx,e1,e2⟩
theorem jP.O4 {s:aB}{l:List TB}(h:jP s l){v u:Int}(hu:gv u (Lv (ai l) v)=true):bS (ai l) u=none:=by
 unfold Lv at hu
 cases hl:bS (ai l) v with
 |some x=>
  rw[hl]at hu
  obtain⟨y,hy,e1,e2⟩:=lB hl
  exact h.idem y hy u (e2 ▸ hu)
 |none=>
  rw[hl]at hu
  have:v=u:=by rw[nK]at hu;simpa using hu
  exact this ▸ hl
theorem jP.free {s:aB}{l:List TB}(h:jP s l){t:Tm}(ht:Vs s t){u:Int}(hu:gv u (aZ (ai l) t)=true):bS (ai l) u=none:=by
 obtain⟨w,_,h2⟩:=(tp h.bd t ht u).1 hu
 exact h.O4 h2
def oG(l l':List TB):Prop:=∀v,aZ (ai l') (Lv (ai l) v)=Lv (ai l') v
theorem oG.sub {s:aB}{l l':List TB}(h:oG l l'){t:Tm}(ht:Vs s t):aZ (ai l') (aZ (ai l) t)=aZ (ai l') t:=Ao t ht fun v _=>h v
theorem oG.refl {s:aB}{l:List TB}(h:jP s l):oG l l:=fun v=>by
 cases hl:bS (ai l) v with
 |none=>rw[show Lv (ai l) v= .mk 1 v [] by simp[Lv,hl],nN];simp[Lv,hl]
 |some x=>
  have hx:Lv (ai l) v=x:=by simp[Lv,hl]
  obtain⟨y,hy,e1,e2⟩:=lB hl
  rw[hx]
  exact L1 (s:=s) x (e2 ▸ (h.ok y hy).2) fun u hu=>h.idem y hy u (e2 ▸ hu)
theorem oG.trans {s:aB}{l l' l'':List TB}(hl:jP s l)(h:oG l l')(h':oG l' l'')(hr:∀v,bS (ai l) v≠none->0<=v/\v<20):oG l l'':=fun v=>by
 cases hv:bS (ai l) v with
 |none=>rw[show Lv (ai l) v= .mk 1 v [] by simp[Lv,hv],nN]
 |some x=>
  have hx:Lv (ai l) v=x:=by simp[Lv,hv]
  obtain⟨y,hy,e1,e2⟩:=lB hv
  have IY:Vs s x:=e2 ▸ (hl.ok y hy).2
  rw[hx, <- h'.sub IY, <- hx,h v,h' v]
theorem jP.Ar {s:aB}{l:List TB}(h:jP s l){v:Int}(hv:bS (ai l) v≠none):0<=v/\v<20:=by
 cases hl:bS (ai l) v with
 |none=>exact absurd hl hv
 |some x=>obtain⟨y,hy,e1,e2⟩:=lB hl;exact e1 ▸ (h.ok y hy).1
theorem ue{l:List TB}{n:Int}{t:Tm}{x:TB}:x∈sB l n t↔x=⟨n,t⟩\/x∈l:=by
 induction l with
 |nil=>simp[sB]
 |cons y l ih=>
  simp only[sB]
  split
  ·simp only[List.mem_cons,ih]
   constructor
   ·rintro(h|h|h)
    ·exact Or.inr (Or.inl h)
    ·exact Or.inl h
    ·exact Or.inr (Or.inr h)
   ·rintro(h|h|h)
    ·exact Or.inr (Or.inl h)
    ·exact Or.inl h
    ·exact Or.inr (Or.inr h)
  ·simp only[List.mem_cons]
theorem O5{l:List TB}{n:Int}{t:Tm}(h:l.Pairwise fun x y=>x.var<y.var)(hn:∀x∈l,x.var≠n):(sB l n t).Pairwise fun x y=>x.var<y.var:=by
 induction l with
 |nil=>simp[sB]
 |cons y l ih=>
  rw[List.pairwise_cons]at h
  simp only[sB]
  split
  ·rename_i hy
   rw[List.pairwise_cons]
   refine⟨fun z hz=> ?_,ih h.2 fun x hx=>hn x oL⟩
   rcases ue.1 hz with rfl|hz
   ·exact hy
   ·exact h.1 z hz
  ·rename_i hy
   have:=hn y aE
   rw[List.pairwise_cons,List.pairwise_cons]
   refine⟨fun z hz=> ?_,h⟩
   rcases List.mem_cons.1 hz with rfl|hz
   ·show n<z.var;omega
   ·have:=h.1 z hz;show n<z.var;omega
theorem xa{l:List TB}{n:Int}(h:bS (ai l) n=none):∀x∈l,x.var≠n:=fun x hx e=>by
 rw[lz]at h
 exact h (List.mem_map.2 ⟨(x.var,x.term),List.mem_map.2 ⟨x,hx,rfl⟩,e⟩)
theorem qY{s:aB}{l:List TB}(h:jP s l){n:Int}{t:Tm}(hr:0<=n/\n<20)(hn:bS (ai l) n=none)(ht:Vs s t)(hf:∀u,gv u t=true->bS (ai l) u=none)(hnt: ¬gv n t=true):jP s (jO l n t):=by
 have h1:∀p∈w9 n t,Vs s p.2:=fun p hp=>by simp[w9]at hp;subst hp;exact ht
 have L3:∀u,u≠n->bS (ai l) u=none->bS (ai (jO l n t)) u=none:=fun u e hu=>by rw[Ap hn,if_neg e,hu];rfl
 refine⟨?_,fun x hx=> ?_,fun x hx u hu=> ?_⟩
 ·refine O5 ?_ ?_
  ·rw[List.pairwise_map];exact h.srt
  ·intro x hx
   obtain⟨y,hy,rfl⟩:=List.mem_map.1 hx
   exact xa hn y hy
 ·rcases ue.1 hx with rfl|hx
  ·exact⟨hr,ht⟩
  ·obtain⟨y,hy,rfl⟩:=List.mem_map.1 hx
   exact⟨(h.ok y hy).1,Vs.sub h1 _ (h.ok y hy).2⟩
 ·rcases ue.1 hx with rfl|hx
  ·exact L3 u (fun e=>hnt (e ▸ hu)) (hf u hu)
  ·obtain⟨y,hy,rfl⟩:=List.mem_map.1 hx
   obtain⟨w,hw,QX⟩:=(tp h1 _ (h.ok y hy).2 u).1 hu
   rw[Aq]at QX
   split at QX
   ·exact L3 u (fun e=>hnt (e ▸ QX)) (hf u QX)
   ·rename_i e
    have:w=u:=by rw[nK]at QX;simpa using QX
    subst this
    exact L3 w e (h.idem y hy w hw)
theorem v8{s:aB}{l:List TB}(h:jP s l){n:Int}{t:Tm}(hn:bS (ai l) n=none):oG l (jO l n t):=fun v=>by
 cases hl:bS (ai l) v with
 |none=>rw[show Lv (ai l) v= .mk 1 v [] by simp[Lv,hl],nN]
 |some x=>
  have hx:Lv (ai l) v=x:=by simp[Lv,hl]
  obtain⟨y,hy,e1,e2⟩:=lB hl
  have hvn:v≠n:=fun e=>by rw[e,hn]at hl;cases hl
  rw[qX hn,if_neg hvn,hx]
  refine LZ (s:=s) x (e2 ▸ (h.ok y hy).2) fun u hu=> ?_
  have hu2:bS (ai l) u=none:=h.idem y hy u (e2 ▸ hu)
  rw[qX hn,show Lv (ai l) u= .mk 1 u [] by simp[Lv,hu2],nN,Aq]
  split<;>rfl
theorem jP.acV {s:aB}{l:List TB}(h:jP s l){t:Tm}(ht:Vs s t)(h1:(aZ (ai l) t).op=1):(0<=(aZ (ai l) t).n/\(aZ (ai l) t).n<20)/\bS (ai l) (aZ (ai l) t).n=none/\aZ (ai l) t= .mk 1 (aZ (ai l) t).n []:=by
 have hv:=Vs.sub h.bd t ht
 have hf:gv (aZ (ai l) t).n (aZ (ai l) t)=true:=(iA h1).2 rfl
 exact⟨hv.range hf,h.free ht hf,hv.eta h1⟩
theorem As{s:aB}:∀ (f:Nat) (a c:Tm) (l l':List TB),iM f a c l=some (l',true)->jP s l->Vs s a->Vs s c->jP s l'/\oG l l'
 |0,_,_,_,_,h,_,_,_=>by cases h
 |f+1,a,c,l,l',h,hl,ha,hc=>by
  have va:=Vs.sub hl.bd a ha
  have vc:=Vs.sub hl.bd c hc
  have fa:=fun u=>hl.free ha (u:=u)
  have fc:=fun u=>hl.free hc (u:=u)
  have na:=hl.acV ha
  have nc:=hl.acV hc
  simp only[iM]at h
  generalize aZ (ai l) a=a0 at*
  generalize aZ (ai l) c=c0 at*
  split at h
  ·injection h with h;injection h with h;subst h;exact⟨hl,oG.refl hl⟩
  ·rename_i hs
   split at h
   ·rename_i h1
    injection h with h;injection h with h;subst h
    obtain⟨r1,u1,e1⟩:=na h1.1
    obtain⟨r2,u2,e2⟩:=nc h1.2
    have iZ:a0.n≠c0.n:=fun e=>hs (by rw[gu,e1,e2,e])
    have DZ:bS (ai l) (max a0.n c0.n)=none:=by rcases Int.le_total a0.n c0.n with h|h<;>simp[Int.max_def]<;>split<;>assumption
    have hmn:bS (ai l) (min a0.n c0.n)=none:=by rcases Int.le_total a0.n c0.n with h|h<;>simp[Int.min_def]<;>split<;>assumption
    refine⟨qY hl af DZ (Vs.var af) (fun u hu=> ?_) (fun hu=> ?_),v8 hl DZ⟩
    ·have:min a0.n c0.n=u:=by rw[nK]at hu;simpa using hu
     exact this ▸ hmn
    ·have:min a0.n c0.n=max a0.n c0.n:=by rw[nK]at hu;simpa using hu
     omega
   ·split at h
    ·rename_i h1 h2
     injection h with h;injection h with h h3;subst h
     obtain⟨r1,u1,e1⟩:=na h2
     have lJ: ¬gv a0.n c0=true:=fun hh=>by
      have:(cX c0).contains a0.n=true:=List.contains_iff_mem.2 (((dy c0).2 _).2 hh)
      rw[this]at h3;cases h3
     exact⟨qY hl r1 u1 vc (fun u hu=>fc u hu) lJ,v8 hl u1⟩
    ·split at h
     ·rename_i h1 h2 mw
      injection h with h;injection h with h h3;subst h
      obtain⟨r2,u2,e2⟩:=nc mw
      have lJ: ¬gv c0.n a0=true:=fun hh=>by
       have:(cX a0).contains c0.n=true:=List.contains_iff_mem.2 (((dy a0).2 _).2 hh)
       rw[this]at h3;cases h3
      exact⟨qY hl r2 u2 va (fun u hu=>fa u hu) lJ,v8 hl u2⟩
     ·split at h
      ·injection h with h;injection h with _ h;cases h
      ·have key:∀ (ks dx:List Tm) (l:List TB),(∀k∈ks,Vs s k)->(∀k∈dx,Vs s k)->jP s l->dM (iM f) ks dx l=some (l',true)->jP s l'/\oG l l':=by
        intro ks
        induction ks with
        |nil=>intro dx l _ _ hl h;simp only[dM]at h;injection h with h;injection h with h;subst h;exact⟨hl,oG.refl hl⟩
        |cons k ks CZ=>
         intro dx l h1 h2 hl h
         cases dx with
         |nil=>simp only[dM]at h;injection h with h;injection h with h;subst h;exact⟨hl,oG.refl hl⟩
         |cons k' dx=>
          simp only[dM]at h
          split at h
          ·rename_i l1 e
           obtain⟨g1,g2⟩:=As f k k' l l1 e hl (h1 k aE) (h2 k' aE)
           obtain⟨g3,g4⟩:=CZ dx l1 (fun x hx=>h1 x oL) (fun x hx=>h2 x oL) g1 h
           exact⟨g3,g2.trans hl g4 (fun v=>hl.Ar)⟩
          ·injection h with h;injection h with _ h;cases h
          ·cases h
       exact key _ _ _ (fun k hk=>va.mF hk) (fun k hk=>vc.mF hk) hl h
def kP:Nat->List (Int×Tm)->Tm->Option Tm
 |0,_,_=>none
 |f+1,b,t=>if t.op=1 then(match bS b t.n with|some x=>kP f b x|none=>some t)else some t
theorem gP{b:List (Int×Tm)}:∀ {f g:Nat} {t x:Tm},kP f b t=some x->f<=g->kP g b t=some x
 |0,_,_,_,h,_=>by cases h
 |f+1,0,_,_,_,h=>af
 |f+1,g+1,t,x,h,hg=>by
  simp only[kP]at h|-
  split
  ·rename_i h1
   rw[if_pos h1]at h
   cases hl:bS b t.n with
   |none=>rw[hl]at h;exact h
   |some y=>rw[hl]at h;exact gP (f:=f) h af
  ·rename_i h1
   rw[if_neg h1]at h
   exact h
structure lC (s:aB) (b:List (Int×Tm)) (l:List TB) (ρ:Int->Nat) (R:Nat):Prop where
 keys:(b.map (·.1)).Nodup
 Ar:∀v,bS b v=none↔bS (ai l) v=none
 ok:∀v x,bS b v=some x->Vs s x/\Lv (ai l) v=aZ (ai l) x/\∀u,gv u x=true->ρ u<ρ v
 bd:∀v,ρ v<=R
theorem lC.nil {s:aB}:lC s [] [] (fun _=>0) 0:=⟨List.nodup_nil,fun _=>Iff.rfl,fun _ _ h=>j5,fun _=>Nat.le_refl _⟩
theorem lC.at {s:aB}{b:List (Int×Tm)}{l:List TB}{ρ:Int->Nat}{R:Nat}(h:lC s b l ρ R):∀ (m:Nat) (t:Tm),Vs s t->(t.op=1->ρ t.n<=m)->∃x,kP (m+2) b t=some x/\Vs s x/\aZ (ai l) x=aZ (ai l) t/\(x.op=1->bS b x.n=none)/\(t.op≠1->x=t)/\(t.op=1->(∀u,gv u x=true->ρ u<=ρ t.n)/\(x.op≠1->∀u,gv u x=true->ρ u<ρ t.n)):=by
 intro m
 induction m with
 |zero=>
  intro t hv hm
  by_cases h1:t.op=1
  ·cases hl:bS b t.n with
   |none=>
    exact Zn
   |some x=>
    obtain⟨g1,g2,g3⟩:=h.ok _ _ hl
    by_cases hx:x.op=1
    ·have:=g3 x.n ((iA hx).2 rfl)
     have:=hm h1
     omega
    ·refine⟨x,by simp only[kP,if_pos h1,hl,if_neg hx],g1,by rw[<- g2,jb hv h1],fun h=>absurd h hx,fun h=>absurd h1 h,fun _=>⟨fun u hu=>Nat.le_of_lt (g3 u hu),fun _=>g3⟩⟩
  ·exact YT
 |succ m ih=>
  intro t hv hm
  by_cases h1:t.op=1
  ·cases hl:bS b t.n with
   |none=>
    exact Zn
   |some x=>
    obtain⟨g1,g2,g3⟩:=h.ok _ _ hl
    obtain⟨y,i1,i2,i3,i4,i5,i6⟩:=ih x g1 (fun hx=>by have:=g3 x.n ((iA hx).2 rfl);have:=hm h1;omega)
    refine⟨y,by rw[kP,if_pos h1,hl];exact i1,i2,by rw[i3, <- g2,jb hv h1],i4,fun h=>absurd h1 h,fun _=> ?_⟩
    by_cases hx:x.op=1
    ·have g4:=g3 x.n ((iA hx).2 rfl)
     exact⟨fun u hu=>by have:=(i6 hx).1 u hu;omega,fun h2 u hu=>by have:=(i6 hx).2 h2 u hu;omega⟩
    ·rw[i5 hx]
     exact⟨fun u hu=>Nat.le_of_lt (g3 u hu),fun _=>g3⟩
  ·exact YT
theorem lC.root {s:aB}{b:List (Int×Tm)}{l:List TB}{ρ:Int->Nat}{R:Nat}(h:lC s b l ρ R){t:Tm}(hv:Vs s t):∃x,kP (R+2) b t=some x/\Vs s x/\aZ (ai l) x=aZ (ai l) t/\(x.op=1->bS b x.n=none)/\(t.op≠1->x=t)/\(t.op=1->(∀u,gv u x=true->ρ u<=ρ t.n)/\(x.op≠1->∀u,gv u x=true->ρ u<ρ t.n)):=
 h.at R t hv fun _=>h.bd _
theorem C0(l:List (Int×Tm))(p:Int×Tm)(v:Int):bS (l++[p]) v=match bS l v with|some x=>some x|none=>if p.1=v then some p.2 else none:=by
 induction l with
 |nil=>simp[bS]
 |cons q l ih=>
  simp only[List.cons_append,bS]
  split
  ·rfl
  ·exact ih
theorem one_sub{s:aB}{l:List TB}{n:Int}{t:Tm}(hn:bS (ai l) n=none){x:Tm}(hx:Vs s x):aZ (w9 n t) (aZ (ai l) x)=aZ (ai (jO l n t)) x:=by
 refine Ao x hx fun u _=> ?_
 rw[qX hn]
 split
 ·rename_i e
  rw[e,show Lv (ai l) n= .mk 1 n [] by simp[Lv,hn],nN,Aq,if_pos rfl]
 ·rfl
theorem lC.ext {s:aB}{b:List (Int×Tm)}{l:List TB}{ρ:Int->Nat}{R:Nat}(h:lC s b l ρ R)(hl:jP s l){n:Int}(hn:bS b n=none){y:Tm}(hy:Vs s y)(hny: ¬gv n (aZ (ai l) y)=true):
 ∃Nl R',lC s (b++[(n,y)]) (jO l n (aZ (ai l) y)) Nl R':=by
 have Ks:=(h.Ar n).1 hn
 refine⟨fun v=>if gv n (Lv (ai l) v)=true then R+1+ρ v else ρ v,2*R+1, ?_,fun v=> ?_,fun v x hx=> ?_,fun v=> ?_⟩
 ·rw[List.map_append,List.map_cons,List.map_nil,List.nodup_append]
  refine⟨h.keys,aE,fun a ha c hc=> ?_⟩
  simp at hc
  subst hc
  exact fun e=>(lz.1 hn) (e ▸ ha)
 ·rw[C0,Ap Ks]
  by_cases e:v=n
  ·subst e;simp[hn]
  ·rw[if_neg e]
   cases hv:bS b v with
   |some x=>
    simp only[reduceCtorEq,false_iff]
    intro h2
    cases h3:bS (ai l) v with
    |some y=>rw[h3]at h2;cases h2
    |none=>rw[(h.Ar v).2 h3]at hv;cases hv
   |none=>
    simp[(h.Ar v).1 hv]
    exact fun h=>e h.symm
 ·rw[C0]at hx
  cases hv:bS b v with
  |some z=>
   rw[hv]at hx
   injection hx with hx
   subst hx
   have hvn:v≠n:=fun e=>by rw[e,hn]at hv;cases hv
   obtain⟨g1,g2,g3⟩:=h.ok v z hv
   refine⟨g1,by rw[qX Ks,if_neg hvn,g2,one_sub Ks g1],fun u hu=> ?_⟩
   have h3:=g3 u hu
   have h4:gv n (Lv (ai l) u)=true->gv n (Lv (ai l) v)=true:=fun h5=>by rw[g2];exact(tp hl.bd z g1 n).2 ⟨u,hu,h5⟩
   by_cases h5:gv n (Lv (ai l) u)=true
   ·rw[if_pos h5,if_pos (h4 h5)];omega
   ·rw[if_neg h5];split<;>omega
  |none=>
   rw[hv]at hx
   simp only at hx
   split at hx
   ·rename_i e
    injection hx with hx
    subst hx;subst e
    refine⟨hy, ?_,fun u hu=> ?_⟩
    ·rw[qX Ks,if_pos rfl, <- one_sub Ks hy]
     exact(L1 (s:=s) _ (Vs.sub hl.bd y hy) fun v hv=>by
      have: ¬n=v:=fun e=>by subst e;exact hny hv
      simp[w9,bS,this]).symm
    ·have h5: ¬gv n (Lv (ai l) u)=true:=fun h5=>hny ((tp hl.bd y hy n).2 ⟨u,hu,h5⟩)
     have h6:gv n (Lv (ai l) n)=true:=by rw[show Lv (ai l) n= .mk 1 n [] by simp[Lv,Ks],nK];simp
     have:=h.bd u
     simp only[if_neg h5,if_pos h6]
     omega
   ·cases hx
 ·have:=h.bd v
  split<;>omega
theorem uf{s:aB}{l:List TB}{b:List (Int×Tm)}{ρ:Int->Nat}{R:Nat}(h:lC s b l ρ R){x:Tm}(hx:Vs s x)(hr:x.op=1->bS b x.n=none):(aZ (ai l) x).op=x.op/\(aZ (ai l) x).n=x.n/\(aZ (ai l) x).kids.length=x.kids.length/\(x.op=1->aZ (ai l) x=x)/\(x.op≠1->(aZ (ai l) x).kids=x.kids.map (aZ (ai l))):=by
 by_cases h1:x.op=1
 ·have:aZ (ai l) x=x:=by
   rw[jb hx h1,show Lv (ai l) x.n= .mk 1 x.n [] by simp[Lv,(h.Ar _).1 (hr h1)]]
   exact(hx.eta h1).symm
  rw[this]
  exact⟨rfl,rfl,rfl,fun _=>rfl,fun h=>absurd h1 h⟩
 ·obtain⟨g1,g2,g3⟩:=acU (b:=ai l) h1
  exact⟨g1,g2,by rw[g3];simp,fun h=>absurd h h1,fun _=>g3⟩
theorem pM{F G:Tm->Tm->List TB->Option (List TB×Bool)}(C1:∀k k' l r,F k k' l=some r->G k k' l=some r):∀ {ks dx:List Tm} {l:List TB} {r:List TB×Bool},dM F ks dx l=some r->dM G ks dx l=some r
 |[],_,_,_,h=>by simp only[dM]at h|-;exact h
 |_::_,[],_,_,h=>by simp only[dM]at h|-;exact h
 |k::ks,k'::dx,b,r,h=>by
  simp only[dM]at h|-
  split at h
  ·rename_i b1 e;rw[C1 _ _ _ _ e];exact pM C1 h
  ·rename_i b1 e;rw[C1 _ _ _ _ e];exact h
  ·cases h
theorem sC:∀ {f g:Nat} {a c:Tm} {l:List TB} {r:List TB×Bool},iM f a c l=some r->f<=g->iM g a c l=some r
 |0,_,_,_,_,_,h,_=>by cases h
 |f+1,0,_,_,_,_,_,h=>af
 |f+1,g+1,a,c,l,r,h,hg=>by
  simp only[iM]at h|-
  repeat' (split at h<;>rename_i hh<;>first|rw[if_pos hh]|rw[if_neg hh])
  all_goals first
   |exact h
   |exact pM (fun k k' l r hk=>sC hk af) h
theorem O6(l:List TB)(n:Int)(t:Tm):(sB l n t).length=l.length+1:=by
 induction l with
 |nil=>rfl
 |cons x l ih=>simp only[sB];split<;>simp[ih]
theorem JF(l:List TB)(n:Int)(t:Tm):(jO l n t).length=l.length+1:=by rw[jO,O6,List.length_map]
theorem GV:∀ (f:Nat) (a c:Tm) (l l':List TB),iM f a c l=some (l',true)->l'=l\/l.length<l'.length
 |0,_,_,_,_,h=>by cases h
 |f+1,a,c,l,l',h=>by
  simp only[iM]at h
  split at h
  ·injection h with h;injection h with h;exact Or.inl h.symm
  ·split at h
   ·exact Ts
   ·split at h
    ·exact Ts
    ·split at h
     ·exact Ts
     ·split at h
      ·injection h with h;injection h with _ h;cases h
      ·have key:∀ (ks dx:List Tm) (l:List TB),dM (iM f) ks dx l=some (l',true)->l'=l\/l.length<l'.length:=by
        intro ks
        induction ks with
        |nil=>intro dx l h;simp only[dM]at h;injection h with h;injection h with h;exact Or.inl h.symm
        |cons k ks CZ=>
         intro dx l h
         cases dx with
         |nil=>simp only[dM]at h;injection h with h;injection h with h;exact Or.inl h.symm
         |cons k' dx=>
          simp only[dM]at h
          split at h
          ·rename_i l1 e
           have h1:=GV f k k' l l1 e
           have h2:=CZ dx l1 h
           rcases h1 with rfl|h1
           ·exact h2
           ·rcases h2 with rfl|h2
            ·exact Or.inr h1
            ·exact Or.inr af
          ·injection h with h;injection h with _ h;cases h
          ·cases h
       exact key _ _ _ h
theorem jP.len {s:aB}{l:List TB}(h:jP s l):l.length<=20:=by
 have:=Am (ns:=l.map (·.var)) (fun n hn=>by obtain⟨x,hx,rfl⟩:=List.mem_map.1 hn;exact(h.ok x hx).1) (by rw[ER,List.pairwise_map];exact h.srt)
 rwa [List.length_map]at this
theorem yz{s:aB}:∀ (N z:Nat) (a c:Tm) (l:List TB),20 - l.length<=N->(aZ (ai l) a).sz<=z->jP s l->Vs s a->Vs s c->∃f r,iM f a c l=some r:=by
 intro N
 induction N using Nat.strongRecOn with
 |ind N ihN=>
 intro z
 induction z with
 |zero=>intro a c l _ hz;have:=Tm.su (aZ (ai l) a);omega
 |succ z ihz=>
  intro a c l hN hz hl ha hc
  have va:=Vs.sub hl.bd a ha
  have vc:=Vs.sub hl.bd c hc
  have key:∀ (ks dx:List Tm) (l1:List TB),(∀k∈ks,k∈(aZ (ai l) a).kids)->(∀k∈dx,Vs s k)->jP s l1->(l1=l\/l.length<l1.length)->∃f r,dM (iM f) ks dx l1=some r:=by
   intro ks
   induction ks with
   |nil=>intro dx l1 _ _ _ _;exact⟨0,_,rfl⟩
   |cons k ks CZ=>
    intro dx l1 m1 m2 rz Va
    cases dx with
    |nil=>exact⟨0,_,rfl⟩
    |cons k' dx=>
     have hk:=m1 k aE
     have vk:=va.mF hk
     have HH:∃f r,iM f k k' l1=some r:=by
      rcases Va with rfl|Va
      ·refine ihz k k' l1 hN ?_ rz vk (m2 k' aE)
       have:aZ (ai l1) k=k:=L1 (s:=s) k vk fun v hv=>by
        by_cases h1:(aZ (ai l1) a).op=1
        ·rw[va.eta h1]at hk;cases hk
        ·exact hl.free ha ((qW va h1).2 ⟨k,hk,hv⟩)
       rw[this]
       have:=Tm.mP hk
       omega
      ·have Yb:=rz.len
       exact ihN (20 - l1.length) af _ k k' l1 (Nat.le_refl _) (Nat.le_refl _) rz vk (m2 k' aE)
     obtain⟨f,⟨l2,ok⟩,e⟩:=HH
     cases ok with
     |false=>exact⟨f,(l2,false),by simp only[dM,e]⟩
     |true=>
      obtain⟨o1,_⟩:=As f k k' l1 l2 e rz vk (m2 k' aE)
      have hle:=GV f k k' l1 l2 e
      obtain⟨f2,r2,e2⟩:=CZ dx l2 (fun y hy=>m1 y kQ) (fun y hy=>m2 y kQ) o1 (by
       rcases hle with rfl|h
       ·exact Va
       ·right
        rcases Va with rfl|h2
        ·exact h
        ·omega)
      refine⟨max f f2,r2, ?_⟩
      simp only[dM]
      rw[sC e (Nat.le_max_left _ _)]
      exact pM (fun k k' l r hk=>sC hk (Nat.le_max_right _ _)) e2
  obtain⟨f,r,e⟩:=key (aZ (ai l) a).kids (aZ (ai l) c).kids l (fun _ h=>h) (fun k hk=>vc.mF hk) hl (Or.inl rfl)
  refine⟨f+1, ?_⟩
  simp only[iM]
  repeat' split
  all_goals first
   |exact⟨_,rfl⟩
   |exact⟨r,e⟩
mutual
def sD:Tm->List Int
 | .mk op n kids=>if op=1 then [n]else O7 kids
def O7:List Tm->List Int
 |[]=>[]
 |k::l=>sD k++O7 l
end
theorem C2:∀l:List Tm,O7 l=l.flatMap sD
 |[]=>rfl
 |k::l=>by rw[O7,C2 l,List.flatMap_cons]
theorem L4(t:Tm):sD t=if t.op=1 then [t.n]else t.kids.flatMap sD:=by
 cases t;rw[sD,C2];rfl
theorem SS{s:aB}:∀t:Tm,Vs s t->∀v,v∈sD t↔gv v t=true:=by
 refine Tm.fj fun t ih hv v=> ?_
 rw[L4]
 by_cases h1:t.op=1
 ·rw[if_pos h1,iA h1,List.mem_singleton];exact eq_comm
 ·rw[if_neg h1,qW hv h1,List.mem_flatMap]
  exact⟨fun⟨k,hk,h⟩=>⟨k,hk,(ih k hk (hv.mF hk) v).1 h⟩,fun⟨k,hk,h⟩=>⟨k,hk,(ih k hk (hv.mF hk) v).2 h⟩⟩
inductive nO (b:List (Int×Tm)) (n:Int):Tm->Prop where
 |here {t:Tm}:gv n t=true->nO b n t
 |step {t:Tm} {v:Int} {x:Tm}:gv v t=true->bS b v=some x->nO b n x->nO b n t
theorem nO.mono {b c:List (Int×Tm)}(h:∀v x,bS b v=some x->bS c v=some x){t:Tm}{n:Int}(hr:nO b n t):nO c n t:=by
 induction hr with
 |here h1=>exact .here h1
 |step h1 h2 _ ih=>exact .step h1 (h _ _ h2) ih
def L5(F:Tm->List Int->Option (Bool×List Int))(b:List (Int×Tm))(n:Int):List Int->List Int->Option (Bool×List Int)
 |[],met=>some (false,met)
 |v::vs,met=>if v=n then some (true,met)else
  match bS b v with
  |none=>L5 F b n vs met
  |some x=>if v∈met then L5 F b n vs met else
   match F x (ef met v)with
   |some (true,m)=>some (true,m)
   |some (false,m)=>L5 F b n vs m
   |none=>none
def Nn:Nat->List (Int×Tm)->Int->Tm->List Int->Option (Bool×List Int)
 |0,_,_,_,_=>none
 |f+1,b,n,t,met=>L5 (Nn f b n) b n (sD t) met
theorem qZ{F G:Tm->List Int->Option (Bool×List Int)}(C1:∀x m r,F x m=some r->G x m=some r){b:List (Int×Tm)}{n:Int}:∀ {vs met:List Int} {r:Bool×List Int},L5 F b n vs met=some r->L5 G b n vs met=some r
 |[],_,_,h=>h
 |v::vs,met,r,h=>by
  simp only[L5]at h|-
  split at h
  ·rename_i e;rw[if_pos e];exact h
  ·rename_i e
   rw[if_neg e]
   split at h
   ·exact qZ C1 h
   ·split at h
    ·rename_i e2;rw[if_pos e2];exact qZ C1 h
    ·rename_i x _ e2
     rw[if_neg e2]
     cases hF:F x (ef met v)with
     |none=>rw[hF]at h;cases h
     |some q=>
      rw[hF]at h
      rw[C1 _ _ _ hF]
      obtain⟨is,m⟩:=q
      cases is with
      |true=>exact h
      |false=>exact qZ C1 h
theorem C3{b:List (Int×Tm)}{n:Int}:∀ {f g:Nat} {t:Tm} {met:List Int} {r:Bool×List Int},Nn f b n t met=some r->f<=g->Nn g b n t met=some r
 |0,_,_,_,_,h,_=>by cases h
 |f+1,0,_,_,_,h,hg=>af
 |f+1,g+1,t,met,r,h,hg=>qZ (fun x m q hq=>C3 hq af) h
def EX(b:List (Int×Tm))(n:Int)(m:List Int)(t:Tm):Prop:=∀v,gv v t=true->v≠n/\∀x,bS b v=some x->v∈m
theorem EX.mono {b:List (Int×Tm)}{n:Int}{m m':List Int}(h:∀v∈m,v∈m'){t:Tm}(ht:EX b n m t):EX b n m' t:=fun v hv=>⟨(ht v hv).1,fun x hx=>h v ((ht v hv).2 x hx)⟩
def LdQ(b:List (Int×Tm))(n:Int)(met:List Int)(t:Tm)(is:Bool)(fF:List Int):Prop:=
 (is=true->nO b n t)/\(is=false->(∀v∈met,v∈fF)/\EX b n fF t/\∀v∈fF,v∉met->∀x,bS b v=some x->EX b n fF x)
def wO(b:List (Int×Tm))(met:List Int):Nat:=((b.map (·.1)).filter fun v=> !met.contains v).length
theorem ug{b:List (Int×Tm)}{met:List Int}{v:Int}{x:Tm}(h:bS b v=some x)(hm:v∉met):wO b (ef met v)<wO b met:=by
 unfold wO
 have hv:v∈b.map (·.1):=List.mem_map.2 ⟨_,cK h,rfl⟩
 generalize b.map (·.1)=ks at hv
 have hle:∀ks:List Int,(ks.filter fun u=> !(ef met v).contains u).length<=(ks.filter fun u=> !met.contains u).length:=by
  intro ks
  refine(List.Sublist.length_le ?_)
  rw[show(ks.filter fun u=> !(ef met v).contains u)=(ks.filter fun u=> !met.contains u).filter fun u=> !(ef met v).contains u by
   rw[List.filter_filter]
   congr 1
   funext u
   cases e:(ef met v).contains u with
   |true=>rfl
   |false=>
    cases e2:met.contains u with
    |false=>rfl
    |true=>
     rw[List.contains_iff_mem]at e2
     have:(ef met v).contains u=true:=List.contains_iff_mem.2 (jM.2 (.inl e2))
     rw[this]at e;cases e]
  exact List.filter_sublist
 induction ks with
 |nil=>cases hv
 |cons u ks ih=>
  by_cases e:u=v
  ·subst e
   have h1:(ef met u).contains u=true:=List.contains_iff_mem.2 (jM.2 (.inr rfl))
   have h2:met.contains u=false:=by rw[Bool.eq_false_iff];intro h;exact hm (List.contains_iff_mem.1 h)
   rw[List.filter_cons,List.filter_cons,h1,h2]
   simp only[Bool.not_true,Bool.false_eq_true,if_false,Bool.not_false,if_true,List.length_cons]
   have:=hle ks
   omega
  ·have pS:v∈ks:=by
    rcases List.mem_cons.1 hv with h|h
    ·exact absurd h.symm e
    ·exact h
   have:=ih pS
   rw[List.filter_cons,List.filter_cons]
   have hu:(ef met v).contains u=met.contains u:=by
    rw[Bool.eq_iff_iff,List.contains_iff_mem,List.contains_iff_mem,jM]
    exact⟨fun h=>h.elim id fun h=>absurd h e, .inl⟩
   rw[hu]
   split
   ·rw[List.length_cons,List.length_cons];omega
   ·exact this
theorem C4{b:List (Int×Tm)}{m m':List Int}(h:∀v∈m,v∈m'):wO b m'<=wO b m:=by
 unfold wO
 refine List.Sublist.length_le ?_
 rw[show((b.map (·.1)).filter fun u=> !m'.contains u)=((b.map (·.1)).filter fun u=> !m.contains u).filter fun u=> !m'.contains u by
  rw[List.filter_filter]
  congr 1
  funext u
  cases e:m'.contains u with
  |true=>rfl
  |false=>
   cases e2:m.contains u with
   |false=>rfl
   |true=>
    rw[List.contains_iff_mem]at e2
    have:m'.contains u=true:=List.contains_iff_mem.2 (h u e2)
    rw[this]at e;cases e]
 exact List.filter_sublist
theorem GW{s:aB}{b:List (Int×Tm)}(hb:∀p∈b,Vs s p.2)(n:Int):∀ (N:Nat) (t:Tm) (met:List Int),wO b met<=N->Vs s t->∃is fF,Nn (N+1) b n t met=some (is,fF)/\LdQ b n met t is fF
 |N,t,met,hN,ht=>by
  have key:∀ (vs met:List Int),wO b met<=N->(∀v∈vs,gv v t=true)->∃is fF,L5 (Nn N b n) b n vs met=some (is,fF)/\(is=true->nO b n t)/\
   (is=false->(∀v∈met,v∈fF)/\(∀v∈vs,v≠n/\∀x,bS b v=some x->v∈fF)/\∀v∈fF,v∉met->∀x,bS b v=some x->EX b n fF x):=by
   intro vs
   induction vs with
   |nil=>intro met _ _;exact⟨false,met,rfl,fun h=>j5,fun _=>⟨fun _ h=>h,fun _ h=>j5,fun v h h'=>absurd h h'⟩⟩
   |cons v vs ih=>
    intro met hm IY
    have hv:=IY v aE
    have Wl:∀u∈vs,gv u t=true:=fun u hu=>IY u (by simp[hu])
    simp only[L5]
    by_cases e:v=n
    ·rw[if_pos e]
     exact⟨true,met,rfl,fun _=> .here (e ▸ hv),fun h=>by cases h⟩
    ·rw[if_neg e]
     cases hl:bS b v with
     |none=>
      obtain⟨is,fF,h1,h2,h3⟩:=ih met hm Wl
      refine⟨is,fF,h1,h2,fun h=>⟨(h3 h).1,fun u hu=> ?_,(h3 h).2.2⟩⟩
      rcases List.mem_cons.1 hu with rfl|hu
      ·exact⟨e,fun x hx=>by rw[hl]at hx;cases hx⟩
      ·exact(h3 h).2.1 u hu
     |some x=>
      simp only
      by_cases e2:v∈met
      ·rw[if_pos e2]
       obtain⟨is,fF,h1,h2,h3⟩:=ih met hm Wl
       refine⟨is,fF,h1,h2,fun h=>⟨(h3 h).1,fun u hu=> ?_,(h3 h).2.2⟩⟩
       rcases List.mem_cons.1 hu with rfl|hu
       ·exact⟨e,fun _ _=>(h3 h).1 _ e2⟩
       ·exact(h3 h).2.1 u hu
      ·rw[if_neg e2]
       have hu:=ug hl e2
       obtain⟨N',rfl⟩:∃N',N=N'+1:=⟨N - 1,af⟩
       obtain⟨is1,m1,g1,g2,g3⟩:=GW hb n N' x (ef met v) af (hb _ (cK hl))
       rw[g1]
       cases is1 with
       |true=>exact⟨true,m1,rfl,fun _=> .step hv hl (g2 rfl),fun h=>by cases h⟩
       |false=>
        obtain⟨k1,k2,k3⟩:=g3 rfl
        have k0:∀u∈met,u∈m1:=fun u hu=>k1 u (jM.2 (.inl hu))
        obtain⟨is,fF,h1,h2,h3⟩:=ih m1 (by have:=C4 (b:=b) k0;omega) Wl
        refine⟨is,fF,h1,h2,fun h=> ?_⟩
        obtain⟨j1,j2,j3⟩:=h3 h
        refine⟨fun u hu=>j1 u (k0 u hu),fun u hu=> ?_,fun u hu hnu y hy=> ?_⟩
        ·rcases List.mem_cons.1 hu with rfl|hu
         ·exact⟨e,fun _ _=>j1 _ (k1 _ (jM.2 (.inr rfl)))⟩
         ·exact j2 u hu
        ·by_cases Jm:u∈m1
         ·by_cases huv:u=v
          ·subst huv
           rw[hl]at hy
           cases hy
           exact k2.mono j1
          ·exact(k3 u Jm (fun h=>(jM.1 h).elim hnu huv) y hy).mono j1
         ·exact j3 u hu Jm y hy
  obtain⟨is,fF,h1,h2,h3⟩:=key (sD t) met hN fun v hv=>(SS t ht v).1 hv
  exact⟨is,fF,h1,h2,fun h=>⟨(h3 h).1,fun v hv=>(h3 h).2.1 v ((SS t ht v).2 hv),(h3 h).2.2⟩⟩
theorem Wm{s:aB}{b:List (Int×Tm)}(hb:∀p∈b,Vs s p.2)(n:Int){t:Tm}(ht:Vs s t):∃is fF,Nn (b.length+1) b n t []=some (is,fF)/\(is=true↔nO b n t):=by
 have hN:wO b []<=b.length:=by
  unfold wO
  exact Y1
 obtain⟨is,fF,h1,h2,h3⟩:=GW hb n b.length t [] hN ht
 refine⟨is,fF,h1,h2,fun hr=> ?_⟩
 cases is with
 |true=>rfl
 |false=>
  obtain⟨_,k2,k3⟩:=h3 rfl
  exfalso
  have:∀t,nO b n t-> ¬EX b n fF t:=by
   intro t hr
   induction hr with
   |here h=>exact fun hs=>(hs _ h).1 rfl
   |step h1 h2 _ ih=>exact fun hs=>ih (k3 _ ((hs _ h1).2 _ h2) aE _ h2)
  exact this t hr k2
def pN(l more:List Int):List Int:=more.foldl ef l
theorem EY:∀ {more l:List Int} {v:Int},v∈pN l more↔v∈l\/v∈more
 |[],l,v=>by simp[pN]
 |u::more,l,v=>by
  show v∈pN (ef l u) more↔_
  rw[EY,jM,List.mem_cons,or_assoc]
theorem L6:∀ (more l:List Int),∃r,pN l more=l++r
 |[],l=>⟨[],by simp[pN]⟩
 |u::more,l=>by
  obtain⟨r,hr⟩:=L6 more (ef l u)
  show ∃r,pN (ef l u) more=_
  rw[hr]
  unfold ef
  split
  ·exact⟨r,rfl⟩
  ·exact⟨[u]++r,by rw[List.append_assoc]⟩
theorem wa:∀ (more l:List Int),l.Nodup->(pN l more).Nodup
 |[],l,h=>h
 |u::more,l,h=>wa more (ef l u) (EP u h)
def L7(b:List (Int×Tm))(all:List Int)(v:Int):List Int:=match bS b v with
 |some x=>pN all (cX x)
 |none=>all
theorem O8(b:List (Int×Tm))(all:List Int)(v:Int):∃r,L7 b all v=all++r:=by
 unfold L7
 split
 ·exact L6 _ _
 ·exact⟨[],aE⟩
theorem I4(b:List (Int×Tm)){all:List Int}(v:Int)(h:all.Nodup):(L7 b all v).Nodup:=by
 unfold L7
 split
 ·exact wa _ _ h
 ·exact h
theorem C5{l:List Int}(hn:l.Nodup)(h:∀v∈l,0<=v/\v<20):l.length<=20:=by
 have:∀ (n:Nat) (l:List Int),l.Nodup->(∀v∈l,0<=v/\v<(n:Int))->l.length<=n:=by
  intro n
  induction n with
  |zero=>
   intro l _ h
   cases l with
   |nil=>exact Nat.le_refl _
   |cons a l=>have:=h a aE;omega
  |succ n ih=>
   intro l hn h
   have h1:=ih (l.erase (n:Int)) (hn.erase _) fun v hv=>by
    have iZ:v≠(n:Int):=fun e=>by
     subst e
     exact hn.not_mem_erase hv
    have:=h v (List.mem_of_mem_erase hv)
    omega
   have h2:l.length<=(l.erase (n:Int)).length+1:=by
    by_cases hm:(n:Int)∈l
    ·rw[List.length_erase_of_mem hm];omega
    ·rw[List.erase_of_not_mem hm];omega
   omega
 exact this 20 l hn h
structure O9 (s:aB) (b:List (Int×Tm)) (t:Tm) (i:Nat) (all:List Int):Prop where
 nd:all.Nodup
 rg:∀v∈all,0<=v/\v<20
 le:i<=all.length
 fst:∀v,gv v t=true->v∈all
 snd:∀v∈all,nO b v t
 cl:∀j,j<i->∀v x,all[j]? =some v->bS b v=some x->∀u,gv u x=true->u∈all
theorem O9.zero {s:aB}{b:List (Int×Tm)}{t:Tm}(ht:Vs s t):O9 s b t 0 (pN [] (cX t)):=by
 have hm:∀v,v∈pN [] (cX t)↔gv v t=true:=fun v=>by rw[EY,(dy t).2 v];simp
 exact⟨wa _ _ List.nodup_nil,fun v hv=>ht.range ((hm v).1 hv),Nat.zero_le _,fun v hv=>(hm v).2 hv,fun v hv=> .here ((hm v).1 hv),fun j hj=>absurd hj (Nat.not_lt_zero _)⟩
theorem nO.trans {b:List (Int×Tm)}{t:Tm}{v:Int}(h:nO b v t){x:Tm}(hx:bS b v=some x){n:Int}(hn:nO b n x):nO b n t:=by
 induction h with
 |here h1=>exact .step h1 hx hn
 |step h1 h2 _ ih=>exact .step h1 h2 ih
theorem O9.succ {s:aB}{b:List (Int×Tm)}(hb:∀p∈b,Vs s p.2){t:Tm}{i:Nat}{all:List Int}(h:O9 s b t i all){v:Int}(hv:all[i]? =some v):O9 s b t (i+1) (L7 b all v):=by
 obtain⟨r,hr⟩:=O8 b all v
 have hi:=(List.getElem?_eq_some_iff.1 hv).1
 have hvm:=List.mem_of_getElem? hv
 have hm:∀u,u∈L7 b all v↔u∈all\/∃x,bS b v=some x/\gv u x=true:=fun u=>by
  unfold L7
  cases hl:bS b v with
  |none=>simp
  |some x=>simp only[EY,(dy x).2 u,Option.some.injEq,exists_eq_left']
 refine⟨I4 b v h.nd,fun u hu=> ?_,by rw[hr,List.length_append];omega,fun u hu=>(hm u).2 (.inl (h.fst u hu)),fun u hu=> ?_,fun j hj w x hw hx u hu=> ?_⟩
 ·rcases(hm u).1 hu with hu|⟨x,hx,hu⟩
  ·exact h.rg u hu
  ·exact(hb _ (cK hx)).range hu
 ·rcases(hm u).1 hu with hu|⟨x,hx,hu⟩
  ·exact h.snd u hu
  ·exact(h.snd v hvm).trans hx (.here hu)
 ·rw[hr,List.getElem?_append_left (by omega)]at hw
  rcases Nat.lt_or_ge j i with hji|hji
  ·exact(hm u).2 (.inl (h.cl j hji w x hw hx u hu))
  ·have:j=i:=af
   subst this
   rw[hv]at hw
   cases hw
   exact(hm u).2 (.inr ⟨x,hx,hu⟩)
end Go.Proofs.YtlhemmpklhhgoaaGreat
