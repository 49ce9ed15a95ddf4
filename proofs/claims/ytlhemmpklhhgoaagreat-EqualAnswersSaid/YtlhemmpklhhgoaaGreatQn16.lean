/-
  A PART OF THE PROOF. Conditions: none.
-/
import Derived.Test.YtlhemmpklhhgoaaGreatQn15
set_option linter.unusedSimpArgs false
set_option linter.unusedVariables false
section
namespace Go.Proofs.YtlhemmpklhhgoaaGreat
open Go.Shelf
def DL:Go.Shelf.Ren:=⟨fun|189=>135|125=>163|257=>162|128=>184|129=>185|294=>175|295=>176|296=>177|297=>178|298=>179|299=>180|216=>181|300=>182|301=>183|328=>188|329=>189|330=>190|331=>191|332=>192|215=>193|343=>201|n=>n,fun|28=>142|3=>3|46=>193|0=>0|51=>205|53=>207|4=>4|183=>197|182=>196|131=>202|5=>5|9=>9|218=>214|222=>218|228=>220|229=>221|n=>n,fun|n=>n⟩
theorem HZ:Go.Proofs.Lays.n189 Tryz.prog DL:={
 mixed:=ai
 f125:=Tryz.func163.trans (congrArg some ai)
 f128:=Tryz.func184.trans (congrArg some ai)
 f129:=Tryz.func185.trans (congrArg some ai)
 f189:=Tryz.func135.trans (congrArg some ai)
 f215:=Tryz.func193.trans (congrArg some ai)
 f216:=Tryz.func181.trans (congrArg some ai)
 f257:=Tryz.func162.trans (congrArg some ai)
 f294:=Tryz.func175.trans (congrArg some ai)
 f295:=Tryz.func176.trans (congrArg some ai)
 f296:=Tryz.func177.trans (congrArg some ai)
 f297:=Tryz.func178.trans (congrArg some ai)
 f298:=Tryz.func179.trans (congrArg some ai)
 f299:=Tryz.func180.trans (congrArg some ai)
 f300:=Tryz.func182.trans (congrArg some ai)
 f301:=Tryz.func183.trans (congrArg some ai)
 f328:=Tryz.func188.trans (congrArg some ai)
 f329:=Tryz.func189.trans (congrArg some ai)
 f330:=Tryz.func190.trans (congrArg some ai)
 f331:=Tryz.func191.trans (congrArg some ai)
 f332:=Tryz.func192.trans (congrArg some ai)
 f343:=Tryz.func201.trans (congrArg some ai)
 t0:=Tryz.underlying0
 a0:=Tryz.isAgg0
 z0:=Tryz.sizeOf0
 v0:=Tryz.zeroValue0
 t3:=Tryz.underlying3
 a3:=Tryz.isAgg3
 z3:=Tryz.sizeOf3
 v3:=Tryz.zeroValue3
 t4:=Tryz.underlying4
 a4:=Tryz.isAgg4
 z4:=Tryz.sizeOf4
 v4:=Tryz.zeroValue4
 t5:=Tryz.underlying5
 a5:=Tryz.isAgg5
 z5:=Tryz.sizeOf5
 v5:=Tryz.zeroValue5
 t9:=Tryz.underlying9
 a9:=Tryz.isAgg9
 z9:=Tryz.sizeOf9
 v9:=Tryz.zeroValue9
 t28:=Tryz.underlying142
 a28:=Tryz.isAgg142
 z28:=Tryz.sizeOf142
 v28:=Tryz.zeroValue142
 t46:=Tryz.underlying193
 a46:=Tryz.isAgg193
 z46:=Tryz.sizeOf193
 v46:=Tryz.zeroValue193
 t51:=Tryz.underlying205
 a51:=Tryz.isAgg205
 z51:=Tryz.sizeOf205
 v51:=Tryz.zeroValue205
 t53:=Tryz.underlying207
 a53:=Tryz.isAgg207
 z53:=Tryz.sizeOf207
 v53:=Tryz.zeroValue207
 t131:=Tryz.underlying202
 a131:=Tryz.isAgg202
 z131:=Tryz.sizeOf202
 v131:=Tryz.zeroValue202
 t182:=Tryz.underlying196
 a182:=Tryz.isAgg196
 z182:=Tryz.sizeOf196
 v182:=Tryz.zeroValue196
 t183:=Tryz.underlying197
 a183:=Tryz.isAgg197
 z183:=Tryz.sizeOf197
 v183:=Tryz.zeroValue197
 t218:=Tryz.underlying214
 a218:=Tryz.isAgg214
 z218:=Tryz.sizeOf214
 v218:=Tryz.zeroValue214
 t222:=Tryz.underlying218
 a222:=Tryz.isAgg218
 z222:=Tryz.sizeOf218
 v222:=Tryz.zeroValue218
 t228:=Tryz.underlying220
 a228:=Tryz.isAgg220
 z228:=Tryz.sizeOf220
 v228:=Tryz.zeroValue220
 t229:=Tryz.underlying221
 a229:=Tryz.isAgg221
 z229:=Tryz.sizeOf221
 v229:=Tryz.zeroValue221}
theorem Km:DK Tryz.prog 135:=fun eA off cap zs w h1 h2 h3=>Any.slices_Sort_int HZ eA off cap zs w h1 h2 h3
theorem Kn:∀ (p:Option Addr) (cap:Nat) (w:World),Calls Tryz.prog 135 #[.slice p 0 cap] w fun e w'=>e= .returned (.tuple #[])/\w'=w:=fun p cap w=>Any.slices_Sort_int_none HZ p cap w
theorem DM:Enters Tryz.prog 135:=⟨_,Tryz.func135,ai,ai⟩
end Go.Proofs.YtlhemmpklhhgoaaGreat
end
namespace Go.Proofs.YtlhemmpklhhgoaaGreat
end Go.Proofs.YtlhemmpklhhgoaaGreat
namespace Go.Proofs.YtlhemmpklhhgoaaGreat
theorem Bm{o:Nat->ab}{nx:Nat}{Δ:List (Nat×ab)}(h:∀x∈Δ,x.1<nx):(hp o nx).put Δ=hp (put o Δ) nx:=by
 simp only[Hp.put,hp]
 congr 1
 funext j
 simp only[List.mem_map,eq_iff_iff]
 exact⟨fun h2=>h2.elim (fun h=>h) fun⟨x,hx,e⟩=>e ▸ h x hx, .inl⟩
theorem bQ.F2 {P:Program}{g:FuncId}{args:List V}{o:Nat->ab}{nx id:Nat}{kt vt:TypeId}{l:List (D×D)}{K X:V->(Nat->ab)->Nat->Prop}(ho:o id= .map kt vt l)(ax:id<nx)
 (h:bQ P g args (ay o id (.cj l)) nx K X):bQ P g args o nx K X:=by
 refine⟨h.1,fun M φ w vals hH hd=> ?_⟩
 obtain⟨h1,h2⟩:=Ar hH (id:=id) ax ho
 have fK:(hp o nx).put [(id, .cj l)]=hp (ay o id (.cj l)) nx:=Bm (fun x hx=>by simp at hx;subst hx;exact ax)
 rw[fK]at h1 h2
 have hB:∀b, ¬aq M φ (hp o nx) b-> ¬aq M φ (hp (ay o id (.cj l)) nx) b:=by
  rintro b hn (hb|⟨j,hl,hb⟩)
  ·exact hn (.inl hb)
  ·refine hn (.inr ⟨j, ?_,hb⟩)
   by_cases e:j=id
   ·subst e;show(o j).live=true;rw[ho];rfl
   ·have hl:(ay o id (.cj l) j).live=true:=hl
    rw[ae _ _ _ _ e]at hl;exact hl
 refine(h.2 M φ w vals h1 (V.eI (H:=hp o nx) hB _ _ (fun j hj=>⟨?_,rfl,V.ej _ _ hd j hj⟩) hd)).mono ?_
 ·show kC (ay o id (.cj l) j) (o j)
  by_cases e:j=id
  ·subst e;rw[aa,ho];exact⟨fun _=>rfl,fun e he=>by cases he⟩
  ·rw[ae _ _ _ _ e];exact kC.rfl' rfl
 ·rintro e w' ⟨aJ,o',nx',v,k1,k2,k3⟩
  exact⟨aJ,o',nx',v,k1,h2.trans k2,k3⟩
theorem bQ.seal {P:Program}{g:FuncId}{args:List V}{o:Nat->ab}{nx:Nat}{K X:V->(Nat->ab)->Nat->Prop}
 (h:bQ P g args o nx (fun v o' nx'=>∃x,dM o' v=some x/\K (.d x) (put o' (bG o' v.ids)) nx') X):bQ P g args o nx K X:=by
 refine⟨h.1,fun M φ w vals hH hd=>(h.2 M φ w vals hH hd).mono ?_⟩
 rintro e w' ⟨aJ,o',nx',v,k1,k2,k3⟩
 cases e with
 |returned val=>
  obtain⟨k4,x,k5,k6⟩:=k3
  have hu:=fun id ax=>cV v val k4 id ax
  obtain⟨f1,f2,f3,f4,f5⟩:=cZ (H:=hp o' nx') k1 v.ids hu
  have fK:(hp o' nx').put (bG o' v.ids)=hp (put o' (bG o' v.ids)) nx':=Bm (fun y hy=>by
   simp only[bG,List.mem_map]at hy
   obtain⟨id,ax,rfl⟩:=hy
   exact hu id ax)
  have U4:=f1;have U5:=f2
  rw[show bG (hp o' nx').o v.ids=bG o' v.ids from rfl,fK]at U4 U5
  have O7:∀k,cL aJ ((hp o' nx').put (bG o' v.ids)) k->cL aJ (hp o' nx') k:=by
   rintro k ⟨id,g1,g2⟩
   by_cases ax:id∈v.ids
   ·have:=f3 id ax
    rw[show((hp o' nx').put (bG o' v.ids)).o id=_ from this]at g1
    refine⟨id, ?_,g2⟩
    revert g1
    cases(hp o' nx').o id<;>simp[ab.fz,ab.live]
   ·have:=f4 id ax
    rw[show((hp o' nx').put (bG o' v.ids)).o id=_ from this]at g1
    exact⟨id,g1,g2⟩
  have h4:V.den (aq M aJ ((hp o' nx').put (bG o' v.ids))) aJ ((hp o' nx').put (bG o' v.ids)) w' v val:=
   V.kn (H:=hp o' nx') (fun k h h'=>h (h'.imp id (O7 k))) v val (fun id ax=>by
     have dY:(hp o' nx').us id:=(V.jN v val k4) id ax
     refine⟨?_,rfl,(f5 id).2 dY⟩
     by_cases hm:id∈v.ids
     ·rw[show((hp o' nx').put (bG o' v.ids)).o id=_ from f3 id hm];exact kC.fz _
     ·rw[show((hp o' nx').put (bG o' v.ids)).o id=_ from f4 id hm];exact kC.rfl' rfl) k4
  have h5:=eQ f1 (o:=o') v x val (fun id ax=>f3 id ax) k5 h4
  rw[show(hp o' nx').put (bG (hp o' nx').o v.ids)=hp (put o' (bG o' v.ids)) nx' from fK]at h5
  exact⟨aJ,_,nx', .d x,U4,k2.trans U5,h5,k6⟩
 |panicked ch=>exact⟨aJ,o',nx',v,k1,k2,k3⟩
 |outgrown=>exact k3.elim
section
section
variable {B:Nat->Prop}{w:World}
end
end
@[reducible] def mpD (m:List (Int×D)):D:= .mp ((enc (D.int .i64) m).map (·.1)) ((enc (D.int .i64) m).map (·.2))
theorem oW(m:List (Int×D)):(((enc (D.int .i64) m).map (·.1)).zip ((enc (D.int .i64) m).map (·.2)))=enc (D.int .i64) m:=QV _ m
theorem Ko:∀ {l:List Int},F1 l->l.Nodup:=by
 intro l h
 exact List.Pairwise.imp (fun h=>af) h
theorem NC(a b:List Tm)(ha:a.length<=9223372036854775807)(hb:b.length<=9223372036854775807)(g:Nat)(h:∀x∈a,∀y∈b,aX Tryz.prog g [x.d,y.d] (.ret [.bool (hY x y)]))(o:Nat->ab)(nx:Nat)(hg:Good o nx)(K X:V->(Nat->ab)->Nat->Prop)
 (hK:∀o' nx',nx<=nx'->Good o' nx'->(∀j,j<nx->o' j=o j)->K (.d (.bool (a.length==b.length&&iU a b))) o' nx'):
 bQ Tryz.prog 133 [.d (.sl (a.map Tm.d)), .d (.sl (b.map Tm.d)), .func (.func g) [] []] o nx K X:=by
 refine bQ.aG mix Uq aE ?_
 rw[XI]
 refine fZ ?_
 refine ao (fun h1=> ?_) (fun h1=> ?_)
 ·refine bY ?_
  have:(a.length==b.length&&iU a b)=false:=by
   have:(a.length==b.length)=false:=by
    rw[Bool.eq_false_iff];intro h
    simp at h;simp[h]at h1
   rw[this];rfl
  rw[this]at hK
  exact hK _ _ af (hg.mono af) (fun _ _=>rfl)
 ·have hl:a.length=b.length:=by simp at h1;omega
  have yT:(a.length==b.length)=true:=by simpa using hl
  rw[yT,Bool.true_and]at hK
  refine fZ ?_
  refine aD (fun k:Nat=>⟨aZ [.d (.sl (a.map Tm.d)), .d (.sl (b.map Tm.d)), .func (.func g) [] [], .ad, .ad, .ad, .ad, .ad, .ad, .ad, .ad, .ad, .ad, .ad, .ad, .d (.sl (a.map Tm.d)), .d (.i a.length), .d (.i k)],o,nx⟩)
   (fun k=>k<=a.length/\∀i,i<k->∀x y,a[i]? =some x->b[i]? =some y->hY x y=true) (fun k=>a.length - k) 0 ⟨Nat.zero_le _,fun i h=>af⟩ (bO.cc _ (Nat.le_refl _) af hg (fun _ _=>rfl) ?_) (fun k hk=> ?_)
  ·exact dW
  refine bY ?_
  refine ao (fun h2=> ?_) (fun h2=> ?_)
  ·simp at h2
   obtain⟨x,hx⟩:=aB h2
   obtain⟨y,hy⟩:=aB (l:=b) (k:=k) af
   refine Ld hx hy ?_
   refine ak (h x (List.mem_of_getElem? hx) y (List.mem_of_getElem? hy)) rfl ?_
   refine bY ?_
   refine ao (fun h3=> ?_) (fun h3=> ?_)
   ·refine bY ?_
    simp at h3
    have:iU a b=false:=by
     rw[Bool.eq_false_iff];intro h4
     have:=(iW _ _ hl).1 h4 k x y hx hy
     rw[h3]at this;cases this
    rw[this]at hK
    refine hK _ _ af ?_ (fun j hj=>by(repeat(first|rfl|rw[aa]|rw[ae _ _ _ _ (by omega)])))
    exact dt
   ·refine bY ?_
    simp at h3
    refine aj (k+1) ⟨h2,fun i hi u v hu hv=> ?_⟩ af (bO.cc _ (Nat.le_refl _) af hg (fun j hj=>by(repeat(first|rfl|rw[aa]|rw[ae _ _ _ _ (by omega)]))) ?_)
    ·by_cases e:i=k
     ·subst e
      rw[hx]at hu;rw[hy]at hv
      exact Ss
     ·exact hk.2 i af u v hu hv
    ·exact dW
  ·refine bY ?_
   simp at h2
   have:iU a b=true:=(iW _ _ hl).2 fun i x y hx hy=>hk.2 i (by have:=(List.getElem?_eq_some_iff.1 hx).1;omega) x y hx hy
   rw[this]at hK
   exact hK _ _ af (hg.mono af) (fun _ _=>rfl)
theorem Yw(n:Int):aX Tryz.prog 80 [.i n] (.ret [(Tm.mk 1 n []).d]):=by
 refine aX.aG mix adn aE ?_
 rw[c80]
 refine bY ?_
 rw[Tm.Df]
 rfl
def lk:List (Int×Int)->Int->Option Int
 |[],_=>none
 |p::m,v=>if p.1=v then some p.2 else lk m v
abbrev Keys(m:List (Int×Int)):Prop:=(m.map (·.1)).Nodup
def ints(m:List (Int×Int)):List (Int×D):=m.map fun p=>(p.1,D.i p.2)
def bS:List (Int×Tm)->Int->Option Tm
 |[],_=>none
 |p::l,v=>if p.1=v then some p.2 else bS l v
mutual
def Tm.wf:Tm->Prop
 | .mk op _ kids=>(op=1->kids=[])/\(op=8->kids.length=2)/\Tm.wfs kids
def Tm.wfs:List Tm->Prop
 |[]=>True
 |k::l=>k.wf/\Tm.wfs l
end
theorem Tm.H3:∀l:List Tm,Tm.wfs l↔∀k∈l,k.wf
 |[]=>by simp[Tm.wfs]
 |k::l=>by simp[Tm.wfs,Tm.H3 l]
theorem Tm.F4 (t:Tm):t.wf↔(t.op=1->t.kids=[])/\(t.op=8->t.kids.length=2)/\∀k∈t.kids,k.wf:=by cases t;simp[Tm.wf,Tm.H3,Tm.op,Tm.kids]
theorem Yx{t:Tm}(h:t.kids.length=2):∃a b,t.kids=[a,b]:=by
 match hk:t.kids with
 |[a,b]=>exact⟨a,b,rfl⟩
 |[]=>rw[hk]at h;cases h
 |[_]=>rw[hk]at h;cases h
 |_::_::_::_=>rw[hk]at h;simp at h
theorem l6{b:List (Int×Tm)}{v:Int}:bS b v=none↔v∉b.map (·.1):=by
 induction b with
 |nil=>simp[bS]
 |cons p l ih=>
  simp only[bS,List.map_cons,List.mem_cons,not_or]
  split
  ·rename_i h;simp[h]
  ·rename_i h;rw[ih];exact⟨fun h2=>⟨fun e=>h e.symm,h2⟩,fun h2=>h2.2⟩
theorem cK{b:List (Int×Tm)}{v:Int}{x:Tm}(h:bS b v=some x):(v,x)∈b:=by
 induction b with
 |nil=>cases h
 |cons p l ih=>
  simp only[bS]at h
  split at h
  ·rename_i e;injection h with h;subst h;subst e;exact List.mem_cons_self ..
  ·exact List.mem_cons_of_mem _ (ih h)
theorem jj{b:List (Int×Tm)}(hb:(b.map (·.1)).Nodup){v:Int}{x:Tm}:bS b v=some x↔(v,x)∈b:=by
 refine⟨cK,fun h=> ?_⟩
 induction b with
 |nil=>cases h
 |cons p l ih=>
  rw[List.map_cons,List.nodup_cons]at hb
  simp only[bS]
  rcases List.mem_cons.1 h with e|h
  ·subst e;simp
  ·rw[if_neg (fun e=>hb.1 (by rw[e];exact List.mem_map.2 ⟨_,h,rfl⟩)),ih hb.2 h]
def DN(b:Bool)(x:Tm×Int):Bool:=b&&x.1.op !=1
def U6(t:Tm):Bool:=(pre t 1).all fun x=>x.1.op !=1
theorem ug:∀ (l:List (Tm×Int)) (b:Bool),(aQ (xH (fun _=>none) DN) b l).1=(b&&l.all fun x=>x.1.op !=1)
 |[],b=>by simp[aQ]
 |x::l,b=>by
  have e1:xH (fun _=>(none:Option ky)) DN b x=(DN b x,true):=rfl
  rw[aQ,e1]
  simp only[if_true]
  rw[ug l,DN,List.all_cons,Bool.and_assoc]
theorem F7(s:aA)(hs:s.Fits)(t:Tm)(ht:t.Fin):aX Tryz.prog 129 [s.d,t.d] (.ret [.bool (jw s [t]&&oh t), .bool (jw s [t]&&oh t&&U6 t), .i (np (jw s [t]))]):=by
 refine aX.aG mix Uo aE ?_
 rw[XG]
 refine bY ?_
 refine ak (QY s hs [t] aE (fun x hx=>by simp at hx;subst hx;exact ht)) rfl ?_
 cases h1:jw s [t]with
 |false=>simp+contextual (disch:=first|omega|simp only[go_sem,false_implies]) only[go_sem,wrap64,if_pos,and_self];simp[np]
 |true=>
  refine fZ ?_
  refine bM (wQ t _ _ _ _ ?_)
  refine fZ ?_
  refine og (σ:=Bool) t ht.fits ht.mK [.ad, .ad, .ad, .ptr 1 0, .ad, .ad, .ad, .ptr 10 0] ?_ bC rfl dt yp (aa _ _ _)
   (fun b=>ay (ay (ay (ay (ay (fun _=> .no) 0 (.row s.row)) 1 (.row t.row)) 7 (.arr 0 33 3 [t.d])) 10 (.row [.d (.bool b)])) 13 (.row t.row)) (fun _=>none) DN (fun _=>True) true trivial rfl (fun id ax=> ?_) (fun _ _ _ _ _ _=>trivial) ?_ ?_
  ·exact Lk
  ·rw[u5]
  ·intro L hL yg x hx s' h1 h2 o3 n3 hI hn ho K X eL
   simp only[qk]
   have hg:=hI.cH
   have q1:o3 10= .row [.d (.bool s')]:=hI.eq 10 af
   refine bY ?_
   refine n9 hL (pd:=none) ?_ ?_
   ·(repeat(first|rfl|rw[aa]|rw[ae _ _ _ _ (by omega)]))
    exact ho
   refine oF q1 ?_
   refine eL _ _ _ .busy none af ⟨dt,af,fun id ax=> ?_⟩ cg (fun id h3 h4=>by(repeat(first|rfl|rw[aa]|rw[ae _ _ _ _ (by omega)])))
   by_cases e:id=10
   ·exact vl
   ·rw[ae _ _ _ _ e];(repeat(first|rfl|rw[aa]|rw[ae _ _ _ _ (by omega)]))
    rw[hI.eq id ax]
    simp only[aN,e,if_false]
  ·intro o' n' hI
   have hf:=ug (pre t 1) true
   rw[Bool.true_and]at hf
   rw[hf]at hI
   have q0:o' 1= .row t.row:=hI.eq 1 af
   have q1:o' 10= .row [.d (.bool (U6 t))]:=hI.eq 10 af
   simp only[rk]
   refine IW q0 q1 ?_
   refine ak (Kg t ht) rfl ?_
   cases hv:oh t<;>(simp+contextual (disch:=first|omega|simp only[go_sem,false_implies]) only[go_sem,wrap64,if_pos,q0,q1];refine aI bC ?_;simp+contextual (disch:=first|omega|simp only[go_sem,false_implies]) only[go_sem,wrap64,if_pos,and_self];simp[np])
theorem H4{v op n:Int}(h:op≠8):∀ (l:List Tm) (i:Nat),Bl v op n l i=l.any (fX v)
 |[],i=>rfl
 |k::l,i=>by
  have:(op==8)=false:=by simpa using h
  simp[Bl,H4 h l,this]
theorem ND{s:aA}{t:Tm}(h:bF s t=true)(h1:t.op=1):t.kids=[]:=by
 simp[bF,h1]at h
 exact h.1
theorem wY:∀ (l:List Int) (n:Int),∃k,k<=l.length/\(∀x∈l.take k,x<n)/\(∀x,l[k]? =some x-> ¬x<n)/\px l n=if l[k]? =some n then l else l.take k++n::l.drop k
 |[],n=>⟨0,Nat.zero_le _,aE,aE,by simp[px]⟩
 |x::l,n=>by
  obtain⟨k,h1,h2,h3,h4⟩:=wY l n
  by_cases hx:x<n
  ·refine⟨k+1,by simp;omega, ?_,by simpa using h3, ?_⟩
   ·intro y hy
    simp only[List.take_succ_cons,List.mem_cons]at hy
    rcases hy with rfl|hy
    ·exact hx
    ·exact h2 y hy
   ·simp only[px,if_pos hx,h4,List.getElem?_cons_succ,List.take_succ_cons,List.drop_succ_cons]
    split<;>simp
  ·refine⟨0,Nat.zero_le _,aE,by simpa using hx, ?_⟩
   simp only[px,if_neg hx]
   by_cases e:x=n
   ·subst e;simp
   ·simp[e]
theorem aeN(l:List Int)(n:Int)(hl:l.length<=1000000):aX Tryz.prog 155 [.sl (l.map .i), .i n] (.ret [.sl ((px l n).map .i)]):=by
 obtain⟨j,j1,j2,j3,j4⟩:=wY l n
 have tk:∀ (i:Nat) (l:List Int),List.take i (l.map D.i)=(l.take i).map D.i:=fun i l=>List.map_take.symm
 have dr:∀ (i:Nat) (l:List Int),List.drop i (l.map D.i)=(l.drop i).map D.i:=fun i l=>List.map_drop.symm
 have ap:∀ (a b:List Int),a.map D.i++[D.i n]++b.map D.i=(a++n::b).map D.i:=fun a b=>aE
 refine aX.aG mix adU aE ?_
 rw[adT]
 refine bY ?_
 refine aD (fun k:Nat=>⟨aZ [.d (.sl (l.map .i)), .d (.i n), .ad, .ad, .ad, .d (.i k)],fun _=> .no,0⟩)
  (fun k=>k<=j) (fun k=>l.length - k) 0 (Nat.zero_le _) (bO.d0 _ ?_) (fun k hk=> ?_)
 ·exact dW
 by_cases hkj:k=j
 ·subst hkj
  by_cases h5:k<l.length
  ·obtain⟨x,hx⟩:=aB h5
   have h6:=j3 x hx
   have uP:(k:Int)<l.length:=af
   refine Lh hx uP h6 ?_
   refine ao (fun h3=> ?_) (fun h3=> ?_)
   ·refine bY ?_
    have e:x=n:=by simpa using h3
    rw[j4,if_pos (by rw[hx,e])]
   ·have e: ¬x=n:=by simpa using h3
    rw[j4,if_neg (by rw[hx];simpa using e)]
    simp+contextual (disch:=first|omega|simp only[go_sem,false_implies]) only[go_sem,wrap64,if_pos,hx,uP,h6,tk,dr,List.take_length,List.length_map,List.length_take,List.length_drop,List.length_append,List.length_cons,List.length_nil]
    rw[ap]
    refine aI bC ?_
    exact pX
  ·have uP: ¬ (k:Int)<l.length:=af
   have hx:l[k]? =none:=by simp;omega
   rw[j4,if_neg (by rw[hx];simp)]
   simp+contextual (disch:=first|omega|simp only[go_sem,false_implies]) only[go_sem,wrap64,if_pos,uP,tk,dr,List.take_length,List.length_map,List.length_take,List.length_drop,List.length_append,List.length_cons,List.length_nil]
   rw[ap]
   refine aI bC ?_
   exact pX
 ·have cu:k<l.length:=af
  obtain⟨x,hx⟩:=aB cu
  have uP:(k:Int)<l.length:=af
  have h6:x<n:=j2 x (List.mem_of_getElem? (i:=k) (by rw[List.getElem?_take_of_lt (by omega)];exact hx))
  refine Lh hx uP h6 ?_
  refine aj (k+1) af af (bO.d0 _ ?_)
  exact dW
theorem Kp{op n:Int}{i:Nat}{l:List Int}{k:Nat}{v:Int}(h:l[k]? =some v)(out:List Int):qz op n i (l.take (k+1)) out=if(op !=8||(i:Int)!=1||v !=n)=true then px (qz op n i (l.take k) out) v else qz op n i (l.take k) out:=by
 unfold qz
 rw[List.take_add_one,h,List.foldl_append]
 rfl
theorem Yy{t a body:Tm}{v:Int}(h8:t.op=8)(hk:t.kids=[a,body]):fX v t=(fX v a||(fX v body&& !(t.n==v))):=by
 rw[tl,hk,h8]
 simp[Bl]
theorem oj{v n:Int}:fX v (.mk 1 n [])=(n==v):=rfl
theorem NF{t:Tm}{v:Int}(h1:t.op≠1)(h8:t.op≠8):fX v t=t.kids.any (fX v):=by rw[tl,if_neg h1,H4 h8]
def ag6(R:Int->Int->Prop)(x y:Int):Int->Int->Prop:=fun v w=>(v=x/\w=y)\/(v≠x/\w≠y/\R v w)
inductive Al:(Int->Int->Prop)->Tm->Tm->Prop where
 |var {R:Int->Int->Prop} {v w:Int} (h:R v w):Al R (.mk 1 v []) (.mk 1 w [])
 |F8 {R:Int->Int->Prop} {n m:Int} {a a' b b':Tm} (ha:Al R a a') (hb:Al (ag6 R n m) b b'):Al R (.mk 8 n [a,b]) (.mk 8 m [a',b'])
 |node {R:Int->Int->Prop} {op n:Int} {l l':List Tm} (h1:op≠1) (h8:op≠8) (hl:l.length=l'.length) (h:∀ (i:Nat) (k k':Tm),l[i]? =some k->l'[i]? =some k'->Al R k k'):Al R (.mk op n l) (.mk op n l')
theorem Al.mono {R:Int->Int->Prop}{t t':Tm}(h:Al R t t'):∀ {S:Int->Int->Prop},(∀v w,R v w->S v w)->Al S t t':=by
 induction h with
 |var h=>exact fun hs=> .var (hs _ _ h)
 |F8 ha hb iha ihb=>
  exact fun hs=> .F8 (iha hs) (ihb fun v w h=>h.elim Or.inl fun h=>Or.inr ⟨h.1,h.2.1,hs _ _ h.2.2⟩)
 |node h1 h8 hl h ih=>exact fun hs=> .node h1 h8 hl fun i k k' g g'=>ih i k k' g g' hs
def aeO(R S:Int->Int->Prop):Int->Int->Prop:=fun v w=>∃u,R v u/\S u w
theorem Al.comp {R:Int->Int->Prop}{t t1:Tm}(h:Al R t t1):∀ {S:Int->Int->Prop} {t2:Tm},Al S t1 t2->Al (aeO R S) t t2:=by
 induction h with
 |var h=>
  intro S t2 h2
  generalize he:Tm.mk 1 _ []=x at h2
  cases h2 with
  |var h3=>injection he with _ e _;subst e;exact .var ⟨_,h,h3⟩
  |F8 _ _=>injection he with e;cases e
  |node g1 _ _ _=>injection he with e;exact absurd e.symm g1
 |F8 ha hb iha ihb=>
  intro S t2 h2
  generalize he:Tm.mk 8 _ _=x at h2
  cases h2 with
  |var h3=>injection he with e;cases e
  |F8 g1 g2=>
   injection he with _ e1 e2
   injection e2 with e2 e3
   injection e3 with e3 _
   subst e1;subst e2;subst e3
   refine .F8 (iha g1) ((ihb g2).mono ?_)
   rintro v w ⟨u,(⟨p1,p2⟩|⟨p1,p2,p3⟩),(⟨q1,q2⟩|⟨q1,q2,q3⟩)⟩
   ·exact Or.inl ⟨p1,q2⟩
   ·exact absurd p2 q1
   ·exact absurd q1 p2
   ·exact Or.inr ⟨p1,q2,u,p3,q3⟩
  |node g1 g8 _ _=>injection he with e;exact absurd e.symm g8
 |node h1 h8 hl h ih=>
  intro S t2 h2
  generalize he:Tm.mk _ _ _=x at h2
  cases h2 with
  |var h3=>injection he with e;exact absurd e h1
  |F8 _ _=>injection he with e;exact absurd e h8
  |node g1 g8 gl g3=>
   injection he with e1 e2 e3
   subst e1;subst e2;subst e3
   refine .node h1 h8 (hl.trans gl) fun i k k2 hk Ag=> ?_
   have cu:i<_:=(List.getElem?_eq_some_iff.1 hk).1
   have Mn:=List.getElem?_eq_getElem (hl ▸ cu)
   exact ih i k _ hk Mn (g3 i _ k2 Mn Ag)
theorem QZ{t:Tm}(hw:t.wf)(h:t.op=1):t= .mk 1 t.n []:=by
 obtain⟨op,n,kids⟩:=t
 rw[Tm.F4]at hw
 simp only[Tm.op,Tm.n,Tm.kids]at h hw|-
 rw[h,hw.1 h]
def IC.snd:IC->IC
 | .seq _ y=>y
 |c=>c
def IC.fst:IC->IC
 | .seq x _=>x
 | .block _ x=>x
 | .loop x=>x
 | .cond _ x _=>x
 |c=>c
@[reducible] def ag7 (m:List (Int×Int)):ab:= .map 3 3 (enc (D.int .i64) (ints m))
@[reducible] def ag8 (m:List (Int×Int)):ab:= .cj (enc (D.int .i64) (ints m))
def BdV(o:Nat->ab)(bv:V)(m:List (Int×Int)):Prop:=(bv= .d .dL/\m=[])\/∃b,bv= .mp b/\o b=ag8 m
structure ag9 (o:Nat->ab) (nx cid fid:Nat) (bv:V) (mB bd fr:List (Int×Int)) (n:Int) (sz:Nat):Prop where
 cH:Good o nx
 hc:o cid= .row [.d (.i n), .mp fid]
 hf:o fid=ag7 fr
 hb:BdV o bv mB
 kb:Keys mB
 lk:∀v,lk mB v=lk bd v
 n0:0<=n
 n1:n+sz<=1000000
@[go_sem] theorem aag {P:Program} {kt:TypeId} {k:D} {i:Nat}:findD P kt k [] i=some none:=rfl
theorem mP{c:Nat}{G:List Gr}{so:Nat->ab}{gone:Nat->Prop}{x x' y y':ab}(h:x=y)(h':x'=y')(hs:Dx c G so gone y y'):Dx c G so gone x x':=by rw[h,h'];exact hs
theorem mQ:∀l:List Tm,l.length<=sy l
 |[]=>by simp[sy]
 |k::l=>by have:=mQ l;have:=Tm.th k;rw[rM,List.length_cons];omega
theorem Tm.mm {t k:Tm}(hk:k∈t.kids):k.sz+1<=t.sz:=by
 have:=Tm.zM hk
 rw[Tm.DH,Tm.DH]at this
 omega
theorem Tm.zP:∀t:Tm,t.mK<=t.sz:=by
 refine Tm.eN fun t ih=> ?_
 have h:Tm.jh t.kids<=t.sz - 1:=(oR _ _).2 fun k hk=>by have:=ih k hk;have:=Tm.mm hk;omega
 have:=Tm.th t
 rw[Tm.qw]
 omega
theorem Tm.dD:∀t:Tm,t.sz<=1000000->t.fits:=by
 refine Tm.eN fun t ih h=> ?_
 rw[Tm.cm]
 refine⟨?_,fun k hk=>ih k hk (by have:=Tm.mm hk;omega)⟩
 have:=mQ t.kids
 rw[Tm.ko]at h
 omega
def kD(b:List (Int×Tm)):List (Int×D):=b.map fun p=>(p.1,p.2.d)
@[reducible] def EG (b:List (Int×Tm)):D:=mpD (kD b)
theorem wZ:∀ (m:List (Int×Tm)) (v:Int) (i:Nat),(match jF v (kD m) i with|some (_,x)=>some x|none=>none)=(bS m v).map Tm.d
 |[],_,_=>rfl
 |p::m,v,i=>by
  have ih:=wZ m v (i+1)
  simp only[kD,List.map_cons,jF,bS]at ih|-
  by_cases h:v=p.1
  ·subst h;simp
  ·have h2: ¬p.1=v:=fun e=>h e.symm
   simp only[beq_iff_eq,h,h2,if_false]
   exact ih
theorem gk{m:List (Int×Tm)}{v:Int}{x:Tm}(h:bS m v=some x):∃j,jF v (kD m) 0=some (j,x.d):=by
 have:=wZ m v 0
 rw[h]at this
 cases h2:jF v (kD m) 0 with
 |none=>rw[h2]at this;cases this
 |some p=>obtain⟨j,y⟩:=p;rw[h2]at this;simp at this;subst this;exact⟨j,rfl⟩
theorem eJ{m:List (Int×Tm)}{v:Int}(h:bS m v=none):jF v (kD m) 0=none:=by
 have:=wZ m v 0
 rw[h]at this
 cases h2:jF v (kD m) 0 with
 |none=>rfl
 |some p=>rw[h2]at this;cases this
theorem tn{K:V->List (Nat×ab)->Prop}{id:Nat}{m:List (Int×Tm)}(h0:m=[]->K (.bW [.d (.bool false)]) [])
 (h1:∀ (i:Nat) k x,m[i]? =some (k,x)->K (.bW [.d (.bool true), .d (.int .i64 k), .d x.d]) [(id, .sn (enc (D.int .i64) (kD (m.eraseIdx i))) (some (.int .i64 k,x.d)))]):Hu K id (enc (D.int .i64) (kD m)):=by
 refine J8 _ (fun h=>h0 ?_) fun i k x h=> ?_
 ·cases m with
  |nil=>rfl
  |cons x l=>simp[kD]at h
 ·unfold kD at h|-
  rw[List.getElem?_map]at h
  cases hm:m[i]? with
  |none=>rw[hm]at h;cases h
  |some p=>
   rw[hm]at h
   simp at h
   obtain⟨rfl,rfl⟩:=h
   have:=h1 i p.1 p.2 (by rw[hm])
   rw[mN]
   exact this
@[reducible] def dv (m:List (Int×Tm)):ab:= .map 3 33 (enc (D.int .i64) (kD m))
theorem DO{m:List (Int×Tm)}{v:Int}{x:Tm}(h:bS m v=none):J7 v x.d (kD m)=kD (m++[(v,x)]):=by
 unfold J7
 rw[eJ h]
 simp[kD]
theorem oo(s:aA):∀t:Tm,iT s t=true->t.wf:=by
 refine Tm.eN fun t ih h=> ?_
 rw[lZ,Bool.and_eq_true,List.all_eq_true]at h
 rw[Tm.F4]
 refine⟨fun h1=>ND h.1 h1,fun h8=> ?_,fun k hk=>ih k hk (h.2 k hk)⟩
 have:=h.1
 simp[bF,h8]at this
 omega
theorem H5{s:aA}{t:Tm}(h:gM s t=true):t.wf/\t.sz<=40/\t.mK<=12:=by
 simp only[gM,Bool.and_eq_true,decide_eq_true_eq,rN]at h
 exact⟨oo s t h.2,af,af⟩
def ah(l:List TB):List (Int×Tm):=l.map fun x=>(x.var,x.term)
theorem F9{s:aA}{op n:Int}{l l':List Tm}(h:l'.length=l.length):bF s (.mk op n l')=bF s (.mk op n l):=by
 unfold bF
 dsimp only[Tm.op,Tm.n,Tm.kids]
 rw[h]
 rfl
theorem Kq{s:aA}{k:Int}(h:0<=k/\k<20):bF s (.mk 1 k [])=true:=by
 have:dU k 0 19=true:=by simp[dU];omega
 simp[bF,Tm.op,Tm.n,Tm.kids,this]
theorem NG{s:aA}:∀t:Tm,iT s t=true->∀v,fX v t=true->0<=v/\v<20:=by
 refine Tm.eN fun t ih h v hv=> ?_
 have hw:=(Tm.F4 t).1 (oo s t h)
 rw[lZ,Bool.and_eq_true,List.all_eq_true]at h
 by_cases h1:t.op=1
 ·rw[tl,if_pos h1]at hv
  have hv:t.n=v:=by simpa using hv
  have:=h.1
  simp[bF,h1,dU]at this
  omega
 ·by_cases h8:t.op=8
  ·obtain⟨a,body,hk⟩:=Yx (hw.2.1 h8)
   rw[Yy h8 hk,Bool.or_eq_true,Bool.and_eq_true]at hv
   rcases hv with hv|hv
   ·exact ih a (by rw[hk];simp) (h.2 a (by rw[hk];simp)) v hv
   ·exact ih body (by rw[hk];simp) (h.2 body (by rw[hk];simp)) v hv.1
  ·rw[NF h1 h8,List.any_eq_true]at hv
   obtain⟨k,hk,hv⟩:=hv
   exact ih k hk (h.2 k hk) v hv
def findF(l:List TB)(n:Int):Int:=match l.findIdx? (·.var==n)with|some i=>i|none=> -1
theorem NH(l:List TB)(n:Int)(hl:l.length<=1000000):aX Tryz.prog 123 [.sl (l.map TB.d), .i n] (.ret [.i (findF l n)]):=by
 refine aX.aG mix adD aE ?_
 rw[adC]
 refine bY ?_
 refine aD (fun k:Nat=>⟨aZ [.d (.sl (l.map TB.d)), .d (.i n), .ad, .ad, .ad, .d (.i k)],fun _=> .no,0⟩)
  (fun k=>k<=l.length/\∀j x,j<k->l[j]? =some x->x.var≠n) (fun k=>l.length - k) 0 ⟨Nat.zero_le _,fun _ _ h=>absurd h af⟩ (bO.d0 _ ?_) (fun k hk=> ?_)
 ·exact dW
 refine uL ?_
 refine ao (fun h2=> ?_) (fun h2=> ?_)
 ·simp at h2
  obtain⟨x,hx⟩:=aB h2
  refine mV hx ?_
  refine ao (fun h3=> ?_) (fun h3=> ?_)
  ·have kK:x.var=n:=by simpa using h3
   have:findF l n=k:=by
    have:l.findIdx? (·.var==n)=some k:=by
     rw[List.findIdx?_eq_some_iff_getElem]
     obtain⟨Cu,e⟩:=List.getElem?_eq_some_iff.1 hx
     refine⟨Cu,by rw[e];simpa using kK,fun j hj=> ?_⟩
     have:=hk.2 j _ hj (List.getElem?_eq_getElem af)
     simpa using this
    rw[findF,this]
   exact yz
  ·have kK:x.var≠n:=by simpa using h3
   refine bY ?_
   refine aj (k+1) ⟨h2,fun j y hj hy=> ?_⟩ af (bO.d0 _ ?_)
   ·by_cases e:j=k
    ·exact SA
    ·exact hk.2 j y af hy
   ·exact dW
 ·simp at h2
  have:findF l n= -1:=by
   have:l.findIdx? (·.var==n)=none:=by
    rw[List.findIdx?_eq_none_iff]
    intro x hx
    obtain⟨j,hj,e⟩:=List.getElem_of_mem hx
    have:=hk.2 j x af (by rw[List.getElem?_eq_getElem hj,e])
    simpa using this
   rw[findF,this]
  exact yz
theorem rQ(l:List TB)(n:Int):(findF l n<0/\bS (ah l) n=none)\/∃ (k:Nat) (x:TB),findF l n=k/\l[k]? =some x/\bS (ah l) n=some x.term:=by
 induction l with
 |nil=>left;exact⟨by simp[findF],rfl⟩
 |cons y l ih=>
  by_cases h:y.var=n
  ·right
   refine⟨0,y, ?_,rfl, ?_⟩
   ·simp[findF,List.findIdx?_cons,h]
   ·simp[ah,bS,h]
  ·have hf:bS (ah (y::l)) n=bS (ah l) n:=by simp[ah,bS,h]
   have h':(y.var==n)=false:=by simpa using h
   rw[hf]
   unfold findF at ih|-
   rw[List.findIdx?_cons,h']
   simp only[Bool.false_eq_true,if_false]
   rcases ih with⟨h1,h2⟩|⟨k,x,h1,h2,h3⟩
   ·left
    refine⟨?_,h2⟩
    cases hi:l.findIdx? (·.var==n)with
    |none=>simp
    |some i=>rw[hi]at h1;simp at h1;omega
   ·right
    refine⟨k+1,x, ?_,h2,h3⟩
    cases hi:l.findIdx? (·.var==n)with
    |none=>rw[hi]at h1;simp at h1;try omega
    |some i=>rw[hi]at h1;simp at h1|-;try omega
def kE(g:List Int)(i:Int):Nat:=(g.filter fun x=>decide (x<i)).length
theorem oq{g:List Int}{i:Int}(h:∀x∈g,i<=x):kE g i=0:=by
 unfold kE
 rw[List.filter_eq_nil_iff.2 (fun x hx=>by have:=h x hx;simp;omega)];rfl
theorem Q0{g:List Int}{i:Int}(h:∀x∈g,x<i):kE g i=g.length:=by
 unfold kE
 rw[List.filter_eq_self.2 (fun x hx=>by simpa using h x hx)]
theorem DP:∀ {g:List Int},F1 g->∀i:Int,if i∈g then g[kE g i]? =some i/\kE g (i+1)=kE g i+1 else kE g (i+1)=kE g i
 |[],_,i=>by simp[kE]
 |x::g,hg,i=>by
  have Q1:=List.pairwise_cons.1 hg
  have ih:=DP Q1.2 i
  have hc:∀j,kE (x::g) j=(if x<j then 1 else 0)+kE g j:=fun j=>by
   unfold kE
   rw[List.filter_cons]
   by_cases e:x<j
   ·simp[e];omega
   ·simp[e]
  rcases Int.lt_trichotomy x i with h|h|h
  ·have hm:(i∈x::g)↔i∈g:=by simp;omega
   simp only[hm,hc,if_pos h,if_pos (show x<i+1 by omega)]
   split
   ·rename_i e
    rw[if_pos e]at ih
    refine⟨?_,af⟩
    rw[show 1+kE g i=kE g i+1 by omega,List.getElem?_cons_succ]
    exact ih.1
   ·rename_i e
    rw[if_neg e]at ih
    omega
  ·subst h
   have z1:kE g x=0:=oq fun y hy=>by have:=Q1.1 y hy;omega
   have z2:kE g (x+1)=0:=oq fun y hy=>by have:=Q1.1 y hy;omega
   rw[if_pos (by simp),hc,hc,z1,z2,if_neg (by omega),if_pos (by omega)]
   exact⟨rfl,rfl⟩
  ·have hm: ¬i∈x::g:=by
    intro hm
    rcases List.mem_cons.1 hm with rfl|hm
    ·omega
    ·have:=Q1.1 i hm;omega
   have z1:kE g i=0:=oq fun y hy=>by have:=Q1.1 y hy;omega
   have z2:kE g (i+1)=0:=oq fun y hy=>by have:=Q1.1 y hy;omega
   rw[if_neg hm,hc,hc,z1,z2,if_neg (by omega),if_neg (by omega)]
theorem Bn{ns:List Int}(h:∀n∈ns,0<=n/\n<20)(hi:F1 ns):ns.length<=20:=by
 have hc:∀k:Nat,kE ns (k:Int)<=k:=by
  intro k
  induction k with
  |zero=>show kE ns (0:Int)<=0;rw[oq (fun x hx=>(h x hx).1)];exact Nat.le_refl _
  |succ k ih=>
   have:=DP hi (k:Int)
   rw[Int.natCast_succ]
   split at this<;>omega
 have:kE ns (20:Int)<=20:=hc 20
 rwa [Q0 (fun x hx=>(h x hx).2)]at this
mutual
def aS(b:List (Int×Tm)):Tm->Tm
 | .mk op n kids=>if op=1 then(match bS b n with|some x=>x|none=> .mk op n kids)else .mk op n (Q2 b kids)
def Q2(b:List (Int×Tm)):List Tm->List Tm
 |[]=>[]
 |k::l=>aS b k::Q2 b l
end
theorem DS(b:List (Int×Tm)):∀l:List Tm,Q2 b l=l.map (aS b)
 |[]=>rfl
 |k::l=>by simp[Q2,DS b l]
theorem ou(b:List (Int×Tm))(t:Tm):aS b t=if t.op=1 then(match bS b t.n with|some x=>x|none=>t)else .mk t.op t.n (t.kids.map (aS b)):=by
 cases t;simp only[aS,DS,Tm.op,Tm.n,Tm.kids];rfl
def Lv(b:List (Int×Tm))(v:Int):Tm:=match bS b v with|some x=>x|none=> .mk 1 v []
def vop(t:Tm):Prop:=(1<=t.op/\t.op<=3)\/t.op=5
def Vs(s:aA)(t:Tm):Prop:=iT s t=true/\ft t=true
theorem tp{s:aA}{t:Tm}:Vs s t↔bF s t=true/\vop t/\∀k∈t.kids,Vs s k:=by
 unfold Vs vop
 rw[lZ,tg]
 simp only[Bool.and_eq_true,List.all_eq_true,Bool.or_eq_true,decide_eq_true_eq,beq_iff_eq]
 constructor
 ·rintro⟨⟨h1,h2⟩,h3,h4⟩;exact⟨h1,h4,fun k hk=>⟨h2 k hk,h3 k hk⟩⟩
 ·rintro⟨h1,h2,h3⟩;exact⟨⟨h1,fun k hk=>(h3 k hk).1⟩,fun k hk=>(h3 k hk).2,h2⟩
theorem Vs.kA {s:aA}{t k:Tm}(h:Vs s t)(hk:k∈t.kids):Vs s k:=(tp.1 h).2.2 k hk
theorem Vs.eta {s:aA}{t:Tm}(h:Vs s t)(h1:t.op=1):t= .mk 1 t.n []:=QZ (oo s t h.1) h1
theorem Vs.n8 {s:aA}{t:Tm}(h:Vs s t):t.op≠8:=by rcases(tp.1 h).2.1 with h|h<;>omega
theorem Vs.range {s:aA}{t:Tm}(h:Vs s t){v:Int}(hv:fX v t=true):0<=v/\v<20:=NG t h.1 v hv
theorem Vs.var {s:aA}{v:Int}(h:0<=v/\v<20):Vs s (.mk 1 v []):=tp.2 ⟨Kq h,Or.inl ⟨by show(1:Int)<=1;omega,by show(1:Int)<=3;omega⟩,fun k hk=>by cases hk⟩
theorem Vs.mk' {s:aA}{t:Tm}{l:List Tm}(h:Vs s t)(hl:l.length=t.kids.length)(hk:∀k∈l,Vs s k):Vs s (.mk t.op t.n l):=
 tp.2 ⟨by rw[F9 hl,Tm.eta];exact(tp.1 h).1,(tp.1 h).2.1,hk⟩
theorem iC{t:Tm}(h1:t.op=1){v:Int}:fX v t=true↔t.n=v:=by rw[tl,if_pos h1];simp
theorem pT{s:aA}{t:Tm}(h:Vs s t)(h1:t.op≠1){v:Int}:fX v t=true↔∃k∈t.kids,fX v k=true:=by rw[NF h1 h.n8,List.any_eq_true]
theorem dV{b:List (Int×Tm)}{s:aA}{t:Tm}(h:Vs s t)(h1:t.op=1):aS b t=Lv b t.n:=by
 rw[ou,if_pos h1,Lv]
 cases bS b t.n with
 |some x=>rfl
 |none=>exact h.eta h1
theorem il{b:List (Int×Tm)}{v:Int}:aS b (.mk 1 v [])=Lv b v:=by rw[ou];rfl
theorem fQ{b:List (Int×Tm)}{t:Tm}(h1:t.op≠1):aS b t= .mk t.op t.n (t.kids.map (aS b)):=by rw[ou,if_neg h1]
theorem NI{s:aA}{b c:List (Int×Tm)}:∀t:Tm,Vs s t->(∀v,fX v t=true->Lv b v=Lv c v)->aS b t=aS c t:=by
 refine Tm.eN fun t ih hv h=> ?_
 by_cases h1:t.op=1
 ·rw[dV hv h1,dV hv h1,h _ ((iC h1).2 rfl)]
 ·rw[fQ h1,fQ h1,List.map_congr_left fun k hk=>ih k hk (hv.kA hk) fun v NJ=>h v ((pT hv h1).2 ⟨k,hk,NJ⟩)]
theorem rR{s:aA}{b c d:List (Int×Tm)}:∀t:Tm,Vs s t->(∀v,fX v t=true->aS c (Lv b v)=Lv d v)->aS c (aS b t)=aS d t:=by
 refine Tm.eN fun t ih hv h=> ?_
 by_cases h1:t.op=1
 ·rw[dV hv h1,dV hv h1,h _ ((iC h1).2 rfl)]
 ·rw[fQ h1,fQ h1 (b:=d),fQ (by exact h1)]
  show Tm.mk t.op t.n ((t.kids.map (aS b)).map (aS c))=_
  rw[List.map_map,List.map_congr_left (f:=aS c∘aS b) (g:=aS d) fun k hk=>ih k hk (hv.kA hk) fun v NJ=>h v ((pT hv h1).2 ⟨k,hk,NJ⟩)]
theorem H6{s:aA}{b:List (Int×Tm)}:∀t:Tm,Vs s t->(∀v,fX v t=true->bS b v=none)->aS b t=t:=by
 refine Tm.eN fun t ih hv h=> ?_
 by_cases h1:t.op=1
 ·rw[dV hv h1,Lv,h _ ((iC h1).2 rfl)]
  exact(hv.eta h1).symm
 ·rw[fQ h1,List.map_congr_left (g:=id) fun k hk=>ih k hk (hv.kA hk) fun v NJ=>h v ((pT hv h1).2 ⟨k,hk,NJ⟩),List.map_id]
  exact Tm.eta t
theorem Vs.Lv {s:aA}{b:List (Int×Tm)}(hb:∀p∈b,Vs s p.2){v:Int}(h:0<=v/\v<20):Vs s (Lv b v):=by
 unfold YtlhemmpklhhgoaaGreat.Lv
 cases hl:bS b v with
 |some x=>exact hb _ (cK hl)
 |none=>exact Vs.var h
theorem Vs.sub {s:aA}{b:List (Int×Tm)}(hb:∀p∈b,Vs s p.2):∀t:Tm,Vs s t->Vs s (aS b t):=by
 refine Tm.eN fun t ih hv=> ?_
 by_cases h1:t.op=1
 ·rw[dV hv h1];exact Vs.Lv hb (hv.range ((iC h1).2 rfl))
 ·rw[fQ h1]
  refine hv.mk' aE fun k hk=> ?_
  obtain⟨x,hx,rfl⟩:=List.mem_map.1 hk
  exact ih x hx (hv.kA hx)
theorem uh{s:aA}{b:List (Int×Tm)}(hb:∀p∈b,Vs s p.2):∀t:Tm,Vs s t->∀v,fX v (aS b t)=true↔∃u,fX u t=true/\fX v (Lv b u)=true:=by
 refine Tm.eN fun t ih hv v=> ?_
 by_cases h1:t.op=1
 ·rw[dV hv h1]
  simp only[iC h1]
  exact⟨fun h=>⟨_,rfl,h⟩,fun⟨u,e,h⟩=>e ▸ h⟩
 ·have Kl:=Vs.sub hb t hv
  rw[fQ h1]at Kl|-
  rw[pT Kl (by exact h1)]
  simp only[pT hv h1,Tm.kids,List.mem_map]
  constructor
  ·rintro⟨_,⟨k,hk,rfl⟩,h⟩
   obtain⟨u,h2,h3⟩:=(ih k hk (hv.kA hk) v).1 h
   exact⟨u,⟨k,hk,h2⟩,h3⟩
  ·rintro⟨u,⟨k,hk,h2⟩,h3⟩
   exact⟨_,⟨k,hk,rfl⟩,(ih k hk (hv.kA hk) v).2 ⟨u,h2,h3⟩⟩
theorem aeP{b:List (Int×Tm)}{t:Tm}(h1:t.op≠1):(aS b t).op=t.op/\(aS b t).n=t.n/\(aS b t).kids=t.kids.map (aS b):=by rw[fQ h1];exact⟨rfl,rfl,rfl⟩
def tq:List TB->Int->Tm->List TB
 |[],n,t=>[⟨n,t⟩]
 |x::l,n,t=>if x.var<n then x::tq l n t else⟨n,t⟩::x::l
abbrev xZ(n:Int)(t:Tm):List (Int×Tm):=[(n,t)]
def iD(l:List TB)(n:Int)(t:Tm):List TB:=tq (l.map fun x=>⟨x.var,aS (xZ n t) x.term⟩) n t
def de(F:Tm->Tm->List TB->Option (List TB×Bool)):List Tm->List Tm->List TB->Option (List TB×Bool)
 |k::ks,k'::cE,l=>match F k k' l with
  |some (l1,true)=>de F ks cE l1
  |some (l1,false)=>some (l1,false)
  |none=>none
 |_,_,l=>some (l,true)
def fN:Nat->Tm->Tm->List TB->Option (List TB×Bool)
 |0,_,_,_=>none
 |f+1,a,c,l=>
  if hY (aS (ah l) a) (aS (ah l) c)=true then some (l,true)
  else if(aS (ah l) a).op=1/\(aS (ah l) c).op=1 then some (iD l (max (aS (ah l) a).n (aS (ah l) c).n) (.mk 1 (min (aS (ah l) a).n (aS (ah l) c).n) []),true)
  else if(aS (ah l) a).op=1 then some (iD l (aS (ah l) a).n (aS (ah l) c), !(cM (aS (ah l) c)).contains (aS (ah l) a).n)
  else if(aS (ah l) c).op=1 then some (iD l (aS (ah l) c).n (aS (ah l) a), !(cM (aS (ah l) a)).contains (aS (ah l) c).n)
  else if(aS (ah l) a).op≠(aS (ah l) c).op\/(aS (ah l) a).n≠(aS (ah l) c).n\/(aS (ah l) a).kids.length≠(aS (ah l) c).kids.length then some ([],false)
  else de (fN f) (aS (ah l) a).kids (aS (ah l) c).kids l
theorem Yz{l:List TB}{n:Int}{t:Tm}(hn:bS (ah l) n=none)(v:Int):bS (ah (tq l n t)) v=if v=n then some t else bS (ah l) v:=by
 induction l with
 |nil=>
  simp only[tq,ah,List.map_cons,List.map_nil,bS]
  by_cases e:v=n
  ·simp[e]
  ·exact LA
 |cons x l ih=>
  simp only[ah,List.map_cons,bS]at hn
  by_cases e1:x.var=n
  ·rw[if_pos e1]at hn;cases hn
  ·rw[if_neg e1]at hn
   have ih:=ih hn
   simp only[tq]
   split
   ·simp only[ah,List.map_cons,bS]at ih|-
    by_cases e:x.var=v
    ·rw[if_pos e,if_pos e,if_neg fun h=>e1 (e.trans h)]
    ·rw[if_neg e,if_neg e];exact ih
   ·simp only[ah,List.map_cons,bS]
    by_cases e:v=n
    ·simp[e]
    ·exact LA
theorem NK(l:List TB)(g:Tm->Tm)(v:Int):bS (ah (l.map fun x=>⟨x.var,g x.term⟩)) v=(bS (ah l) v).map g:=by
 induction l with
 |nil=>rfl
 |cons x l ih=>
  simp only[ah,List.map_cons,bS]at ih|-
  split
  ·rfl
  ·exact ih
theorem u6{l:List TB}{n:Int}{t:Tm}(hn:bS (ah l) n=none)(v:Int):bS (ah (iD l n t)) v=if v=n then some t else(bS (ah l) v).map (aS (xZ n t)):=by
 unfold iD
 rw[Yz (by rw[NK,hn];rfl),NK]
theorem tt{n v:Int}{t:Tm}:Lv (xZ n t) v=if v=n then t else .mk 1 v []:=by
 simp only[Lv,xZ,bS]
 by_cases e:v=n
 ·simp[e]
 ·exact LA
theorem jG{l:List TB}{n:Int}{t:Tm}(hn:bS (ah l) n=none)(v:Int):Lv (ah (iD l n t)) v=if v=n then t else aS (xZ n t) (Lv (ah l) v):=by
 simp only[Lv,u6 hn]
 by_cases e:v=n
 ·simp[e]
 ·simp only[if_neg e]
  cases h:bS (ah l) v with
  |some x=>rfl
  |none=>simp only[Option.map_none];rw[il,tt,if_neg e]
structure iE (s:aA) (l:List TB):Prop where
 srt:l.Pairwise fun x y=>x.var<y.var
 ok:∀x∈l,(0<=x.var/\x.var<20)/\Vs s x.term
 idem:∀x∈l,∀u,fX u x.term=true->bS (ah l) u=none
theorem iE.nil {s:aA}:iE s []:=⟨List.Pairwise.nil,fun _ h=>kJ,fun _ h=>kJ⟩
theorem iE.bd {s:aA}{l:List TB}(h:iE s l):∀p∈ah l,Vs s p.2:=fun p hp=>by
 obtain⟨x,hx,rfl⟩:=List.mem_map.1 hp
 exact(h.ok x hx).2
theorem l7{l:List TB}{v:Int}{t:Tm}(h:bS (ah l) v=some t):∃x∈l,x.var=v/\x.term=t:=by
 obtain⟨x,hx,e⟩:=List.mem_map.1 (cK h)
 injection e with e1 e2
 exact⟨x,hx,e1,e2⟩
theorem iE.Q3 {s:aA}{l:List TB}(h:iE s l){v u:Int}(hu:fX u (Lv (ah l) v)=true):bS (ah l) u=none:=by
 unfold Lv at hu
 cases hl:bS (ah l) v with
 |some x=>
  rw[hl]at hu
  obtain⟨y,hy,e1,e2⟩:=l7 hl
  exact h.idem y hy u (e2 ▸ hu)
 |none=>
  rw[hl]at hu
  have:v=u:=by rw[oj]at hu;simpa using hu
  exact this ▸ hl
theorem iE.free {s:aA}{l:List TB}(h:iE s l){t:Tm}(ht:Vs s t){u:Int}(hu:fX u (aS (ah l) t)=true):bS (ah l) u=none:=by
 obtain⟨w,_,h2⟩:=(uh h.bd t ht u).1 hu
 exact h.Q3 h2
def ni(l l':List TB):Prop:=∀v,aS (ah l') (Lv (ah l) v)=Lv (ah l') v
theorem ni.sub {s:aA}{l l':List TB}(h:ni l l'){t:Tm}(ht:Vs s t):aS (ah l') (aS (ah l) t)=aS (ah l') t:=rR t ht fun v _=>h v
theorem ni.refl {s:aA}{l:List TB}(h:iE s l):ni l l:=fun v=>by
 cases hl:bS (ah l) v with
 |none=>rw[show Lv (ah l) v= .mk 1 v [] by simp[Lv,hl],il];simp[Lv,hl]
 |some x=>
  have hx:Lv (ah l) v=x:=by simp[Lv,hl]
  obtain⟨y,hy,e1,e2⟩:=l7 hl
  rw[hx]
  exact H6 (s:=s) x (e2 ▸ (h.ok y hy).2) fun u hu=>h.idem y hy u (e2 ▸ hu)
theorem ni.trans {s:aA}{l l' l'':List TB}(hl:iE s l)(h:ni l l')(h':ni l' l'')(hr:∀v,bS (ah l) v≠none->0<=v/\v<20):ni l l'':=fun v=>by
 cases hv:bS (ah l) v with
 |none=>rw[show Lv (ah l) v= .mk 1 v [] by simp[Lv,hv],il]
 |some x=>
  have hx:Lv (ah l) v=x:=by simp[Lv,hv]
  obtain⟨y,hy,e1,e2⟩:=l7 hv
  have Kl:Vs s x:=e2 ▸ (hl.ok y hy).2
  rw[hx, <- h'.sub Kl, <- hx,h v,h' v]
theorem iE.x5 {s:aA}{l:List TB}(h:iE s l){v:Int}(hv:bS (ah l) v≠none):0<=v/\v<20:=by
 cases hl:bS (ah l) v with
 |none=>exact absurd hl hv
 |some x=>obtain⟨y,hy,e1,e2⟩:=l7 hl;exact e1 ▸ (h.ok y hy).1
theorem u7{l:List TB}{n:Int}{t:Tm}{x:TB}:x∈tq l n t↔x=⟨n,t⟩\/x∈l:=by
 induction l with
 |nil=>simp[tq]
 |cons y l ih=>
  simp only[tq]
  split
  ·simp only[List.mem_cons,ih]
   constructor
   ·rintro(h|h|h)
    ·exact Or.inr (Or.inl h)
    ·exact Or.inl h
    ·exact Or.inr (Or.inr h)
   ·rintro(h|h|h)
    ·exact Or.inr (Or.inl h)
    ·exact Or.inl h
    ·exact Or.inr (Or.inr h)
  ·simp only[List.mem_cons]
theorem Q4{l:List TB}{n:Int}{t:Tm}(h:l.Pairwise fun x y=>x.var<y.var)(hn:∀x∈l,x.var≠n):(tq l n t).Pairwise fun x y=>x.var<y.var:=by
 induction l with
 |nil=>simp[tq]
 |cons y l ih=>
  rw[List.pairwise_cons]at h
  simp only[tq]
  split
  ·rename_i hy
   rw[List.pairwise_cons]
   refine⟨fun z hz=> ?_,ih h.2 fun x hx=>hn x kI⟩
   rcases u7.1 hz with rfl|hz
   ·exact hy
   ·exact h.1 z hz
  ·rename_i hy
   have:=hn y aE
   rw[List.pairwise_cons,List.pairwise_cons]
   refine⟨fun z hz=> ?_,h⟩
   rcases List.mem_cons.1 hz with rfl|hz
   ·show n<z.var;omega
   ·have:=h.1 z hz;show n<z.var;omega
theorem x6{l:List TB}{n:Int}(h:bS (ah l) n=none):∀x∈l,x.var≠n:=fun x hx e=>by
 rw[l6]at h
 exact h (List.mem_map.2 ⟨(x.var,x.term),List.mem_map.2 ⟨x,hx,rfl⟩,e⟩)
theorem rS{s:aA}{l:List TB}(h:iE s l){n:Int}{t:Tm}(hr:0<=n/\n<20)(hn:bS (ah l) n=none)(ht:Vs s t)(hf:∀u,fX u t=true->bS (ah l) u=none)(hnt: ¬fX n t=true):iE s (iD l n t):=by
 have h1:∀p∈xZ n t,Vs s p.2:=fun p hp=>by simp[xZ]at hp;subst hp;exact ht
 have NL:∀u,u≠n->bS (ah l) u=none->bS (ah (iD l n t)) u=none:=fun u e hu=>by rw[u6 hn,if_neg e,hu];rfl
 refine⟨?_,fun x hx=> ?_,fun x hx u hu=> ?_⟩
 ·refine Q4 ?_ ?_
  ·rw[List.pairwise_map];exact h.srt
  ·intro x hx
   obtain⟨y,hy,rfl⟩:=List.mem_map.1 hx
   exact x6 hn y hy
 ·rcases u7.1 hx with rfl|hx
  ·exact⟨hr,ht⟩
  ·obtain⟨y,hy,rfl⟩:=List.mem_map.1 hx
   exact⟨(h.ok y hy).1,Vs.sub h1 _ (h.ok y hy).2⟩
 ·rcases u7.1 hx with rfl|hx
  ·exact NL u (fun e=>hnt (e ▸ hu)) (hf u hu)
  ·obtain⟨y,hy,rfl⟩:=List.mem_map.1 hx
   obtain⟨w,hw,Th⟩:=(uh h1 _ (h.ok y hy).2 u).1 hu
   rw[tt]at Th
   split at Th
   ·exact NL u (fun e=>hnt (e ▸ Th)) (hf u Th)
   ·rename_i e
    have:w=u:=by rw[oj]at Th;simpa using Th
    subst this
    exact NL w e (h.idem y hy w hw)
theorem w6{s:aA}{l:List TB}(h:iE s l){n:Int}{t:Tm}(hn:bS (ah l) n=none):ni l (iD l n t):=fun v=>by
 cases hl:bS (ah l) v with
 |none=>rw[show Lv (ah l) v= .mk 1 v [] by simp[Lv,hl],il]
 |some x=>
  have hx:Lv (ah l) v=x:=by simp[Lv,hl]
  obtain⟨y,hy,e1,e2⟩:=l7 hl
  have hvn:v≠n:=fun e=>by rw[e,hn]at hl;cases hl
  rw[jG hn,if_neg hvn,hx]
  refine NI (s:=s) x (e2 ▸ (h.ok y hy).2) fun u hu=> ?_
  have hu2:bS (ah l) u=none:=h.idem y hy u (e2 ▸ hu)
  rw[jG hn,show Lv (ah l) u= .mk 1 u [] by simp[Lv,hu2],il,tt]
  split<;>rfl
theorem iE.Kr {s:aA}{l:List TB}(h:iE s l){t:Tm}(ht:Vs s t)(h1:(aS (ah l) t).op=1):(0<=(aS (ah l) t).n/\(aS (ah l) t).n<20)/\bS (ah l) (aS (ah l) t).n=none/\aS (ah l) t= .mk 1 (aS (ah l) t).n []:=by
 have hv:=Vs.sub h.bd t ht
 have hf:fX (aS (ah l) t).n (aS (ah l) t)=true:=(iC h1).2 rfl
 exact⟨hv.range hf,h.free ht hf,hv.eta h1⟩
theorem ow{s:aA}:∀ (f:Nat) (a c:Tm) (l l':List TB),fN f a c l=some (l',true)->iE s l->Vs s a->Vs s c->iE s l'/\ni l l'
 |0,_,_,_,_,h,_,_,_=>by cases h
 |f+1,a,c,l,l',h,hl,ha,hc=>by
  have va:=Vs.sub hl.bd a ha
  have vc:=Vs.sub hl.bd c hc
  have fa:=fun u=>hl.free ha (u:=u)
  have fc:=fun u=>hl.free hc (u:=u)
  have na:=hl.Kr ha
  have nc:=hl.Kr hc
  simp only[fN]at h
  generalize aS (ah l) a=a0 at*
  generalize aS (ah l) c=c0 at*
  split at h
  ·injection h with h;injection h with h;subst h;exact⟨hl,ni.refl hl⟩
  ·rename_i hs
   split at h
   ·rename_i h1
    injection h with h;injection h with h;subst h
    obtain⟨r1,u1,e1⟩:=na h1.1
    obtain⟨r2,u2,e2⟩:=nc h1.2
    have je:a0.n≠c0.n:=fun e=>hs (by rw[dR,e1,e2,e])
    have Av:bS (ah l) (max a0.n c0.n)=none:=by rcases Int.le_total a0.n c0.n with h|h<;>simp[Int.max_def]<;>split<;>assumption
    have hmn:bS (ah l) (min a0.n c0.n)=none:=by rcases Int.le_total a0.n c0.n with h|h<;>simp[Int.min_def]<;>split<;>assumption
    refine⟨rS hl af Av (Vs.var af) (fun u hu=> ?_) (fun hu=> ?_),w6 hl Av⟩
    ·have:min a0.n c0.n=u:=by rw[oj]at hu;simpa using hu
     exact this ▸ hmn
    ·have:min a0.n c0.n=max a0.n c0.n:=by rw[oj]at hu;simpa using hu
     omega
   ·split at h
    ·rename_i h1 h2
     injection h with h;injection h with h h3;subst h
     obtain⟨r1,u1,e1⟩:=na h2
     have kz: ¬fX a0.n c0=true:=fun hh=>by
      have:(cM c0).contains a0.n=true:=List.contains_iff_mem.2 (((cQ c0).2 _).2 hh)
      exact GR
     exact⟨rS hl r1 u1 vc (fun u hu=>fc u hu) kz,w6 hl u1⟩
    ·split at h
     ·rename_i h1 h2 kK
      injection h with h;injection h with h h3;subst h
      obtain⟨r2,u2,e2⟩:=nc kK
      have kz: ¬fX c0.n a0=true:=fun hh=>by
       have:(cM a0).contains c0.n=true:=List.contains_iff_mem.2 (((cQ a0).2 _).2 hh)
       exact GR
      exact⟨rS hl r2 u2 va (fun u hu=>fa u hu) kz,w6 hl u2⟩
     ·split at h
      ·injection h with h;injection h with _ h;cases h
      ·have key:∀ (ks cE:List Tm) (l:List TB),(∀k∈ks,Vs s k)->(∀k∈cE,Vs s k)->iE s l->de (fN f) ks cE l=some (l',true)->iE s l'/\ni l l':=by
        intro ks
        induction ks with
        |nil=>intro cE l _ _ hl h;simp only[de]at h;injection h with h;injection h with h;subst h;exact⟨hl,ni.refl hl⟩
        |cons k ks x7=>
         intro cE l h1 h2 hl h
         cases cE with
         |nil=>simp only[de]at h;injection h with h;injection h with h;subst h;exact⟨hl,ni.refl hl⟩
         |cons k' cE=>
          simp only[de]at h
          split at h
          ·rename_i l1 e
           obtain⟨g1,g2⟩:=ow f k k' l l1 e hl (h1 k aE) (h2 k' aE)
           obtain⟨g3,g4⟩:=x7 cE l1 (fun x hx=>h1 x kI) (fun x hx=>h2 x kI) g1 h
           exact⟨g3,g2.trans hl g4 (fun v=>hl.x5)⟩
          ·injection h with h;injection h with _ h;cases h
          ·cases h
       exact key _ _ _ (fun k hk=>va.kA hk) (fun k hk=>vc.kA hk) hl h
def lI:Nat->List (Int×Tm)->Tm->Option Tm
 |0,_,_=>none
 |f+1,b,t=>if t.op=1 then(match bS b t.n with|some x=>lI f b x|none=>some t)else some t
theorem im{b:List (Int×Tm)}:∀ {f g:Nat} {t x:Tm},lI f b t=some x->f<=g->lI g b t=some x
 |0,_,_,_,h,_=>by cases h
 |f+1,0,_,_,_,h=>af
 |f+1,g+1,t,x,h,hg=>by
  simp only[lI]at h|-
  split
  ·rename_i h1
   rw[if_pos h1]at h
   cases hl:bS b t.n with
   |none=>rw[hl]at h;exact h
   |some y=>rw[hl]at h;exact im (f:=f) h af
  ·rename_i h1
   rw[if_neg h1]at h
   exact h
structure kq (s:aA) (b:List (Int×Tm)) (l:List TB) (ρ:Int->Nat) (R:Nat):Prop where
 keys:(b.map (·.1)).Nodup
 x5:∀v,bS b v=none↔bS (ah l) v=none
 ok:∀v x,bS b v=some x->Vs s x/\Lv (ah l) v=aS (ah l) x/\∀u,fX u x=true->ρ u<ρ v
 bd:∀v,ρ v<=R
theorem kq.nil {s:aA}:kq s [] [] (fun _=>0) 0:=⟨List.nodup_nil,fun _=>Iff.rfl,fun _ _ h=>kJ,fun _=>Nat.le_refl _⟩
theorem kq.at {s:aA}{b:List (Int×Tm)}{l:List TB}{ρ:Int->Nat}{R:Nat}(h:kq s b l ρ R):∀ (m:Nat) (t:Tm),Vs s t->(t.op=1->ρ t.n<=m)->∃x,lI (m+2) b t=some x/\Vs s x/\aS (ah l) x=aS (ah l) t/\(x.op=1->bS b x.n=none)/\(t.op≠1->x=t)/\(t.op=1->(∀u,fX u x=true->ρ u<=ρ t.n)/\(x.op≠1->∀u,fX u x=true->ρ u<ρ t.n)):=by
 intro m
 induction m with
 |zero=>
  intro t hv hm
  by_cases h1:t.op=1
  ·cases hl:bS b t.n with
   |none=>
    exact abj
   |some x=>
    obtain⟨g1,g2,g3⟩:=h.ok _ _ hl
    by_cases hx:x.op=1
    ·have:=g3 x.n ((iC hx).2 rfl)
     have:=hm h1
     omega
    ·refine⟨x,by simp only[lI,if_pos h1,hl,if_neg hx],g1,by rw[<- g2,dV hv h1],fun h=>absurd h hx,fun h=>absurd h1 h,fun _=>⟨fun u hu=>Nat.le_of_lt (g3 u hu),fun _=>g3⟩⟩
  ·exact aaQ
 |succ m ih=>
  intro t hv hm
  by_cases h1:t.op=1
  ·cases hl:bS b t.n with
   |none=>
    exact abj
   |some x=>
    obtain⟨g1,g2,g3⟩:=h.ok _ _ hl
    obtain⟨y,i1,i2,i3,i4,i5,i6⟩:=ih x g1 (fun hx=>by have:=g3 x.n ((iC hx).2 rfl);have:=hm h1;omega)
    refine⟨y,by rw[lI,if_pos h1,hl];exact i1,i2,by rw[i3, <- g2,dV hv h1],i4,fun h=>absurd h1 h,fun _=> ?_⟩
    by_cases hx:x.op=1
    ·have g4:=g3 x.n ((iC hx).2 rfl)
     exact⟨fun u hu=>by have:=(i6 hx).1 u hu;omega,fun h2 u hu=>by have:=(i6 hx).2 h2 u hu;omega⟩
    ·rw[i5 hx]
     exact⟨fun u hu=>Nat.le_of_lt (g3 u hu),fun _=>g3⟩
  ·exact aaQ
theorem kq.root {s:aA}{b:List (Int×Tm)}{l:List TB}{ρ:Int->Nat}{R:Nat}(h:kq s b l ρ R){t:Tm}(hv:Vs s t):∃x,lI (R+2) b t=some x/\Vs s x/\aS (ah l) x=aS (ah l) t/\(x.op=1->bS b x.n=none)/\(t.op≠1->x=t)/\(t.op=1->(∀u,fX u x=true->ρ u<=ρ t.n)/\(x.op≠1->∀u,fX u x=true->ρ u<ρ t.n)):=
 h.at R t hv fun _=>h.bd _
theorem DT(l:List (Int×Tm))(p:Int×Tm)(v:Int):bS (l++[p]) v=match bS l v with|some x=>some x|none=>if p.1=v then some p.2 else none:=by
 induction l with
 |nil=>simp[bS]
 |cons q l ih=>
  simp only[List.cons_append,bS]
  split
  ·rfl
  ·exact ih
theorem one_sub{s:aA}{l:List TB}{n:Int}{t:Tm}(hn:bS (ah l) n=none){x:Tm}(hx:Vs s x):aS (xZ n t) (aS (ah l) x)=aS (ah (iD l n t)) x:=by
 refine rR x hx fun u _=> ?_
 rw[jG hn]
 split
 ·rename_i e
  rw[e,show Lv (ah l) n= .mk 1 n [] by simp[Lv,hn],il,tt,if_pos rfl]
 ·rfl
theorem kq.ext {s:aA}{b:List (Int×Tm)}{l:List TB}{ρ:Int->Nat}{R:Nat}(h:kq s b l ρ R)(hl:iE s l){n:Int}(hn:bS b n=none){y:Tm}(hy:Vs s y)(hny: ¬fX n (aS (ah l) y)=true):
 ∃K4 R',kq s (b++[(n,y)]) (iD l n (aS (ah l) y)) K4 R':=by
 have Mc:=(h.x5 n).1 hn
 refine⟨fun v=>if fX n (Lv (ah l) v)=true then R+1+ρ v else ρ v,2*R+1, ?_,fun v=> ?_,fun v x hx=> ?_,fun v=> ?_⟩
 ·rw[List.map_append,List.map_cons,List.map_nil,List.nodup_append]
  refine⟨h.keys,aE,fun a ha c hc=> ?_⟩
  simp at hc
  subst hc
  exact fun e=>(l6.1 hn) (e ▸ ha)
 ·rw[DT,u6 Mc]
  by_cases e:v=n
  ·subst e;simp[hn]
  ·rw[if_neg e]
   cases hv:bS b v with
   |some x=>
    simp only[reduceCtorEq,false_iff]
    intro h2
    cases h3:bS (ah l) v with
    |some y=>rw[h3]at h2;cases h2
    |none=>rw[(h.x5 v).2 h3]at hv;cases hv
   |none=>
    simp[(h.x5 v).1 hv]
    exact fun h=>e h.symm
 ·rw[DT]at hx
  cases hv:bS b v with
  |some z=>
   rw[hv]at hx
   injection hx with hx
   subst hx
   have hvn:v≠n:=fun e=>by rw[e,hn]at hv;cases hv
   obtain⟨g1,g2,g3⟩:=h.ok v z hv
   refine⟨g1,by rw[jG Mc,if_neg hvn,g2,one_sub Mc g1],fun u hu=> ?_⟩
   have h3:=g3 u hu
   have h4:fX n (Lv (ah l) u)=true->fX n (Lv (ah l) v)=true:=fun h5=>by rw[g2];exact(uh hl.bd z g1 n).2 ⟨u,hu,h5⟩
   by_cases h5:fX n (Lv (ah l) u)=true
   ·rw[if_pos h5,if_pos (h4 h5)];omega
   ·rw[if_neg h5];split<;>omega
  |none=>
   rw[hv]at hx
   simp only at hx
   split at hx
   ·rename_i e
    injection hx with hx
    subst hx;subst e
    refine⟨hy, ?_,fun u hu=> ?_⟩
    ·rw[jG Mc,if_pos rfl, <- one_sub Mc hy]
     exact(H6 (s:=s) _ (Vs.sub hl.bd y hy) fun v hv=>by
      have: ¬n=v:=fun e=>by subst e;exact hny hv
      simp[xZ,bS,this]).symm
    ·have h5: ¬fX n (Lv (ah l) u)=true:=fun h5=>hny ((uh hl.bd y hy n).2 ⟨u,hu,h5⟩)
     have h6:fX n (Lv (ah l) n)=true:=by rw[show Lv (ah l) n= .mk 1 n [] by simp[Lv,Mc],oj];simp
     have:=h.bd u
     simp only[if_neg h5,if_pos h6]
     omega
   ·cases hx
 ·have:=h.bd v
  split<;>omega
theorem oX{s:aA}{l:List TB}{b:List (Int×Tm)}{ρ:Int->Nat}{R:Nat}(h:kq s b l ρ R){x:Tm}(hx:Vs s x)(hr:x.op=1->bS b x.n=none):(aS (ah l) x).op=x.op/\(aS (ah l) x).n=x.n/\(aS (ah l) x).kids.length=x.kids.length/\(x.op=1->aS (ah l) x=x)/\(x.op≠1->(aS (ah l) x).kids=x.kids.map (aS (ah l))):=by
 by_cases h1:x.op=1
 ·have:aS (ah l) x=x:=by
   rw[dV hx h1,show Lv (ah l) x.n= .mk 1 x.n [] by simp[Lv,(h.x5 _).1 (hr h1)]]
   exact(hx.eta h1).symm
  rw[this]
  exact⟨rfl,rfl,rfl,fun _=>rfl,fun h=>absurd h1 h⟩
 ·obtain⟨g1,g2,g3⟩:=aeP (b:=ah l) h1
  exact⟨g1,g2,by rw[g3];simp,fun h=>absurd h h1,fun _=>g3⟩
theorem qB{F G:Tm->Tm->List TB->Option (List TB×Bool)}(DU:∀k k' l r,F k k' l=some r->G k k' l=some r):∀ {ks cE:List Tm} {l:List TB} {r:List TB×Bool},de F ks cE l=some r->de G ks cE l=some r
 |[],_,_,_,h=>by simp only[de]at h|-;exact h
 |_::_,[],_,_,h=>by simp only[de]at h|-;exact h
 |k::ks,k'::cE,b,r,h=>by
  simp only[de]at h|-
  split at h
  ·rename_i b1 e;rw[DU _ _ _ _ e];exact qB DU h
  ·rename_i b1 e;rw[DU _ _ _ _ e];exact h
  ·cases h
theorem tu:∀ {f g:Nat} {a c:Tm} {l:List TB} {r:List TB×Bool},fN f a c l=some r->f<=g->fN g a c l=some r
 |0,_,_,_,_,_,h,_=>by cases h
 |f+1,0,_,_,_,_,_,h=>af
 |f+1,g+1,a,c,l,r,h,hg=>by
  simp only[fN]at h|-
  repeat' (split at h<;>rename_i hh<;>first|rw[if_pos hh]|rw[if_neg hh])
  all_goals first
   |exact h
   |exact qB (fun k k' l r hk=>tu hk af) h
theorem Q5(l:List TB)(n:Int)(t:Tm):(tq l n t).length=l.length+1:=by
 induction l with
 |nil=>rfl
 |cons x l ih=>simp only[tq];split<;>simp[ih]
theorem Lm(l:List TB)(n:Int)(t:Tm):(iD l n t).length=l.length+1:=by rw[iD,Q5,List.length_map]
theorem H7:∀ (f:Nat) (a c:Tm) (l l':List TB),fN f a c l=some (l',true)->l'=l\/l.length<l'.length
 |0,_,_,_,_,h=>by cases h
 |f+1,a,c,l,l',h=>by
  simp only[fN]at h
  split at h
  ·injection h with h;injection h with h;exact Or.inl h.symm
  ·split at h
   ·exact VH
   ·split at h
    ·exact VH
    ·split at h
     ·exact VH
     ·split at h
      ·injection h with h;injection h with _ h;cases h
      ·have key:∀ (ks cE:List Tm) (l:List TB),de (fN f) ks cE l=some (l',true)->l'=l\/l.length<l'.length:=by
        intro ks
        induction ks with
        |nil=>intro cE l h;simp only[de]at h;injection h with h;injection h with h;exact Or.inl h.symm
        |cons k ks x7=>
         intro cE l h
         cases cE with
         |nil=>simp only[de]at h;injection h with h;injection h with h;exact Or.inl h.symm
         |cons k' cE=>
          simp only[de]at h
          split at h
          ·rename_i l1 e
           have h1:=H7 f k k' l l1 e
           have h2:=x7 cE l1 h
           rcases h1 with rfl|h1
           ·exact h2
           ·rcases h2 with rfl|h2
            ·exact Or.inr h1
            ·exact Or.inr af
          ·injection h with h;injection h with _ h;cases h
          ·cases h
       exact key _ _ _ h
theorem iE.len {s:aA}{l:List TB}(h:iE s l):l.length<=20:=by
 have:=Bn (ns:=l.map (·.var)) (fun n hn=>by obtain⟨x,hx,rfl⟩:=List.mem_map.1 hn;exact(h.ok x hx).1) (by rw[F1,List.pairwise_map];exact h.srt)
 rwa [List.length_map]at this
theorem oY{s:aA}:∀ (N z:Nat) (a c:Tm) (l:List TB),20 - l.length<=N->(aS (ah l) a).sz<=z->iE s l->Vs s a->Vs s c->∃f r,fN f a c l=some r:=by
 intro N
 induction N using Nat.strongRecOn with
 |ind N ihN=>
 intro z
 induction z with
 |zero=>intro a c l _ hz;have:=Tm.th (aS (ah l) a);omega
 |succ z ihz=>
  intro a c l hN hz hl ha hc
  have va:=Vs.sub hl.bd a ha
  have vc:=Vs.sub hl.bd c hc
  have key:∀ (ks cE:List Tm) (l1:List TB),(∀k∈ks,k∈(aS (ah l) a).kids)->(∀k∈cE,Vs s k)->iE s l1->(l1=l\/l.length<l1.length)->∃f r,de (fN f) ks cE l1=some r:=by
   intro ks
   induction ks with
   |nil=>intro cE l1 _ _ _ _;exact⟨0,_,rfl⟩
   |cons k ks x7=>
    intro cE l1 m1 m2 sv Xn
    cases cE with
    |nil=>exact⟨0,_,rfl⟩
    |cons k' cE=>
     have hk:=m1 k aE
     have vk:=va.kA hk
     have Jj:∃f r,fN f k k' l1=some r:=by
      rcases Xn with rfl|Xn
      ·refine ihz k k' l1 hN ?_ sv vk (m2 k' aE)
       have:aS (ah l1) k=k:=H6 (s:=s) k vk fun v hv=>by
        by_cases h1:(aS (ah l1) a).op=1
        ·rw[va.eta h1]at hk;cases hk
        ·exact hl.free ha ((pT va h1).2 ⟨k,hk,hv⟩)
       rw[this]
       have:=Tm.mm hk
       omega
      ·have h20:=sv.len
       exact ihN (20 - l1.length) af _ k k' l1 (Nat.le_refl _) (Nat.le_refl _) sv vk (m2 k' aE)
     obtain⟨f,⟨l2,ok⟩,e⟩:=Jj
     cases ok with
     |false=>exact⟨f,(l2,false),by simp only[de,e]⟩
     |true=>
      obtain⟨o1,_⟩:=ow f k k' l1 l2 e sv vk (m2 k' aE)
      have hle:=H7 f k k' l1 l2 e
      obtain⟨f2,r2,e2⟩:=x7 cE l2 (fun y hy=>m1 y lh) (fun y hy=>m2 y lh) o1 (by
       rcases hle with rfl|h
       ·exact Xn
       ·right
        rcases Xn with rfl|h2
        ·exact h
        ·omega)
      refine⟨max f f2,r2, ?_⟩
      simp only[de]
      rw[tu e (Nat.le_max_left _ _)]
      exact qB (fun k k' l r hk=>tu hk (Nat.le_max_right _ _)) e2
  obtain⟨f,r,e⟩:=key (aS (ah l) a).kids (aS (ah l) c).kids l (fun _ h=>h) (fun k hk=>vc.kA hk) hl (Or.inl rfl)
  refine⟨f+1, ?_⟩
  simp only[fN]
  repeat' split
  all_goals first
   |exact⟨_,rfl⟩
   |exact⟨r,e⟩
mutual
def tv:Tm->List Int
 | .mk op n kids=>if op=1 then [n]else Q6 kids
def Q6:List Tm->List Int
 |[]=>[]
 |k::l=>tv k++Q6 l
end
theorem DV:∀l:List Tm,Q6 l=l.flatMap tv
 |[]=>rfl
 |k::l=>by rw[Q6,DV l,List.flatMap_cons]
theorem NM(t:Tm):tv t=if t.op=1 then [t.n]else t.kids.flatMap tv:=by
 cases t;rw[tv,DV];rfl
theorem U7{s:aA}:∀t:Tm,Vs s t->∀v,v∈tv t↔fX v t=true:=by
 refine Tm.eN fun t ih hv v=> ?_
 rw[NM]
 by_cases h1:t.op=1
 ·rw[if_pos h1,iC h1,List.mem_singleton];exact eq_comm
 ·rw[if_neg h1,pT hv h1,List.mem_flatMap]
  exact⟨fun⟨k,hk,h⟩=>⟨k,hk,(ih k hk (hv.kA hk) v).1 h⟩,fun⟨k,hk,h⟩=>⟨k,hk,(ih k hk (hv.kA hk) v).2 h⟩⟩
inductive ox (b:List (Int×Tm)) (n:Int):Tm->Prop where
 |here {t:Tm}:fX n t=true->ox b n t
 |step {t:Tm} {v:Int} {x:Tm}:fX v t=true->bS b v=some x->ox b n x->ox b n t
theorem ox.mono {b c:List (Int×Tm)}(h:∀v x,bS b v=some x->bS c v=some x){t:Tm}{n:Int}(hr:ox b n t):ox c n t:=by
 induction hr with
 |here h1=>exact .here h1
 |step h1 h2 _ ih=>exact .step h1 (h _ _ h2) ih
def NN(F:Tm->List Int->Option (Bool×List Int))(b:List (Int×Tm))(n:Int):List Int->List Int->Option (Bool×List Int)
 |[],met=>some (false,met)
 |v::vs,met=>if v=n then some (true,met)else
  match bS b v with
  |none=>NN F b n vs met
  |some x=>if v∈met then NN F b n vs met else
   match F x (ew met v)with
   |some (true,m)=>some (true,m)
   |some (false,m)=>NN F b n vs m
   |none=>none
def O9:Nat->List (Int×Tm)->Int->Tm->List Int->Option (Bool×List Int)
 |0,_,_,_,_=>none
 |f+1,b,n,t,met=>NN (O9 f b n) b n (tv t) met
theorem rT{F G:Tm->List Int->Option (Bool×List Int)}(DU:∀x m r,F x m=some r->G x m=some r){b:List (Int×Tm)}{n:Int}:∀ {vs met:List Int} {r:Bool×List Int},NN F b n vs met=some r->NN G b n vs met=some r
 |[],_,_,h=>h
 |v::vs,met,r,h=>by
  simp only[NN]at h|-
  split at h
  ·rename_i e;rw[if_pos e];exact h
  ·rename_i e
   rw[if_neg e]
   split at h
   ·exact rT DU h
   ·split at h
    ·rename_i e2;rw[if_pos e2];exact rT DU h
    ·rename_i x _ e2
     rw[if_neg e2]
     cases hF:F x (ew met v)with
     |none=>rw[hF]at h;cases h
     |some q=>
      rw[hF]at h
      rw[DU _ _ _ hF]
      obtain⟨is,m⟩:=q
      cases is with
      |true=>exact h
      |false=>exact rT DU h
theorem DW{b:List (Int×Tm)}{n:Int}:∀ {f g:Nat} {t:Tm} {met:List Int} {r:Bool×List Int},O9 f b n t met=some r->f<=g->O9 g b n t met=some r
 |0,_,_,_,_,h,_=>by cases h
 |f+1,0,_,_,_,h,hg=>af
 |f+1,g+1,t,met,r,h,hg=>rT (fun x m q hq=>DW hq af) h
def Ga(b:List (Int×Tm))(n:Int)(m:List Int)(t:Tm):Prop:=∀v,fX v t=true->v≠n/\∀x,bS b v=some x->v∈m
theorem Ga.mono {b:List (Int×Tm)}{n:Int}{m m':List Int}(h:∀v∈m,v∈m'){t:Tm}(ht:Ga b n m t):Ga b n m' t:=fun v hv=>⟨(ht v hv).1,fun x hx=>h v ((ht v hv).2 x hx)⟩
def LdQ(b:List (Int×Tm))(n:Int)(met:List Int)(t:Tm)(is:Bool)(fY:List Int):Prop:=
 (is=true->ox b n t)/\(is=false->(∀v∈met,v∈fY)/\Ga b n fY t/\∀v∈fY,v∉met->∀x,bS b v=some x->Ga b n fY x)
def xK(b:List (Int×Tm))(met:List Int):Nat:=((b.map (·.1)).filter fun v=> !met.contains v).length
theorem u9{b:List (Int×Tm)}{met:List Int}{v:Int}{x:Tm}(h:bS b v=some x)(hm:v∉met):xK b (ew met v)<xK b met:=by
 unfold xK
 have hv:v∈b.map (·.1):=List.mem_map.2 ⟨_,cK h,rfl⟩
 generalize b.map (·.1)=ks at hv
 have hle:∀ks:List Int,(ks.filter fun u=> !(ew met v).contains u).length<=(ks.filter fun u=> !met.contains u).length:=by
  intro ks
  refine(List.Sublist.length_le ?_)
  rw[show(ks.filter fun u=> !(ew met v).contains u)=(ks.filter fun u=> !met.contains u).filter fun u=> !(ew met v).contains u by
   rw[List.filter_filter]
   congr 1
   funext u
   cases e:(ew met v).contains u with
   |true=>rfl
   |false=>
    cases e2:met.contains u with
    |false=>rfl
    |true=>
     rw[List.contains_iff_mem]at e2
     have:(ew met v).contains u=true:=List.contains_iff_mem.2 (kp.2 (.inl e2))
     rw[this]at e;cases e]
  exact List.filter_sublist
 induction ks with
 |nil=>cases hv
 |cons u ks ih=>
  by_cases e:u=v
  ·subst e
   have h1:(ew met u).contains u=true:=List.contains_iff_mem.2 (kp.2 (.inr rfl))
   have h2:met.contains u=false:=by rw[Bool.eq_false_iff];intro h;exact hm (List.contains_iff_mem.1 h)
   rw[List.filter_cons,List.filter_cons,h1,h2]
   simp only[Bool.not_true,Bool.false_eq_true,if_false,Bool.not_false,if_true,List.length_cons]
   have:=hle ks
   omega
  ·have qH:v∈ks:=by
    rcases List.mem_cons.1 hv with h|h
    ·exact absurd h.symm e
    ·exact h
   have:=ih qH
   rw[List.filter_cons,List.filter_cons]
   have hu:(ew met v).contains u=met.contains u:=by
    rw[Bool.eq_iff_iff,List.contains_iff_mem,List.contains_iff_mem,kp]
    exact⟨fun h=>h.elim id fun h=>absurd h e, .inl⟩
   rw[hu]
   split
   ·rw[List.length_cons,List.length_cons];omega
   ·exact this
theorem DX{b:List (Int×Tm)}{m m':List Int}(h:∀v∈m,v∈m'):xK b m'<=xK b m:=by
 unfold xK
 refine List.Sublist.length_le ?_
 rw[show((b.map (·.1)).filter fun u=> !m'.contains u)=((b.map (·.1)).filter fun u=> !m.contains u).filter fun u=> !m'.contains u by
  rw[List.filter_filter]
  congr 1
  funext u
  cases e:m'.contains u with
  |true=>rfl
  |false=>
   cases e2:m.contains u with
   |false=>rfl
   |true=>
    rw[List.contains_iff_mem]at e2
    have:m'.contains u=true:=List.contains_iff_mem.2 (h u e2)
    rw[this]at e;cases e]
 exact List.filter_sublist
theorem H8{s:aA}{b:List (Int×Tm)}(hb:∀p∈b,Vs s p.2)(n:Int):∀ (N:Nat) (t:Tm) (met:List Int),xK b met<=N->Vs s t->∃is fY,O9 (N+1) b n t met=some (is,fY)/\LdQ b n met t is fY
 |N,t,met,hN,ht=>by
  have key:∀ (vs met:List Int),xK b met<=N->(∀v∈vs,fX v t=true)->∃is fY,NN (O9 N b n) b n vs met=some (is,fY)/\(is=true->ox b n t)/\
   (is=false->(∀v∈met,v∈fY)/\(∀v∈vs,v≠n/\∀x,bS b v=some x->v∈fY)/\∀v∈fY,v∉met->∀x,bS b v=some x->Ga b n fY x):=by
   intro vs
   induction vs with
   |nil=>intro met _ _;exact⟨false,met,rfl,fun h=>kJ,fun _=>⟨fun _ h=>h,fun _ h=>kJ,fun v h h'=>absurd h h'⟩⟩
   |cons v vs ih=>
    intro met hm Kl
    have hv:=Kl v aE
    have YA:∀u∈vs,fX u t=true:=fun u hu=>Kl u (by simp[hu])
    simp only[NN]
    by_cases e:v=n
    ·rw[if_pos e]
     exact⟨true,met,rfl,fun _=> .here (e ▸ hv),fun h=>by cases h⟩
    ·rw[if_neg e]
     cases hl:bS b v with
     |none=>
      obtain⟨is,fY,h1,h2,h3⟩:=ih met hm YA
      refine⟨is,fY,h1,h2,fun h=>⟨(h3 h).1,fun u hu=> ?_,(h3 h).2.2⟩⟩
      rcases List.mem_cons.1 hu with rfl|hu
      ·exact⟨e,fun x hx=>by rw[hl]at hx;cases hx⟩
      ·exact(h3 h).2.1 u hu
     |some x=>
      simp only
      by_cases e2:v∈met
      ·rw[if_pos e2]
       obtain⟨is,fY,h1,h2,h3⟩:=ih met hm YA
       refine⟨is,fY,h1,h2,fun h=>⟨(h3 h).1,fun u hu=> ?_,(h3 h).2.2⟩⟩
       rcases List.mem_cons.1 hu with rfl|hu
       ·exact⟨e,fun _ _=>(h3 h).1 _ e2⟩
       ·exact(h3 h).2.1 u hu
      ·rw[if_neg e2]
       have hu:=u9 hl e2
       obtain⟨N',rfl⟩:∃N',N=N'+1:=⟨N - 1,af⟩
       obtain⟨is1,m1,g1,g2,g3⟩:=H8 hb n N' x (ew met v) af (hb _ (cK hl))
       rw[g1]
       cases is1 with
       |true=>exact⟨true,m1,rfl,fun _=> .step hv hl (g2 rfl),fun h=>by cases h⟩
       |false=>
        obtain⟨k1,k2,k3⟩:=g3 rfl
        have k0:∀u∈met,u∈m1:=fun u hu=>k1 u (kp.2 (.inl hu))
        obtain⟨is,fY,h1,h2,h3⟩:=ih m1 (by have:=DX (b:=b) k0;omega) YA
        refine⟨is,fY,h1,h2,fun h=> ?_⟩
        obtain⟨j1,j2,j3⟩:=h3 h
        refine⟨fun u hu=>j1 u (k0 u hu),fun u hu=> ?_,fun u hu hnu y hy=> ?_⟩
        ·rcases List.mem_cons.1 hu with rfl|hu
         ·exact⟨e,fun _ _=>j1 _ (k1 _ (kp.2 (.inr rfl)))⟩
         ·exact j2 u hu
        ·by_cases KQ:u∈m1
         ·by_cases huv:u=v
          ·subst huv
           rw[hl]at hy
           cases hy
           exact k2.mono j1
          ·exact(k3 u KQ (fun h=>(kp.1 h).elim hnu huv) y hy).mono j1
         ·exact j3 u hu KQ y hy
  obtain⟨is,fY,h1,h2,h3⟩:=key (tv t) met hN fun v hv=>(U7 t ht v).1 hv
  exact⟨is,fY,h1,h2,fun h=>⟨(h3 h).1,fun v hv=>(h3 h).2.1 v ((U7 t ht v).2 hv),(h3 h).2.2⟩⟩
theorem YB{s:aA}{b:List (Int×Tm)}(hb:∀p∈b,Vs s p.2)(n:Int){t:Tm}(ht:Vs s t):∃is fY,O9 (b.length+1) b n t []=some (is,fY)/\(is=true↔ox b n t):=by
 have hN:xK b []<=b.length:=by
  unfold xK
  exact aaZ
 obtain⟨is,fY,h1,h2,h3⟩:=H8 hb n b.length t [] hN ht
 refine⟨is,fY,h1,h2,fun hr=> ?_⟩
 cases is with
 |true=>rfl
 |false=>
  obtain⟨_,k2,k3⟩:=h3 rfl
  exfalso
  have:∀t,ox b n t-> ¬Ga b n fY t:=by
   intro t hr
   induction hr with
   |here h=>exact fun hs=>(hs _ h).1 rfl
   |step h1 h2 _ ih=>exact fun hs=>ih (k3 _ ((hs _ h1).2 _ h2) aE _ h2)
  exact this t hr k2
def qC(l more:List Int):List Int:=more.foldl ew l
theorem Gb:∀ {more l:List Int} {v:Int},v∈qC l more↔v∈l\/v∈more
 |[],l,v=>by simp[qC]
 |u::more,l,v=>by
  show v∈qC (ew l u) more↔_
  rw[Gb,kp,List.mem_cons,or_assoc]
theorem NO:∀ (more l:List Int),∃r,qC l more=l++r
 |[],l=>⟨[],by simp[qC]⟩
 |u::more,l=>by
  obtain⟨r,hr⟩:=NO more (ew l u)
  show ∃r,qC (ew l u) more=_
  rw[hr]
  unfold ew
  split
  ·exact⟨r,rfl⟩
  ·exact⟨[u]++r,by rw[List.append_assoc]⟩
theorem w7:∀ (more l:List Int),l.Nodup->(qC l more).Nodup
 |[],l,h=>h
 |u::more,l,h=>w7 more (ew l u) (F0 u h)
def NP(b:List (Int×Tm))(all:List Int)(v:Int):List Int:=match bS b v with
 |some x=>qC all (cM x)
 |none=>all
theorem Q7(b:List (Int×Tm))(all:List Int)(v:Int):∃r,NP b all v=all++r:=by
 unfold NP
 split
 ·exact NO _ _
 ·exact⟨[],aE⟩
theorem Ks(b:List (Int×Tm)){all:List Int}(v:Int)(h:all.Nodup):(NP b all v).Nodup:=by
 unfold NP
 split
 ·exact w7 _ _ h
 ·exact h
theorem DY{l:List Int}(hn:l.Nodup)(h:∀v∈l,0<=v/\v<20):l.length<=20:=by
 have:∀ (n:Nat) (l:List Int),l.Nodup->(∀v∈l,0<=v/\v<(n:Int))->l.length<=n:=by
  intro n
  induction n with
  |zero=>
   intro l _ h
   cases l with
   |nil=>exact Nat.le_refl _
   |cons a l=>have:=h a aE;omega
  |succ n ih=>
   intro l hn h
   have h1:=ih (l.erase (n:Int)) (hn.erase _) fun v hv=>by
    have je:v≠(n:Int):=fun e=>by
     subst e
     exact hn.not_mem_erase hv
    have:=h v (List.mem_of_mem_erase hv)
    omega
   have h2:l.length<=(l.erase (n:Int)).length+1:=by
    by_cases hm:(n:Int)∈l
    ·rw[List.length_erase_of_mem hm];omega
    ·rw[List.erase_of_not_mem hm];omega
   omega
 exact this 20 l hn h
structure Q8 (s:aA) (b:List (Int×Tm)) (t:Tm) (i:Nat) (all:List Int):Prop where
 nd:all.Nodup
 rg:∀v∈all,0<=v/\v<20
 le:i<=all.length
 fst:∀v,fX v t=true->v∈all
 snd:∀v∈all,ox b v t
 cl:∀j,j<i->∀v x,all[j]? =some v->bS b v=some x->∀u,fX u x=true->u∈all
theorem Q8.zero {s:aA}{b:List (Int×Tm)}{t:Tm}(ht:Vs s t):Q8 s b t 0 (qC [] (cM t)):=by
 have hm:∀v,v∈qC [] (cM t)↔fX v t=true:=fun v=>by rw[Gb,(cQ t).2 v];simp
 exact⟨w7 _ _ List.nodup_nil,fun v hv=>ht.range ((hm v).1 hv),Nat.zero_le _,fun v hv=>(hm v).2 hv,fun v hv=> .here ((hm v).1 hv),fun j hj=>absurd hj (Nat.not_lt_zero _)⟩
theorem ox.trans {b:List (Int×Tm)}{t:Tm}{v:Int}(h:ox b v t){x:Tm}(hx:bS b v=some x){n:Int}(hn:ox b n x):ox b n t:=by
 induction h with
 |here h1=>exact .step h1 hx hn
 |step h1 h2 _ ih=>exact .step h1 h2 ih
theorem Q8.succ {s:aA}{b:List (Int×Tm)}(hb:∀p∈b,Vs s p.2){t:Tm}{i:Nat}{all:List Int}(h:Q8 s b t i all){v:Int}(hv:all[i]? =some v):Q8 s b t (i+1) (NP b all v):=by
 obtain⟨r,hr⟩:=Q7 b all v
 have hi:=(List.getElem?_eq_some_iff.1 hv).1
 have hvm:=List.mem_of_getElem? hv
 have hm:∀u,u∈NP b all v↔u∈all\/∃x,bS b v=some x/\fX u x=true:=fun u=>by
  unfold NP
  cases hl:bS b v with
  |none=>simp
  |some x=>simp only[Gb,(cQ x).2 u,Option.some.injEq,exists_eq_left']
 refine⟨Ks b v h.nd,fun u hu=> ?_,by rw[hr,List.length_append];omega,fun u hu=>(hm u).2 (.inl (h.fst u hu)),fun u hu=> ?_,fun j hj w x hw hx u hu=> ?_⟩
 ·rcases(hm u).1 hu with hu|⟨x,hx,hu⟩
  ·exact h.rg u hu
  ·exact(hb _ (cK hx)).range hu
 ·rcases(hm u).1 hu with hu|⟨x,hx,hu⟩
  ·exact h.snd u hu
  ·exact(h.snd v hvm).trans hx (.here hu)
 ·rw[hr,List.getElem?_append_left (by omega)]at hw
  rcases Nat.lt_or_ge j i with hji|hji
  ·exact(hm u).2 (.inl (h.cl j hji w x hw hx u hu))
  ·have:j=i:=af
   subst this
   rw[hv]at hw
   cases hw
   exact(hm u).2 (.inr ⟨x,hx,hu⟩)
end Go.Proofs.YtlhemmpklhhgoaaGreat
