/-
  A PART. Conditions: none.
-/
import Derived.Test.YtlhemmpklhhgoaaGreatQf15
set_option linter.unusedSimpArgs false
set_option linter.unusedVariables false
set_option maxHeartbeats 8000000
section
namespace Go.Proofs.YtlhemmpklhhgoaaGreat
open Go.Shelf
def Ez:Go.Shelf.Ren:=⟨fun|189=>135|125=>163|257=>162|128=>184|129=>185|294=>175|295=>176|296=>177|297=>178|298=>179|299=>180|216=>181|300=>182|301=>183|328=>188|329=>189|330=>190|331=>191|332=>192|215=>193|343=>201|n=>n,fun|28=>142|3=>3|46=>193|0=>0|51=>205|53=>207|4=>4|183=>197|182=>196|131=>202|5=>5|9=>9|218=>214|222=>218|228=>220|229=>221|n=>n,fun|n=>n⟩
theorem I8:Go.Proofs.Lays.n189 Tryz.prog Ez:={
 mixed:=aJ
 f125:=Tryz.func163.trans (congrArg some aJ)
 f128:=Tryz.func184.trans (congrArg some aJ)
 f129:=Tryz.func185.trans (congrArg some aJ)
 f189:=Tryz.func135.trans (congrArg some aJ)
 f215:=Tryz.func193.trans (congrArg some aJ)
 f216:=Tryz.func181.trans (congrArg some aJ)
 f257:=Tryz.func162.trans (congrArg some aJ)
 f294:=Tryz.func175.trans (congrArg some aJ)
 f295:=Tryz.func176.trans (congrArg some aJ)
 f296:=Tryz.func177.trans (congrArg some aJ)
 f297:=Tryz.func178.trans (congrArg some aJ)
 f298:=Tryz.func179.trans (congrArg some aJ)
 f299:=Tryz.func180.trans (congrArg some aJ)
 f300:=Tryz.func182.trans (congrArg some aJ)
 f301:=Tryz.func183.trans (congrArg some aJ)
 f328:=Tryz.func188.trans (congrArg some aJ)
 f329:=Tryz.func189.trans (congrArg some aJ)
 f330:=Tryz.func190.trans (congrArg some aJ)
 f331:=Tryz.func191.trans (congrArg some aJ)
 f332:=Tryz.func192.trans (congrArg some aJ)
 f343:=Tryz.func201.trans (congrArg some aJ)
 t0:=Tryz.underlying0
 a0:=Tryz.isAgg0
 z0:=Tryz.sizeOf0
 v0:=Tryz.zeroValue0
 t3:=Tryz.underlying3
 a3:=Tryz.isAgg3
 z3:=Tryz.sizeOf3
 v3:=Tryz.zeroValue3
 t4:=Tryz.underlying4
 a4:=Tryz.isAgg4
 z4:=Tryz.sizeOf4
 v4:=Tryz.zeroValue4
 t5:=Tryz.underlying5
 a5:=Tryz.isAgg5
 z5:=Tryz.sizeOf5
 v5:=Tryz.zeroValue5
 t9:=Tryz.underlying9
 a9:=Tryz.isAgg9
 z9:=Tryz.sizeOf9
 v9:=Tryz.zeroValue9
 t28:=Tryz.underlying142
 a28:=Tryz.isAgg142
 z28:=Tryz.sizeOf142
 v28:=Tryz.zeroValue142
 t46:=Tryz.underlying193
 a46:=Tryz.isAgg193
 z46:=Tryz.sizeOf193
 v46:=Tryz.zeroValue193
 t51:=Tryz.underlying205
 a51:=Tryz.isAgg205
 z51:=Tryz.sizeOf205
 v51:=Tryz.zeroValue205
 t53:=Tryz.underlying207
 a53:=Tryz.isAgg207
 z53:=Tryz.sizeOf207
 v53:=Tryz.zeroValue207
 t131:=Tryz.underlying202
 a131:=Tryz.isAgg202
 z131:=Tryz.sizeOf202
 v131:=Tryz.zeroValue202
 t182:=Tryz.underlying196
 a182:=Tryz.isAgg196
 z182:=Tryz.sizeOf196
 v182:=Tryz.zeroValue196
 t183:=Tryz.underlying197
 a183:=Tryz.isAgg197
 z183:=Tryz.sizeOf197
 v183:=Tryz.zeroValue197
 t218:=Tryz.underlying214
 a218:=Tryz.isAgg214
 z218:=Tryz.sizeOf214
 v218:=Tryz.zeroValue214
 t222:=Tryz.underlying218
 a222:=Tryz.isAgg218
 z222:=Tryz.sizeOf218
 v222:=Tryz.zeroValue218
 t228:=Tryz.underlying220
 a228:=Tryz.isAgg220
 z228:=Tryz.sizeOf220
 v228:=Tryz.zeroValue220
 t229:=Tryz.underlying221
 a229:=Tryz.isAgg221
 z229:=Tryz.sizeOf221
 v229:=Tryz.zeroValue221}
theorem Ly:Ey Tryz.prog 135:=fun dY off cap zs w h1 h2 h3=>Any.slices_Sort_int I8 dY off cap zs w h1 h2 h3
theorem LA:∀ (p:Option Addr) (cap:Nat) (w:World),Calls Tryz.prog 135 #[.slice p 0 cap] w fun e w'=>e= .returned (.tuple #[])/\w'=w:=fun p cap w=>Any.slices_Sort_int_none I8 p cap w
theorem EA:Enters Tryz.prog 135:=⟨_,Tryz.func135,aJ,aJ⟩
end Go.Proofs.YtlhemmpklhhgoaaGreat
end
namespace Go.Proofs.YtlhemmpklhhgoaaGreat
end Go.Proofs.YtlhemmpklhhgoaaGreat
namespace Go.Proofs.YtlhemmpklhhgoaaGreat
theorem B0{o:Nat->aa}{nx:Nat}{Δ:List (Nat×aa)}(h:∀x∈Δ,x.1<nx):(hp o nx).put Δ=hp (put o Δ) nx:=by
 simp only[Hp.put,hp]
 congr 1
 funext j
 simp only[List.mem_map,eq_iff_iff]
 exact⟨fun h2=>h2.elim (fun h=>h) fun⟨x,hx,e⟩=>e ▸ h x hx, .inl⟩
theorem bJ.GV {P:Program}{g:FuncId}{args:List V}{o:Nat->aa}{nx id:Nat}{kt vt:TypeId}{l:List (D×D)}{K X:V->(Nat->aa)->Nat->Prop}(ho:o id= .map kt vt l)(ay:id<nx)
 (h:bJ P g args (aw o id (.bZ l)) nx K X):bJ P g args o nx K X:=by
 refine⟨h.1,fun M φ w vals hH hd=> ?_⟩
 obtain⟨h1,h2⟩:=A9 hH (id:=id) ay ho
 have ft:(hp o nx).put [(id, .bZ l)]=hp (aw o id (.bZ l)) nx:=B0 (fun x hx=>by simp at hx;subst hx;exact ay)
 rw[ft]at h1 h2
 have hB:∀b, ¬aq M φ (hp o nx) b-> ¬aq M φ (hp (aw o id (.bZ l)) nx) b:=by
  rintro b hn (hb|⟨j,hl,hb⟩)
  ·exact hn (.inl hb)
  ·refine hn (.inr ⟨j, ?_,hb⟩)
   by_cases e:j=id
   ·subst e;show(o j).live=true;rw[ho];rfl
   ·have hl:(aw o id (.bZ l) j).live=true:=hl
    rw[af _ _ _ _ e]at hl;exact hl
 refine(h.2 M φ w vals h1 (V.eX (H:=hp o nx) hB _ _ (fun j hj=>⟨?_,rfl,V.eN _ _ hd j hj⟩) hd)).mono ?_
 ·show la (aw o id (.bZ l) j) (o j)
  by_cases e:j=id
  ·subst e;rw[ab,ho];exact⟨fun _=>rfl,fun e he=>by cases he⟩
  ·rw[af _ _ _ _ e];exact la.rfl' rfl
 ·rintro e w' ⟨aI,o',nx',v,k1,k2,k3⟩
  exact⟨aI,o',nx',v,k1,h2.trans k2,k3⟩
theorem bJ.seal {P:Program}{g:FuncId}{args:List V}{o:Nat->aa}{nx:Nat}{K X:V->(Nat->aa)->Nat->Prop}
 (h:bJ P g args o nx (fun v o' nx'=>∃x,ef o' v=some x/\K (.d x) (put o' (bK o' v.ids)) nx') X):bJ P g args o nx K X:=by
 refine⟨h.1,fun M φ w vals hH hd=>(h.2 M φ w vals hH hd).mono ?_⟩
 rintro e w' ⟨aI,o',nx',v,k1,k2,k3⟩
 cases e with
 |returned val=>
  obtain⟨k4,x,k5,k6⟩:=k3
  have hu:=fun id ay=>c6 v val k4 id ay
  obtain⟨f1,f2,f3,f4,f5⟩:=dh (H:=hp o' nx') k1 v.ids hu
  have ft:(hp o' nx').put (bK o' v.ids)=hp (put o' (bK o' v.ids)) nx':=B0 (fun y hy=>by
   simp only[bK,List.mem_map]at hy
   obtain⟨id,ay,rfl⟩:=hy
   exact hu id ay)
  have Wo:=f1;have Wp:=f2
  rw[show bK (hp o' nx').o v.ids=bK o' v.ids from rfl,ft]at Wo Wp
  have Qn:∀k,cO aI ((hp o' nx').put (bK o' v.ids)) k->cO aI (hp o' nx') k:=by
   rintro k ⟨id,g1,g2⟩
   by_cases ay:id∈v.ids
   ·have:=f3 id ay
    rw[show((hp o' nx').put (bK o' v.ids)).o id=_ from this]at g1
    refine⟨id, ?_,g2⟩
    revert g1
    cases(hp o' nx').o id<;>simp[aa.fz,aa.live]
   ·have:=f4 id ay
    rw[show((hp o' nx').put (bK o' v.ids)).o id=_ from this]at g1
    exact⟨id,g1,g2⟩
  have h4:V.den (aq M aI ((hp o' nx').put (bK o' v.ids))) aI ((hp o' nx').put (bK o' v.ids)) w' v val:=
   V.kU (H:=hp o' nx') (fun k h h'=>h (h'.imp id (Qn k))) v val (fun id ay=>by
     have eE:(hp o' nx').us id:=(V.ko v val k4) id ay
     refine⟨?_,rfl,(f5 id).2 eE⟩
     by_cases hm:id∈v.ids
     ·rw[show((hp o' nx').put (bK o' v.ids)).o id=_ from f3 id hm];exact la.fz _
     ·rw[show((hp o' nx').put (bK o' v.ids)).o id=_ from f4 id hm];exact la.rfl' rfl) k4
  have h5:=fg f1 (o:=o') v x val (fun id ay=>f3 id ay) k5 h4
  rw[show(hp o' nx').put (bK (hp o' nx').o v.ids)=hp (put o' (bK o' v.ids)) nx' from ft]at h5
  exact⟨aI,_,nx', .d x,Wo,k2.trans Wp,h5,k6⟩
 |panicked ch=>exact⟨aI,o',nx',v,k1,k2,k3⟩
 |outgrown=>exact k3.elim
section
section
variable {B:Nat->Prop}{w:World}
end
end
@[reducible] def mpD (m:List (Int×D)):D:= .mp ((enc (D.int .i64) m).map (·.1)) ((enc (D.int .i64) m).map (·.2))
theorem pB(m:List (Int×D)):(((enc (D.int .i64) m).map (·.1)).zip ((enc (D.int .i64) m).map (·.2)))=enc (D.int .i64) m:=R8 _ m
theorem LB:∀ {l:List Int},GU l->l.Nodup:=by
 intro l h
 exact List.Pairwise.imp (fun h=>ad) h
theorem OC(a b:List Tm)(ha:a.length<=9223372036854775807)(hb:b.length<=9223372036854775807)(g:Nat)(h:∀x∈a,∀y∈b,a7 Tryz.prog g [x.d,y.d] (.ret [.bool (iH x y)]))(o:Nat->aa)(nx:Nat)(hg:Good o nx)(K X:V->(Nat->aa)->Nat->Prop)
 (hK:∀o' nx',nx<=nx'->Good o' nx'->(∀j,j<nx->o' j=o j)->K (.d (.bool (a.length==b.length&&jm a b))) o' nx'):
 bJ Tryz.prog 133 [.d (.sl (a.map Tm.d)), .d (.sl (b.map Tm.d)), .func (.func g) [] []] o nx K X:=by
 refine bJ.aH mix VL aF ?_
 rw[Y6]
 refine gB ?_
 refine ak (fun h1=> ?_) (fun h1=> ?_)
 ·refine cS ?_
  have:(a.length==b.length&&jm a b)=false:=by
   have:(a.length==b.length)=false:=by
    rw[Bool.eq_false_iff];intro h
    simp at h;simp[h]at h1
   rw[this];rfl
  rw[this]at hK
  exact hK _ _ ad (hg.mono ad) (fun _ _=>rfl)
 ·have hl:a.length=b.length:=by simp at h1;omega
  have vK:(a.length==b.length)=true:=by simpa using hl
  rw[vK,Bool.true_and]at hK
  refine gB ?_
  refine aC (fun k:Nat=>⟨aY (.d (.sl (a.map Tm.d)):: .d (.sl (b.map Tm.d)):: .func (.func g) [] []::dy [.ai, .ai, .ai, .ai, .d (.sl (a.map Tm.d)), .d (.i a.length), .d (.i k)]),o,nx⟩)
   (fun k=>k<=a.length/\∀i,i<k->∀x y,a[i]? =some x->b[i]? =some y->iH x y=true) (fun k=>a.length - k) 0 ⟨Nat.zero_le _,fun i h=>ad⟩ (bM.bQ _ (Nat.le_refl _) ad hg (fun _ _=>rfl) ?_) (fun k hk=> ?_)
  ·exact dU
  refine cS ?_
  refine ak (fun h2=> ?_) (fun h2=> ?_)
  ·simp at h2
   obtain⟨x,hx⟩:=aA h2
   obtain⟨y,hy⟩:=aA (l:=b) (k:=k) ad
   refine c9 (ae hx hy) ?_
   refine ax (h x (List.mem_of_getElem? hx) y (List.mem_of_getElem? hy)) rfl ?_
   refine cS ?_
   refine ak (fun h3=> ?_) (fun h3=> ?_)
   ·refine cS ?_
    simp at h3
    have:jm a b=false:=by
     rw[Bool.eq_false_iff];intro h4
     have:=(jn _ _ hl).1 h4 k x y hx hy
     rw[h3]at this;cases this
    rw[this]at hK
    refine hK _ _ ad ?_ (fun j hj=>bp)
    exact dx
   ·refine cS ?_
    simp at h3
    refine aj (k+1) ⟨h2,fun i hi u v hu hv=> ?_⟩ ad (bM.bQ _ (Nat.le_refl _) ad hg (fun j hj=>bp) ?_)
    ·by_cases e:i=k
     ·subst e
      rw[hx]at hu;rw[hy]at hv
      exact TM
     ·exact hk.2 i ad u v hu hv
    ·exact dU
  ·refine cS ?_
   simp at h2
   have:jm a b=true:=(jn _ _ hl).2 fun i x y hx hy=>hk.2 i (by have:=(List.getElem?_eq_some_iff.1 hx).1;omega) x y hx hy
   rw[this]at hK
   exact hK _ _ ad (hg.mono ad) (fun _ _=>rfl)
theorem ZS(n:Int):a7 Tryz.prog 80 [.i n] (.ret [(Tm.mk 1 n []).d]):=by
 refine a7.aH mix aeh aF ?_
 rw[c80]
 refine cS ?_
 rw[Tm.D4]
 rfl
def lk:List (Int×Int)->Int->Option Int
 |[],_=>none
 |p::m,v=>if p.1=v then some p.2 else lk m v
abbrev Keys(m:List (Int×Int)):Prop:=(m.map (·.1)).Nodup
def ints(m:List (Int×Int)):List (Int×D):=m.map fun p=>(p.1,D.i p.2)
def bR:List (Int×Tm)->Int->Option Tm
 |[],_=>none
 |p::l,v=>if p.1=v then some p.2 else bR l v
mutual
def Tm.wf:Tm->Prop
 | .mk op _ kids=>(op=1->kids=[])/\(op=8->kids.length=2)/\Tm.wfs kids
def Tm.wfs:List Tm->Prop
 |[]=>True
 |k::l=>k.wf/\Tm.wfs l
end
theorem Tm.I9:∀l:List Tm,Tm.wfs l↔∀k∈l,k.wf
 |[]=>by simp[Tm.wfs]
 |k::l=>by simp[Tm.wfs,Tm.I9 l]
theorem Tm.GW (t:Tm):t.wf↔(t.op=1->t.kids=[])/\(t.op=8->t.kids.length=2)/\∀k∈t.kids,k.wf:=by cases t;simp[Tm.wf,Tm.I9,Tm.op,Tm.kids]
theorem ZT{t:Tm}(h:t.kids.length=2):∃a b,t.kids=[a,b]:=by
 match hk:t.kids with
 |[a,b]=>exact⟨a,b,rfl⟩
 |[]=>rw[hk]at h;cases h
 |[_]=>rw[hk]at h;cases h
 |_::_::_::_=>rw[hk]at h;simp at h
theorem kW{b:List (Int×Tm)}{v:Int}:bR b v=none↔v∉b.map (·.1):=by
 induction b with
 |nil=>simp[bR]
 |cons p l ih=>
  simp only[bR,List.map_cons,List.mem_cons,not_or]
  split
  ·rename_i h;simp[h]
  ·rename_i h;rw[ih];exact⟨fun h2=>⟨fun e=>h e.symm,h2⟩,fun h2=>h2.2⟩
theorem cm{b:List (Int×Tm)}{v:Int}{x:Tm}(h:bR b v=some x):(v,x)∈b:=by
 induction b with
 |nil=>cases h
 |cons p l ih=>
  simp only[bR]at h
  split at h
  ·rename_i e;injection h with h;subst h;subst e;exact List.mem_cons_self ..
  ·exact List.mem_cons_of_mem _ (ih h)
theorem fN{b:List (Int×Tm)}(hb:(b.map (·.1)).Nodup){v:Int}{x:Tm}:bR b v=some x↔(v,x)∈b:=by
 refine⟨cm,fun h=> ?_⟩
 induction b with
 |nil=>cases h
 |cons p l ih=>
  rw[List.map_cons,List.nodup_cons]at hb
  simp only[bR]
  rcases List.mem_cons.1 h with e|h
  ·subst e;simp
  ·rw[if_neg (fun e=>hb.1 (by rw[e];exact List.mem_map.2 ⟨_,h,rfl⟩)),ih hb.2 h]
def EB(b:Bool)(x:Tm×Int):Bool:=b&&x.1.op !=1
def Wq(t:Tm):Bool:=(pre t 1).all fun x=>x.1.op !=1
theorem uY:∀ (l:List (Tm×Int)) (b:Bool),(aR (yC (fun _=>none) EB) b l).1=(b&&l.all fun x=>x.1.op !=1)
 |[],b=>by simp[aR]
 |x::l,b=>by
  have e1:yC (fun _=>(none:Option lh)) EB b x=(EB b x,true):=rfl
  rw[aR,e1]
  simp only[if_true]
  rw[uY l,EB,List.all_cons,Bool.and_assoc]
theorem GX(s:az)(hs:s.Fits)(t:Tm)(ht:t.Fin):a7 Tryz.prog 129 [s.d,t.d] (.ret [.bool (jQ s [t]&&oS t), .bool (jQ s [t]&&oS t&&Wq t), .i (rl (jQ s [t]))]):=by
 refine a7.aH mix VJ aF ?_
 rw[Y4]
 refine cS ?_
 refine ax (Sb s hs [t] aF (fun x hx=>by simp at hx;subst hx;exact ht)) rfl ?_
 cases h1:jQ s [t]with
 |false=>simp+contextual (disch:=first|omega|simp only[go_sem,false_implies]) only[go_sem,wrap64,if_pos,and_self];simp[rl]
 |true=>
  refine gB ?_
  refine bI (xJ t _ _ _ _ ?_)
  refine gB ?_
  refine oR (σ:=Bool) t ht.fits ht.lL [.ai, .ai, .ai, .ptr 1 0, .ai, .ai, .ai, .ptr 10 0] ?_ bF rfl dx zo (ab _ _ _)
   (fun b=>aw (aw (aw (aw (aw (fun _=> .no) 0 (.row s.row)) 1 (.row t.row)) 7 (.arr 0 33 3 [t.d])) 10 (.row [.d (.bool b)])) 13 (.row t.row)) (fun _=>none) EB (fun _=>True) true trivial rfl (fun id ay=> ?_) (fun _ _ _ _ _ _=>trivial) ?_ ?_
  ·exact Me
  ·rw[vU]
  ·intro L hL zg x hx s' h1 h2 o3 n3 hI hn ho K X eZ
   simp only[qH]
   have hg:=hI.cW
   have q1:o3 10= .row [.d (.bool s')]:=hI.eq 10 ad
   refine cS ?_
   refine oO hL (pd:=none) ?_ ?_
   ·(repeat first|rfl|rw[ab]|rw[af _ _ _ _ (by omega)])
    exact ho
   refine gC q1 ?_
   refine eZ _ _ _ .busy none ad ⟨dx,ad,fun id ay=> ?_⟩ bp (fun id h3 h4=>bp)
   by_cases e:id=10
   ·exact qq
   ·rw[af _ _ _ _ e];(repeat first|rfl|rw[ab]|rw[af _ _ _ _ (by omega)])
    rw[hI.eq id ay]
    simp only[aQ,e,if_false]
  ·intro o' n' hI
   have hf:=uY (pre t 1) true
   rw[Bool.true_and]at hf
   rw[hf]at hI
   have q0:o' 1= .row t.row:=hI.eq 1 ad
   have q1:o' 10= .row [.d (.bool (Wq t))]:=hI.eq 10 ad
   simp only[rS]
   refine gC (ae q0 q1) ?_
   refine ax (Lr t ht) rfl ?_
   cases hv:oS t<;>(simp+contextual (disch:=first|omega|simp only[go_sem,false_implies]) only[go_sem,wrap64,if_pos,q0,q1];refine aL bF ?_;simp+contextual (disch:=first|omega|simp only[go_sem,false_implies]) only[go_sem,wrap64,if_pos,and_self];simp[rl])
theorem Ja{v op n:Int}(h:op≠8):∀ (l:List Tm) (i:Nat),BZ v op n l i=l.any (gy v)
 |[],i=>rfl
 |k::l,i=>by
  have:(op==8)=false:=by simpa using h
  simp[BZ,Ja h l,this]
theorem OD{s:az}{t:Tm}(h:bG s t=true)(h1:t.op=1):t.kids=[]:=by
 simp[bG,h1]at h
 exact h.1
theorem xT:∀ (l:List Int) (n:Int),∃k,k<=l.length/\(∀x∈l.take k,x<n)/\(∀x,l[k]? =some x-> ¬x<n)/\pT l n=if l[k]? =some n then l else l.take k++n::l.drop k
 |[],n=>⟨0,Nat.zero_le _,aF,aF,by simp[pT]⟩
 |x::l,n=>by
  obtain⟨k,h1,h2,h3,h4⟩:=xT l n
  by_cases hx:x<n
  ·refine⟨k+1,by simp;omega, ?_,by simpa using h3, ?_⟩
   ·intro y hy
    simp only[List.take_succ_cons,List.mem_cons]at hy
    rcases hy with rfl|hy
    ·exact hx
    ·exact h2 y hy
   ·simp only[pT,if_pos hx,h4,List.getElem?_cons_succ,List.take_succ_cons,List.drop_succ_cons]
    split<;>simp
  ·refine⟨0,Nat.zero_le _,aF,by simpa using hx, ?_⟩
   simp only[pT,if_neg hx]
   by_cases e:x=n
   ·subst e;simp
   ·simp[e]
theorem aff(l:List Int)(n:Int)(hl:l.length<=1000000):a7 Tryz.prog 155 [.sl (l.map .i), .i n] (.ret [.sl ((pT l n).map .i)]):=by
 obtain⟨j,j1,j2,j3,j4⟩:=xT l n
 have tk:∀ (i:Nat) (l:List Int),List.take i (l.map D.i)=(l.take i).map D.i:=fun i l=>List.map_take.symm
 have dr:∀ (i:Nat) (l:List Int),List.drop i (l.map D.i)=(l.drop i).map D.i:=fun i l=>List.map_drop.symm
 have ap:∀ (a b:List Int),a.map D.i++[D.i n]++b.map D.i=(a++n::b).map D.i:=fun a b=>aF
 refine a7.aH mix aeO aF ?_
 rw[aeN]
 refine cS ?_
 refine aC (fun k:Nat=>⟨aY [.d (.sl (l.map .i)), .d (.i n), .ai, .ai, .ai, .d (.i k)],fun _=> .no,0⟩)
  (fun k=>k<=j) (fun k=>l.length - k) 0 (Nat.zero_le _) (bM.d0 _ ?_) (fun k hk=> ?_)
 ·exact dU
 by_cases hkj:k=j
 ·subst hkj
  by_cases h5:k<l.length
  ·obtain⟨x,hx⟩:=aA h5
   have h6:=j3 x hx
   have vG:(k:Int)<l.length:=ad
   refine gC (ae hx (ae vG h6)) ?_
   refine ak (fun h3=> ?_) (fun h3=> ?_)
   ·refine cS ?_
    have e:x=n:=by simpa using h3
    rw[j4,if_pos (by rw[hx,e])]
   ·have e: ¬x=n:=by simpa using h3
    rw[j4,if_neg (by rw[hx];simpa using e)]
    refine abt (ae hx (ae vG (ae h6 (ae tk dr)))) ?_
    rw[ap]
    refine aL bF ?_
    exact qo
  ·have vG: ¬ (k:Int)<l.length:=ad
   have hx:l[k]? =none:=by simp;omega
   rw[j4,if_neg (by rw[hx];simp)]
   refine abt (ae vG (ae tk dr)) ?_
   rw[ap]
   refine aL bF ?_
   exact qo
 ·have cD:k<l.length:=ad
  obtain⟨x,hx⟩:=aA cD
  have vG:(k:Int)<l.length:=ad
  have h6:x<n:=j2 x (List.mem_of_getElem? (i:=k) (by rw[List.getElem?_take_of_lt (by omega)];exact hx))
  refine gC (ae hx (ae vG h6)) ?_
  refine aj (k+1) ad ad (bM.d0 _ ?_)
  exact dU
theorem LC{op n:Int}{i:Nat}{l:List Int}{k:Nat}{v:Int}(h:l[k]? =some v)(out:List Int):qT op n i (l.take (k+1)) out=if(op !=8||(i:Int)!=1||v !=n)=true then pT (qT op n i (l.take k) out) v else qT op n i (l.take k) out:=by
 unfold qT
 rw[List.take_add_one,h,List.foldl_append]
 rfl
theorem ZU{t a body:Tm}{v:Int}(h8:t.op=8)(hk:t.kids=[a,body]):gy v t=(gy v a||(gy v body&& !(t.n==v))):=by
 rw[tY,hk,h8]
 simp[BZ]
theorem oU{v n:Int}:gy v (.mk 1 n [])=(n==v):=rfl
theorem OE{t:Tm}{v:Int}(h1:t.op≠1)(h8:t.op≠8):gy v t=t.kids.any (gy v):=by rw[tY,if_neg h1,Ja h8]
def ahS(R:Int->Int->Prop)(x y:Int):Int->Int->Prop:=fun v w=>(v=x/\w=y)\/(v≠x/\w≠y/\R v w)
inductive Al:(Int->Int->Prop)->Tm->Tm->Prop where
 |var {R:Int->Int->Prop} {v w:Int} (h:R v w):Al R (.mk 1 v []) (.mk 1 w [])
 |aiu {R:Int->Int->Prop} {n m:Int} {a a' b b':Tm} (ha:Al R a a') (hb:Al (ahS R n m) b b'):Al R (.mk 8 n [a,b]) (.mk 8 m [a',b'])
 |node {R:Int->Int->Prop} {op n:Int} {l l':List Tm} (h1:op≠1) (h8:op≠8) (hl:l.length=l'.length) (h:∀ (i:Nat) (k k':Tm),l[i]? =some k->l'[i]? =some k'->Al R k k'):Al R (.mk op n l) (.mk op n l')
theorem Sc{t:Tm}(hw:t.wf)(h:t.op=1):t= .mk 1 t.n []:=by
 obtain⟨op,n,kids⟩:=t
 rw[Tm.GW]at hw
 simp only[Tm.op,Tm.n,Tm.kids]at h hw|-
 rw[h,hw.1 h]
def IC.snd:IC->IC
 | .seq _ y=>y
 |c=>c
def IC.fst:IC->IC
 | .seq x _=>x
 | .block _ x=>x
 | .loop x=>x
 | .cond _ x _=>x
 |c=>c
@[reducible] def ahT (m:List (Int×Int)):aa:= .map 3 3 (enc (D.int .i64) (ints m))
@[reducible] def ahU (m:List (Int×Int)):aa:= .bZ (enc (D.int .i64) (ints m))
def BdV(o:Nat->aa)(bv:V)(m:List (Int×Int)):Prop:=(bv= .d .dX/\m=[])\/∃b,bv= .mp b/\o b=ahU m
structure ahV (o:Nat->aa) (nx cid fid:Nat) (bv:V) (mB bd fr:List (Int×Int)) (n:Int) (sz:Nat):Prop where
 cW:Good o nx
 hc:o cid= .row [.d (.i n), .mp fid]
 hf:o fid=ahT fr
 hb:BdV o bv mB
 kb:Keys mB
 lk:∀v,lk mB v=lk bd v
 n0:0<=n
 n1:n+sz<=1000000
@[go_sem] theorem abr {P:Program} {kt:TypeId} {k:D} {i:Nat}:findD P kt k [] i=some none:=rfl
theorem nC{c:Nat}{G:List Gr}{so:Nat->aa}{gone:Nat->Prop}{x x' y y':aa}(h:x=y)(h':x'=y')(hs:yX c G so gone y y'):yX c G so gone x x':=by rw[h,h'];exact hs
theorem nD:∀l:List Tm,l.length<=py l
 |[]=>by simp[py]
 |k::l=>by have:=nD l;have:=Tm.qR k;rw[mJ,List.length_cons];omega
theorem Tm.mW {t k:Tm}(hk:k∈t.kids):k.sz+1<=t.sz:=by
 have:=Tm.Ls hk
 rw[Tm.Ev,Tm.Ev]at this
 omega
theorem Tm.AB:∀t:Tm,t.lL<=t.sz:=by
 refine Tm.eM fun t ih=> ?_
 have h:Tm.gH t.kids<=t.sz - 1:=(lO _ _).2 fun k hk=>by have:=ih k hk;have:=Tm.mW hk;omega
 have:=Tm.qR t
 rw[Tm.iO]
 omega
theorem Tm.fq:∀t:Tm,t.sz<=1000000->t.fits:=by
 refine Tm.eM fun t ih h=> ?_
 rw[Tm.cH]
 refine⟨?_,fun k hk=>ih k hk (by have:=Tm.mW hk;omega)⟩
 have:=nD t.kids
 rw[Tm.iN]at h
 omega
def jR(b:List (Int×Tm)):List (Int×D):=b.map fun p=>(p.1,p.2.d)
@[reducible] def Ft (b:List (Int×Tm)):D:=mpD (jR b)
theorem xU:∀ (m:List (Int×Tm)) (v:Int) (i:Nat),(match j6 v (jR m) i with|some (_,x)=>some x|none=>none)=(bR m v).map Tm.d
 |[],_,_=>rfl
 |p::m,v,i=>by
  have ih:=xU m v (i+1)
  simp only[jR,List.map_cons,j6,bR]at ih|-
  by_cases h:v=p.1
  ·subst h;simp
  ·have h2: ¬p.1=v:=fun e=>h e.symm
   simp only[beq_iff_eq,h,h2,if_false]
   exact ih
theorem gI{m:List (Int×Tm)}{v:Int}{x:Tm}(h:bR m v=some x):∃j,j6 v (jR m) 0=some (j,x.d):=by
 have:=xU m v 0
 rw[h]at this
 cases h2:j6 v (jR m) 0 with
 |none=>rw[h2]at this;cases this
 |some p=>obtain⟨j,y⟩:=p;rw[h2]at this;simp at this;subst this;exact⟨j,rfl⟩
theorem dS{m:List (Int×Tm)}{v:Int}(h:bR m v=none):j6 v (jR m) 0=none:=by
 have:=xU m v 0
 rw[h]at this
 cases h2:j6 v (jR m) 0 with
 |none=>rfl
 |some p=>rw[h2]at this;cases this
theorem tZ{K:V->List (Nat×aa)->Prop}{id:Nat}{m:List (Int×Tm)}(h0:m=[]->K (.cf [.d (.bool false)]) [])
 (h1:∀ (i:Nat) k x,m[i]? =some (k,x)->K (.cf [.d (.bool true), .d (.int .i64 k), .d x.d]) [(id, .s8 (enc (D.int .i64) (jR (m.eraseIdx i))) (some (.int .i64 k,x.d)))]):Iy K id (enc (D.int .i64) (jR m)):=by
 refine Ll _ (fun h=>h0 ?_) fun i k x h=> ?_
 ·cases m with
  |nil=>rfl
  |cons x l=>simp[jR]at h
 ·unfold jR at h|-
  rw[List.getElem?_map]at h
  cases hm:m[i]? with
  |none=>rw[hm]at h;cases h
  |some p=>
   rw[hm]at h
   simp at h
   obtain⟨rfl,rfl⟩:=h
   have:=h1 i p.1 p.2 (by rw[hm])
   rw[nA]
   exact this
@[reducible] def dk (m:List (Int×Tm)):aa:= .map 3 33 (enc (D.int .i64) (jR m))
theorem xV{m:List (Int×Tm)}{v:Int}{x:Tm}(h:bR m v=none):Lk v x.d (jR m)=jR (m++[(v,x)]):=by
 unfold Lk
 rw[dS h]
 simp[jR]
def ql(n:Int)(m:List (Int×Int)):List (Int×Int):=m.filter fun p=>p.1!=n
theorem oV(s:az):∀t:Tm,jl s t=true->t.wf:=by
 refine Tm.eM fun t ih h=> ?_
 rw[mH,Bool.and_eq_true,List.all_eq_true]at h
 rw[Tm.GW]
 refine⟨fun h1=>OD h.1 h1,fun h8=> ?_,fun k hk=>ih k hk (h.2 k hk)⟩
 have:=h.1
 simp[bG,h8]at this
 omega
theorem Jb{s:az}{t:Tm}(h:il s t=true):t.wf/\t.sz<=40/\t.lL<=12:=by
 simp only[il,Bool.and_eq_true,decide_eq_true_eq,sw]at h
 exact⟨oV s t h.2,ad,ad⟩
def ag(l:List TB):List (Int×Tm):=l.map fun x=>(x.var,x.term)
theorem GY{s:az}{op n:Int}{l l':List Tm}(h:l'.length=l.length):bG s (.mk op n l')=bG s (.mk op n l):=by
 unfold bG
 dsimp only[Tm.op,Tm.n,Tm.kids]
 rw[h]
 rfl
theorem LD{s:az}{k:Int}(h:0<=k/\k<20):bG s (.mk 1 k [])=true:=by
 have:eS k 0 19=true:=by simp[eS];omega
 simp[bG,Tm.op,Tm.n,Tm.kids,this]
theorem OG{s:az}:∀t:Tm,jl s t=true->∀v,gy v t=true->0<=v/\v<20:=by
 refine Tm.eM fun t ih h v hv=> ?_
 have hw:=(Tm.GW t).1 (oV s t h)
 rw[mH,Bool.and_eq_true,List.all_eq_true]at h
 by_cases h1:t.op=1
 ·rw[tY,if_pos h1]at hv
  have hv:t.n=v:=by simpa using hv
  have:=h.1
  simp[bG,h1,eS]at this
  omega
 ·by_cases h8:t.op=8
  ·obtain⟨a,body,hk⟩:=ZT (hw.2.1 h8)
   rw[ZU h8 hk,Bool.or_eq_true,Bool.and_eq_true]at hv
   rcases hv with hv|hv
   ·exact ih a (by rw[hk];simp) (h.2 a (by rw[hk];simp)) v hv
   ·exact ih body (by rw[hk];simp) (h.2 body (by rw[hk];simp)) v hv.1
  ·rw[OE h1 h8,List.any_eq_true]at hv
   obtain⟨k,hk,hv⟩:=hv
   exact ih k hk (h.2 k hk) v hv
def findF(l:List TB)(n:Int):Int:=match l.findIdx? (·.var==n)with|some i=>i|none=> -1
theorem OH(l:List TB)(n:Int)(hl:l.length<=1000000):a7 Tryz.prog 123 [.sl (l.map TB.d), .i n] (.ret [.i (findF l n)]):=by
 refine a7.aH mix aex aF ?_
 rw[aew]
 refine cS ?_
 refine aC (fun k:Nat=>⟨aY [.d (.sl (l.map TB.d)), .d (.i n), .ai, .ai, .ai, .d (.i k)],fun _=> .no,0⟩)
  (fun k=>k<=l.length/\∀j x,j<k->l[j]? =some x->x.var≠n) (fun k=>l.length - k) 0 ⟨Nat.zero_le _,fun _ _ h=>absurd h ad⟩ (bM.d0 _ ?_) (fun k hk=> ?_)
 ·exact dU
 refine ra ?_
 refine ak (fun h2=> ?_) (fun h2=> ?_)
 ·simp at h2
  obtain⟨x,hx⟩:=aA h2
  refine eC hx ?_
  refine ak (fun h3=> ?_) (fun h3=> ?_)
  ·have j7:x.var=n:=by simpa using h3
   have:findF l n=k:=by
    have:l.findIdx? (·.var==n)=some k:=by
     rw[List.findIdx?_eq_some_iff_getElem]
     obtain⟨Dh,e⟩:=List.getElem?_eq_some_iff.1 hx
     refine⟨Dh,by rw[e];simpa using j7,fun j hj=> ?_⟩
     have:=hk.2 j _ hj (List.getElem?_eq_getElem ad)
     simpa using this
    rw[findF,this]
   exact FK
  ·have j7:x.var≠n:=by simpa using h3
   refine cS ?_
   refine aj (k+1) ⟨h2,fun j y hj hy=> ?_⟩ ad (bM.d0 _ ?_)
   ·by_cases e:j=k
    ·exact TS
    ·exact hk.2 j y ad hy
   ·exact dU
 ·simp at h2
  have:findF l n= -1:=by
   have:l.findIdx? (·.var==n)=none:=by
    rw[List.findIdx?_eq_none_iff]
    intro x hx
    obtain⟨j,hj,e⟩:=List.getElem_of_mem hx
    have:=hk.2 j x ad MB
    simpa using this
   rw[findF,this]
  exact FK
theorem sB(l:List TB)(n:Int):(findF l n<0/\bR (ag l) n=none)\/∃ (k:Nat) (x:TB),findF l n=k/\l[k]? =some x/\bR (ag l) n=some x.term:=by
 induction l with
 |nil=>left;exact⟨by simp[findF],rfl⟩
 |cons y l ih=>
  by_cases h:y.var=n
  ·right
   refine⟨0,y, ?_,rfl, ?_⟩
   ·simp[findF,List.findIdx?_cons,h]
   ·simp[ag,bR,h]
  ·have hf:bR (ag (y::l)) n=bR (ag l) n:=by simp[ag,bR,h]
   have h':(y.var==n)=false:=by simpa using h
   rw[hf]
   unfold findF at ih|-
   rw[List.findIdx?_cons,h']
   simp only[Bool.false_eq_true,if_false]
   rcases ih with⟨h1,h2⟩|⟨k,x,h1,h2,h3⟩
   ·left
    refine⟨?_,h2⟩
    cases hi:l.findIdx? (·.var==n)with
    |none=>simp
    |some i=>rw[hi]at h1;simp at h1;omega
   ·right
    refine⟨k+1,x, ?_,h2,h3⟩
    cases hi:l.findIdx? (·.var==n)with
    |none=>rw[hi]at h1;simp at h1;try omega
    |some i=>rw[hi]at h1;simp at h1|-;try omega
def lj(g:List Int)(i:Int):Nat:=(g.filter fun x=>decide (x<i)).length
theorem oW{g:List Int}{i:Int}(h:∀x∈g,i<=x):lj g i=0:=by
 unfold lj
 rw[List.filter_eq_nil_iff.2 (fun x hx=>by have:=h x hx;simp;omega)];rfl
theorem Sd{g:List Int}{i:Int}(h:∀x∈g,x<i):lj g i=g.length:=by
 unfold lj
 rw[List.filter_eq_self.2 (fun x hx=>by simpa using h x hx)]
theorem EC:∀ {g:List Int},GU g->∀i:Int,if i∈g then g[lj g i]? =some i/\lj g (i+1)=lj g i+1 else lj g (i+1)=lj g i
 |[],_,i=>by simp[lj]
 |x::g,hg,i=>by
  have Se:=List.pairwise_cons.1 hg
  have ih:=EC Se.2 i
  have hc:∀j,lj (x::g) j=(if x<j then 1 else 0)+lj g j:=fun j=>by
   unfold lj
   rw[List.filter_cons]
   by_cases e:x<j
   ·simp[e];omega
   ·simp[e]
  rcases Int.lt_trichotomy x i with h|h|h
  ·have hm:(i∈x::g)↔i∈g:=by simp;omega
   simp only[hm,hc,if_pos h,if_pos (show x<i+1 by omega)]
   split
   ·rename_i e
    rw[if_pos e]at ih
    refine⟨?_,ad⟩
    rw[show 1+lj g i=lj g i+1 by omega,List.getElem?_cons_succ]
    exact ih.1
   ·rename_i e
    rw[if_neg e]at ih
    omega
  ·subst h
   have z1:lj g x=0:=oW fun y hy=>by have:=Se.1 y hy;omega
   have z2:lj g (x+1)=0:=oW fun y hy=>by have:=Se.1 y hy;omega
   rw[if_pos (by simp),hc,hc,z1,z2,if_neg (by omega),if_pos (by omega)]
   exact⟨rfl,rfl⟩
  ·have hm: ¬i∈x::g:=by
    intro hm
    rcases List.mem_cons.1 hm with rfl|hm
    ·omega
    ·have:=Se.1 i hm;omega
   have z1:lj g i=0:=oW fun y hy=>by have:=Se.1 y hy;omega
   have z2:lj g (i+1)=0:=oW fun y hy=>by have:=Se.1 y hy;omega
   rw[if_neg hm,hc,hc,z1,z2,if_neg (by omega),if_neg (by omega)]
theorem B2{ns:List Int}(h:∀n∈ns,0<=n/\n<20)(hi:GU ns):ns.length<=20:=by
 have hc:∀k:Nat,lj ns (k:Int)<=k:=by
  intro k
  induction k with
  |zero=>show lj ns (0:Int)<=0;rw[oW (fun x hx=>(h x hx).1)];exact Nat.le_refl _
  |succ k ih=>
   have:=EC hi (k:Int)
   rw[Int.natCast_succ]
   split at this<;>omega
 have:lj ns (20:Int)<=20:=hc 20
 rwa [Sd (fun x hx=>(h x hx).2)]at this
mutual
def aO(b:List (Int×Tm)):Tm->Tm
 | .mk op n kids=>if op=1 then(match bR b n with|some x=>x|none=> .mk op n kids)else .mk op n (Sf b kids)
def Sf(b:List (Int×Tm)):List Tm->List Tm
 |[]=>[]
 |k::l=>aO b k::Sf b l
end
theorem ED(b:List (Int×Tm)):∀l:List Tm,Sf b l=l.map (aO b)
 |[]=>rfl
 |k::l=>by simp[Sf,ED b l]
theorem oX(b:List (Int×Tm))(t:Tm):aO b t=if t.op=1 then(match bR b t.n with|some x=>x|none=>t)else .mk t.op t.n (t.kids.map (aO b)):=by
 cases t;simp only[aO,ED,Tm.op,Tm.n,Tm.kids];rfl
def Lv(b:List (Int×Tm))(v:Int):Tm:=match bR b v with|some x=>x|none=> .mk 1 v []
def vop(t:Tm):Prop:=(1<=t.op/\t.op<=3)\/t.op=5
def Vs(s:az)(t:Tm):Prop:=jl s t=true/\fL t=true
theorem uc{s:az}{t:Tm}:Vs s t↔bG s t=true/\vop t/\∀k∈t.kids,Vs s k:=by
 unfold Vs vop
 rw[mH,tW]
 simp only[Bool.and_eq_true,List.all_eq_true,Bool.or_eq_true,decide_eq_true_eq,beq_iff_eq]
 constructor
 ·rintro⟨⟨h1,h2⟩,h3,h4⟩;exact⟨h1,h4,fun k hk=>⟨h2 k hk,h3 k hk⟩⟩
 ·rintro⟨h1,h2,h3⟩;exact⟨⟨h1,fun k hk=>(h3 k hk).1⟩,fun k hk=>(h3 k hk).2,h2⟩
theorem Vs.lu {s:az}{t k:Tm}(h:Vs s t)(hk:k∈t.kids):Vs s k:=(uc.1 h).2.2 k hk
theorem Vs.eta {s:az}{t:Tm}(h:Vs s t)(h1:t.op=1):t= .mk 1 t.n []:=Sc (oV s t h.1) h1
theorem Vs.n8 {s:az}{t:Tm}(h:Vs s t):t.op≠8:=by rcases(uc.1 h).2.1 with h|h<;>omega
theorem Vs.range {s:az}{t:Tm}(h:Vs s t){v:Int}(hv:gy v t=true):0<=v/\v<20:=OG t h.1 v hv
theorem Vs.var {s:az}{v:Int}(h:0<=v/\v<20):Vs s (.mk 1 v []):=uc.2 ⟨LD h,Or.inl ⟨by show(1:Int)<=1;omega,by show(1:Int)<=3;omega⟩,fun k hk=>by cases hk⟩
theorem Vs.mk' {s:az}{t:Tm}{l:List Tm}(h:Vs s t)(hl:l.length=t.kids.length)(hk:∀k∈l,Vs s k):Vs s (.mk t.op t.n l):=
 uc.2 ⟨by rw[GY hl,Tm.eta];exact(uc.1 h).1,(uc.1 h).2.1,hk⟩
theorem iy{t:Tm}(h1:t.op=1){v:Int}:gy v t=true↔t.n=v:=by rw[tY,if_pos h1];simp
theorem qm{s:az}{t:Tm}(h:Vs s t)(h1:t.op≠1){v:Int}:gy v t=true↔∃k∈t.kids,gy v k=true:=by rw[OE h1 h.n8,List.any_eq_true]
theorem dW{b:List (Int×Tm)}{s:az}{t:Tm}(h:Vs s t)(h1:t.op=1):aO b t=Lv b t.n:=by
 rw[oX,if_pos h1,Lv]
 cases bR b t.n with
 |some x=>rfl
 |none=>exact h.eta h1
theorem dJ{b:List (Int×Tm)}{v:Int}:aO b (.mk 1 v [])=Lv b v:=by rw[oX];rfl
theorem eo{b:List (Int×Tm)}{t:Tm}(h1:t.op≠1):aO b t= .mk t.op t.n (t.kids.map (aO b)):=by rw[oX,if_neg h1]
theorem EE{s:az}{b c:List (Int×Tm)}:∀t:Tm,Vs s t->(∀v,gy v t=true->Lv b v=Lv c v)->aO b t=aO c t:=by
 refine Tm.eM fun t ih hv h=> ?_
 by_cases h1:t.op=1
 ·rw[dW hv h1,dW hv h1,h _ ((iy h1).2 rfl)]
 ·rw[eo h1,eo h1,List.map_congr_left fun k hk=>ih k hk (hv.lu hk) fun v LF=>h v ((qm hv h1).2 ⟨k,hk,LF⟩)]
theorem sC{s:az}{b c d:List (Int×Tm)}:∀t:Tm,Vs s t->(∀v,gy v t=true->aO c (Lv b v)=Lv d v)->aO c (aO b t)=aO d t:=by
 refine Tm.eM fun t ih hv h=> ?_
 by_cases h1:t.op=1
 ·rw[dW hv h1,dW hv h1,h _ ((iy h1).2 rfl)]
 ·rw[eo h1,eo h1 (b:=d),eo (by exact h1)]
  show Tm.mk t.op t.n ((t.kids.map (aO b)).map (aO c))=_
  rw[List.map_map,List.map_congr_left (f:=aO c∘aO b) (g:=aO d) fun k hk=>ih k hk (hv.lu hk) fun v LF=>h v ((qm hv h1).2 ⟨k,hk,LF⟩)]
theorem sD{s:az}{b:List (Int×Tm)}:∀t:Tm,Vs s t->(∀v,gy v t=true->bR b v=none)->aO b t=t:=by
 refine Tm.eM fun t ih hv h=> ?_
 by_cases h1:t.op=1
 ·rw[dW hv h1,Lv,h _ ((iy h1).2 rfl)]
  exact(hv.eta h1).symm
 ·rw[eo h1,List.map_congr_left (g:=id) fun k hk=>ih k hk (hv.lu hk) fun v LF=>h v ((qm hv h1).2 ⟨k,hk,LF⟩),List.map_id]
  exact Tm.eta t
theorem Vs.Lv {s:az}{b:List (Int×Tm)}(hb:∀p∈b,Vs s p.2){v:Int}(h:0<=v/\v<20):Vs s (Lv b v):=by
 unfold YtlhemmpklhhgoaaGreat.Lv
 cases hl:bR b v with
 |some x=>exact hb _ (cm hl)
 |none=>exact Vs.var h
theorem Vs.sub {s:az}{b:List (Int×Tm)}(hb:∀p∈b,Vs s p.2):∀t:Tm,Vs s t->Vs s (aO b t):=by
 refine Tm.eM fun t ih hv=> ?_
 by_cases h1:t.op=1
 ·rw[dW hv h1];exact Vs.Lv hb (hv.range ((iy h1).2 rfl))
 ·rw[eo h1]
  refine hv.mk' aF fun k hk=> ?_
  obtain⟨x,hx,rfl⟩:=List.mem_map.1 hk
  exact ih x hx (hv.lu hx)
theorem uZ{s:az}{b:List (Int×Tm)}(hb:∀p∈b,Vs s p.2):∀t:Tm,Vs s t->∀v,gy v (aO b t)=true↔∃u,gy u t=true/\gy v (Lv b u)=true:=by
 refine Tm.eM fun t ih hv v=> ?_
 by_cases h1:t.op=1
 ·rw[dW hv h1]
  simp only[iy h1]
  exact⟨fun h=>⟨_,rfl,h⟩,fun⟨u,e,h⟩=>e ▸ h⟩
 ·have vV:=Vs.sub hb t hv
  rw[eo h1]at vV|-
  rw[qm vV (by exact h1)]
  simp only[qm hv h1,Tm.kids,List.mem_map]
  constructor
  ·rintro⟨_,⟨k,hk,rfl⟩,h⟩
   obtain⟨u,h2,h3⟩:=(ih k hk (hv.lu hk) v).1 h
   exact⟨u,⟨k,hk,h2⟩,h3⟩
  ·rintro⟨u,⟨k,hk,h2⟩,h3⟩
   exact⟨_,⟨k,hk,rfl⟩,(ih k hk (hv.lu hk) v).2 ⟨u,h2,h3⟩⟩
theorem afg{b:List (Int×Tm)}{t:Tm}(h1:t.op≠1):(aO b t).op=t.op/\(aO b t).n=t.n/\(aO b t).kids=t.kids.map (aO b):=by rw[eo h1];exact⟨rfl,rfl,rfl⟩
def ud:List TB->Int->Tm->List TB
 |[],n,t=>[⟨n,t⟩]
 |x::l,n,t=>if x.var<n then x::ud l n t else⟨n,t⟩::x::l
abbrev vB(n:Int)(t:Tm):List (Int×Tm):=[(n,t)]
def iP(l:List TB)(n:Int)(t:Tm):List TB:=ud (l.map fun x=>⟨x.var,aO (vB n t) x.term⟩) n t
def bH(F:Tm->Tm->List TB->Option (List TB×Bool)):List Tm->List Tm->List TB->Option (List TB×Bool)
 |k::ks,k'::cK,l=>match F k k' l with
  |some (l1,true)=>bH F ks cK l1
  |some (l1,false)=>some (l1,false)
  |none=>none
 |_,_,l=>some (l,true)
def da:Nat->Tm->Tm->List TB->Option (List TB×Bool)
 |0,_,_,_=>none
 |f+1,a,c,l=>
  if iH (aO (ag l) a) (aO (ag l) c)=true then some (l,true)
  else if(aO (ag l) a).op=1/\(aO (ag l) c).op=1 then some (iP l (max (aO (ag l) a).n (aO (ag l) c).n) (.mk 1 (min (aO (ag l) a).n (aO (ag l) c).n) []),true)
  else if(aO (ag l) a).op=1 then some (iP l (aO (ag l) a).n (aO (ag l) c), !(cQ (aO (ag l) c)).contains (aO (ag l) a).n)
  else if(aO (ag l) c).op=1 then some (iP l (aO (ag l) c).n (aO (ag l) a), !(cQ (aO (ag l) a)).contains (aO (ag l) c).n)
  else if(aO (ag l) a).op≠(aO (ag l) c).op\/(aO (ag l) a).n≠(aO (ag l) c).n\/(aO (ag l) a).kids.length≠(aO (ag l) c).kids.length then some ([],false)
  else bH (da f) (aO (ag l) a).kids (aO (ag l) c).kids l
theorem ZV{l:List TB}{n:Int}{t:Tm}(hn:bR (ag l) n=none)(v:Int):bR (ag (ud l n t)) v=if v=n then some t else bR (ag l) v:=by
 induction l with
 |nil=>
  simp only[ud,ag,List.map_cons,List.map_nil,bR]
  by_cases e:v=n
  ·simp[e]
  ·exact Mu
 |cons x l ih=>
  simp only[ag,List.map_cons,bR]at hn
  by_cases e1:x.var=n
  ·rw[if_pos e1]at hn;cases hn
  ·rw[if_neg e1]at hn
   have ih:=ih hn
   simp only[ud]
   split
   ·simp only[ag,List.map_cons,bR]at ih|-
    by_cases e:x.var=v
    ·rw[if_pos e,if_pos e,if_neg fun h=>e1 (e.trans h)]
    ·rw[if_neg e,if_neg e];exact ih
   ·simp only[ag,List.map_cons,bR]
    by_cases e:v=n
    ·simp[e]
    ·exact Mu
theorem OI(l:List TB)(g:Tm->Tm)(v:Int):bR (ag (l.map fun x=>⟨x.var,g x.term⟩)) v=(bR (ag l) v).map g:=by
 induction l with
 |nil=>rfl
 |cons x l ih=>
  simp only[ag,List.map_cons,bR]at ih|-
  split
  ·rfl
  ·exact ih
theorem vW{l:List TB}{n:Int}{t:Tm}(hn:bR (ag l) n=none)(v:Int):bR (ag (iP l n t)) v=if v=n then some t else(bR (ag l) v).map (aO (vB n t)):=by
 unfold iP
 rw[ZV (by rw[OI,hn];rfl),OI]
theorem ue{n v:Int}{t:Tm}:Lv (vB n t) v=if v=n then t else .mk 1 v []:=by
 simp only[Lv,vB,bR]
 by_cases e:v=n
 ·simp[e]
 ·exact Mu
theorem jq{l:List TB}{n:Int}{t:Tm}(hn:bR (ag l) n=none)(v:Int):Lv (ag (iP l n t)) v=if v=n then t else aO (vB n t) (Lv (ag l) v):=by
 simp only[Lv,vW hn]
 by_cases e:v=n
 ·simp[e]
 ·simp only[if_neg e]
  cases h:bR (ag l) v with
  |some x=>rfl
  |none=>simp only[Option.map_none];rw[dJ,ue,if_neg e]
structure dK (s:az) (l:List TB):Prop where
 ZW:l.Pairwise fun x y=>x.var<y.var
 ok:∀x∈l,(0<=x.var/\x.var<20)/\Vs s x.term
 idem:∀x∈l,∀u,gy u x.term=true->bR (ag l) u=none
theorem dK.nil {s:az}:dK s []:=⟨List.Pairwise.nil,fun _ h=>lA,fun _ h=>lA⟩
theorem dK.bd {s:az}{l:List TB}(h:dK s l):∀p∈ag l,Vs s p.2:=fun p hp=>by
 obtain⟨x,hx,rfl⟩:=List.mem_map.1 hp
 exact(h.ok x hx).2
theorem mK{l:List TB}{v:Int}{t:Tm}(h:bR (ag l) v=some t):∃x∈l,x.var=v/\x.term=t:=by
 obtain⟨x,hx,e⟩:=List.mem_map.1 (cm h)
 injection e with e1 e2
 exact⟨x,hx,e1,e2⟩
theorem dK.Jc {s:az}{l:List TB}(h:dK s l){v u:Int}(hu:gy u (Lv (ag l) v)=true):bR (ag l) u=none:=by
 unfold Lv at hu
 cases hl:bR (ag l) v with
 |some x=>
  rw[hl]at hu
  obtain⟨y,hy,e1,e2⟩:=mK hl
  exact h.idem y hy u (e2 ▸ hu)
 |none=>
  rw[hl]at hu
  have:v=u:=by rw[oU]at hu;simpa using hu
  exact this ▸ hl
theorem dK.free {s:az}{l:List TB}(h:dK s l){t:Tm}(ht:Vs s t){u:Int}(hu:gy u (aO (ag l) t)=true):bR (ag l) u=none:=by
 obtain⟨w,_,h2⟩:=(uZ h.bd t ht u).1 hu
 exact h.Jc h2
theorem dK.afh {s:az}{l:List TB}(h:dK s l){t:Tm}(ht:Vs s t):aO (ag l) (aO (ag l) t)=aO (ag l) t:=sD (s:=s) _ (Vs.sub h.bd t ht) fun v hv=>h.free ht hv
def mm(l l':List TB):Prop:=∀v,aO (ag l') (Lv (ag l) v)=Lv (ag l') v
theorem mm.sub {s:az}{l l':List TB}(h:mm l l'){t:Tm}(ht:Vs s t):aO (ag l') (aO (ag l) t)=aO (ag l') t:=sC t ht fun v _=>h v
theorem mm.refl {s:az}{l:List TB}(h:dK s l):mm l l:=fun v=>by
 cases hl:bR (ag l) v with
 |none=>rw[show Lv (ag l) v= .mk 1 v [] by simp[Lv,hl],dJ];simp[Lv,hl]
 |some x=>
  have hx:Lv (ag l) v=x:=by simp[Lv,hl]
  obtain⟨y,hy,e1,e2⟩:=mK hl
  rw[hx]
  exact sD (s:=s) x (e2 ▸ (h.ok y hy).2) fun u hu=>h.idem y hy u (e2 ▸ hu)
theorem mm.trans {s:az}{l l' l'':List TB}(hl:dK s l)(h:mm l l')(h':mm l' l'')(hr:∀v,bR (ag l) v≠none->0<=v/\v<20):mm l l'':=fun v=>by
 cases hv:bR (ag l) v with
 |none=>rw[show Lv (ag l) v= .mk 1 v [] by simp[Lv,hv],dJ]
 |some x=>
  have hx:Lv (ag l) v=x:=by simp[Lv,hv]
  obtain⟨y,hy,e1,e2⟩:=mK hv
  have vV:Vs s x:=e2 ▸ (hl.ok y hy).2
  rw[hx, <- h'.sub vV, <- hx,h v,h' v]
theorem dK.vX {s:az}{l:List TB}(h:dK s l){v:Int}(hv:bR (ag l) v≠none):0<=v/\v<20:=by
 cases hl:bR (ag l) v with
 |none=>exact absurd hl hv
 |some x=>obtain⟨y,hy,e1,e2⟩:=mK hl;exact e1 ▸ (h.ok y hy).1
theorem vY{l:List TB}{n:Int}{t:Tm}{x:TB}:x∈ud l n t↔x=⟨n,t⟩\/x∈l:=by
 induction l with
 |nil=>simp[ud]
 |cons y l ih=>
  simp only[ud]
  split
  ·simp only[List.mem_cons,ih]
   constructor
   ·rintro(h|h|h)
    ·exact Or.inr (Or.inl h)
    ·exact Or.inl h
    ·exact Or.inr (Or.inr h)
   ·rintro(h|h|h)
    ·exact Or.inr (Or.inl h)
    ·exact Or.inl h
    ·exact Or.inr (Or.inr h)
  ·simp only[List.mem_cons]
theorem Sg{l:List TB}{n:Int}{t:Tm}(h:l.Pairwise fun x y=>x.var<y.var)(hn:∀x∈l,x.var≠n):(ud l n t).Pairwise fun x y=>x.var<y.var:=by
 induction l with
 |nil=>simp[ud]
 |cons y l ih=>
  rw[List.pairwise_cons]at h
  simp only[ud]
  split
  ·rename_i hy
   rw[List.pairwise_cons]
   refine⟨fun z hz=> ?_,ih h.2 fun x hx=>hn x pN⟩
   rcases vY.1 hz with rfl|hz
   ·exact hy
   ·exact h.1 z hz
  ·rename_i hy
   have:=hn y aF
   rw[List.pairwise_cons,List.pairwise_cons]
   refine⟨fun z hz=> ?_,h⟩
   rcases List.mem_cons.1 hz with rfl|hz
   ·show n<z.var;omega
   ·have:=h.1 z hz;show n<z.var;omega
theorem yZ{l:List TB}{n:Int}(h:bR (ag l) n=none):∀x∈l,x.var≠n:=fun x hx e=>by
 rw[kW]at h
 exact h (List.mem_map.2 ⟨(x.var,x.term),List.mem_map.2 ⟨x,hx,rfl⟩,e⟩)
theorem sE{s:az}{l:List TB}(h:dK s l){n:Int}{t:Tm}(hr:0<=n/\n<20)(hn:bR (ag l) n=none)(ht:Vs s t)(hf:∀u,gy u t=true->bR (ag l) u=none)(RB: ¬gy n t=true):dK s (iP l n t):=by
 have h1:∀p∈vB n t,Vs s p.2:=fun p hp=>by simp[vB]at hp;subst hp;exact ht
 have OJ:∀u,u≠n->bR (ag l) u=none->bR (ag (iP l n t)) u=none:=fun u e hu=>by rw[vW hn,if_neg e,hu];rfl
 refine⟨?_,fun x hx=> ?_,fun x hx u hu=> ?_⟩
 ·refine Sg ?_ ?_
  ·rw[List.pairwise_map];exact h.ZW
  ·intro x hx
   obtain⟨y,hy,rfl⟩:=List.mem_map.1 hx
   exact yZ hn y hy
 ·rcases vY.1 hx with rfl|hx
  ·exact⟨hr,ht⟩
  ·obtain⟨y,hy,rfl⟩:=List.mem_map.1 hx
   exact⟨(h.ok y hy).1,Vs.sub h1 _ (h.ok y hy).2⟩
 ·rcases vY.1 hx with rfl|hx
  ·exact OJ u (fun e=>RB (e ▸ hu)) (hf u hu)
  ·obtain⟨y,hy,rfl⟩:=List.mem_map.1 hx
   obtain⟨w,hw,UE⟩:=(uZ h1 _ (h.ok y hy).2 u).1 hu
   rw[ue]at UE
   split at UE
   ·exact OJ u (fun e=>RB (e ▸ UE)) (hf u UE)
   ·rename_i e
    have:w=u:=by rw[oU]at UE;simpa using UE
    subst this
    exact OJ w e (h.idem y hy w hw)
theorem xW{s:az}{l:List TB}(h:dK s l){n:Int}{t:Tm}(hn:bR (ag l) n=none):mm l (iP l n t):=fun v=>by
 cases hl:bR (ag l) v with
 |none=>rw[show Lv (ag l) v= .mk 1 v [] by simp[Lv,hl],dJ]
 |some x=>
  have hx:Lv (ag l) v=x:=by simp[Lv,hl]
  obtain⟨y,hy,e1,e2⟩:=mK hl
  have hvn:v≠n:=fun e=>by rw[e,hn]at hl;cases hl
  rw[jq hn,if_neg hvn,hx]
  refine EE (s:=s) x (e2 ▸ (h.ok y hy).2) fun u hu=> ?_
  have hu2:bR (ag l) u=none:=h.idem y hy u (e2 ▸ hu)
  rw[jq hn,show Lv (ag l) u= .mk 1 u [] by simp[Lv,hu2],dJ,ue]
  split<;>rfl
theorem dK.EF {s:az}{l:List TB}(h:dK s l){t:Tm}(ht:Vs s t)(h1:(aO (ag l) t).op=1):(0<=(aO (ag l) t).n/\(aO (ag l) t).n<20)/\bR (ag l) (aO (ag l) t).n=none/\aO (ag l) t= .mk 1 (aO (ag l) t).n []:=by
 have hv:=Vs.sub h.bd t ht
 have hf:gy (aO (ag l) t).n (aO (ag l) t)=true:=(iy h1).2 rfl
 exact⟨hv.range hf,h.free ht hf,hv.eta h1⟩
theorem gU{s:az}:∀ (f:Nat) (a c:Tm) (l l':List TB),da f a c l=some (l',true)->dK s l->Vs s a->Vs s c->dK s l'/\mm l l'
 |0,_,_,_,_,h,_,_,_=>by cases h
 |f+1,a,c,l,l',h,hl,ha,hc=>by
  have va:=Vs.sub hl.bd a ha
  have vc:=Vs.sub hl.bd c hc
  have fa:=fun u=>hl.free ha (u:=u)
  have fc:=fun u=>hl.free hc (u:=u)
  have na:=hl.EF ha
  have nc:=hl.EF hc
  simp only[da]at h
  generalize aO (ag l) a=a0 at*
  generalize aO (ag l) c=c0 at*
  split at h
  ·injection h with h;injection h with h;subst h;exact⟨hl,mm.refl hl⟩
  ·rename_i hs
   split at h
   ·rename_i h1
    injection h with h;injection h with h;subst h
    obtain⟨r1,u1,e1⟩:=na h1.1
    obtain⟨r2,u2,e2⟩:=nc h1.2
    have fS:a0.n≠c0.n:=fun e=>hs (by rw[ek,e1,e2,e])
    have wM:bR (ag l) (max a0.n c0.n)=none:=by rcases Int.le_total a0.n c0.n with h|h<;>simp[Int.max_def]<;>split<;>assumption
    have Sh:bR (ag l) (min a0.n c0.n)=none:=by rcases Int.le_total a0.n c0.n with h|h<;>simp[Int.min_def]<;>split<;>assumption
    refine⟨sE hl ad wM (Vs.var ad) (fun u hu=> ?_) (fun hu=> ?_),xW hl wM⟩
    ·have:min a0.n c0.n=u:=by rw[oU]at hu;simpa using hu
     exact this ▸ Sh
    ·have:min a0.n c0.n=max a0.n c0.n:=by rw[oU]at hu;simpa using hu
     omega
   ·split at h
    ·rename_i h1 h2
     injection h with h;injection h with h h3;subst h
     obtain⟨r1,u1,e1⟩:=na h2
     have kZ: ¬gy a0.n c0=true:=fun hh=>by
      have:(cQ c0).contains a0.n=true:=List.contains_iff_mem.2 (((cV c0).2 _).2 hh)
      exact HM
     exact⟨sE hl r1 u1 vc (fun u hu=>fc u hu) kZ,xW hl u1⟩
    ·split at h
     ·rename_i h1 h2 j7
      injection h with h;injection h with h h3;subst h
      obtain⟨r2,u2,e2⟩:=nc j7
      have kZ: ¬gy c0.n a0=true:=fun hh=>by
       have:(cQ a0).contains c0.n=true:=List.contains_iff_mem.2 (((cV a0).2 _).2 hh)
       exact HM
      exact⟨sE hl r2 u2 va (fun u hu=>fa u hu) kZ,xW hl u2⟩
     ·split at h
      ·injection h with h;injection h with _ h;cases h
      ·have key:∀ (ks cK:List Tm) (l:List TB),(∀k∈ks,Vs s k)->(∀k∈cK,Vs s k)->dK s l->bH (da f) ks cK l=some (l',true)->dK s l'/\mm l l':=by
        intro ks
        induction ks with
        |nil=>intro cK l _ _ hl h;simp only[bH]at h;injection h with h;injection h with h;subst h;exact⟨hl,mm.refl hl⟩
        |cons k ks vC=>
         intro cK l h1 h2 hl h
         cases cK with
         |nil=>simp only[bH]at h;injection h with h;injection h with h;subst h;exact⟨hl,mm.refl hl⟩
         |cons k' cK=>
          simp only[bH]at h
          split at h
          ·rename_i l1 e
           obtain⟨g1,g2⟩:=gU f k k' l l1 e hl (h1 k aF) (h2 k' aF)
           obtain⟨g3,g4⟩:=vC cK l1 (fun x hx=>h1 x pN) (fun x hx=>h2 x pN) g1 h
           exact⟨g3,g2.trans hl g4 (fun v=>hl.vX)⟩
          ·injection h with h;injection h with _ h;cases h
          ·cases h
       exact key _ _ _ (fun k hk=>va.lu hk) (fun k hk=>vc.lu hk) hl h
def lU:Nat->List (Int×Tm)->Tm->Option Tm
 |0,_,_=>none
 |f+1,b,t=>if t.op=1 then(match bR b t.n with|some x=>lU f b x|none=>some t)else some t
theorem fO{b:List (Int×Tm)}:∀ {f g:Nat} {t x:Tm},lU f b t=some x->f<=g->lU g b t=some x
 |0,_,_,_,h,_=>by cases h
 |f+1,0,_,_,_,h=>ad
 |f+1,g+1,t,x,h,hg=>by
  simp only[lU]at h|-
  split
  ·rename_i h1
   rw[if_pos h1]at h
   cases hl:bR b t.n with
   |none=>rw[hl]at h;exact h
   |some y=>rw[hl]at h;exact fO (f:=f) h ad
  ·rename_i h1
   rw[if_neg h1]at h
   exact h
structure kp (s:az) (b:List (Int×Tm)) (l:List TB) (ρ:Int->Nat) (R:Nat):Prop where
 keys:(b.map (·.1)).Nodup
 vX:∀v,bR b v=none↔bR (ag l) v=none
 ok:∀v x,bR b v=some x->Vs s x/\Lv (ag l) v=aO (ag l) x/\∀u,gy u x=true->ρ u<ρ v
 bd:∀v,ρ v<=R
theorem kp.nil {s:az}:kp s [] [] (fun _=>0) 0:=⟨List.nodup_nil,fun _=>Iff.rfl,fun _ _ h=>lA,fun _=>Nat.le_refl _⟩
theorem kp.at {s:az}{b:List (Int×Tm)}{l:List TB}{ρ:Int->Nat}{R:Nat}(h:kp s b l ρ R):∀ (m:Nat) (t:Tm),Vs s t->(t.op=1->ρ t.n<=m)->∃x,lU (m+2) b t=some x/\Vs s x/\aO (ag l) x=aO (ag l) t/\(x.op=1->bR b x.n=none)/\(t.op≠1->x=t)/\(t.op=1->(∀u,gy u x=true->ρ u<=ρ t.n)/\(x.op≠1->∀u,gy u x=true->ρ u<ρ t.n)):=by
 intro m
 induction m with
 |zero=>
  intro t hv hm
  by_cases h1:t.op=1
  ·cases hl:bR b t.n with
   |none=>
    exact aco
   |some x=>
    obtain⟨g1,g2,g3⟩:=h.ok _ _ hl
    by_cases hx:x.op=1
    ·have:=g3 x.n ((iy hx).2 rfl)
     have:=hm h1
     omega
    ·refine⟨x,by simp only[lU,if_pos h1,hl,if_neg hx],g1,by rw[<- g2,dW hv h1],fun h=>absurd h hx,fun h=>absurd h1 h,fun _=>⟨fun u hu=>Nat.le_of_lt (g3 u hu),fun _=>g3⟩⟩
  ·exact abV
 |succ m ih=>
  intro t hv hm
  by_cases h1:t.op=1
  ·cases hl:bR b t.n with
   |none=>
    exact aco
   |some x=>
    obtain⟨g1,g2,g3⟩:=h.ok _ _ hl
    obtain⟨y,i1,i2,i3,i4,i5,i6⟩:=ih x g1 (fun hx=>by have:=g3 x.n ((iy hx).2 rfl);have:=hm h1;omega)
    refine⟨y,by rw[lU,if_pos h1,hl];exact i1,i2,by rw[i3, <- g2,dW hv h1],i4,fun h=>absurd h1 h,fun _=> ?_⟩
    by_cases hx:x.op=1
    ·have g4:=g3 x.n ((iy hx).2 rfl)
     exact⟨fun u hu=>by have:=(i6 hx).1 u hu;omega,fun h2 u hu=>by have:=(i6 hx).2 h2 u hu;omega⟩
    ·rw[i5 hx]
     exact⟨fun u hu=>Nat.le_of_lt (g3 u hu),fun _=>g3⟩
  ·exact abV
theorem kp.root {s:az}{b:List (Int×Tm)}{l:List TB}{ρ:Int->Nat}{R:Nat}(h:kp s b l ρ R){t:Tm}(hv:Vs s t):∃x,lU (R+2) b t=some x/\Vs s x/\aO (ag l) x=aO (ag l) t/\(x.op=1->bR b x.n=none)/\(t.op≠1->x=t)/\(t.op=1->(∀u,gy u x=true->ρ u<=ρ t.n)/\(x.op≠1->∀u,gy u x=true->ρ u<ρ t.n)):=
 h.at R t hv fun _=>h.bd _
theorem EG(l:List (Int×Tm))(p:Int×Tm)(v:Int):bR (l++[p]) v=match bR l v with|some x=>some x|none=>if p.1=v then some p.2 else none:=by
 induction l with
 |nil=>simp[bR]
 |cons q l ih=>
  simp only[List.cons_append,bR]
  split
  ·rfl
  ·exact ih
theorem one_sub{s:az}{l:List TB}{n:Int}{t:Tm}(hn:bR (ag l) n=none){x:Tm}(hx:Vs s x):aO (vB n t) (aO (ag l) x)=aO (ag (iP l n t)) x:=by
 refine sC x hx fun u _=> ?_
 rw[jq hn]
 split
 ·rename_i e
  rw[e,show Lv (ag l) n= .mk 1 n [] by simp[Lv,hn],dJ,ue,if_pos rfl]
 ·rfl
theorem kp.ext {s:az}{b:List (Int×Tm)}{l:List TB}{ρ:Int->Nat}{R:Nat}(h:kp s b l ρ R)(hl:dK s l){n:Int}(hn:bR b n=none){y:Tm}(hy:Vs s y)(hny: ¬gy n (aO (ag l) y)=true):
 ∃GZ R',kp s (b++[(n,y)]) (iP l n (aO (ag l) y)) GZ R':=by
 have Na:=(h.vX n).1 hn
 refine⟨fun v=>if gy n (Lv (ag l) v)=true then R+1+ρ v else ρ v,2*R+1, ?_,fun v=> ?_,fun v x hx=> ?_,fun v=> ?_⟩
 ·rw[List.map_append,List.map_cons,List.map_nil,List.nodup_append]
  refine⟨h.keys,aF,fun a ha c hc=> ?_⟩
  simp at hc
  subst hc
  exact fun e=>(kW.1 hn) (e ▸ ha)
 ·rw[EG,vW Na]
  by_cases e:v=n
  ·subst e;simp[hn]
  ·rw[if_neg e]
   cases hv:bR b v with
   |some x=>
    simp only[reduceCtorEq,false_iff]
    intro h2
    cases h3:bR (ag l) v with
    |some y=>rw[h3]at h2;cases h2
    |none=>rw[(h.vX v).2 h3]at hv;cases hv
   |none=>
    simp[(h.vX v).1 hv]
    exact fun h=>e h.symm
 ·rw[EG]at hx
  cases hv:bR b v with
  |some z=>
   rw[hv]at hx
   injection hx with hx
   subst hx
   have hvn:v≠n:=fun e=>by rw[e,hn]at hv;cases hv
   obtain⟨g1,g2,g3⟩:=h.ok v z hv
   refine⟨g1,by rw[jq Na,if_neg hvn,g2,one_sub Na g1],fun u hu=> ?_⟩
   have h3:=g3 u hu
   have h4:gy n (Lv (ag l) u)=true->gy n (Lv (ag l) v)=true:=fun h5=>by rw[g2];exact(uZ hl.bd z g1 n).2 ⟨u,hu,h5⟩
   by_cases h5:gy n (Lv (ag l) u)=true
   ·rw[if_pos h5,if_pos (h4 h5)];omega
   ·rw[if_neg h5];split<;>omega
  |none=>
   rw[hv]at hx
   simp only at hx
   split at hx
   ·rename_i e
    injection hx with hx
    subst hx;subst e
    refine⟨hy, ?_,fun u hu=> ?_⟩
    ·rw[jq Na,if_pos rfl, <- one_sub Na hy]
     exact(sD (s:=s) _ (Vs.sub hl.bd y hy) fun v hv=>by
      have: ¬n=v:=fun e=>by subst e;exact hny hv
      simp[vB,bR,this]).symm
    ·have h5: ¬gy n (Lv (ag l) u)=true:=fun h5=>hny ((uZ hl.bd y hy n).2 ⟨u,hu,h5⟩)
     have h6:gy n (Lv (ag l) n)=true:=by rw[show Lv (ag l) n= .mk 1 n [] by simp[Lv,Na],oU];simp
     have:=h.bd u
     simp only[if_neg h5,if_pos h6]
     omega
   ·cases hx
 ·have:=h.bd v
  split<;>omega
theorem vZ{s:az}{l:List TB}{b:List (Int×Tm)}{ρ:Int->Nat}{R:Nat}(h:kp s b l ρ R){x:Tm}(hx:Vs s x)(hr:x.op=1->bR b x.n=none):(aO (ag l) x).op=x.op/\(aO (ag l) x).n=x.n/\(aO (ag l) x).kids.length=x.kids.length/\(x.op=1->aO (ag l) x=x)/\(x.op≠1->(aO (ag l) x).kids=x.kids.map (aO (ag l))):=by
 by_cases h1:x.op=1
 ·have:aO (ag l) x=x:=by
   rw[dW hx h1,show Lv (ag l) x.n= .mk 1 x.n [] by simp[Lv,(h.vX _).1 (hr h1)]]
   exact(hx.eta h1).symm
  rw[this]
  exact⟨rfl,rfl,rfl,fun _=>rfl,fun h=>absurd h1 h⟩
 ·obtain⟨g1,g2,g3⟩:=afg (b:=ag l) h1
  exact⟨g1,g2,by rw[g3];simp,fun h=>absurd h h1,fun _=>g3⟩
theorem nE{F G:Tm->Tm->List TB->Option (List TB×Bool)}(EH:∀k k' l r,F k k' l=some r->G k k' l=some r):∀ {ks cK:List Tm} {l:List TB} {r:List TB×Bool},bH F ks cK l=some r->bH G ks cK l=some r
 |[],_,_,_,h=>by simp only[bH]at h|-;exact h
 |_::_,[],_,_,h=>by simp only[bH]at h|-;exact h
 |k::ks,k'::cK,b,r,h=>by
  simp only[bH]at h|-
  split at h
  ·rename_i b1 e;rw[EH _ _ _ _ e];exact nE EH h
  ·rename_i b1 e;rw[EH _ _ _ _ e];exact h
  ·cases h
theorem mL:∀ {f g:Nat} {a c:Tm} {l:List TB} {r:List TB×Bool},da f a c l=some r->f<=g->da g a c l=some r
 |0,_,_,_,_,_,h,_=>by cases h
 |f+1,0,_,_,_,_,_,h=>ad
 |f+1,g+1,a,c,l,r,h,hg=>by
  simp only[da]at h|-
  repeat' (split at h<;>rename_i hh<;>first|rw[if_pos hh]|rw[if_neg hh])
  all_goals first
   |exact h
   |exact nE (fun k k' l r hk=>mL hk ad) h
theorem Si(l:List TB)(n:Int)(t:Tm):(ud l n t).length=l.length+1:=by
 induction l with
 |nil=>rfl
 |cons x l ih=>simp only[ud];split<;>simp[ih]
theorem Mf(l:List TB)(n:Int)(t:Tm):(iP l n t).length=l.length+1:=by rw[iP,Si,List.length_map]
theorem Jd:∀ (f:Nat) (a c:Tm) (l l':List TB),da f a c l=some (l',true)->l'=l\/l.length<l'.length
 |0,_,_,_,_,h=>by cases h
 |f+1,a,c,l,l',h=>by
  simp only[da]at h
  split at h
  ·injection h with h;injection h with h;exact Or.inl h.symm
  ·split at h
   ·exact W6
   ·split at h
    ·exact W6
    ·split at h
     ·exact W6
     ·split at h
      ·injection h with h;injection h with _ h;cases h
      ·have key:∀ (ks cK:List Tm) (l:List TB),bH (da f) ks cK l=some (l',true)->l'=l\/l.length<l'.length:=by
        intro ks
        induction ks with
        |nil=>intro cK l h;simp only[bH]at h;injection h with h;injection h with h;exact Or.inl h.symm
        |cons k ks vC=>
         intro cK l h
         cases cK with
         |nil=>simp only[bH]at h;injection h with h;injection h with h;exact Or.inl h.symm
         |cons k' cK=>
          simp only[bH]at h
          split at h
          ·rename_i l1 e
           have h1:=Jd f k k' l l1 e
           have h2:=vC cK l1 h
           rcases h1 with rfl|h1
           ·exact h2
           ·rcases h2 with rfl|h2
            ·exact Or.inr h1
            ·exact Or.inr ad
          ·injection h with h;injection h with _ h;cases h
          ·cases h
       exact key _ _ _ h
theorem dK.len {s:az}{l:List TB}(h:dK s l):l.length<=20:=by
 have:=B2 (ns:=l.map (·.var)) (fun n hn=>by obtain⟨x,hx,rfl⟩:=List.mem_map.1 hn;exact(h.ok x hx).1) (by rw[GU,List.pairwise_map];exact h.ZW)
 rwa [List.length_map]at this
theorem mM{s:az}:∀ (N z:Nat) (a c:Tm) (l:List TB),20 - l.length<=N->(aO (ag l) a).sz<=z->dK s l->Vs s a->Vs s c->∃f r,da f a c l=some r:=by
 intro N
 induction N using Nat.strongRecOn with
 |ind N ihN=>
 intro z
 induction z with
 |zero=>intro a c l _ hz;have:=Tm.qR (aO (ag l) a);omega
 |succ z ihz=>
  intro a c l hN hz hl ha hc
  have va:=Vs.sub hl.bd a ha
  have vc:=Vs.sub hl.bd c hc
  have key:∀ (ks cK:List Tm) (l1:List TB),(∀k∈ks,k∈(aO (ag l) a).kids)->(∀k∈cK,Vs s k)->dK s l1->(l1=l\/l.length<l1.length)->∃f r,bH (da f) ks cK l1=some r:=by
   intro ks
   induction ks with
   |nil=>intro cK l1 _ _ _ _;exact⟨0,_,rfl⟩
   |cons k ks vC=>
    intro cK l1 m1 m2 qf YM
    cases cK with
    |nil=>exact⟨0,_,rfl⟩
    |cons k' cK=>
     have hk:=m1 k aF
     have vk:=va.lu hk
     have Kl:∃f r,da f k k' l1=some r:=by
      rcases YM with rfl|YM
      ·refine ihz k k' l1 hN ?_ qf vk (m2 k' aF)
       have:aO (ag l1) k=k:=sD (s:=s) k vk fun v hv=>by
        by_cases h1:(aO (ag l1) a).op=1
        ·rw[va.eta h1]at hk;cases hk
        ·exact hl.free ha ((qm va h1).2 ⟨k,hk,hv⟩)
       rw[this]
       have:=Tm.mW hk
       omega
      ·have h20:=qf.len
       exact ihN (20 - l1.length) ad _ k k' l1 (Nat.le_refl _) (Nat.le_refl _) qf vk (m2 k' aF)
     obtain⟨f,⟨l2,ok⟩,e⟩:=Kl
     cases ok with
     |false=>exact⟨f,(l2,false),by simp only[bH,e]⟩
     |true=>
      obtain⟨o1,_⟩:=gU f k k' l1 l2 e qf vk (m2 k' aF)
      have hle:=Jd f k k' l1 l2 e
      obtain⟨f2,r2,e2⟩:=vC cK l2 (fun y hy=>m1 y jX) (fun y hy=>m2 y jX) o1 (by
       rcases hle with rfl|h
       ·exact YM
       ·right
        rcases YM with rfl|h2
        ·exact h
        ·omega)
      refine⟨max f f2,r2, ?_⟩
      simp only[bH]
      rw[mL e (Nat.le_max_left _ _)]
      exact nE (fun k k' l r hk=>mL hk (Nat.le_max_right _ _)) e2
  obtain⟨f,r,e⟩:=key (aO (ag l) a).kids (aO (ag l) c).kids l (fun _ h=>h) (fun k hk=>vc.lu hk) hl (Or.inl rfl)
  refine⟨f+1, ?_⟩
  simp only[da]
  repeat' split
  all_goals first
   |exact⟨_,rfl⟩
   |exact⟨r,e⟩
mutual
def uf:Tm->List Int
 | .mk op n kids=>if op=1 then [n]else Sj kids
def Sj:List Tm->List Int
 |[]=>[]
 |k::l=>uf k++Sj l
end
theorem EI:∀l:List Tm,Sj l=l.flatMap uf
 |[]=>rfl
 |k::l=>by rw[Sj,EI l,List.flatMap_cons]
theorem OK(t:Tm):uf t=if t.op=1 then [t.n]else t.kids.flatMap uf:=by
 cases t;rw[uf,EI];rfl
theorem Wr{s:az}:∀t:Tm,Vs s t->∀v,v∈uf t↔gy v t=true:=by
 refine Tm.eM fun t ih hv v=> ?_
 rw[OK]
 by_cases h1:t.op=1
 ·rw[if_pos h1,iy h1,List.mem_singleton];exact eq_comm
 ·rw[if_neg h1,qm hv h1,List.mem_flatMap]
  exact⟨fun⟨k,hk,h⟩=>⟨k,hk,(ih k hk (hv.lu hk) v).1 h⟩,fun⟨k,hk,h⟩=>⟨k,hk,(ih k hk (hv.lu hk) v).2 h⟩⟩
inductive oY (b:List (Int×Tm)) (n:Int):Tm->Prop where
 |here {t:Tm}:gy n t=true->oY b n t
 |step {t:Tm} {v:Int} {x:Tm}:gy v t=true->bR b v=some x->oY b n x->oY b n t
theorem oY.mono {b c:List (Int×Tm)}(h:∀v x,bR b v=some x->bR c v=some x){t:Tm}{n:Int}(hr:oY b n t):oY c n t:=by
 induction hr with
 |here h1=>exact .here h1
 |step h1 h2 _ ih=>exact .step h1 (h _ _ h2) ih
def OL(F:Tm->List Int->Option (Bool×List Int))(b:List (Int×Tm))(n:Int):List Int->List Int->Option (Bool×List Int)
 |[],met=>some (false,met)
 |v::vs,met=>if v=n then some (true,met)else
  match bR b v with
  |none=>OL F b n vs met
  |some x=>if v∈met then OL F b n vs met else
   match F x (eO met v)with
   |some (true,m)=>some (true,m)
   |some (false,m)=>OL F b n vs m
   |none=>none
def Qq:Nat->List (Int×Tm)->Int->Tm->List Int->Option (Bool×List Int)
 |0,_,_,_,_=>none
 |f+1,b,n,t,met=>OL (Qq f b n) b n (uf t) met
theorem sF{F G:Tm->List Int->Option (Bool×List Int)}(EH:∀x m r,F x m=some r->G x m=some r){b:List (Int×Tm)}{n:Int}:∀ {vs met:List Int} {r:Bool×List Int},OL F b n vs met=some r->OL G b n vs met=some r
 |[],_,_,h=>h
 |v::vs,met,r,h=>by
  simp only[OL]at h|-
  split at h
  ·rename_i e;rw[if_pos e];exact h
  ·rename_i e
   rw[if_neg e]
   split at h
   ·exact sF EH h
   ·split at h
    ·rename_i e2;rw[if_pos e2];exact sF EH h
    ·rename_i x _ e2
     rw[if_neg e2]
     cases hF:F x (eO met v)with
     |none=>rw[hF]at h;cases h
     |some q=>
      rw[hF]at h
      rw[EH _ _ _ hF]
      obtain⟨is,m⟩:=q
      cases is with
      |true=>exact h
      |false=>exact sF EH h
theorem EJ{b:List (Int×Tm)}{n:Int}:∀ {f g:Nat} {t:Tm} {met:List Int} {r:Bool×List Int},Qq f b n t met=some r->f<=g->Qq g b n t met=some r
 |0,_,_,_,_,h,_=>by cases h
 |f+1,0,_,_,_,h,hg=>ad
 |f+1,g+1,t,met,r,h,hg=>sF (fun x m q hq=>EJ hq ad) h
def G0(b:List (Int×Tm))(n:Int)(m:List Int)(t:Tm):Prop:=∀v,gy v t=true->v≠n/\∀x,bR b v=some x->v∈m
theorem G0.mono {b:List (Int×Tm)}{n:Int}{m m':List Int}(h:∀v∈m,v∈m'){t:Tm}(ht:G0 b n m t):G0 b n m' t:=fun v hv=>⟨(ht v hv).1,fun x hx=>h v ((ht v hv).2 x hx)⟩
def LdQ(b:List (Int×Tm))(n:Int)(met:List Int)(t:Tm)(is:Bool)(gz:List Int):Prop:=
 (is=true->oY b n t)/\(is=false->(∀v∈met,v∈gz)/\G0 b n gz t/\∀v∈gz,v∉met->∀x,bR b v=some x->G0 b n gz x)
def yF(b:List (Int×Tm))(met:List Int):Nat:=((b.map (·.1)).filter fun v=> !met.contains v).length
theorem v7{b:List (Int×Tm)}{met:List Int}{v:Int}{x:Tm}(h:bR b v=some x)(hm:v∉met):yF b (eO met v)<yF b met:=by
 unfold yF
 have hv:v∈b.map (·.1):=List.mem_map.2 ⟨_,cm h,rfl⟩
 generalize b.map (·.1)=ks at hv
 have hle:∀ks:List Int,(ks.filter fun u=> !(eO met v).contains u).length<=(ks.filter fun u=> !met.contains u).length:=by
  intro ks
  refine(List.Sublist.length_le ?_)
  rw[show(ks.filter fun u=> !(eO met v).contains u)=(ks.filter fun u=> !met.contains u).filter fun u=> !(eO met v).contains u by
   rw[List.filter_filter]
   congr 1
   funext u
   cases e:(eO met v).contains u with
   |true=>rfl
   |false=>
    cases e2:met.contains u with
    |false=>rfl
    |true=>
     rw[List.contains_iff_mem]at e2
     have:(eO met v).contains u=true:=List.contains_iff_mem.2 (kV.2 (.inl e2))
     rw[this]at e;cases e]
  exact List.filter_sublist
 induction ks with
 |nil=>cases hv
 |cons u ks ih=>
  by_cases e:u=v
  ·subst e
   have h1:(eO met u).contains u=true:=List.contains_iff_mem.2 (kV.2 (.inr rfl))
   have h2:met.contains u=false:=by rw[Bool.eq_false_iff];intro h;exact hm (List.contains_iff_mem.1 h)
   rw[List.filter_cons,List.filter_cons,h1,h2]
   simp only[Bool.not_true,Bool.false_eq_true,if_false,Bool.not_false,if_true,List.length_cons]
   have:=hle ks
   omega
  ·have oe:v∈ks:=by
    rcases List.mem_cons.1 hv with h|h
    ·exact absurd h.symm e
    ·exact h
   have:=ih oe
   rw[List.filter_cons,List.filter_cons]
   have hu:(eO met v).contains u=met.contains u:=by
    rw[Bool.eq_iff_iff,List.contains_iff_mem,List.contains_iff_mem,kV]
    exact⟨fun h=>h.elim id fun h=>absurd h e, .inl⟩
   rw[hu]
   split
   ·rw[List.length_cons,List.length_cons];omega
   ·exact this
theorem EK{b:List (Int×Tm)}{m m':List Int}(h:∀v∈m,v∈m'):yF b m'<=yF b m:=by
 unfold yF
 refine List.Sublist.length_le ?_
 rw[show((b.map (·.1)).filter fun u=> !m'.contains u)=((b.map (·.1)).filter fun u=> !m.contains u).filter fun u=> !m'.contains u by
  rw[List.filter_filter]
  congr 1
  funext u
  cases e:m'.contains u with
  |true=>rfl
  |false=>
   cases e2:m.contains u with
   |false=>rfl
   |true=>
    rw[List.contains_iff_mem]at e2
    have:m'.contains u=true:=List.contains_iff_mem.2 (h u e2)
    rw[this]at e;cases e]
 exact List.filter_sublist
theorem Je{s:az}{b:List (Int×Tm)}(hb:∀p∈b,Vs s p.2)(n:Int):∀ (N:Nat) (t:Tm) (met:List Int),yF b met<=N->Vs s t->∃is gz,Qq (N+1) b n t met=some (is,gz)/\LdQ b n met t is gz
 |N,t,met,hN,ht=>by
  have key:∀ (vs met:List Int),yF b met<=N->(∀v∈vs,gy v t=true)->∃is gz,OL (Qq N b n) b n vs met=some (is,gz)/\(is=true->oY b n t)/\
   (is=false->(∀v∈met,v∈gz)/\(∀v∈vs,v≠n/\∀x,bR b v=some x->v∈gz)/\∀v∈gz,v∉met->∀x,bR b v=some x->G0 b n gz x):=by
   intro vs
   induction vs with
   |nil=>intro met _ _;exact⟨false,met,rfl,fun h=>lA,fun _=>⟨fun _ h=>h,fun _ h=>lA,fun v h h'=>absurd h h'⟩⟩
   |cons v vs ih=>
    intro met hm vV
    have hv:=vV v aF
    have Sk:∀u∈vs,gy u t=true:=fun u hu=>vV u (by simp[hu])
    simp only[OL]
    by_cases e:v=n
    ·rw[if_pos e]
     exact⟨true,met,rfl,fun _=> .here (e ▸ hv),fun h=>by cases h⟩
    ·rw[if_neg e]
     cases hl:bR b v with
     |none=>
      obtain⟨is,gz,h1,h2,h3⟩:=ih met hm Sk
      refine⟨is,gz,h1,h2,fun h=>⟨(h3 h).1,fun u hu=> ?_,(h3 h).2.2⟩⟩
      rcases List.mem_cons.1 hu with rfl|hu
      ·exact⟨e,fun x hx=>by rw[hl]at hx;cases hx⟩
      ·exact(h3 h).2.1 u hu
     |some x=>
      simp only
      by_cases e2:v∈met
      ·rw[if_pos e2]
       obtain⟨is,gz,h1,h2,h3⟩:=ih met hm Sk
       refine⟨is,gz,h1,h2,fun h=>⟨(h3 h).1,fun u hu=> ?_,(h3 h).2.2⟩⟩
       rcases List.mem_cons.1 hu with rfl|hu
       ·exact⟨e,fun _ _=>(h3 h).1 _ e2⟩
       ·exact(h3 h).2.1 u hu
      ·rw[if_neg e2]
       have hu:=v7 hl e2
       obtain⟨N',rfl⟩:∃N',N=N'+1:=⟨N - 1,ad⟩
       obtain⟨is1,m1,g1,g2,g3⟩:=Je hb n N' x (eO met v) ad (hb _ (cm hl))
       rw[g1]
       cases is1 with
       |true=>exact⟨true,m1,rfl,fun _=> .step hv hl (g2 rfl),fun h=>by cases h⟩
       |false=>
        obtain⟨k1,k2,k3⟩:=g3 rfl
        have k0:∀u∈met,u∈m1:=fun u hu=>k1 u (kV.2 (.inl hu))
        obtain⟨is,gz,h1,h2,h3⟩:=ih m1 (by have:=EK (b:=b) k0;omega) Sk
        refine⟨is,gz,h1,h2,fun h=> ?_⟩
        obtain⟨j1,j2,j3⟩:=h3 h
        refine⟨fun u hu=>j1 u (k0 u hu),fun u hu=> ?_,fun u hu hnu y hy=> ?_⟩
        ·rcases List.mem_cons.1 hu with rfl|hu
         ·exact⟨e,fun _ _=>j1 _ (k1 _ (kV.2 (.inr rfl)))⟩
         ·exact j2 u hu
        ·by_cases LX:u∈m1
         ·by_cases huv:u=v
          ·subst huv
           rw[hl]at hy
           cases hy
           exact k2.mono j1
          ·exact(k3 u LX (fun h=>(kV.1 h).elim hnu huv) y hy).mono j1
         ·exact j3 u hu LX y hy
  obtain⟨is,gz,h1,h2,h3⟩:=key (uf t) met hN fun v hv=>(Wr t ht v).1 hv
  exact⟨is,gz,h1,h2,fun h=>⟨(h3 h).1,fun v hv=>(h3 h).2.1 v ((Wr t ht v).2 hv),(h3 h).2.2⟩⟩
theorem ZX{s:az}{b:List (Int×Tm)}(hb:∀p∈b,Vs s p.2)(n:Int){t:Tm}(ht:Vs s t):∃is gz,Qq (b.length+1) b n t []=some (is,gz)/\(is=true↔oY b n t):=by
 have hN:yF b []<=b.length:=by
  unfold yF
  exact ab3
 obtain⟨is,gz,h1,h2,h3⟩:=Je hb n b.length t [] hN ht
 refine⟨is,gz,h1,h2,fun hr=> ?_⟩
 cases is with
 |true=>rfl
 |false=>
  obtain⟨_,k2,k3⟩:=h3 rfl
  exfalso
  have:∀t,oY b n t-> ¬G0 b n gz t:=by
   intro t hr
   induction hr with
   |here h=>exact fun hs=>(hs _ h).1 rfl
   |step h1 h2 _ ih=>exact fun hs=>ih (k3 _ ((hs _ h1).2 _ h2) aF _ h2)
  exact this t hr k2
def qV(l more:List Int):List Int:=more.foldl eO l
theorem G1:∀ {more l:List Int} {v:Int},v∈qV l more↔v∈l\/v∈more
 |[],l,v=>by simp[qV]
 |u::more,l,v=>by
  show v∈qV (eO l u) more↔_
  rw[G1,kV,List.mem_cons,or_assoc]
theorem OM:∀ (more l:List Int),∃r,qV l more=l++r
 |[],l=>⟨[],by simp[qV]⟩
 |u::more,l=>by
  obtain⟨r,hr⟩:=OM more (eO l u)
  show ∃r,qV (eO l u) more=_
  rw[hr]
  unfold eO
  split
  ·exact⟨r,rfl⟩
  ·exact⟨[u]++r,by rw[List.append_assoc]⟩
theorem xX:∀ (more l:List Int),l.Nodup->(qV l more).Nodup
 |[],l,h=>h
 |u::more,l,h=>xX more (eO l u) (GS u h)
def ON(b:List (Int×Tm))(all:List Int)(v:Int):List Int:=match bR b v with
 |some x=>qV all (cQ x)
 |none=>all
theorem Sl(b:List (Int×Tm))(all:List Int)(v:Int):∃r,ON b all v=all++r:=by
 unfold ON
 split
 ·exact OM _ _
 ·exact⟨[],aF⟩
theorem LG(b:List (Int×Tm)){all:List Int}(v:Int)(h:all.Nodup):(ON b all v).Nodup:=by
 unfold ON
 split
 ·exact xX _ _ h
 ·exact h
theorem EL{l:List Int}(hn:l.Nodup)(h:∀v∈l,0<=v/\v<20):l.length<=20:=by
 have:∀ (n:Nat) (l:List Int),l.Nodup->(∀v∈l,0<=v/\v<(n:Int))->l.length<=n:=by
  intro n
  induction n with
  |zero=>
   intro l _ h
   cases l with
   |nil=>exact Nat.le_refl _
   |cons a l=>have:=h a aF;omega
  |succ n ih=>
   intro l hn h
   have h1:=ih (l.erase (n:Int)) (hn.erase _) fun v hv=>by
    have fS:v≠(n:Int):=fun e=>by
     subst e
     exact hn.not_mem_erase hv
    have:=h v (List.mem_of_mem_erase hv)
    omega
   have h2:l.length<=(l.erase (n:Int)).length+1:=by
    by_cases hm:(n:Int)∈l
    ·rw[List.length_erase_of_mem hm];omega
    ·rw[List.erase_of_not_mem hm];omega
   omega
 exact this 20 l hn h
structure Sm (s:az) (b:List (Int×Tm)) (t:Tm) (i:Nat) (all:List Int):Prop where
 nd:all.Nodup
 rg:∀v∈all,0<=v/\v<20
 le:i<=all.length
 fst:∀v,gy v t=true->v∈all
 snd:∀v∈all,oY b v t
 cl:∀j,j<i->∀v x,all[j]? =some v->bR b v=some x->∀u,gy u x=true->u∈all
theorem Sm.zero {s:az}{b:List (Int×Tm)}{t:Tm}(ht:Vs s t):Sm s b t 0 (qV [] (cQ t)):=by
 have hm:∀v,v∈qV [] (cQ t)↔gy v t=true:=fun v=>by rw[G1,(cV t).2 v];simp
 exact⟨xX _ _ List.nodup_nil,fun v hv=>ht.range ((hm v).1 hv),Nat.zero_le _,fun v hv=>(hm v).2 hv,fun v hv=> .here ((hm v).1 hv),fun j hj=>absurd hj (Nat.not_lt_zero _)⟩
theorem oY.trans {b:List (Int×Tm)}{t:Tm}{v:Int}(h:oY b v t){x:Tm}(hx:bR b v=some x){n:Int}(hn:oY b n x):oY b n t:=by
 induction h with
 |here h1=>exact .step h1 hx hn
 |step h1 h2 _ ih=>exact .step h1 h2 ih
theorem Sm.succ {s:az}{b:List (Int×Tm)}(hb:∀p∈b,Vs s p.2){t:Tm}{i:Nat}{all:List Int}(h:Sm s b t i all){v:Int}(hv:all[i]? =some v):Sm s b t (i+1) (ON b all v):=by
 obtain⟨r,hr⟩:=Sl b all v
 have hi:=(List.getElem?_eq_some_iff.1 hv).1
 have hvm:=List.mem_of_getElem? hv
 have hm:∀u,u∈ON b all v↔u∈all\/∃x,bR b v=some x/\gy u x=true:=fun u=>by
  unfold ON
  cases hl:bR b v with
  |none=>simp
  |some x=>simp only[G1,(cV x).2 u,Option.some.injEq,exists_eq_left']
 refine⟨LG b v h.nd,fun u hu=> ?_,by rw[hr,List.length_append];omega,fun u hu=>(hm u).2 (.inl (h.fst u hu)),fun u hu=> ?_,fun j hj w x hw hx u hu=> ?_⟩
 ·rcases(hm u).1 hu with hu|⟨x,hx,hu⟩
  ·exact h.rg u hu
  ·exact(hb _ (cm hx)).range hu
 ·rcases(hm u).1 hu with hu|⟨x,hx,hu⟩
  ·exact h.snd u hu
  ·exact(h.snd v hvm).trans hx (.here hu)
 ·rw[hr,List.getElem?_append_left (by omega)]at hw
  rcases Nat.lt_or_ge j i with hji|hji
  ·exact(hm u).2 (.inl (h.cl j hji w x hw hx u hu))
  ·have:j=i:=ad
   subst this
   rw[hv]at hw
   cases hw
   exact(hm u).2 (.inr ⟨x,hx,hu⟩)
end Go.Proofs.YtlhemmpklhhgoaaGreat
