/-
  A PART OF THE PROOF. Conditions: none.
-/
import Derived.Test.YtlhemmpklhhgoaaGreatQt15
set_option linter.unusedSimpArgs false
set_option linter.unusedVariables false
section
namespace Go.Proofs.YtlhemmpklhhgoaaGreat
open Go.Shelf
def Dh:Go.Shelf.Ren:=⟨fun|189=>135|125=>163|257=>162|128=>184|129=>185|294=>175|295=>176|296=>177|297=>178|298=>179|299=>180|216=>181|300=>182|301=>183|328=>188|329=>189|330=>190|331=>191|332=>192|215=>193|343=>201|n=>n,fun|28=>142|3=>3|46=>193|0=>0|51=>205|53=>207|4=>4|183=>197|182=>196|131=>202|5=>5|9=>9|218=>214|222=>218|228=>220|229=>221|n=>n,fun|n=>n⟩
theorem GZ:Go.Proofs.Lays.n189 Tryz.prog Dh:={
 mixed:=ai
 f125:=Tryz.func163.trans (congrArg some ai)
 f128:=Tryz.func184.trans (congrArg some ai)
 f129:=Tryz.func185.trans (congrArg some ai)
 f189:=Tryz.func135.trans (congrArg some ai)
 f215:=Tryz.func193.trans (congrArg some ai)
 f216:=Tryz.func181.trans (congrArg some ai)
 f257:=Tryz.func162.trans (congrArg some ai)
 f294:=Tryz.func175.trans (congrArg some ai)
 f295:=Tryz.func176.trans (congrArg some ai)
 f296:=Tryz.func177.trans (congrArg some ai)
 f297:=Tryz.func178.trans (congrArg some ai)
 f298:=Tryz.func179.trans (congrArg some ai)
 f299:=Tryz.func180.trans (congrArg some ai)
 f300:=Tryz.func182.trans (congrArg some ai)
 f301:=Tryz.func183.trans (congrArg some ai)
 f328:=Tryz.func188.trans (congrArg some ai)
 f329:=Tryz.func189.trans (congrArg some ai)
 f330:=Tryz.func190.trans (congrArg some ai)
 f331:=Tryz.func191.trans (congrArg some ai)
 f332:=Tryz.func192.trans (congrArg some ai)
 f343:=Tryz.func201.trans (congrArg some ai)
 t0:=Tryz.underlying0
 a0:=Tryz.isAgg0
 z0:=Tryz.sizeOf0
 v0:=Tryz.zeroValue0
 t3:=Tryz.underlying3
 a3:=Tryz.isAgg3
 z3:=Tryz.sizeOf3
 v3:=Tryz.zeroValue3
 t4:=Tryz.underlying4
 a4:=Tryz.isAgg4
 z4:=Tryz.sizeOf4
 v4:=Tryz.zeroValue4
 t5:=Tryz.underlying5
 a5:=Tryz.isAgg5
 z5:=Tryz.sizeOf5
 v5:=Tryz.zeroValue5
 t9:=Tryz.underlying9
 a9:=Tryz.isAgg9
 z9:=Tryz.sizeOf9
 v9:=Tryz.zeroValue9
 t28:=Tryz.underlying142
 a28:=Tryz.isAgg142
 z28:=Tryz.sizeOf142
 v28:=Tryz.zeroValue142
 t46:=Tryz.underlying193
 a46:=Tryz.isAgg193
 z46:=Tryz.sizeOf193
 v46:=Tryz.zeroValue193
 t51:=Tryz.underlying205
 a51:=Tryz.isAgg205
 z51:=Tryz.sizeOf205
 v51:=Tryz.zeroValue205
 t53:=Tryz.underlying207
 a53:=Tryz.isAgg207
 z53:=Tryz.sizeOf207
 v53:=Tryz.zeroValue207
 t131:=Tryz.underlying202
 a131:=Tryz.isAgg202
 z131:=Tryz.sizeOf202
 v131:=Tryz.zeroValue202
 t182:=Tryz.underlying196
 a182:=Tryz.isAgg196
 z182:=Tryz.sizeOf196
 v182:=Tryz.zeroValue196
 t183:=Tryz.underlying197
 a183:=Tryz.isAgg197
 z183:=Tryz.sizeOf197
 v183:=Tryz.zeroValue197
 t218:=Tryz.underlying214
 a218:=Tryz.isAgg214
 z218:=Tryz.sizeOf214
 v218:=Tryz.zeroValue214
 t222:=Tryz.underlying218
 a222:=Tryz.isAgg218
 z222:=Tryz.sizeOf218
 v222:=Tryz.zeroValue218
 t228:=Tryz.underlying220
 a228:=Tryz.isAgg220
 z228:=Tryz.sizeOf220
 v228:=Tryz.zeroValue220
 t229:=Tryz.underlying221
 a229:=Tryz.isAgg221
 z229:=Tryz.sizeOf221
 v229:=Tryz.zeroValue221}
theorem IW:Dg Tryz.prog 135:=fun ej off cap zs w h1 h2 h3=>Any.slices_Sort_int GZ ej off cap zs w h1 h2 h3
theorem IX:∀ (p:Option Addr) (cap:Nat) (w:World),Calls Tryz.prog 135 #[.slice p 0 cap] w fun e w'=>e= .returned (.tuple #[])/\w'=w:=fun p cap w=>Any.slices_Sort_int_none GZ p cap w
theorem Di:Enters Tryz.prog 135:=⟨_,Tryz.func135,ai,ai⟩
end Go.Proofs.YtlhemmpklhhgoaaGreat
end
namespace Go.Proofs.YtlhemmpklhhgoaaGreat
end Go.Proofs.YtlhemmpklhhgoaaGreat
namespace Go.Proofs.YtlhemmpklhhgoaaGreat
theorem AP{o:Nat->ab}{nx:Nat}{Δ:List (Nat×ab)}(h:∀x∈Δ,x.1<nx):(hp o nx).put Δ=hp (put o Δ) nx:=by
 simp only[Hp.put,hp]
 congr 1
 funext j
 simp only[List.mem_map,eq_iff_iff]
 exact⟨fun h2=>h2.elim (fun h=>h) fun⟨x,hx,e⟩=>e ▸ h x hx, .inl⟩
theorem bZ.E8 {P:Program}{g:FuncId}{args:List V}{o:Nat->ab}{nx id:Nat}{kt vt:TypeId}{l:List (D×D)}{K X:V->(Nat->ab)->Nat->Prop}(ho:o id= .map kt vt l)(aw:id<nx)
 (h:bZ P g args (ay o id (.b7 l)) nx K X):bZ P g args o nx K X:=by
 refine⟨h.1,fun M φ w vals hH hd=> ?_⟩
 obtain⟨h1,h2⟩:=zM hH (id:=id) aw ho
 have fk:(hp o nx).put [(id, .b7 l)]=hp (ay o id (.b7 l)) nx:=AP (fun x hx=>by simp at hx;subst hx;exact aw)
 rw[fk]at h1 h2
 have hB:∀b, ¬aq M φ (hp o nx) b-> ¬aq M φ (hp (ay o id (.b7 l)) nx) b:=by
  rintro b hn (hb|⟨j,hl,hb⟩)
  ·exact hn (.inl hb)
  ·refine hn (.inr ⟨j, ?_,hb⟩)
   by_cases e:j=id
   ·subst e;show(o j).live=true;rw[ho];rfl
   ·have hl:(ay o id (.b7 l) j).live=true:=hl
    rw[ae _ _ _ _ e]at hl;exact hl
 refine(h.2 M φ w vals h1 (V.eD (H:=hp o nx) hB _ _ (fun j hj=>⟨?_,rfl,V.eh _ _ hd j hj⟩) hd)).mono ?_
 ·show j5 (ay o id (.b7 l) j) (o j)
  by_cases e:j=id
  ·subst e;rw[aa,ho];exact⟨fun _=>rfl,fun e he=>by cases he⟩
  ·rw[ae _ _ _ _ e];exact j5.rfl' rfl
 ·rintro e w' ⟨aI,o',nx',v,k1,k2,k3⟩
  exact⟨aI,o',nx',v,k1,h2.trans k2,k3⟩
theorem bZ.seal {P:Program}{g:FuncId}{args:List V}{o:Nat->ab}{nx:Nat}{K X:V->(Nat->ab)->Nat->Prop}
 (h:bZ P g args o nx (fun v o' nx'=>∃x,dQ o' v=some x/\K (.d x) (put o' (bE o' v.ids)) nx') X):bZ P g args o nx K X:=by
 refine⟨h.1,fun M φ w vals hH hd=>(h.2 M φ w vals hH hd).mono ?_⟩
 rintro e w' ⟨aI,o',nx',v,k1,k2,k3⟩
 cases e with
 |returned val=>
  obtain⟨k4,x,k5,k6⟩:=k3
  have hu:=fun id aw=>cO v val k4 id aw
  obtain⟨f1,f2,f3,f4,f5⟩:=cU (H:=hp o' nx') k1 v.ids hu
  have fk:(hp o' nx').put (bE o' v.ids)=hp (put o' (bE o' v.ids)) nx':=AP (fun y hy=>by
   simp only[bE,List.mem_map]at hy
   obtain⟨id,aw,rfl⟩:=hy
   exact hu id aw)
  have SN:=f1;have SO:=f2
  rw[show bE (hp o' nx').o v.ids=bE o' v.ids from rfl,fk]at SN SO
  have Nh:∀k,cD aI ((hp o' nx').put (bE o' v.ids)) k->cD aI (hp o' nx') k:=by
   rintro k ⟨id,g1,g2⟩
   by_cases aw:id∈v.ids
   ·have:=f3 id aw
    rw[show((hp o' nx').put (bE o' v.ids)).o id=_ from this]at g1
    refine⟨id, ?_,g2⟩
    revert g1
    cases(hp o' nx').o id<;>simp[ab.fz,ab.live]
   ·have:=f4 id aw
    rw[show((hp o' nx').put (bE o' v.ids)).o id=_ from this]at g1
    exact⟨id,g1,g2⟩
  have h4:V.den (aq M aI ((hp o' nx').put (bE o' v.ids))) aI ((hp o' nx').put (bE o' v.ids)) w' v val:=
   V.jQ (H:=hp o' nx') (fun k h h'=>h (h'.imp id (Nh k))) v val (fun id aw=>by
     have dU:(hp o' nx').us id:=(V.jw v val k4) id aw
     refine⟨?_,rfl,(f5 id).2 dU⟩
     by_cases hm:id∈v.ids
     ·rw[show((hp o' nx').put (bE o' v.ids)).o id=_ from f3 id hm];exact j5.fz _
     ·rw[show((hp o' nx').put (bE o' v.ids)).o id=_ from f4 id hm];exact j5.rfl' rfl) k4
  have h5:=eK f1 (o:=o') v x val (fun id aw=>f3 id aw) k5 h4
  rw[show(hp o' nx').put (bE (hp o' nx').o v.ids)=hp (put o' (bE o' v.ids)) nx' from fk]at h5
  exact⟨aI,_,nx', .d x,SN,k2.trans SO,h5,k6⟩
 |panicked ch=>exact⟨aI,o',nx',v,k1,k2,k3⟩
 |outgrown=>exact k3.elim
section
section
variable {B:Nat->Prop}{w:World}
end
end
@[reducible] def mpD (m:List (Int×D)):D:= .mp ((enc (D.int .i64) m).map (·.1)) ((enc (D.int .i64) m).map (·.2))
theorem oz(m:List (Int×D)):(((enc (D.int .i64) m).map (·.1)).zip ((enc (D.int .i64) m).map (·.2)))=enc (D.int .i64) m:=OT _ m
theorem IY:∀ {l:List Int},E7 l->l.Nodup:=by
 intro l h
 exact List.Pairwise.imp (fun h=>af) h
theorem LV(a b:List Tm)(ha:a.length<=9223372036854775807)(hb:b.length<=9223372036854775807)(g:Nat)(h:∀x∈a,∀y∈b,aV Tryz.prog g [x.d,y.d] (.ret [.bool (hO x y)]))(o:Nat->ab)(nx:Nat)(hg:Good o nx)(K X:V->(Nat->ab)->Nat->Prop)
 (hK:∀o' nx',nx<=nx'->Good o' nx'->(∀j,j<nx->o' j=o j)->K (.d (.bool (a.length==b.length&&iz a b))) o' nx'):
 bZ Tryz.prog 133 [.d (.sl (a.map Tm.d)), .d (.sl (b.map Tm.d)), .func (.func g) [] []] o nx K X:=by
 refine bZ.aG mix R9 aH ?_
 rw[Vv]
 refine gH ?_
 refine ao (fun h1=> ?_) (fun h1=> ?_)
 ·refine bI ?_
  have:(a.length==b.length&&iz a b)=false:=by
   have:(a.length==b.length)=false:=by
    rw[Bool.eq_false_iff];intro h
    simp at h;simp[h]at h1
   rw[this];rfl
  rw[this]at hK
  exact hK _ _ af (hg.mono af) (fun _ _=>rfl)
 ·have hl:a.length=b.length:=by simp at h1;omega
  have Gb:(a.length==b.length)=true:=by simpa using hl
  rw[Gb,Bool.true_and]at hK
  refine gH ?_
  refine aC (fun k:Nat=>⟨aY [.d (.sl (a.map Tm.d)), .d (.sl (b.map Tm.d)), .func (.func g) [] [], .ad, .ad, .ad, .ad, .ad, .ad, .ad, .ad, .ad, .ad, .ad, .ad, .d (.sl (a.map Tm.d)), .d (.i a.length), .d (.i k)],o,nx⟩)
   (fun k=>k<=a.length/\∀i,i<k->∀x y,a[i]? =some x->b[i]? =some y->hO x y=true) (fun k=>a.length - k) 0 ⟨Nat.zero_le _,fun i h=>af⟩ (bH.bM _ (Nat.le_refl _) af hg (fun _ _=>rfl) ?_) (fun k hk=> ?_)
  ·exact dC
  refine bI ?_
  refine ao (fun h2=> ?_) (fun h2=> ?_)
  ·simp at h2
   obtain⟨x,hx⟩:=aA h2
   obtain⟨y,hy⟩:=aA (l:=b) (k:=k) af
   refine Jv hx hy ?_
   refine ak (h x (List.mem_of_getElem? hx) y (List.mem_of_getElem? hy)) rfl ?_
   refine bI ?_
   refine ao (fun h3=> ?_) (fun h3=> ?_)
   ·refine bI ?_
    simp at h3
    have:iz a b=false:=by
     rw[Bool.eq_false_iff];intro h4
     have:=(iA _ _ hl).1 h4 k x y hx hy
     rw[h3]at this;cases this
    rw[this]at hK
    refine hK _ _ af ?_ (fun j hj=>by(repeat(first|rfl|rw[aa]|rw[ae _ _ _ _ (by omega)])))
    exact dB
   ·refine bI ?_
    simp at h3
    refine aj (k+1) ⟨h2,fun i hi u v hu hv=> ?_⟩ af (bH.bM _ (Nat.le_refl _) af hg (fun j hj=>by(repeat(first|rfl|rw[aa]|rw[ae _ _ _ _ (by omega)]))) ?_)
    ·by_cases e:i=k
     ·subst e
      rw[hx]at hu;rw[hy]at hv
      exact Qh
     ·exact hk.2 i af u v hu hv
    ·exact dC
  ·refine bI ?_
   simp at h2
   have:iz a b=true:=(iA _ _ hl).2 fun i x y hx hy=>hk.2 i (by have:=(List.getElem?_eq_some_iff.1 hx).1;omega) x y hx hy
   rw[this]at hK
   exact hK _ _ af (hg.mono af) (fun _ _=>rfl)
theorem LW(n:Int):aV Tryz.prog 80 [.i n] (.ret [(Tm.mk 1 n []).d]):=by
 refine aV.aG mix abg aH ?_
 rw[c80]
 refine bI ?_
 rw[Tm.K7]
 rfl
def lk:List (Int×Int)->Int->Option Int
 |[],_=>none
 |p::m,v=>if p.1=v then some p.2 else lk m v
abbrev Keys(m:List (Int×Int)):Prop:=(m.map (·.1)).Nodup
def ints(m:List (Int×Int)):List (Int×D):=m.map fun p=>(p.1,D.i p.2)
def bR:List (Int×Tm)->Int->Option Tm
 |[],_=>none
 |p::l,v=>if p.1=v then some p.2 else bR l v
mutual
def Tm.wf:Tm->Prop
 | .mk op _ kids=>(op=1->kids=[])/\(op=8->kids.length=2)/\Tm.wfs kids
def Tm.wfs:List Tm->Prop
 |[]=>True
 |k::l=>k.wf/\Tm.wfs l
end
theorem Tm.G0:∀l:List Tm,Tm.wfs l↔∀k∈l,k.wf
 |[]=>by simp[Tm.wfs]
 |k::l=>by simp[Tm.wfs,Tm.G0 l]
theorem Tm.E9 (t:Tm):t.wf↔(t.op=1->t.kids=[])/\(t.op=8->t.kids.length=2)/\∀k∈t.kids,k.wf:=by cases t;simp[Tm.wf,Tm.G0,Tm.op,Tm.kids]
theorem Wh{t:Tm}(h:t.kids.length=2):∃a b,t.kids=[a,b]:=by
 match hk:t.kids with
 |[a,b]=>exact⟨a,b,rfl⟩
 |[]=>rw[hk]at h;cases h
 |[_]=>rw[hk]at h;cases h
 |_::_::_::_=>rw[hk]at h;simp at h
theorem lJ{b:List (Int×Tm)}{v:Int}:bR b v=none↔v∉b.map (·.1):=by
 induction b with
 |nil=>simp[bR]
 |cons p l ih=>
  simp only[bR,List.map_cons,List.mem_cons,not_or]
  split
  ·rename_i h;simp[h]
  ·rename_i h;rw[ih];exact⟨fun h2=>⟨fun e=>h e.symm,h2⟩,fun h2=>h2.2⟩
theorem cK{b:List (Int×Tm)}{v:Int}{x:Tm}(h:bR b v=some x):(v,x)∈b:=by
 induction b with
 |nil=>cases h
 |cons p l ih=>
  simp only[bR]at h
  split at h
  ·rename_i e;injection h with h;subst h;subst e;exact List.mem_cons_self ..
  ·exact List.mem_cons_of_mem _ (ih h)
theorem lK{b:List (Int×Tm)}(hb:(b.map (·.1)).Nodup){v:Int}{x:Tm}:bR b v=some x↔(v,x)∈b:=by
 refine⟨cK,fun h=> ?_⟩
 induction b with
 |nil=>cases h
 |cons p l ih=>
  rw[List.map_cons,List.nodup_cons]at hb
  simp only[bR]
  rcases List.mem_cons.1 h with e|h
  ·subst e;simp
  ·rw[if_neg (fun e=>hb.1 (by rw[e];exact List.mem_map.2 ⟨_,h,rfl⟩)),ih hb.2 h]
def Dj(b:Bool)(x:Tm×Int):Bool:=b&&x.1.op !=1
def SP(t:Tm):Bool:=(pre t 1).all fun x=>x.1.op !=1
theorem tI:∀ (l:List (Tm×Int)) (b:Bool),(aQ (xo (fun _=>none) Dj) b l).1=(b&&l.all fun x=>x.1.op !=1)
 |[],b=>by simp[aQ]
 |x::l,b=>by
  have e1:xo (fun _=>(none:Option jX)) Dj b x=(Dj b x,true):=rfl
  rw[aQ,e1]
  simp only[if_true]
  rw[tI l,Dj,List.all_cons,Bool.and_assoc]
theorem Fa(s:aF)(hs:s.Fits)(t:Tm)(ht:t.Fin):aV Tryz.prog 129 [s.d,t.d] (.ret [.bool (ja s [t]&&nP t), .bool (ja s [t]&&nP t&&SP t), .i (mO (ja s [t]))]):=by
 refine aV.aG mix R7 aH ?_
 rw[Vt]
 refine bI ?_
 refine ak (OW s hs [t] aH (fun x hx=>by simp at hx;subst hx;exact ht)) rfl ?_
 cases h1:ja s [t]with
 |false=>simp+contextual (disch:=first|omega|simp only[go_sem,false_implies]) only[go_sem,wrap64,if_pos,and_self];simp[mO]
 |true=>
  refine gH ?_
  refine bX (wv t _ _ _ _ ?_)
  refine gH ?_
  refine nO (σ:=Bool) t ht.fits ht.mm [.ad, .ad, .ad, .ptr 1 0, .ad, .ad, .ad, .ptr 10 0] ?_ bD rfl dB xU (aa _ _ _)
   (fun b=>ay (ay (ay (ay (ay (fun _=> .no) 0 (.row s.row)) 1 (.row t.row)) 7 (.arr 0 33 3 [t.d])) 10 (.row [.d (.bool b)])) 13 (.row t.row)) (fun _=>none) Dj (fun _=>True) true trivial rfl (fun id aw=> ?_) (fun _ _ _ _ _ _=>trivial) ?_ ?_
  ·exact JC
  ·rw[uE]
  ·intro L hL xP x hx s' h1 h2 o3 n3 hI hn ho K X eG
   simp only[pH]
   have hg:=hI.cA
   have q1:o3 10= .row [.d (.bool s')]:=hI.eq 10 af
   refine bI ?_
   refine nK hL (pd:=none) ?_ ?_
   ·(repeat(first|rfl|rw[aa]|rw[ae _ _ _ _ (by omega)]))
    exact ho
   refine lT q1 ?_
   refine eG _ _ _ .busy none af ⟨dB,af,fun id aw=> ?_⟩ cF (fun id h3 h4=>by(repeat(first|rfl|rw[aa]|rw[ae _ _ _ _ (by omega)])))
   by_cases e:id=10
   ·exact uQ
   ·rw[ae _ _ _ _ e];(repeat(first|rfl|rw[aa]|rw[ae _ _ _ _ (by omega)]))
    rw[hI.eq id aw]
    simp only[aL,e,if_false]
  ·intro o' n' hI
   have hf:=tI (pre t 1) true
   rw[Bool.true_and]at hf
   rw[hf]at hI
   have q0:o' 1= .row t.row:=hI.eq 1 af
   have q1:o' 10= .row [.d (.bool (SP t))]:=hI.eq 10 af
   simp only[qF]
   refine Bh q0 q1 ?_
   refine ak (IL t ht) rfl ?_
   cases hv:nP t<;>(simp+contextual (disch:=first|omega|simp only[go_sem,false_implies]) only[go_sem,wrap64,if_pos,q0,q1];refine aE bD ?_;simp+contextual (disch:=first|omega|simp only[go_sem,false_implies]) only[go_sem,wrap64,if_pos,and_self];simp[mO])
theorem G1{v op n:Int}(h:op≠8):∀ (l:List Tm) (i:Nat),AO v op n l i=l.any (gC v)
 |[],i=>rfl
 |k::l,i=>by
  have:(op==8)=false:=by simpa using h
  simp[AO,G1 h l,this]
theorem LX{s:aF}{t:Tm}(h:bB s t=true)(h1:t.op=1):t.kids=[]:=by
 simp[bB,h1]at h
 exact h.1
theorem SQ(l:List Int)(n:Int)(hl:l.length<=1000000):aV Tryz.prog 151 [.sl (l.map .i), .i n] (.ret [.bool (l.contains n)]):=by
 refine aV.aG mix abV aH ?_
 rw[abU]
 refine bI ?_
 refine aC (fun k:Nat=>⟨aY [.d (.sl (l.map .i)), .d (.i n), .ad, .ad, .ad, .d (.i k)],fun _=> .no,0⟩)
  (fun k=>k<=l.length/\(l.take k).contains n=false) (fun k=>l.length - k) 0 ⟨Nat.zero_le _,aH⟩ (bH.d0 _ ?_) (fun k hk=> ?_)
 ·exact dC
 refine bI ?_
 refine ao (fun h2=> ?_) (fun h2=> ?_)
 ·simp at h2
  obtain⟨x,hx⟩:=aA h2
  refine lT hx ?_
  refine ao (fun h3=> ?_) (fun h3=> ?_)
  ·refine bI ?_
   have:l.contains n=true:=by
    exact YV
   rw[this]
  ·refine bI ?_
   refine aj (k+1) ⟨h2, ?_⟩ af (bH.d0 _ ?_)
   ·have h4: ¬n=x:=fun e=>by subst e;simp at h3
    have h5:=hk.2
    rw[List.take_add_one,hx]
    rw[Bool.eq_false_iff]at h5|-
    intro hc;apply h5
    rw[List.contains_iff_mem]at hc|-
    rcases List.mem_append.1 hc with hc|hc
    ·exact hc
    ·simp at hc;exact absurd hc h4
   ·exact dC
 ·simp at h2
  refine bI ?_
  have:=hk.2
  rw[List.take_of_length_le (by omega)]at this
  rw[this]
theorem wF:∀ (l:List Int) (n:Int),∃k,k<=l.length/\(∀x∈l.take k,x<n)/\(∀x,l[k]? =some x-> ¬x<n)/\oN l n=if l[k]? =some n then l else l.take k++n::l.drop k
 |[],n=>⟨0,Nat.zero_le _,aH,aH,by simp[oN]⟩
 |x::l,n=>by
  obtain⟨k,h1,h2,h3,h4⟩:=wF l n
  by_cases hx:x<n
  ·refine⟨k+1,by simp;omega, ?_,by simpa using h3, ?_⟩
   ·intro y hy
    simp only[List.take_succ_cons,List.mem_cons]at hy
    rcases hy with rfl|hy
    ·exact hx
    ·exact h2 y hy
   ·simp only[oN,if_pos hx,h4,List.getElem?_cons_succ,List.take_succ_cons,List.drop_succ_cons]
    split<;>simp
  ·refine⟨0,Nat.zero_le _,aH,by simpa using hx, ?_⟩
   simp only[oN,if_neg hx]
   by_cases e:x=n
   ·subst e;simp
   ·simp[e]
theorem acY(l:List Int)(n:Int)(hl:l.length<=1000000):aV Tryz.prog 155 [.sl (l.map .i), .i n] (.ret [.sl ((oN l n).map .i)]):=by
 obtain⟨j,j1,j2,j3,j4⟩:=wF l n
 have tk:∀ (i:Nat) (l:List Int),List.take i (l.map D.i)=(l.take i).map D.i:=fun i l=>List.map_take.symm
 have dr:∀ (i:Nat) (l:List Int),List.drop i (l.map D.i)=(l.drop i).map D.i:=fun i l=>List.map_drop.symm
 have ap:∀ (a b:List Int),a.map D.i++[D.i n]++b.map D.i=(a++n::b).map D.i:=fun a b=>aH
 refine aV.aG mix abX aH ?_
 rw[abW]
 refine bI ?_
 refine aC (fun k:Nat=>⟨aY [.d (.sl (l.map .i)), .d (.i n), .ad, .ad, .ad, .d (.i k)],fun _=> .no,0⟩)
  (fun k=>k<=j) (fun k=>l.length - k) 0 (Nat.zero_le _) (bH.d0 _ ?_) (fun k hk=> ?_)
 ·exact dC
 by_cases hkj:k=j
 ·subst hkj
  by_cases h5:k<l.length
  ·obtain⟨x,hx⟩:=aA h5
   have h6:=j3 x hx
   have tS:(k:Int)<l.length:=af
   refine D2 hx tS h6 ?_
   refine ao (fun h3=> ?_) (fun h3=> ?_)
   ·refine bI ?_
    have e:x=n:=by simpa using h3
    rw[j4,if_pos (by rw[hx,e])]
   ·have e: ¬x=n:=by simpa using h3
    rw[j4,if_neg (by rw[hx];simpa using e)]
    refine S9 hx tS h6 tk dr ?_
    rw[ap]
    refine aE bD ?_
    exact jW
  ·have tS: ¬ (k:Int)<l.length:=af
   have hx:l[k]? =none:=by simp;omega
   rw[j4,if_neg (by rw[hx];simp)]
   refine Ta tS tk dr ?_
   rw[ap]
   refine aE bD ?_
   exact jW
 ·have ck:k<l.length:=af
  obtain⟨x,hx⟩:=aA ck
  have tS:(k:Int)<l.length:=af
  have h6:x<n:=j2 x (List.mem_of_getElem? (i:=k) (by rw[List.getElem?_take_of_lt (by omega)];exact hx))
  refine D2 hx tS h6 ?_
  refine aj (k+1) af af (bH.d0 _ ?_)
  exact dC
theorem IZ{op n:Int}{i:Nat}{l:List Int}{k:Nat}{v:Int}(h:l[k]? =some v)(out:List Int):pS op n i (l.take (k+1)) out=if(op !=8||(i:Int)!=1||v !=n)=true then oN (pS op n i (l.take k) out) v else pS op n i (l.take k) out:=by
 unfold pS
 rw[List.take_add_one,h,List.foldl_append]
 rfl
theorem Wi{t a body:Tm}{v:Int}(h8:t.op=8)(hk:t.kids=[a,body]):gC v t=(gC v a||(gC v body&& !(t.n==v))):=by
 rw[sL,hk,h8]
 simp[AO]
theorem nR{v n:Int}:gC v (.mk 1 n [])=(n==v):=rfl
theorem LY{t:Tm}{v:Int}(h1:t.op≠1)(h8:t.op≠8):gC v t=t.kids.any (gC v):=by rw[sL,if_neg h1,G1 h8]
def afa(R:Int->Int->Prop)(x y:Int):Int->Int->Prop:=fun v w=>(v=x/\w=y)\/(v≠x/\w≠y/\R v w)
inductive Al:(Int->Int->Prop)->Tm->Tm->Prop where
 |var {R:Int->Int->Prop} {v w:Int} (h:R v w):Al R (.mk 1 v []) (.mk 1 w [])
 |Fb {R:Int->Int->Prop} {n m:Int} {a a' b b':Tm} (ha:Al R a a') (hb:Al (afa R n m) b b'):Al R (.mk 8 n [a,b]) (.mk 8 m [a',b'])
 |node {R:Int->Int->Prop} {op n:Int} {l l':List Tm} (h1:op≠1) (h8:op≠8) (hl:l.length=l'.length) (h:∀ (i:Nat) (k k':Tm),l[i]? =some k->l'[i]? =some k'->Al R k k'):Al R (.mk op n l) (.mk op n l')
theorem Al.mono {R:Int->Int->Prop}{t t':Tm}(h:Al R t t'):∀ {S:Int->Int->Prop},(∀v w,R v w->S v w)->Al S t t':=by
 induction h with
 |var h=>exact fun hs=> .var (hs _ _ h)
 |Fb ha hb iha ihb=>
  exact fun hs=> .Fb (iha hs) (ihb fun v w h=>h.elim Or.inl fun h=>Or.inr ⟨h.1,h.2.1,hs _ _ h.2.2⟩)
 |node h1 h8 hl h ih=>exact fun hs=> .node h1 h8 hl fun i k k' g g'=>ih i k k' g g' hs
def acZ(R S:Int->Int->Prop):Int->Int->Prop:=fun v w=>∃u,R v u/\S u w
theorem Al.comp {R:Int->Int->Prop}{t t1:Tm}(h:Al R t t1):∀ {S:Int->Int->Prop} {t2:Tm},Al S t1 t2->Al (acZ R S) t t2:=by
 induction h with
 |var h=>
  intro S t2 h2
  generalize he:Tm.mk 1 _ []=x at h2
  cases h2 with
  |var h3=>injection he with _ e _;subst e;exact .var ⟨_,h,h3⟩
  |Fb _ _=>injection he with e;cases e
  |node g1 _ _ _=>injection he with e;exact absurd e.symm g1
 |Fb ha hb iha ihb=>
  intro S t2 h2
  generalize he:Tm.mk 8 _ _=x at h2
  cases h2 with
  |var h3=>injection he with e;cases e
  |Fb g1 g2=>
   injection he with _ e1 e2
   injection e2 with e2 e3
   injection e3 with e3 _
   subst e1;subst e2;subst e3
   refine .Fb (iha g1) ((ihb g2).mono ?_)
   rintro v w ⟨u,(⟨p1,p2⟩|⟨p1,p2,p3⟩),(⟨q1,q2⟩|⟨q1,q2,q3⟩)⟩
   ·exact Or.inl ⟨p1,q2⟩
   ·exact absurd p2 q1
   ·exact absurd q1 p2
   ·exact Or.inr ⟨p1,q2,u,p3,q3⟩
  |node g1 g8 _ _=>injection he with e;exact absurd e.symm g8
 |node h1 h8 hl h ih=>
  intro S t2 h2
  generalize he:Tm.mk _ _ _=x at h2
  cases h2 with
  |var h3=>injection he with e;exact absurd e h1
  |Fb _ _=>injection he with e;exact absurd e h8
  |node g1 g8 gl g3=>
   injection he with e1 e2 e3
   subst e1;subst e2;subst e3
   refine .node h1 h8 (hl.trans gl) fun i k k2 hk OX=> ?_
   have ck:i<_:=(List.getElem?_eq_some_iff.1 hk).1
   have NZ:=List.getElem?_eq_getElem (hl ▸ ck)
   exact ih i k _ hk NZ (g3 i _ k2 NZ OX)
theorem OY{t:Tm}(hw:t.wf)(h:t.op=1):t= .mk 1 t.n []:=by
 obtain⟨op,n,kids⟩:=t
 rw[Tm.E9]at hw
 simp only[Tm.op,Tm.n,Tm.kids]at h hw|-
 rw[h,hw.1 h]
def IC.snd:IC->IC
 | .seq _ y=>y
 |c=>c
def IC.fst:IC->IC
 | .seq x _=>x
 | .block _ x=>x
 | .loop x=>x
 | .cond _ x _=>x
 |c=>c
@[reducible] def afb (m:List (Int×Int)):ab:= .map 3 3 (enc (D.int .i64) (ints m))
@[reducible] def afc (m:List (Int×Int)):ab:= .b7 (enc (D.int .i64) (ints m))
def BdV(o:Nat->ab)(bv:V)(m:List (Int×Int)):Prop:=(bv= .d .dK/\m=[])\/∃b,bv= .mp b/\o b=afc m
structure afd (o:Nat->ab) (nx cid fid:Nat) (bv:V) (mB bd fr:List (Int×Int)) (n:Int) (sz:Nat):Prop where
 cA:Good o nx
 hc:o cid= .row [.d (.i n), .mp fid]
 hf:o fid=afb fr
 hb:BdV o bv mB
 kb:Keys mB
 lk:∀v,lk mB v=lk bd v
 n0:0<=n
 n1:n+sz<=1000000
@[go_sem] theorem XZ {P:Program} {kt:TypeId} {k:D} {i:Nat}:findD P kt k [] i=some none:=rfl
theorem kD{c:Nat}{G:List Gr}{so:Nat->ab}{gone:Nat->Prop}{x x' y y':ab}(h:x=y)(h':x'=y')(hs:C2 c G so gone y y'):C2 c G so gone x x':=by rw[h,h'];exact hs
theorem my:∀l:List Tm,l.length<=rK l
 |[]=>by simp[rK]
 |k::l=>by have:=my l;have:=Tm.sJ k;rw[qZ,List.length_cons];omega
theorem Tm.mU {t k:Tm}(hk:k∈t.kids):k.sz+1<=t.sz:=by
 have:=Tm.yX hk
 rw[Tm.Dd,Tm.Dd]at this
 omega
theorem Tm.y0:∀t:Tm,t.mm<=t.sz:=by
 refine Tm.eY fun t ih=> ?_
 have h:Tm.iM t.kids<=t.sz - 1:=(ou _ _).2 fun k hk=>by have:=ih k hk;have:=Tm.mU hk;omega
 have:=Tm.sJ t
 rw[Tm.pP]
 omega
theorem Tm.dv:∀t:Tm,t.sz<=1000000->t.fits:=by
 refine Tm.eY fun t ih h=> ?_
 rw[Tm.bT]
 refine⟨?_,fun k hk=>ih k hk (by have:=Tm.mU hk;omega)⟩
 have:=my t.kids
 rw[Tm.jR]at h
 omega
def j8(b:List (Int×Tm)):List (Int×D):=b.map fun p=>(p.1,p.2.d)
@[reducible] def DX (b:List (Int×Tm)):D:=mpD (j8 b)
theorem wG:∀ (m:List (Int×Tm)) (v:Int) (i:Nat),(match jm v (j8 m) i with|some (_,x)=>some x|none=>none)=(bR m v).map Tm.d
 |[],_,_=>rfl
 |p::m,v,i=>by
  have ih:=wG m v (i+1)
  simp only[j8,List.map_cons,jm,bR]at ih|-
  by_cases h:v=p.1
  ·subst h;simp
  ·have h2: ¬p.1=v:=fun e=>h e.symm
   simp only[beq_iff_eq,h,h2,if_false]
   exact ih
theorem fP{m:List (Int×Tm)}{v:Int}{x:Tm}(h:bR m v=some x):∃j,jm v (j8 m) 0=some (j,x.d):=by
 have:=wG m v 0
 rw[h]at this
 cases h2:jm v (j8 m) 0 with
 |none=>rw[h2]at this;cases this
 |some p=>obtain⟨j,y⟩:=p;rw[h2]at this;simp at this;subst this;exact⟨j,rfl⟩
theorem eE{m:List (Int×Tm)}{v:Int}(h:bR m v=none):jm v (j8 m) 0=none:=by
 have:=wG m v 0
 rw[h]at this
 cases h2:jm v (j8 m) 0 with
 |none=>rfl
 |some p=>rw[h2]at this;cases this
theorem sM{K:V->List (Nat×ab)->Prop}{id:Nat}{m:List (Int×Tm)}(h0:m=[]->K (.bS [.d (.bool false)]) [])
 (h1:∀ (i:Nat) k x,m[i]? =some (k,x)->K (.bS [.d (.bool true), .d (.int .i64 k), .d x.d]) [(id, .rG (enc (D.int .i64) (j8 (m.eraseIdx i))) (some (.int .i64 k,x.d)))]):Gs K id (enc (D.int .i64) (j8 m)):=by
 refine IE _ (fun h=>h0 ?_) fun i k x h=> ?_
 ·cases m with
  |nil=>rfl
  |cons x l=>simp[j8]at h
 ·unfold j8 at h|-
  rw[List.getElem?_map]at h
  cases hm:m[i]? with
  |none=>rw[hm]at h;cases h
  |some p=>
   rw[hm]at h
   simp at h
   obtain⟨rfl,rfl⟩:=h
   have:=h1 i p.1 p.2 (by rw[hm])
   rw[mu]
   exact this
@[reducible] def dg (m:List (Int×Tm)):ab:= .map 3 33 (enc (D.int .i64) (j8 m))
theorem Dk{m:List (Int×Tm)}{v:Int}{x:Tm}(h:bR m v=none):ID v x.d (j8 m)=j8 (m++[(v,x)]):=by
 unfold ID
 rw[eE h]
 simp[j8]
theorem nS(s:aF):∀t:Tm,iy s t=true->t.wf:=by
 refine Tm.eY fun t ih h=> ?_
 rw[lH,Bool.and_eq_true,List.all_eq_true]at h
 rw[Tm.E9]
 refine⟨fun h1=>LX h.1 h1,fun h8=> ?_,fun k hk=>ih k hk (h.2 k hk)⟩
 have:=h.1
 simp[bB,h8]at this
 omega
theorem G2{s:aF}{t:Tm}(h:gA s t=true):t.wf/\t.sz<=40/\t.mm<=12:=by
 simp only[gA,Bool.and_eq_true,decide_eq_true_eq,q8]at h
 exact⟨nS s t h.2,af,af⟩
def ah(l:List TB):List (Int×Tm):=l.map fun x=>(x.var,x.term)
theorem Fc{s:aF}{op n:Int}{l l':List Tm}(h:l'.length=l.length):bB s (.mk op n l')=bB s (.mk op n l):=by
 unfold bB
 dsimp only[Tm.op,Tm.n,Tm.kids]
 rw[h]
 rfl
theorem I0{s:aF}{k:Int}(h:0<=k/\k<20):bB s (.mk 1 k [])=true:=by
 have:dS k 0 19=true:=by simp[dS];omega
 simp[bB,Tm.op,Tm.n,Tm.kids,this]
theorem LZ{s:aF}:∀t:Tm,iy s t=true->∀v,gC v t=true->0<=v/\v<20:=by
 refine Tm.eY fun t ih h v hv=> ?_
 have hw:=(Tm.E9 t).1 (nS s t h)
 rw[lH,Bool.and_eq_true,List.all_eq_true]at h
 by_cases h1:t.op=1
 ·rw[sL,if_pos h1]at hv
  have hv:t.n=v:=by simpa using hv
  have:=h.1
  simp[bB,h1,dS]at this
  omega
 ·by_cases h8:t.op=8
  ·obtain⟨a,body,hk⟩:=Wh (hw.2.1 h8)
   rw[Wi h8 hk,Bool.or_eq_true,Bool.and_eq_true]at hv
   rcases hv with hv|hv
   ·exact ih a (by rw[hk];simp) (h.2 a (by rw[hk];simp)) v hv
   ·exact ih body (by rw[hk];simp) (h.2 body (by rw[hk];simp)) v hv.1
  ·rw[LY h1 h8,List.any_eq_true]at hv
   obtain⟨k,hk,hv⟩:=hv
   exact ih k hk (h.2 k hk) v hv
def findF(l:List TB)(n:Int):Int:=match l.findIdx? (·.var==n)with|some i=>i|none=> -1
theorem Wj(l:List TB)(n:Int)(hl:l.length<=1000000):aV Tryz.prog 123 [.sl (l.map TB.d), .i n] (.ret [.i (findF l n)]):=by
 refine aV.aG mix abA aH ?_
 rw[abz]
 refine bI ?_
 refine aC (fun k:Nat=>⟨aY [.d (.sl (l.map TB.d)), .d (.i n), .ad, .ad, .ad, .d (.i k)],fun _=> .no,0⟩)
  (fun k=>k<=l.length/\∀j x,j<k->l[j]? =some x->x.var≠n) (fun k=>l.length - k) 0 ⟨Nat.zero_le _,fun _ _ h=>absurd h af⟩ (bH.d0 _ ?_) (fun k hk=> ?_)
 ·exact dC
 refine uj ?_
 refine ao (fun h2=> ?_) (fun h2=> ?_)
 ·simp at h2
  obtain⟨x,hx⟩:=aA h2
  refine rD hx ?_
  refine ao (fun h3=> ?_) (fun h3=> ?_)
  ·have j6:x.var=n:=by simpa using h3
   have:findF l n=k:=by
    have:l.findIdx? (·.var==n)=some k:=by
     rw[List.findIdx?_eq_some_iff_getElem]
     obtain⟨HN,e⟩:=List.getElem?_eq_some_iff.1 hx
     refine⟨HN,by rw[e];simpa using j6,fun j hj=> ?_⟩
     have:=hk.2 j _ hj (List.getElem?_eq_getElem af)
     simpa using this
    rw[findF,this]
   rw[this]
   exact jW
  ·have j6:x.var≠n:=by simpa using h3
   refine bI ?_
   refine aj (k+1) ⟨h2,fun j y hj hy=> ?_⟩ af (bH.d0 _ ?_)
   ·by_cases e:j=k
    ·exact Qo
    ·exact hk.2 j y af hy
   ·exact dC
 ·simp at h2
  have:findF l n= -1:=by
   have:l.findIdx? (·.var==n)=none:=by
    rw[List.findIdx?_eq_none_iff]
    intro x hx
    obtain⟨j,hj,e⟩:=List.getElem_of_mem hx
    have:=hk.2 j x af (by rw[List.getElem?_eq_getElem hj,e])
    simpa using this
   rw[findF,this]
  rw[this]
  exact jW
theorem rb(l:List TB)(n:Int):(findF l n<0/\bR (ah l) n=none)\/∃ (k:Nat) (x:TB),findF l n=k/\l[k]? =some x/\bR (ah l) n=some x.term:=by
 induction l with
 |nil=>left;exact⟨by simp[findF],rfl⟩
 |cons y l ih=>
  by_cases h:y.var=n
  ·right
   refine⟨0,y, ?_,rfl, ?_⟩
   ·simp[findF,List.findIdx?_cons,h]
   ·simp[ah,bR,h]
  ·have hf:bR (ah (y::l)) n=bR (ah l) n:=by simp[ah,bR,h]
   have h':(y.var==n)=false:=by simpa using h
   rw[hf]
   unfold findF at ih|-
   rw[List.findIdx?_cons,h']
   simp only[Bool.false_eq_true,if_false]
   rcases ih with⟨h1,h2⟩|⟨k,x,h1,h2,h3⟩
   ·left
    refine⟨?_,h2⟩
    cases hi:l.findIdx? (·.var==n)with
    |none=>simp
    |some i=>rw[hi]at h1;simp at h1;omega
   ·right
    refine⟨k+1,x, ?_,h2,h3⟩
    cases hi:l.findIdx? (·.var==n)with
    |none=>rw[hi]at h1;simp at h1;try omega
    |some i=>rw[hi]at h1;simp at h1|-;try omega
def j9(g:List Int)(i:Int):Nat:=(g.filter fun x=>decide (x<i)).length
theorem nT{g:List Int}{i:Int}(h:∀x∈g,i<=x):j9 g i=0:=by
 unfold j9
 rw[List.filter_eq_nil_iff.2 (fun x hx=>by have:=h x hx;simp;omega)];rfl
theorem OZ{g:List Int}{i:Int}(h:∀x∈g,x<i):j9 g i=g.length:=by
 unfold j9
 rw[List.filter_eq_self.2 (fun x hx=>by simpa using h x hx)]
theorem Dl:∀ {g:List Int},E7 g->∀i:Int,if i∈g then g[j9 g i]? =some i/\j9 g (i+1)=j9 g i+1 else j9 g (i+1)=j9 g i
 |[],_,i=>by simp[j9]
 |x::g,hg,i=>by
  have X0:=List.pairwise_cons.1 hg
  have ih:=Dl X0.2 i
  have hc:∀j,j9 (x::g) j=(if x<j then 1 else 0)+j9 g j:=fun j=>by
   unfold j9
   rw[List.filter_cons]
   by_cases e:x<j
   ·simp[e];omega
   ·simp[e]
  rcases Int.lt_trichotomy x i with h|h|h
  ·have hm:(i∈x::g)↔i∈g:=by simp;omega
   simp only[hm,hc,if_pos h,if_pos (show x<i+1 by omega)]
   split
   ·rename_i e
    rw[if_pos e]at ih
    refine⟨?_,af⟩
    rw[show 1+j9 g i=j9 g i+1 by omega,List.getElem?_cons_succ]
    exact ih.1
   ·rename_i e
    rw[if_neg e]at ih
    omega
  ·subst h
   have z1:j9 g x=0:=nT fun y hy=>by have:=X0.1 y hy;omega
   have z2:j9 g (x+1)=0:=nT fun y hy=>by have:=X0.1 y hy;omega
   rw[if_pos (by simp),hc,hc,z1,z2,if_neg (by omega),if_pos (by omega)]
   exact⟨rfl,rfl⟩
  ·have hm: ¬i∈x::g:=by
    intro hm
    rcases List.mem_cons.1 hm with rfl|hm
    ·omega
    ·have:=X0.1 i hm;omega
   have z1:j9 g i=0:=nT fun y hy=>by have:=X0.1 y hy;omega
   have z2:j9 g (i+1)=0:=nT fun y hy=>by have:=X0.1 y hy;omega
   rw[if_neg hm,hc,hc,z1,z2,if_neg (by omega),if_neg (by omega)]
theorem AQ{ns:List Int}(h:∀n∈ns,0<=n/\n<20)(hi:E7 ns):ns.length<=20:=by
 have hc:∀k:Nat,j9 ns (k:Int)<=k:=by
  intro k
  induction k with
  |zero=>show j9 ns (0:Int)<=0;rw[nT (fun x hx=>(h x hx).1)];exact Nat.le_refl _
  |succ k ih=>
   have:=Dl hi (k:Int)
   rw[Int.natCast_succ]
   split at this<;>omega
 have:j9 ns (20:Int)<=20:=hc 20
 rwa [OZ (fun x hx=>(h x hx).2)]at this
mutual
def bc(b:List (Int×Tm)):Tm->Tm
 | .mk op n kids=>if op=1 then(match bR b n with|some x=>x|none=> .mk op n kids)else .mk op n (O0 b kids)
def O0(b:List (Int×Tm)):List Tm->List Tm
 |[]=>[]
 |k::l=>bc b k::O0 b l
end
theorem Dm(b:List (Int×Tm)):∀l:List Tm,O0 b l=l.map (bc b)
 |[]=>rfl
 |k::l=>by simp[O0,Dm b l]
theorem sN(b:List (Int×Tm))(t:Tm):bc b t=if t.op=1 then(match bR b t.n with|some x=>x|none=>t)else .mk t.op t.n (t.kids.map (bc b)):=by
 cases t;simp only[bc,Dm,Tm.op,Tm.n,Tm.kids];rfl
def Lv(b:List (Int×Tm))(v:Int):Tm:=match bR b v with|some x=>x|none=> .mk 1 v []
def vop(t:Tm):Prop:=(1<=t.op/\t.op<=3)\/t.op=5
def Vs(s:aF)(t:Tm):Prop:=iy s t=true/\eZ t=true
theorem sO{s:aF}{t:Tm}:Vs s t↔bB s t=true/\vop t/\∀k∈t.kids,Vs s k:=by
 unfold Vs vop
 rw[lH,sI]
 simp only[Bool.and_eq_true,List.all_eq_true,Bool.or_eq_true,decide_eq_true_eq,beq_iff_eq]
 constructor
 ·rintro⟨⟨h1,h2⟩,h3,h4⟩;exact⟨h1,h4,fun k hk=>⟨h2 k hk,h3 k hk⟩⟩
 ·rintro⟨h1,h2,h3⟩;exact⟨⟨h1,fun k hk=>(h3 k hk).1⟩,fun k hk=>(h3 k hk).2,h2⟩
theorem Vs.kY {s:aF}{t k:Tm}(h:Vs s t)(hk:k∈t.kids):Vs s k:=(sO.1 h).2.2 k hk
theorem Vs.eta {s:aF}{t:Tm}(h:Vs s t)(h1:t.op=1):t= .mk 1 t.n []:=OY (nS s t h.1) h1
theorem Vs.n8 {s:aF}{t:Tm}(h:Vs s t):t.op≠8:=by rcases(sO.1 h).2.1 with h|h<;>omega
theorem Vs.range {s:aF}{t:Tm}(h:Vs s t){v:Int}(hv:gC v t=true):0<=v/\v<20:=LZ t h.1 v hv
theorem Vs.var {s:aF}{v:Int}(h:0<=v/\v<20):Vs s (.mk 1 v []):=sO.2 ⟨I0 h,Or.inl ⟨by show(1:Int)<=1;omega,by show(1:Int)<=3;omega⟩,fun k hk=>by cases hk⟩
theorem Vs.mk' {s:aF}{t:Tm}{l:List Tm}(h:Vs s t)(hl:l.length=t.kids.length)(hk:∀k∈l,Vs s k):Vs s (.mk t.op t.n l):=
 sO.2 ⟨by rw[Fc hl,Tm.eta];exact(sO.1 h).1,(sO.1 h).2.1,hk⟩
theorem iF{t:Tm}(h1:t.op=1){v:Int}:gC v t=true↔t.n=v:=by rw[sL,if_pos h1];simp
theorem re{s:aF}{t:Tm}(h:Vs s t)(h1:t.op≠1){v:Int}:gC v t=true↔∃k∈t.kids,gC v k=true:=by rw[LY h1 h.n8,List.any_eq_true]
theorem je{b:List (Int×Tm)}{s:aF}{t:Tm}(h:Vs s t)(h1:t.op=1):bc b t=Lv b t.n:=by
 rw[sN,if_pos h1,Lv]
 cases bR b t.n with
 |some x=>rfl
 |none=>exact h.eta h1
theorem pU{b:List (Int×Tm)}{v:Int}:bc b (.mk 1 v [])=Lv b v:=by rw[sN];rfl
theorem jf{b:List (Int×Tm)}{t:Tm}(h1:t.op≠1):bc b t= .mk t.op t.n (t.kids.map (bc b)):=by rw[sN,if_neg h1]
theorem L0{s:aF}{b c:List (Int×Tm)}:∀t:Tm,Vs s t->(∀v,gC v t=true->Lv b v=Lv c v)->bc b t=bc c t:=by
 refine Tm.eY fun t ih hv h=> ?_
 by_cases h1:t.op=1
 ·rw[je hv h1,je hv h1,h _ ((iF h1).2 rfl)]
 ·rw[jf h1,jf h1,List.map_congr_left fun k hk=>ih k hk (hv.kY hk) fun v L1=>h v ((re hv h1).2 ⟨k,hk,L1⟩)]
theorem G3{s:aF}{b c d:List (Int×Tm)}:∀t:Tm,Vs s t->(∀v,gC v t=true->bc c (Lv b v)=Lv d v)->bc c (bc b t)=bc d t:=by
 refine Tm.eY fun t ih hv h=> ?_
 by_cases h1:t.op=1
 ·rw[je hv h1,je hv h1,h _ ((iF h1).2 rfl)]
 ·rw[jf h1,jf h1 (b:=d),jf (by exact h1)]
  show Tm.mk t.op t.n ((t.kids.map (bc b)).map (bc c))=_
  rw[List.map_map,List.map_congr_left (f:=bc c∘bc b) (g:=bc d) fun k hk=>ih k hk (hv.kY hk) fun v L1=>h v ((re hv h1).2 ⟨k,hk,L1⟩)]
theorem L2{s:aF}{b:List (Int×Tm)}:∀t:Tm,Vs s t->(∀v,gC v t=true->bR b v=none)->bc b t=t:=by
 refine Tm.eY fun t ih hv h=> ?_
 by_cases h1:t.op=1
 ·rw[je hv h1,Lv,h _ ((iF h1).2 rfl)]
  exact(hv.eta h1).symm
 ·rw[jf h1,List.map_congr_left (g:=id) fun k hk=>ih k hk (hv.kY hk) fun v L1=>h v ((re hv h1).2 ⟨k,hk,L1⟩),List.map_id]
  exact Tm.eta t
theorem Vs.Lv {s:aF}{b:List (Int×Tm)}(hb:∀p∈b,Vs s p.2){v:Int}(h:0<=v/\v<20):Vs s (Lv b v):=by
 unfold YtlhemmpklhhgoaaGreat.Lv
 cases hl:bR b v with
 |some x=>exact hb _ (cK hl)
 |none=>exact Vs.var h
theorem Vs.sub {s:aF}{b:List (Int×Tm)}(hb:∀p∈b,Vs s p.2):∀t:Tm,Vs s t->Vs s (bc b t):=by
 refine Tm.eY fun t ih hv=> ?_
 by_cases h1:t.op=1
 ·rw[je hv h1];exact Vs.Lv hb (hv.range ((iF h1).2 rfl))
 ·rw[jf h1]
  refine hv.mk' aH fun k hk=> ?_
  obtain⟨x,hx,rfl⟩:=List.mem_map.1 hk
  exact ih x hx (hv.kY hx)
theorem tJ{s:aF}{b:List (Int×Tm)}(hb:∀p∈b,Vs s p.2):∀t:Tm,Vs s t->∀v,gC v (bc b t)=true↔∃u,gC u t=true/\gC v (Lv b u)=true:=by
 refine Tm.eY fun t ih hv v=> ?_
 by_cases h1:t.op=1
 ·rw[je hv h1]
  simp only[iF h1]
  exact⟨fun h=>⟨_,rfl,h⟩,fun⟨u,e,h⟩=>e ▸ h⟩
 ·have IV:=Vs.sub hb t hv
  rw[jf h1]at IV|-
  rw[re IV (by exact h1)]
  simp only[re hv h1,Tm.kids,List.mem_map]
  constructor
  ·rintro⟨_,⟨k,hk,rfl⟩,h⟩
   obtain⟨u,h2,h3⟩:=(ih k hk (hv.kY hk) v).1 h
   exact⟨u,⟨k,hk,h2⟩,h3⟩
  ·rintro⟨u,⟨k,hk,h2⟩,h3⟩
   exact⟨_,⟨k,hk,rfl⟩,(ih k hk (hv.kY hk) v).2 ⟨u,h2,h3⟩⟩
theorem ac0{b:List (Int×Tm)}{t:Tm}(h1:t.op≠1):(bc b t).op=t.op/\(bc b t).n=t.n/\(bc b t).kids=t.kids.map (bc b):=by rw[jf h1];exact⟨rfl,rfl,rfl⟩
def mN:List TB->Int->Tm->List TB
 |[],n,t=>[⟨n,t⟩]
 |x::l,n,t=>if x.var<n then x::mN l n t else⟨n,t⟩::x::l
abbrev sP(n:Int)(t:Tm):List (Int×Tm):=[(n,t)]
def jg(l:List TB)(n:Int)(t:Tm):List TB:=mN (l.map fun x=>⟨x.var,bc (sP n t) x.term⟩) n t
def dw(F:Tm->Tm->List TB->Option (List TB×Bool)):List Tm->List Tm->List TB->Option (List TB×Bool)
 |k::ks,k'::dD,l=>match F k k' l with
  |some (l1,true)=>dw F ks dD l1
  |some (l1,false)=>some (l1,false)
  |none=>none
 |_,_,l=>some (l,true)
def fZ:Nat->Tm->Tm->List TB->Option (List TB×Bool)
 |0,_,_,_=>none
 |f+1,a,c,l=>
  if hO (bc (ah l) a) (bc (ah l) c)=true then some (l,true)
  else if(bc (ah l) a).op=1/\(bc (ah l) c).op=1 then some (jg l (max (bc (ah l) a).n (bc (ah l) c).n) (.mk 1 (min (bc (ah l) a).n (bc (ah l) c).n) []),true)
  else if(bc (ah l) a).op=1 then some (jg l (bc (ah l) a).n (bc (ah l) c), !(cJ (bc (ah l) c)).contains (bc (ah l) a).n)
  else if(bc (ah l) c).op=1 then some (jg l (bc (ah l) c).n (bc (ah l) a), !(cJ (bc (ah l) a)).contains (bc (ah l) c).n)
  else if(bc (ah l) a).op≠(bc (ah l) c).op\/(bc (ah l) a).n≠(bc (ah l) c).n\/(bc (ah l) a).kids.length≠(bc (ah l) c).kids.length then some ([],false)
  else dw (fZ f) (bc (ah l) a).kids (bc (ah l) c).kids l
theorem Wk{l:List TB}{n:Int}{t:Tm}(hn:bR (ah l) n=none)(v:Int):bR (ah (mN l n t)) v=if v=n then some t else bR (ah l) v:=by
 induction l with
 |nil=>
  simp only[mN,ah,List.map_cons,List.map_nil,bR]
  by_cases e:v=n
  ·simp[e]
  ·exact JP
 |cons x l ih=>
  simp only[ah,List.map_cons,bR]at hn
  by_cases e1:x.var=n
  ·rw[if_pos e1]at hn;cases hn
  ·rw[if_neg e1]at hn
   have ih:=ih hn
   simp only[mN]
   split
   ·simp only[ah,List.map_cons,bR]at ih|-
    by_cases e:x.var=v
    ·rw[if_pos e,if_pos e,if_neg fun h=>e1 (e.trans h)]
    ·rw[if_neg e,if_neg e];exact ih
   ·simp only[ah,List.map_cons,bR]
    by_cases e:v=n
    ·simp[e]
    ·exact JP
theorem L3(l:List TB)(g:Tm->Tm)(v:Int):bR (ah (l.map fun x=>⟨x.var,g x.term⟩)) v=(bR (ah l) v).map g:=by
 induction l with
 |nil=>rfl
 |cons x l ih=>
  simp only[ah,List.map_cons,bR]at ih|-
  split
  ·rfl
  ·exact ih
theorem AR{l:List TB}{n:Int}{t:Tm}(hn:bR (ah l) n=none)(v:Int):bR (ah (jg l n t)) v=if v=n then some t else(bR (ah l) v).map (bc (sP n t)):=by
 unfold jg
 rw[Wk (by rw[L3,hn];rfl),L3]
theorem AS{n v:Int}{t:Tm}:Lv (sP n t) v=if v=n then t else .mk 1 v []:=by
 simp only[Lv,sP,bR]
 by_cases e:v=n
 ·simp[e]
 ·exact JP
theorem rh{l:List TB}{n:Int}{t:Tm}(hn:bR (ah l) n=none)(v:Int):Lv (ah (jg l n t)) v=if v=n then t else bc (sP n t) (Lv (ah l) v):=by
 simp only[Lv,AR hn]
 by_cases e:v=n
 ·simp[e]
 ·simp only[if_neg e]
  cases h:bR (ah l) v with
  |some x=>rfl
  |none=>simp only[Option.map_none];rw[pU,AS,if_neg e]
structure jh (s:aF) (l:List TB):Prop where
 srt:l.Pairwise fun x y=>x.var<y.var
 ok:∀x∈l,(0<=x.var/\x.var<20)/\Vs s x.term
 idem:∀x∈l,∀u,gC u x.term=true->bR (ah l) u=none
theorem jh.nil {s:aF}:jh s []:=⟨List.Pairwise.nil,fun _ h=>oU,fun _ h=>oU⟩
theorem jh.bd {s:aF}{l:List TB}(h:jh s l):∀p∈ah l,Vs s p.2:=fun p hp=>by
 obtain⟨x,hx,rfl⟩:=List.mem_map.1 hp
 exact(h.ok x hx).2
theorem lL{l:List TB}{v:Int}{t:Tm}(h:bR (ah l) v=some t):∃x∈l,x.var=v/\x.term=t:=by
 obtain⟨x,hx,e⟩:=List.mem_map.1 (cK h)
 injection e with e1 e2
 exact⟨x,hx,e1,e2⟩
theorem jh.O2 {s:aF}{l:List TB}(h:jh s l){v u:Int}(hu:gC u (Lv (ah l) v)=true):bR (ah l) u=none:=by
 unfold Lv at hu
 cases hl:bR (ah l) v with
 |some x=>
  rw[hl]at hu
  obtain⟨y,hy,e1,e2⟩:=lL hl
  exact h.idem y hy u (e2 ▸ hu)
 |none=>
  rw[hl]at hu
  have:v=u:=by rw[nR]at hu;simpa using hu
  exact this ▸ hl
theorem jh.free {s:aF}{l:List TB}(h:jh s l){t:Tm}(ht:Vs s t){u:Int}(hu:gC u (bc (ah l) t)=true):bR (ah l) u=none:=by
 obtain⟨w,_,h2⟩:=(tJ h.bd t ht u).1 hu
 exact h.O2 h2
def oO(l l':List TB):Prop:=∀v,bc (ah l') (Lv (ah l) v)=Lv (ah l') v
theorem oO.sub {s:aF}{l l':List TB}(h:oO l l'){t:Tm}(ht:Vs s t):bc (ah l') (bc (ah l) t)=bc (ah l') t:=G3 t ht fun v _=>h v
theorem oO.refl {s:aF}{l:List TB}(h:jh s l):oO l l:=fun v=>by
 cases hl:bR (ah l) v with
 |none=>rw[show Lv (ah l) v= .mk 1 v [] by simp[Lv,hl],pU];simp[Lv,hl]
 |some x=>
  have hx:Lv (ah l) v=x:=by simp[Lv,hl]
  obtain⟨y,hy,e1,e2⟩:=lL hl
  rw[hx]
  exact L2 (s:=s) x (e2 ▸ (h.ok y hy).2) fun u hu=>h.idem y hy u (e2 ▸ hu)
theorem oO.trans {s:aF}{l l' l'':List TB}(hl:jh s l)(h:oO l l')(h':oO l' l'')(hr:∀v,bR (ah l) v≠none->0<=v/\v<20):oO l l'':=fun v=>by
 cases hv:bR (ah l) v with
 |none=>rw[show Lv (ah l) v= .mk 1 v [] by simp[Lv,hv],pU]
 |some x=>
  have hx:Lv (ah l) v=x:=by simp[Lv,hv]
  obtain⟨y,hy,e1,e2⟩:=lL hv
  have IV:Vs s x:=e2 ▸ (hl.ok y hy).2
  rw[hx, <- h'.sub IV, <- hx,h v,h' v]
theorem jh.AU {s:aF}{l:List TB}(h:jh s l){v:Int}(hv:bR (ah l) v≠none):0<=v/\v<20:=by
 cases hl:bR (ah l) v with
 |none=>exact absurd hl hv
 |some x=>obtain⟨y,hy,e1,e2⟩:=lL hl;exact e1 ▸ (h.ok y hy).1
theorem uF{l:List TB}{n:Int}{t:Tm}{x:TB}:x∈mN l n t↔x=⟨n,t⟩\/x∈l:=by
 induction l with
 |nil=>simp[mN]
 |cons y l ih=>
  simp only[mN]
  split
  ·simp only[List.mem_cons,ih]
   constructor
   ·rintro(h|h|h)
    ·exact Or.inr (Or.inl h)
    ·exact Or.inl h
    ·exact Or.inr (Or.inr h)
   ·rintro(h|h|h)
    ·exact Or.inr (Or.inl h)
    ·exact Or.inl h
    ·exact Or.inr (Or.inr h)
  ·simp only[List.mem_cons]
theorem O4{l:List TB}{n:Int}{t:Tm}(h:l.Pairwise fun x y=>x.var<y.var)(hn:∀x∈l,x.var≠n):(mN l n t).Pairwise fun x y=>x.var<y.var:=by
 induction l with
 |nil=>simp[mN]
 |cons y l ih=>
  rw[List.pairwise_cons]at h
  simp only[mN]
  split
  ·rename_i hy
   rw[List.pairwise_cons]
   refine⟨fun z hz=> ?_,ih h.2 fun x hx=>hn x oT⟩
   rcases uF.1 hz with rfl|hz
   ·exact hy
   ·exact h.1 z hz
  ·rename_i hy
   have:=hn y aH
   rw[List.pairwise_cons,List.pairwise_cons]
   refine⟨fun z hz=> ?_,h⟩
   rcases List.mem_cons.1 hz with rfl|hz
   ·show n<z.var;omega
   ·have:=h.1 z hz;show n<z.var;omega
theorem xM{l:List TB}{n:Int}(h:bR (ah l) n=none):∀x∈l,x.var≠n:=fun x hx e=>by
 rw[lJ]at h
 exact h (List.mem_map.2 ⟨(x.var,x.term),List.mem_map.2 ⟨x,hx,rfl⟩,e⟩)
theorem ri{s:aF}{l:List TB}(h:jh s l){n:Int}{t:Tm}(hr:0<=n/\n<20)(hn:bR (ah l) n=none)(ht:Vs s t)(hf:∀u,gC u t=true->bR (ah l) u=none)(hnt: ¬gC n t=true):jh s (jg l n t):=by
 have h1:∀p∈sP n t,Vs s p.2:=fun p hp=>by simp[sP]at hp;subst hp;exact ht
 have L4:∀u,u≠n->bR (ah l) u=none->bR (ah (jg l n t)) u=none:=fun u e hu=>by rw[AR hn,if_neg e,hu];rfl
 refine⟨?_,fun x hx=> ?_,fun x hx u hu=> ?_⟩
 ·refine O4 ?_ ?_
  ·rw[List.pairwise_map];exact h.srt
  ·intro x hx
   obtain⟨y,hy,rfl⟩:=List.mem_map.1 hx
   exact xM hn y hy
 ·rcases uF.1 hx with rfl|hx
  ·exact⟨hr,ht⟩
  ·obtain⟨y,hy,rfl⟩:=List.mem_map.1 hx
   exact⟨(h.ok y hy).1,Vs.sub h1 _ (h.ok y hy).2⟩
 ·rcases uF.1 hx with rfl|hx
  ·exact L4 u (fun e=>hnt (e ▸ hu)) (hf u hu)
  ·obtain⟨y,hy,rfl⟩:=List.mem_map.1 hx
   obtain⟨w,hw,QY⟩:=(tJ h1 _ (h.ok y hy).2 u).1 hu
   rw[AS]at QY
   split at QY
   ·exact L4 u (fun e=>hnt (e ▸ QY)) (hf u QY)
   ·rename_i e
    have:w=u:=by rw[nR]at QY;simpa using QY
    subst this
    exact L4 w e (h.idem y hy w hw)
theorem wH{s:aF}{l:List TB}(h:jh s l){n:Int}{t:Tm}(hn:bR (ah l) n=none):oO l (jg l n t):=fun v=>by
 cases hl:bR (ah l) v with
 |none=>rw[show Lv (ah l) v= .mk 1 v [] by simp[Lv,hl],pU]
 |some x=>
  have hx:Lv (ah l) v=x:=by simp[Lv,hl]
  obtain⟨y,hy,e1,e2⟩:=lL hl
  have hvn:v≠n:=fun e=>by rw[e,hn]at hl;cases hl
  rw[rh hn,if_neg hvn,hx]
  refine L0 (s:=s) x (e2 ▸ (h.ok y hy).2) fun u hu=> ?_
  have hu2:bR (ah l) u=none:=h.idem y hy u (e2 ▸ hu)
  rw[rh hn,show Lv (ah l) u= .mk 1 u [] by simp[Lv,hu2],pU,AS]
  split<;>rfl
theorem jh.O5 {s:aF}{l:List TB}(h:jh s l){t:Tm}(ht:Vs s t)(h1:(bc (ah l) t).op=1):(0<=(bc (ah l) t).n/\(bc (ah l) t).n<20)/\bR (ah l) (bc (ah l) t).n=none/\bc (ah l) t= .mk 1 (bc (ah l) t).n []:=by
 have hv:=Vs.sub h.bd t ht
 have hf:gC (bc (ah l) t).n (bc (ah l) t)=true:=(iF h1).2 rfl
 exact⟨hv.range hf,h.free ht hf,hv.eta h1⟩
theorem wI{s:aF}:∀ (f:Nat) (a c:Tm) (l l':List TB),fZ f a c l=some (l',true)->jh s l->Vs s a->Vs s c->jh s l'/\oO l l'
 |0,_,_,_,_,h,_,_,_=>by cases h
 |f+1,a,c,l,l',h,hl,ha,hc=>by
  have va:=Vs.sub hl.bd a ha
  have vc:=Vs.sub hl.bd c hc
  have fa:=fun u=>hl.free ha (u:=u)
  have fc:=fun u=>hl.free hc (u:=u)
  have na:=hl.O5 ha
  have nc:=hl.O5 hc
  simp only[fZ]at h
  generalize bc (ah l) a=a0 at*
  generalize bc (ah l) c=c0 at*
  split at h
  ·injection h with h;injection h with h;subst h;exact⟨hl,oO.refl hl⟩
  ·rename_i hs
   split at h
   ·rename_i h1
    injection h with h;injection h with h;subst h
    obtain⟨r1,u1,e1⟩:=na h1.1
    obtain⟨r2,u2,e2⟩:=nc h1.2
    have jo:a0.n≠c0.n:=fun e=>hs (by rw[gB,e1,e2,e])
    have B0:bR (ah l) (max a0.n c0.n)=none:=by rcases Int.le_total a0.n c0.n with h|h<;>simp[Int.max_def]<;>split<;>assumption
    have hmn:bR (ah l) (min a0.n c0.n)=none:=by rcases Int.le_total a0.n c0.n with h|h<;>simp[Int.min_def]<;>split<;>assumption
    refine⟨ri hl af B0 (Vs.var af) (fun u hu=> ?_) (fun hu=> ?_),wH hl B0⟩
    ·have:min a0.n c0.n=u:=by rw[nR]at hu;simpa using hu
     exact this ▸ hmn
    ·have:min a0.n c0.n=max a0.n c0.n:=by rw[nR]at hu;simpa using hu
     omega
   ·split at h
    ·rename_i h1 h2
     injection h with h;injection h with h h3;subst h
     obtain⟨r1,u1,e1⟩:=na h2
     have lS: ¬gC a0.n c0=true:=fun hh=>by
      have:(cJ c0).contains a0.n=true:=List.contains_iff_mem.2 (((dE c0).2 _).2 hh)
      rw[this]at h3;cases h3
     exact⟨ri hl r1 u1 vc (fun u hu=>fc u hu) lS,wH hl u1⟩
    ·split at h
     ·rename_i h1 h2 j6
      injection h with h;injection h with h h3;subst h
      obtain⟨r2,u2,e2⟩:=nc j6
      have lS: ¬gC c0.n a0=true:=fun hh=>by
       have:(cJ a0).contains c0.n=true:=List.contains_iff_mem.2 (((dE a0).2 _).2 hh)
       rw[this]at h3;cases h3
      exact⟨ri hl r2 u2 va (fun u hu=>fa u hu) lS,wH hl u2⟩
     ·split at h
      ·injection h with h;injection h with _ h;cases h
      ·have key:∀ (ks dD:List Tm) (l:List TB),(∀k∈ks,Vs s k)->(∀k∈dD,Vs s k)->jh s l->dw (fZ f) ks dD l=some (l',true)->jh s l'/\oO l l':=by
        intro ks
        induction ks with
        |nil=>intro dD l _ _ hl h;simp only[dw]at h;injection h with h;injection h with h;subst h;exact⟨hl,oO.refl hl⟩
        |cons k ks Dp=>
         intro dD l h1 h2 hl h
         cases dD with
         |nil=>simp only[dw]at h;injection h with h;injection h with h;subst h;exact⟨hl,oO.refl hl⟩
         |cons k' dD=>
          simp only[dw]at h
          split at h
          ·rename_i l1 e
           obtain⟨g1,g2⟩:=wI f k k' l l1 e hl (h1 k aH) (h2 k' aH)
           obtain⟨g3,g4⟩:=Dp dD l1 (fun x hx=>h1 x oT) (fun x hx=>h2 x oT) g1 h
           exact⟨g3,g2.trans hl g4 (fun v=>hl.AU)⟩
          ·injection h with h;injection h with _ h;cases h
          ·cases h
       exact key _ _ _ (fun k hk=>va.kY hk) (fun k hk=>vc.kY hk) hl h
def jY:Nat->List (Int×Tm)->Tm->Option Tm
 |0,_,_=>none
 |f+1,b,t=>if t.op=1 then(match bR b t.n with|some x=>jY f b x|none=>some t)else some t
theorem gW{b:List (Int×Tm)}:∀ {f g:Nat} {t x:Tm},jY f b t=some x->f<=g->jY g b t=some x
 |0,_,_,_,h,_=>by cases h
 |f+1,0,_,_,_,h=>af
 |f+1,g+1,t,x,h,hg=>by
  simp only[jY]at h|-
  split
  ·rename_i h1
   rw[if_pos h1]at h
   cases hl:bR b t.n with
   |none=>rw[hl]at h;exact h
   |some y=>rw[hl]at h;exact gW (f:=f) h af
  ·rename_i h1
   rw[if_neg h1]at h
   exact h
structure lM (s:aF) (b:List (Int×Tm)) (l:List TB) (ρ:Int->Nat) (R:Nat):Prop where
 keys:(b.map (·.1)).Nodup
 AU:∀v,bR b v=none↔bR (ah l) v=none
 ok:∀v x,bR b v=some x->Vs s x/\Lv (ah l) v=bc (ah l) x/\∀u,gC u x=true->ρ u<ρ v
 bd:∀v,ρ v<=R
theorem lM.nil {s:aF}:lM s [] [] (fun _=>0) 0:=⟨List.nodup_nil,fun _=>Iff.rfl,fun _ _ h=>oU,fun _=>Nat.le_refl _⟩
theorem lM.at {s:aF}{b:List (Int×Tm)}{l:List TB}{ρ:Int->Nat}{R:Nat}(h:lM s b l ρ R):∀ (m:Nat) (t:Tm),Vs s t->(t.op=1->ρ t.n<=m)->∃x,jY (m+2) b t=some x/\Vs s x/\bc (ah l) x=bc (ah l) t/\(x.op=1->bR b x.n=none)/\(t.op≠1->x=t)/\(t.op=1->(∀u,gC u x=true->ρ u<=ρ t.n)/\(x.op≠1->∀u,gC u x=true->ρ u<ρ t.n)):=by
 intro m
 induction m with
 |zero=>
  intro t hv hm
  by_cases h1:t.op=1
  ·cases hl:bR b t.n with
   |none=>
    exact Zd
   |some x=>
    obtain⟨g1,g2,g3⟩:=h.ok _ _ hl
    by_cases hx:x.op=1
    ·have:=g3 x.n ((iF hx).2 rfl)
     have:=hm h1
     omega
    ·refine⟨x,by simp only[jY,if_pos h1,hl,if_neg hx],g1,by rw[<- g2,je hv h1],fun h=>absurd h hx,fun h=>absurd h1 h,fun _=>⟨fun u hu=>Nat.le_of_lt (g3 u hu),fun _=>g3⟩⟩
  ·exact YF
 |succ m ih=>
  intro t hv hm
  by_cases h1:t.op=1
  ·cases hl:bR b t.n with
   |none=>
    exact Zd
   |some x=>
    obtain⟨g1,g2,g3⟩:=h.ok _ _ hl
    obtain⟨y,i1,i2,i3,i4,i5,i6⟩:=ih x g1 (fun hx=>by have:=g3 x.n ((iF hx).2 rfl);have:=hm h1;omega)
    refine⟨y,by rw[jY,if_pos h1,hl];exact i1,i2,by rw[i3, <- g2,je hv h1],i4,fun h=>absurd h1 h,fun _=> ?_⟩
    by_cases hx:x.op=1
    ·have g4:=g3 x.n ((iF hx).2 rfl)
     exact⟨fun u hu=>by have:=(i6 hx).1 u hu;omega,fun h2 u hu=>by have:=(i6 hx).2 h2 u hu;omega⟩
    ·rw[i5 hx]
     exact⟨fun u hu=>Nat.le_of_lt (g3 u hu),fun _=>g3⟩
  ·exact YF
theorem lM.root {s:aF}{b:List (Int×Tm)}{l:List TB}{ρ:Int->Nat}{R:Nat}(h:lM s b l ρ R){t:Tm}(hv:Vs s t):∃x,jY (R+2) b t=some x/\Vs s x/\bc (ah l) x=bc (ah l) t/\(x.op=1->bR b x.n=none)/\(t.op≠1->x=t)/\(t.op=1->(∀u,gC u x=true->ρ u<=ρ t.n)/\(x.op≠1->∀u,gC u x=true->ρ u<ρ t.n)):=
 h.at R t hv fun _=>h.bd _
theorem Dq(l:List (Int×Tm))(p:Int×Tm)(v:Int):bR (l++[p]) v=match bR l v with|some x=>some x|none=>if p.1=v then some p.2 else none:=by
 induction l with
 |nil=>simp[bR]
 |cons q l ih=>
  simp only[List.cons_append,bR]
  split
  ·rfl
  ·exact ih
theorem one_sub{s:aF}{l:List TB}{n:Int}{t:Tm}(hn:bR (ah l) n=none){x:Tm}(hx:Vs s x):bc (sP n t) (bc (ah l) x)=bc (ah (jg l n t)) x:=by
 refine G3 x hx fun u _=> ?_
 rw[rh hn]
 split
 ·rename_i e
  rw[e,show Lv (ah l) n= .mk 1 n [] by simp[Lv,hn],pU,AS,if_pos rfl]
 ·rfl
theorem lM.ext {s:aF}{b:List (Int×Tm)}{l:List TB}{ρ:Int->Nat}{R:Nat}(h:lM s b l ρ R)(hl:jh s l){n:Int}(hn:bR b n=none){y:Tm}(hy:Vs s y)(hny: ¬gC n (bc (ah l) y)=true):
 ∃L5 R',lM s (b++[(n,y)]) (jg l n (bc (ah l) y)) L5 R':=by
 have Kq:=(h.AU n).1 hn
 refine⟨fun v=>if gC n (Lv (ah l) v)=true then R+1+ρ v else ρ v,2*R+1, ?_,fun v=> ?_,fun v x hx=> ?_,fun v=> ?_⟩
 ·rw[List.map_append,List.map_cons,List.map_nil,List.nodup_append]
  refine⟨h.keys,aH,fun a ha c hc=> ?_⟩
  simp at hc
  subst hc
  exact fun e=>(lJ.1 hn) (e ▸ ha)
 ·rw[Dq,AR Kq]
  by_cases e:v=n
  ·subst e;simp[hn]
  ·rw[if_neg e]
   cases hv:bR b v with
   |some x=>
    simp only[reduceCtorEq,false_iff]
    intro h2
    cases h3:bR (ah l) v with
    |some y=>rw[h3]at h2;cases h2
    |none=>rw[(h.AU v).2 h3]at hv;cases hv
   |none=>
    simp[(h.AU v).1 hv]
    exact fun h=>e h.symm
 ·rw[Dq]at hx
  cases hv:bR b v with
  |some z=>
   rw[hv]at hx
   injection hx with hx
   subst hx
   have hvn:v≠n:=fun e=>by rw[e,hn]at hv;cases hv
   obtain⟨g1,g2,g3⟩:=h.ok v z hv
   refine⟨g1,by rw[rh Kq,if_neg hvn,g2,one_sub Kq g1],fun u hu=> ?_⟩
   have h3:=g3 u hu
   have h4:gC n (Lv (ah l) u)=true->gC n (Lv (ah l) v)=true:=fun h5=>by rw[g2];exact(tJ hl.bd z g1 n).2 ⟨u,hu,h5⟩
   by_cases h5:gC n (Lv (ah l) u)=true
   ·rw[if_pos h5,if_pos (h4 h5)];omega
   ·rw[if_neg h5];split<;>omega
  |none=>
   rw[hv]at hx
   simp only at hx
   split at hx
   ·rename_i e
    injection hx with hx
    subst hx;subst e
    refine⟨hy, ?_,fun u hu=> ?_⟩
    ·rw[rh Kq,if_pos rfl, <- one_sub Kq hy]
     exact(L2 (s:=s) _ (Vs.sub hl.bd y hy) fun v hv=>by
      have: ¬n=v:=fun e=>by subst e;exact hny hv
      simp[sP,bR,this]).symm
    ·have h5: ¬gC n (Lv (ah l) u)=true:=fun h5=>hny ((tJ hl.bd y hy n).2 ⟨u,hu,h5⟩)
     have h6:gC n (Lv (ah l) n)=true:=by rw[show Lv (ah l) n= .mk 1 n [] by simp[Lv,Kq],nR];simp
     have:=h.bd u
     simp only[if_neg h5,if_pos h6]
     omega
   ·cases hx
 ·have:=h.bd v
  split<;>omega
theorem uG{s:aF}{l:List TB}{b:List (Int×Tm)}{ρ:Int->Nat}{R:Nat}(h:lM s b l ρ R){x:Tm}(hx:Vs s x)(hr:x.op=1->bR b x.n=none):(bc (ah l) x).op=x.op/\(bc (ah l) x).n=x.n/\(bc (ah l) x).kids.length=x.kids.length/\(x.op=1->bc (ah l) x=x)/\(x.op≠1->(bc (ah l) x).kids=x.kids.map (bc (ah l))):=by
 by_cases h1:x.op=1
 ·have:bc (ah l) x=x:=by
   rw[je hx h1,show Lv (ah l) x.n= .mk 1 x.n [] by simp[Lv,(h.AU _).1 (hr h1)]]
   exact(hx.eta h1).symm
  rw[this]
  exact⟨rfl,rfl,rfl,fun _=>rfl,fun h=>absurd h1 h⟩
 ·obtain⟨g1,g2,g3⟩:=ac0 (b:=ah l) h1
  exact⟨g1,g2,by rw[g3];simp,fun h=>absurd h h1,fun _=>g3⟩
theorem pV{F G:Tm->Tm->List TB->Option (List TB×Bool)}(Dr:∀k k' l r,F k k' l=some r->G k k' l=some r):∀ {ks dD:List Tm} {l:List TB} {r:List TB×Bool},dw F ks dD l=some r->dw G ks dD l=some r
 |[],_,_,_,h=>by simp only[dw]at h|-;exact h
 |_::_,[],_,_,h=>by simp only[dw]at h|-;exact h
 |k::ks,k'::dD,b,r,h=>by
  simp only[dw]at h|-
  split at h
  ·rename_i b1 e;rw[Dr _ _ _ _ e];exact pV Dr h
  ·rename_i b1 e;rw[Dr _ _ _ _ e];exact h
  ·cases h
theorem sQ:∀ {f g:Nat} {a c:Tm} {l:List TB} {r:List TB×Bool},fZ f a c l=some r->f<=g->fZ g a c l=some r
 |0,_,_,_,_,_,h,_=>by cases h
 |f+1,0,_,_,_,_,_,h=>af
 |f+1,g+1,a,c,l,r,h,hg=>by
  simp only[fZ]at h|-
  repeat' (split at h<;>rename_i hh<;>first|rw[if_pos hh]|rw[if_neg hh])
  all_goals first
   |exact h
   |exact pV (fun k k' l r hk=>sQ hk af) h
theorem O6(l:List TB)(n:Int)(t:Tm):(mN l n t).length=l.length+1:=by
 induction l with
 |nil=>rfl
 |cons x l ih=>simp only[mN];split<;>simp[ih]
theorem JE(l:List TB)(n:Int)(t:Tm):(jg l n t).length=l.length+1:=by rw[jg,O6,List.length_map]
theorem G4:∀ (f:Nat) (a c:Tm) (l l':List TB),fZ f a c l=some (l',true)->l'=l\/l.length<l'.length
 |0,_,_,_,_,h=>by cases h
 |f+1,a,c,l,l',h=>by
  simp only[fZ]at h
  split at h
  ·injection h with h;injection h with h;exact Or.inl h.symm
  ·split at h
   ·exact Ts
   ·split at h
    ·exact Ts
    ·split at h
     ·exact Ts
     ·split at h
      ·injection h with h;injection h with _ h;cases h
      ·have key:∀ (ks dD:List Tm) (l:List TB),dw (fZ f) ks dD l=some (l',true)->l'=l\/l.length<l'.length:=by
        intro ks
        induction ks with
        |nil=>intro dD l h;simp only[dw]at h;injection h with h;injection h with h;exact Or.inl h.symm
        |cons k ks Dp=>
         intro dD l h
         cases dD with
         |nil=>simp only[dw]at h;injection h with h;injection h with h;exact Or.inl h.symm
         |cons k' dD=>
          simp only[dw]at h
          split at h
          ·rename_i l1 e
           have h1:=G4 f k k' l l1 e
           have h2:=Dp dD l1 h
           rcases h1 with rfl|h1
           ·exact h2
           ·rcases h2 with rfl|h2
            ·exact Or.inr h1
            ·exact Or.inr af
          ·injection h with h;injection h with _ h;cases h
          ·cases h
       exact key _ _ _ h
theorem jh.len {s:aF}{l:List TB}(h:jh s l):l.length<=20:=by
 have:=AQ (ns:=l.map (·.var)) (fun n hn=>by obtain⟨x,hx,rfl⟩:=List.mem_map.1 hn;exact(h.ok x hx).1) (by rw[E7,List.pairwise_map];exact h.srt)
 rwa [List.length_map]at this
theorem y9{s:aF}:∀ (N z:Nat) (a c:Tm) (l:List TB),20 - l.length<=N->(bc (ah l) a).sz<=z->jh s l->Vs s a->Vs s c->∃f r,fZ f a c l=some r:=by
 intro N
 induction N using Nat.strongRecOn with
 |ind N ihN=>
 intro z
 induction z with
 |zero=>intro a c l _ hz;have:=Tm.sJ (bc (ah l) a);omega
 |succ z ihz=>
  intro a c l hN hz hl ha hc
  have va:=Vs.sub hl.bd a ha
  have vc:=Vs.sub hl.bd c hc
  have key:∀ (ks dD:List Tm) (l1:List TB),(∀k∈ks,k∈(bc (ah l) a).kids)->(∀k∈dD,Vs s k)->jh s l1->(l1=l\/l.length<l1.length)->∃f r,dw (fZ f) ks dD l1=some r:=by
   intro ks
   induction ks with
   |nil=>intro dD l1 _ _ _ _;exact⟨0,_,rfl⟩
   |cons k ks Dp=>
    intro dD l1 m1 m2 rJ U7
    cases dD with
    |nil=>exact⟨0,_,rfl⟩
    |cons k' dD=>
     have hk:=m1 k aH
     have vk:=va.kY hk
     have HG:∃f r,fZ f k k' l1=some r:=by
      rcases U7 with rfl|U7
      ·refine ihz k k' l1 hN ?_ rJ vk (m2 k' aH)
       have:bc (ah l1) k=k:=L2 (s:=s) k vk fun v hv=>by
        by_cases h1:(bc (ah l1) a).op=1
        ·rw[va.eta h1]at hk;cases hk
        ·exact hl.free ha ((re va h1).2 ⟨k,hk,hv⟩)
       rw[this]
       have:=Tm.mU hk
       omega
      ·have h20:=rJ.len
       exact ihN (20 - l1.length) af _ k k' l1 (Nat.le_refl _) (Nat.le_refl _) rJ vk (m2 k' aH)
     obtain⟨f,⟨l2,ok⟩,e⟩:=HG
     cases ok with
     |false=>exact⟨f,(l2,false),by simp only[dw,e]⟩
     |true=>
      obtain⟨o1,_⟩:=wI f k k' l1 l2 e rJ vk (m2 k' aH)
      have hle:=G4 f k k' l1 l2 e
      obtain⟨f2,r2,e2⟩:=Dp dD l2 (fun y hy=>m1 y mK) (fun y hy=>m2 y mK) o1 (by
       rcases hle with rfl|h
       ·exact U7
       ·right
        rcases U7 with rfl|h2
        ·exact h
        ·omega)
      refine⟨max f f2,r2, ?_⟩
      simp only[dw]
      rw[sQ e (Nat.le_max_left _ _)]
      exact pV (fun k k' l r hk=>sQ hk (Nat.le_max_right _ _)) e2
  obtain⟨f,r,e⟩:=key (bc (ah l) a).kids (bc (ah l) c).kids l (fun _ h=>h) (fun k hk=>vc.kY hk) hl (Or.inl rfl)
  refine⟨f+1, ?_⟩
  simp only[fZ]
  repeat' split
  all_goals first
   |exact⟨_,rfl⟩
   |exact⟨r,e⟩
mutual
def sR:Tm->List Int
 | .mk op n kids=>if op=1 then [n]else O7 kids
def O7:List Tm->List Int
 |[]=>[]
 |k::l=>sR k++O7 l
end
theorem Ds:∀l:List Tm,O7 l=l.flatMap sR
 |[]=>rfl
 |k::l=>by rw[O7,Ds l,List.flatMap_cons]
theorem L6(t:Tm):sR t=if t.op=1 then [t.n]else t.kids.flatMap sR:=by
 cases t;rw[sR,Ds];rfl
theorem SR{s:aF}:∀t:Tm,Vs s t->∀v,v∈sR t↔gC v t=true:=by
 refine Tm.eY fun t ih hv v=> ?_
 rw[L6]
 by_cases h1:t.op=1
 ·rw[if_pos h1,iF h1,List.mem_singleton];exact eq_comm
 ·rw[if_neg h1,re hv h1,List.mem_flatMap]
  exact⟨fun⟨k,hk,h⟩=>⟨k,hk,(ih k hk (hv.kY hk) v).1 h⟩,fun⟨k,hk,h⟩=>⟨k,hk,(ih k hk (hv.kY hk) v).2 h⟩⟩
inductive mH (b:List (Int×Tm)) (n:Int):Tm->Prop where
 |here {t:Tm}:gC n t=true->mH b n t
 |step {t:Tm} {v:Int} {x:Tm}:gC v t=true->bR b v=some x->mH b n x->mH b n t
theorem mH.mono {b c:List (Int×Tm)}(h:∀v x,bR b v=some x->bR c v=some x){t:Tm}{n:Int}(hr:mH b n t):mH c n t:=by
 induction hr with
 |here h1=>exact .here h1
 |step h1 h2 _ ih=>exact .step h1 (h _ _ h2) ih
def L7(F:Tm->List Int->Option (Bool×List Int))(b:List (Int×Tm))(n:Int):List Int->List Int->Option (Bool×List Int)
 |[],met=>some (false,met)
 |v::vs,met=>if v=n then some (true,met)else
  match bR b v with
  |none=>L7 F b n vs met
  |some x=>if v∈met then L7 F b n vs met else
   match F x (ei met v)with
   |some (true,m)=>some (true,m)
   |some (false,m)=>L7 F b n vs m
   |none=>none
def Nj:Nat->List (Int×Tm)->Int->Tm->List Int->Option (Bool×List Int)
 |0,_,_,_,_=>none
 |f+1,b,n,t,met=>L7 (Nj f b n) b n (sR t) met
theorem rj{F G:Tm->List Int->Option (Bool×List Int)}(Dr:∀x m r,F x m=some r->G x m=some r){b:List (Int×Tm)}{n:Int}:∀ {vs met:List Int} {r:Bool×List Int},L7 F b n vs met=some r->L7 G b n vs met=some r
 |[],_,_,h=>h
 |v::vs,met,r,h=>by
  simp only[L7]at h|-
  split at h
  ·rename_i e;rw[if_pos e];exact h
  ·rename_i e
   rw[if_neg e]
   split at h
   ·exact rj Dr h
   ·split at h
    ·rename_i e2;rw[if_pos e2];exact rj Dr h
    ·rename_i x _ e2
     rw[if_neg e2]
     cases hF:F x (ei met v)with
     |none=>rw[hF]at h;cases h
     |some q=>
      rw[hF]at h
      rw[Dr _ _ _ hF]
      obtain⟨is,m⟩:=q
      cases is with
      |true=>exact h
      |false=>exact rj Dr h
theorem Dt{b:List (Int×Tm)}{n:Int}:∀ {f g:Nat} {t:Tm} {met:List Int} {r:Bool×List Int},Nj f b n t met=some r->f<=g->Nj g b n t met=some r
 |0,_,_,_,_,h,_=>by cases h
 |f+1,0,_,_,_,h,hg=>af
 |f+1,g+1,t,met,r,h,hg=>rj (fun x m q hq=>Dt hq af) h
def Fe(b:List (Int×Tm))(n:Int)(m:List Int)(t:Tm):Prop:=∀v,gC v t=true->v≠n/\∀x,bR b v=some x->v∈m
theorem Fe.mono {b:List (Int×Tm)}{n:Int}{m m':List Int}(h:∀v∈m,v∈m'){t:Tm}(ht:Fe b n m t):Fe b n m' t:=fun v hv=>⟨(ht v hv).1,fun x hx=>h v ((ht v hv).2 x hx)⟩
def LdQ(b:List (Int×Tm))(n:Int)(met:List Int)(t:Tm)(is:Bool)(fH:List Int):Prop:=
 (is=true->mH b n t)/\(is=false->(∀v∈met,v∈fH)/\Fe b n fH t/\∀v∈fH,v∉met->∀x,bR b v=some x->Fe b n fH x)
def xw(b:List (Int×Tm))(met:List Int):Nat:=((b.map (·.1)).filter fun v=> !met.contains v).length
theorem uH{b:List (Int×Tm)}{met:List Int}{v:Int}{x:Tm}(h:bR b v=some x)(hm:v∉met):xw b (ei met v)<xw b met:=by
 unfold xw
 have hv:v∈b.map (·.1):=List.mem_map.2 ⟨_,cK h,rfl⟩
 generalize b.map (·.1)=ks at hv
 have hle:∀ks:List Int,(ks.filter fun u=> !(ei met v).contains u).length<=(ks.filter fun u=> !met.contains u).length:=by
  intro ks
  refine(List.Sublist.length_le ?_)
  rw[show(ks.filter fun u=> !(ei met v).contains u)=(ks.filter fun u=> !met.contains u).filter fun u=> !(ei met v).contains u by
   rw[List.filter_filter]
   congr 1
   funext u
   cases e:(ei met v).contains u with
   |true=>rfl
   |false=>
    cases e2:met.contains u with
    |false=>rfl
    |true=>
     rw[List.contains_iff_mem]at e2
     have:(ei met v).contains u=true:=List.contains_iff_mem.2 (jS.2 (.inl e2))
     rw[this]at e;cases e]
  exact List.filter_sublist
 induction ks with
 |nil=>cases hv
 |cons u ks ih=>
  by_cases e:u=v
  ·subst e
   have h1:(ei met u).contains u=true:=List.contains_iff_mem.2 (jS.2 (.inr rfl))
   have h2:met.contains u=false:=by rw[Bool.eq_false_iff];intro h;exact hm (List.contains_iff_mem.1 h)
   rw[List.filter_cons,List.filter_cons,h1,h2]
   simp only[Bool.not_true,Bool.false_eq_true,if_false,Bool.not_false,if_true,List.length_cons]
   have:=hle ks
   omega
  ·have qa:v∈ks:=by
    rcases List.mem_cons.1 hv with h|h
    ·exact absurd h.symm e
    ·exact h
   have:=ih qa
   rw[List.filter_cons,List.filter_cons]
   have hu:(ei met v).contains u=met.contains u:=by
    rw[Bool.eq_iff_iff,List.contains_iff_mem,List.contains_iff_mem,jS]
    exact⟨fun h=>h.elim id fun h=>absurd h e, .inl⟩
   rw[hu]
   split
   ·rw[List.length_cons,List.length_cons];omega
   ·exact this
theorem Du{b:List (Int×Tm)}{m m':List Int}(h:∀v∈m,v∈m'):xw b m'<=xw b m:=by
 unfold xw
 refine List.Sublist.length_le ?_
 rw[show((b.map (·.1)).filter fun u=> !m'.contains u)=((b.map (·.1)).filter fun u=> !m.contains u).filter fun u=> !m'.contains u by
  rw[List.filter_filter]
  congr 1
  funext u
  cases e:m'.contains u with
  |true=>rfl
  |false=>
   cases e2:m.contains u with
   |false=>rfl
   |true=>
    rw[List.contains_iff_mem]at e2
    have:m'.contains u=true:=List.contains_iff_mem.2 (h u e2)
    rw[this]at e;cases e]
 exact List.filter_sublist
theorem G5{s:aF}{b:List (Int×Tm)}(hb:∀p∈b,Vs s p.2)(n:Int):∀ (N:Nat) (t:Tm) (met:List Int),xw b met<=N->Vs s t->∃is fH,Nj (N+1) b n t met=some (is,fH)/\LdQ b n met t is fH
 |N,t,met,hN,ht=>by
  have key:∀ (vs met:List Int),xw b met<=N->(∀v∈vs,gC v t=true)->∃is fH,L7 (Nj N b n) b n vs met=some (is,fH)/\(is=true->mH b n t)/\
   (is=false->(∀v∈met,v∈fH)/\(∀v∈vs,v≠n/\∀x,bR b v=some x->v∈fH)/\∀v∈fH,v∉met->∀x,bR b v=some x->Fe b n fH x):=by
   intro vs
   induction vs with
   |nil=>intro met _ _;exact⟨false,met,rfl,fun h=>oU,fun _=>⟨fun _ h=>h,fun _ h=>oU,fun v h h'=>absurd h h'⟩⟩
   |cons v vs ih=>
    intro met hm IV
    have hv:=IV v aH
    have Wl:∀u∈vs,gC u t=true:=fun u hu=>IV u (by simp[hu])
    simp only[L7]
    by_cases e:v=n
    ·rw[if_pos e]
     exact⟨true,met,rfl,fun _=> .here (e ▸ hv),fun h=>by cases h⟩
    ·rw[if_neg e]
     cases hl:bR b v with
     |none=>
      obtain⟨is,fH,h1,h2,h3⟩:=ih met hm Wl
      refine⟨is,fH,h1,h2,fun h=>⟨(h3 h).1,fun u hu=> ?_,(h3 h).2.2⟩⟩
      rcases List.mem_cons.1 hu with rfl|hu
      ·exact⟨e,fun x hx=>by rw[hl]at hx;cases hx⟩
      ·exact(h3 h).2.1 u hu
     |some x=>
      simp only
      by_cases e2:v∈met
      ·rw[if_pos e2]
       obtain⟨is,fH,h1,h2,h3⟩:=ih met hm Wl
       refine⟨is,fH,h1,h2,fun h=>⟨(h3 h).1,fun u hu=> ?_,(h3 h).2.2⟩⟩
       rcases List.mem_cons.1 hu with rfl|hu
       ·exact⟨e,fun _ _=>(h3 h).1 _ e2⟩
       ·exact(h3 h).2.1 u hu
      ·rw[if_neg e2]
       have hu:=uH hl e2
       obtain⟨N',rfl⟩:∃N',N=N'+1:=⟨N - 1,af⟩
       obtain⟨is1,m1,g1,g2,g3⟩:=G5 hb n N' x (ei met v) af (hb _ (cK hl))
       rw[g1]
       cases is1 with
       |true=>exact⟨true,m1,rfl,fun _=> .step hv hl (g2 rfl),fun h=>by cases h⟩
       |false=>
        obtain⟨k1,k2,k3⟩:=g3 rfl
        have k0:∀u∈met,u∈m1:=fun u hu=>k1 u (jS.2 (.inl hu))
        obtain⟨is,fH,h1,h2,h3⟩:=ih m1 (by have:=Du (b:=b) k0;omega) Wl
        refine⟨is,fH,h1,h2,fun h=> ?_⟩
        obtain⟨j1,j2,j3⟩:=h3 h
        refine⟨fun u hu=>j1 u (k0 u hu),fun u hu=> ?_,fun u hu hnu y hy=> ?_⟩
        ·rcases List.mem_cons.1 hu with rfl|hu
         ·exact⟨e,fun _ _=>j1 _ (k1 _ (jS.2 (.inr rfl)))⟩
         ·exact j2 u hu
        ·by_cases Jn:u∈m1
         ·by_cases huv:u=v
          ·subst huv
           rw[hl]at hy
           cases hy
           exact k2.mono j1
          ·exact(k3 u Jn (fun h=>(jS.1 h).elim hnu huv) y hy).mono j1
         ·exact j3 u hu Jn y hy
  obtain⟨is,fH,h1,h2,h3⟩:=key (sR t) met hN fun v hv=>(SR t ht v).1 hv
  exact⟨is,fH,h1,h2,fun h=>⟨(h3 h).1,fun v hv=>(h3 h).2.1 v ((SR t ht v).2 hv),(h3 h).2.2⟩⟩
theorem Wm{s:aF}{b:List (Int×Tm)}(hb:∀p∈b,Vs s p.2)(n:Int){t:Tm}(ht:Vs s t):∃is fH,Nj (b.length+1) b n t []=some (is,fH)/\(is=true↔mH b n t):=by
 have hN:xw b []<=b.length:=by
  unfold xw
  exact YN
 obtain⟨is,fH,h1,h2,h3⟩:=G5 hb n b.length t [] hN ht
 refine⟨is,fH,h1,h2,fun hr=> ?_⟩
 cases is with
 |true=>rfl
 |false=>
  obtain⟨_,k2,k3⟩:=h3 rfl
  exfalso
  have:∀t,mH b n t-> ¬Fe b n fH t:=by
   intro t hr
   induction hr with
   |here h=>exact fun hs=>(hs _ h).1 rfl
   |step h1 h2 _ ih=>exact fun hs=>ih (k3 _ ((hs _ h1).2 _ h2) aH _ h2)
  exact this t hr k2
def pW(l more:List Int):List Int:=more.foldl ei l
theorem Ff:∀ {more l:List Int} {v:Int},v∈pW l more↔v∈l\/v∈more
 |[],l,v=>by simp[pW]
 |u::more,l,v=>by
  show v∈pW (ei l u) more↔_
  rw[Ff,jS,List.mem_cons,or_assoc]
theorem L8:∀ (more l:List Int),∃r,pW l more=l++r
 |[],l=>⟨[],by simp[pW]⟩
 |u::more,l=>by
  obtain⟨r,hr⟩:=L8 more (ei l u)
  show ∃r,pW (ei l u) more=_
  rw[hr]
  unfold ei
  split
  ·exact⟨r,rfl⟩
  ·exact⟨[u]++r,by rw[List.append_assoc]⟩
theorem wJ:∀ (more l:List Int),l.Nodup->(pW l more).Nodup
 |[],l,h=>h
 |u::more,l,h=>wJ more (ei l u) (E6 u h)
def L9(b:List (Int×Tm))(all:List Int)(v:Int):List Int:=match bR b v with
 |some x=>pW all (cJ x)
 |none=>all
theorem O8(b:List (Int×Tm))(all:List Int)(v:Int):∃r,L9 b all v=all++r:=by
 unfold L9
 split
 ·exact L8 _ _
 ·exact⟨[],aH⟩
theorem I1(b:List (Int×Tm)){all:List Int}(v:Int)(h:all.Nodup):(L9 b all v).Nodup:=by
 unfold L9
 split
 ·exact wJ _ _ h
 ·exact h
theorem Dv{l:List Int}(hn:l.Nodup)(h:∀v∈l,0<=v/\v<20):l.length<=20:=by
 have:∀ (n:Nat) (l:List Int),l.Nodup->(∀v∈l,0<=v/\v<(n:Int))->l.length<=n:=by
  intro n
  induction n with
  |zero=>
   intro l _ h
   cases l with
   |nil=>exact Nat.le_refl _
   |cons a l=>have:=h a aH;omega
  |succ n ih=>
   intro l hn h
   have h1:=ih (l.erase (n:Int)) (hn.erase _) fun v hv=>by
    have jo:v≠(n:Int):=fun e=>by
     subst e
     exact hn.not_mem_erase hv
    have:=h v (List.mem_of_mem_erase hv)
    omega
   have h2:l.length<=(l.erase (n:Int)).length+1:=by
    by_cases hm:(n:Int)∈l
    ·rw[List.length_erase_of_mem hm];omega
    ·rw[List.erase_of_not_mem hm];omega
   omega
 exact this 20 l hn h
structure O9 (s:aF) (b:List (Int×Tm)) (t:Tm) (i:Nat) (all:List Int):Prop where
 nd:all.Nodup
 rg:∀v∈all,0<=v/\v<20
 le:i<=all.length
 fst:∀v,gC v t=true->v∈all
 snd:∀v∈all,mH b v t
 cl:∀j,j<i->∀v x,all[j]? =some v->bR b v=some x->∀u,gC u x=true->u∈all
theorem O9.zero {s:aF}{b:List (Int×Tm)}{t:Tm}(ht:Vs s t):O9 s b t 0 (pW [] (cJ t)):=by
 have hm:∀v,v∈pW [] (cJ t)↔gC v t=true:=fun v=>by rw[Ff,(dE t).2 v];simp
 exact⟨wJ _ _ List.nodup_nil,fun v hv=>ht.range ((hm v).1 hv),Nat.zero_le _,fun v hv=>(hm v).2 hv,fun v hv=> .here ((hm v).1 hv),fun j hj=>absurd hj (Nat.not_lt_zero _)⟩
theorem mH.trans {b:List (Int×Tm)}{t:Tm}{v:Int}(h:mH b v t){x:Tm}(hx:bR b v=some x){n:Int}(hn:mH b n x):mH b n t:=by
 induction h with
 |here h1=>exact .step h1 hx hn
 |step h1 h2 _ ih=>exact .step h1 h2 ih
theorem O9.succ {s:aF}{b:List (Int×Tm)}(hb:∀p∈b,Vs s p.2){t:Tm}{i:Nat}{all:List Int}(h:O9 s b t i all){v:Int}(hv:all[i]? =some v):O9 s b t (i+1) (L9 b all v):=by
 obtain⟨r,hr⟩:=O8 b all v
 have hi:=(List.getElem?_eq_some_iff.1 hv).1
 have hvm:=List.mem_of_getElem? hv
 have hm:∀u,u∈L9 b all v↔u∈all\/∃x,bR b v=some x/\gC u x=true:=fun u=>by
  unfold L9
  cases hl:bR b v with
  |none=>simp
  |some x=>simp only[Ff,(dE x).2 u,Option.some.injEq,exists_eq_left']
 refine⟨I1 b v h.nd,fun u hu=> ?_,by rw[hr,List.length_append];omega,fun u hu=>(hm u).2 (.inl (h.fst u hu)),fun u hu=> ?_,fun j hj w x hw hx u hu=> ?_⟩
 ·rcases(hm u).1 hu with hu|⟨x,hx,hu⟩
  ·exact h.rg u hu
  ·exact(hb _ (cK hx)).range hu
 ·rcases(hm u).1 hu with hu|⟨x,hx,hu⟩
  ·exact h.snd u hu
  ·exact(h.snd v hvm).trans hx (.here hu)
 ·rw[hr,List.getElem?_append_left (by omega)]at hw
  rcases Nat.lt_or_ge j i with hji|hji
  ·exact(hm u).2 (.inl (h.cl j hji w x hw hx u hu))
  ·have:j=i:=af
   subst this
   rw[hv]at hw
   cases hw
   exact(hm u).2 (.inr ⟨x,hx,hu⟩)
end Go.Proofs.YtlhemmpklhhgoaaGreat
