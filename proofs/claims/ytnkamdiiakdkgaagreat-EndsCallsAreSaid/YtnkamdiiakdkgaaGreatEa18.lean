/-
  A PART OF THE PROOF. Conditions: none.
-/
import Derived.OpenShut
import Derived.Carry
import Derived.Handed
import Derived.JoinedOf
import Derived.ProofKit
import Derived.Test.YtnkamdiiakdkgaaGreatEa17
set_option linter.unusedSimpArgs false
set_option linter.unusedVariables false
namespace Go.Proofs.YtnkamdiiakdkgaaGreat
def gP(l:List Tm):List Int:=l.flatMap iz
theorem Cw(k:Tm)(l:List Tm):gP (k::l)=iz k++gP l:=rfl
theorem D1(t:Tm):iz t=(if t.op=5 then [t.n]else [])++gP t.kids:=by
 unfold iz gP
 rw[gW,List.filter_cons]
 have:(List.flatMap eN t.kids).filter (fun x=>x.op==5)=t.kids.flatMap fun k=>(eN k).filter (fun x=>x.op==5):=by
  induction t.kids with
  |nil=>rfl
  |cons k l ih=>simp only[List.flatMap_cons,List.filter_append,ih]
 rw[this]
 have e:∀l:List Tm,(l.flatMap fun k=>(eN k).filter (fun x=>x.op==5)).map Tm.n=l.flatMap iz:=by
  intro l
  induction l with
  |nil=>rfl
  |cons k l ih=>simp only[List.flatMap_cons,List.map_append,ih];rfl
 by_cases h:t.op=5
 ·simp only[h,beq_self_eq_true,if_true,List.map_cons,e];rfl
 ·have h':(t.op==5)=false:=by simpa using h
  simp only[h',Bool.false_eq_true,if_false,h,e];rfl
theorem AJ(l:List Tm)(h:∀k∈l,(iz k).length<=k.sz):(gP l).length<=fO l:=by
 induction l with
 |nil=>simp[gP]
 |cons k l ih=>
  rw[Cw,List.length_append,fL]
  have:=h k aK
  have:=ih fun x hx=>h x mQ
  omega
theorem D2:∀t:Tm,(iz t).length<=t.sz:=by
 refine Tm.dy fun t ih=> ?_
 have:=AJ t.kids ih
 rw[D1,List.length_append,Tm.hZ]
 split<;>simp<;>omega
theorem AK(a b:List Tm):gP (a++b)=gP a++gP b:=by
 induction a with
 |nil=>simp[gP]
 |cons k a ih=>simp[gP,ih]
def Zn:IC:=Lp.snd.snd.snd.fst.snd.fst.fst
theorem AL{t:Tm}(hf:t.fits)(hz:t.sz<=1000000)(ih:∀k∈t.kids,k.fits->k.sz<=1000000->aR Tryz.prog 117 [k.d] (.ret [.sl ((iz k).map .i)]))(p:List Int)(hp:p.length<=1){e:Nat->V}{o:Nat->ab}{nx:Nat}{Q:eK->S->Prop}
 (hs:bf 0 ⟨e,o,nx⟩ ⟨aW [.aa, .ptr 0 0, .aa, .osl 1 0, .d (.i 0)],aA (aA (fun _=> .no) 0 (.row t.row)) 1 (.arr 0 3 1 (p.map .i)),2⟩)
 (hQ:∀e' n',e' 3= .osl 1 0->Q (.exit 0) ⟨e',aA (aA (fun _=> .no) 0 (.row t.row)) 1 (.arr 0 3 1 ((p++gP t.kids).map .i)),n'⟩):
 sR 0 (fun Q s=>kN Tryz.prog 29 0 false Zn Q s) Q ⟨e,o,nx⟩:=by
 have jG:=(Tm.bg _).1 hf
 have qy:=Tm.hZ t
 refine aC (fun i:Nat=>⟨aW [.aa, .ptr 0 0, .aa, .osl 1 0, .d (.i i)],aA (aA (fun _=> .no) 0 (.row t.row)) 1 (.arr 0 3 1 ((p++gP (t.kids.take i)).map .i)),2⟩)
  (fun i=>i<=t.kids.length) (fun i=>t.kids.length - i) 0 (Nat.zero_le _) ?_ fun k hk=> ?_
 ·simpa[gP]using hs
 replace hk:k<=t.kids.length:=hk
 simp only[Zn,Lp,IC.snd,IC.fst]
 refine nk ?_
 refine ai (fun h2=> ?_) (fun h2=> ?_)
 ·simp at h2
  obtain⟨x,hx⟩:=aB h2
  have eC:=List.mem_of_getElem? hx
  have A4:t.kids.take (k+1)=t.kids.take k++[x]:=by rw[List.take_add_one,hx];rfl
  have uv:(gP (t.kids.take k)).length<=fO (t.kids.take k):=AJ _ fun y _=>D2 y
  have dh:fO t.kids=fO (t.kids.take k)+fO (t.kids.drop k):=by
   conv=>lhs;rw[<- List.take_append_drop k t.kids]
   exact J2
  have Bp:=fR eC
  have Vc:=D2 x
  have ZA:(p++gP (t.kids.take k)).length<=1000001:=by rw[List.length_append];omega
  refine ll hx ?_
  refine bz (ih x eC (jG.2 x eC) ag) ?_
  refine ll hx ?_
  refine aj (k+1) h2 ag (bf.iK (fun j=>j=1) (.osl 1 1) 1 _ ag (FZ (cw (y:= .row t.row) eO eO (bw rfl lA))) (ad _ _ _) (.inr ⟨1,1,rfl,rfl,by(repeat(first|rfl|rw[ad]|rw[af _ _ _ _ (by omega)]));rw[A4,AK, <- List.append_assoc,List.map_append];simp[gP]⟩) (fun j hj=>by(repeat(first|rfl|rw[ad]|rw[af _ _ _ _ (by omega)]))) (fun j h h2=>ag) ?_)
  exact qp
 ·simp at h2
  have Ej:k=t.kids.length:=ag
  exact PV
theorem Zo:∀t:Tm,t.fits->t.sz<=1000000->aR Tryz.prog 117 [t.d] (.ret [.sl ((iz t).map .i)]):=by
 refine Tm.dy fun t ih hf hz=> ?_
 refine aR.aG mix XU aK ?_
 rw[Lp,D1]
 by_cases h5:t.op=5
 ·have ub:(t.op==5)=true:=by simpa using h5
  refine gD ub ?_
  rw[if_pos h5]
  refine AL hf hz ih [t.n] aK ?_ fun e' n' he=> ?_
  ·refine bf.iK (fun j=>1<=j) _ 1 _ ag (FZ (cw (y:= .row t.row) eO eO (bw rfl lA))) (ad _ _ _) (.inr ⟨_,_, ?_,rfl,by(repeat(first|rfl|rw[ad]|rw[af _ _ _ _ (by omega)]))⟩) (fun j hj=>by(repeat(first|rfl|rw[ad]|rw[af _ _ _ _ (by omega)]))) (fun j h h2=>ag) ?_
   ·decide
   ·exact qp
  ·exact D8 he
 ·have ub:(t.op==5)=false:=by simpa using h5
  refine gD ub ?_
  rw[if_neg h5]
  refine AL hf hz ih [] aK ?_ fun e' n' he=> ?_
  ·exact Vg
  ·exact D8 he
theorem FL(t:Tm)(ht:t.fits):∀p:Tm,p.fits->aR Tryz.prog 116 [t.d,p.d] (.ret [.bool (p.kids.any (jf t))]):=by
 refine Tm.dy fun p ih hp=> ?_
 have Nf:=(Tm.bg _).1 hp
 refine aR.aG mix XT aK ?_
 rw[XS]
 refine bc ?_
 refine aC (fun k:Nat=>⟨aW [.aa, .aa, .ptr 0 0, .ptr 1 0, .aa, .d (.i k)],aA (aA (fun _=> .no) 0 (.row t.row)) 1 (.row p.row),2⟩)
  (fun k=>k<=p.kids.length/\(p.kids.take k).any (jf t)=false) (fun k=>p.kids.length - k) 0 ⟨Nat.zero_le _,rfl⟩ (bf.bC _ (show 0<=2 from ag) ag eH (fun j hj=>by(repeat(first|rfl|rw[ad]|rw[af _ _ _ _ (by omega)]))) ?_) (fun k hk=> ?_)
 ·exact cN
 obtain⟨hk,uQ⟩:=hk
 have Ej:=Nf.1
 refine nk ?_
 refine ai (fun h2=> ?_) (fun h2=> ?_)
 ·simp at h2
  obtain⟨x,hx⟩:=aB h2
  have eC:=List.mem_of_getElem? hx
  have ly:=Jh hx (jf t)
  have oo:jf t x=true->p.kids.any (jf t)=true:=fun h=>List.any_eq_true.2 ⟨x,eC,h⟩
  have uz:=DW t x
  refine gD hx ?_
  refine aQ (Ir t ht x (Nf.2 x eC)) rfl ?_
  cases hs:fF t x with
  |true=>
   rw[hs,Bool.true_or]at uz
   rw[oo uz]
   refine gD hs ?_
   refine aO (aP rfl) ?_
   exact D8 hs
  |false=>
   rw[hs,Bool.false_or]at uz
   refine JD hs hx ?_
   refine aQ (ih x eC (Nf.2 x eC)) rfl ?_
   refine gD hs ?_
   refine aO (aP rfl) ?_
   cases hw:x.kids.any (jf t)with
   |true=>
    rw[hw]at uz
    rw[oo uz]
    exact D8 hw
   |false=>
    rw[hw]at uz
    rw[uz,uQ,Bool.or_false]at ly
    refine gD hw ?_
    refine aj (k+1) ⟨h2,ly⟩ ag (bf.bC _ (show 0<=2 from ag) ag eH (fun j hj=>by(repeat(first|rfl|rw[ad]|rw[af _ _ _ _ (by omega)]))) ?_)
    exact cN
 ·simp at h2
  rw[List.take_of_length_le h2]at uQ
  rw[uQ]
  exact yc
theorem cZ.pf {P:Program}{g:FuncId}{x:V}{d:D}{rest:List V}{o:Nat->ab}{nx:Nat}{K X:V->(Nat->ab)->Nat->Prop}(hx:dp o x=some d)
 (h:cZ P g (.d d::rest) (put o (bZ o x.ids)) nx K X):cZ P g (x::rest) o nx K X:=by
 refine⟨h.1,fun M φ w vals hH hd=> ?_⟩
 have hd0:=hd
 obtain⟨val,us,jR,hv,dG⟩:=hd
 have hu:=fun id au=>cy x val hv id au
 obtain⟨f1,f2,f3,f4,f5⟩:=cA (H:=hp o nx) hH x.ids hu
 have fX:(hp o nx).put (bZ o x.ids)=hp (put o (bZ o x.ids)) nx:=Sx (fun y hy=>by
  simp only[bZ,List.mem_map]at hy
  obtain⟨id,au,rfl⟩:=hy
  exact hu id au)
 have JP:=f1;have IQ:=f2
 rw[show bZ (hp o nx).o x.ids=bZ o x.ids from rfl,fX]at JP IQ
 have Z4:∀k,cp φ ((hp o nx).put (bZ o x.ids)) k->cp φ (hp o nx) k:=by
  rintro k ⟨id,g1,g2⟩
  by_cases au:id∈x.ids
  ·have:=f3 id au
   rw[show((hp o nx).put (bZ o x.ids)).o id=_ from this]at g1
   refine⟨id, ?_,g2⟩
   revert g1
   cases(hp o nx).o id<;>simp[ab.fz,ab.live]
  ·have:=f4 id au
   rw[show((hp o nx).put (bZ o x.ids)).o id=_ from this]at g1
   exact⟨id,g1,g2⟩
 have OW:∀j,mb (((hp o nx).put (bZ o x.ids)).o j) ((hp o nx).o j):=fun j=>by
  by_cases hm:j∈x.ids
  ·rw[show((hp o nx).put (bZ o x.ids)).o j=_ from f3 j hm];exact mb.fz _
  ·rw[show((hp o nx).put (bZ o x.ids)).o j=_ from f4 j hm];exact mb.rfl' rfl
 have h4:=V.mc (H:=hp o nx) (H':=(hp o nx).put (bZ o x.ids)) (B:=ak M φ (hp o nx)) (B':=ak M φ ((hp o nx).put (bZ o x.ids))) (fun k h h'=>h (h'.imp id (Z4 k))) x val (fun id au=>⟨OW id,rfl,(f5 id).2 ((V.mI x val hv) id au)⟩) hv
 have h5:=ek f1 (o:=o) x d val (fun id au=>f3 id au) hx h4
 have h6:=V.gv (H:=hp o nx) (H':=(hp o nx).put (bZ o x.ids)) (B:=ak M φ (hp o nx)) (B':=ak M φ ((hp o nx).put (bZ o x.ids))) (fun k h h'=>h (h'.imp id (Z4 k))) rest us (fun id au=>⟨OW id,rfl,(f5 id).2 ((V.gw rest us dG) id au)⟩) dG
 rw[show(hp o nx).put (bZ (hp o nx).o x.ids)=hp (put o (bZ o x.ids)) nx from fX]at h5
 rw[fX]at h6
 refine(h.2 M φ w vals JP ⟨val,us,jR,h5,h6⟩).mono ?_
 rintro e w' ⟨aE,o',nx',v,k1,k2,k3⟩
 exact⟨aE,o',nx',v,k1,IQ.trans k2,k3⟩
section
@[reducible] def Sp.row (x:Sp):List V:=[.d (.i x.t.op), .d (.i x.t.n), .d (.sl (x.t.kids.map Tm.d)), .d (.sl (x.path.map .i)), .d (.bool x.bare)]
@[reducible] def Sp.d (x:Sp):D:= .agg [.i x.t.op, .i x.t.n, .sl (x.t.kids.map Tm.d), .sl (x.path.map .i), .bool x.bare]
section
variable {σ:Type}(base mf:Nat)(H:σ->Nat->ab)(step:σ->Sp->σ×Bool)(ok:List Sp->σ->Prop)
theorem qm(k:Tm)(l:List Tm)(i:Int)(q:List Int)(b:Bool):gA (k::l) i q b=jr k (q++[i]) b++gA l (i+1) q b:=by rw[gA]
theorem v7{α:Type}{step:σ->α->σ×Bool}:∀ (a b:List α) (s:σ),aq step s (a++b)=if(aq step s a).2=true then aq step (aq step s a).1 b else aq step s a
 |[],b,s=>by simp[aq]
 |x::a,b,s=>by
  simp only[List.cons_append,aq]
  split
  ·exact v7 a b _
  ·simp
theorem pB(aU:∀x r s,ok (x::r) s->(step s x).2=true->ok r (step s x).1):∀ (l rest:List Sp) (s:σ),ok (l++rest) s->(aq step s l).2=true->ok rest (aq step s l).1
 |[],rest,s,h,_=>h
 |x::l,rest,s,h,h2=>by
  simp only[aq]at h2|-
  split at h2
  ·rename_i hb
   rw[if_pos hb]
   exact pB aU l rest _ (aU _ _ _ h hb) h2
  ·rename_i hb
   exact absurd h2 Bool.false_ne_true
theorem FM(aU:∀x r s,ok (x::r) s->(step s x).2=true->ok r (step s x).1):∀t:Tm,t.fits->∀ (q:List Int) (b:Bool),q.length+t.la<=1000000->(∀x∈jr t q b,∀r s,ok (x::r) s->T9 Tryz.prog mf [.d x.d] base (H s) (H (step s x).1) (.d (.bool (step s x).2)))->mf<base->
 ∀ (c:Nat) (o0:Nat->ab) (yb vb:Nat),base<=c->base<=yb->yb<c->base<=vb->vb<c->o0 yb= .row [.ir mf]->o0 vb= .row [.func (.func 102) [] [.ptr yb 0, .ptr vb 0]]->
 ∀rest s,ok (jr t q b++rest) s->jP Tryz.prog 102 [.d (Sp.mk t q b).d, .ptr yb 0, .ptr vb 0] c (ext base (H s) o0) (ext base (H (aq step s (jr t q b)).1) o0) (.d (.bool (aq step s (jr t q b)).2)):=by
 refine Tm.dy fun t ih hf q b hqh hR tp c o0 yb vb Ua JN hy JO hv oy ov rest s iT=> ?_
 have jG:=(Tm.bg _).1 hf
 intro o nx hI K X hK
 have hle:=hI.le
 have Lu:o yb= .row [.ir mf]:=by rw[hI.eq yb hy];unfold ext;rw[if_neg (by omega),oy]
 have Lv:o vb= .row [.func (.func 102) [] [.ptr yb 0, .ptr vb 0]]:=by rw[hI.eq vb hv];unfold ext;rw[if_neg (by omega),ov]
 have y1:yb≠nx:=ag
 have y2:∀k,yb≠nx+k:=fun k=>ag
 have y3:vb≠nx:=ag
 have y4:∀k,vb≠nx+k:=fun k=>ag
 refine cZ.aG mix N5 aK ?_
 rw[Rz]
 simp+contextual (disch:=first|omega|simp only[go_sem,false_implies]) only[go_sem,wrap64,if_pos,Lu,Lv,y1,y2,y3,y4,Nat.add_assoc,Nat.left_eq_add,Nat.add_eq_left,Nat.add_left_cancel_iff]
 have ra:=Cs t q b
 rw[ra,List.cons_append]at iT
 have hb:∀id,id<base->o id=H s id:=fun id au=>by rw[hI.eq id (by omega)];unfold ext;rw[if_pos au]
 have Y1:cF base (H s) o nx:=⟨hI.bB,ag,hb⟩
 refine me (hR ⟨t,q,b⟩ ym _ s iT _ _ (Y1.aA (i:=nx) (m:=nx+4) ag ag ag rfl) _ _ fun o2 n2 m1 m2 m3=> ?_)
 have k0:o2 nx= .row (Sp.mk t q b).row:=by rw[m3 nx (by omega) (by omega),ad]
 have hold:∀id,base<=id->id<nx->o2 id=o id:=fun id h1 h2=>by rw[m3 id h1 (by omega),af _ _ _ _ (by omega)]
 have Be:∀id,base<=id->id<c->o id=o0 id:=fun id h1 h2=>by rw[hI.eq id h2];unfold ext;rw[if_neg (by omega)]
 cases Ag:(step s ⟨t,q,b⟩).2 with
 |false=>
  refine gD Ag ?_
  have vK:aq step s (jr t q b)=((step s ⟨t,q,b⟩).1,false):=by rw[ra,aq,if_neg (by rw[Ag];exact Bool.false_ne_true)]
  rw[vK]at hK
  refine hK _ _ ag ⟨m2.bB.mono ag,ag,fun id au=> ?_⟩ (fun id h1 h2=>hold id ag h2)
  unfold ext
  split
  ·exact m2.eq id nS
  ·exact Gh
 |true=>
  have vK:aq step s (jr t q b)=aq step (step s ⟨t,q,b⟩).1 (gA t.kids 0 q (gz t.op b)):=by rw[ra,aq,if_pos Ag]
  have q0:o2 yb= .row [.ir mf]:=by rw[hold yb JN (by omega),Lu]
  have q1:o2 vb= .row [.func (.func 102) [] [.ptr yb 0, .ptr vb 0]]:=by rw[hold vb JO (by omega),Lv]
  simp+contextual (disch:=first|omega|simp only[go_sem,false_implies]) only[go_sem,wrap64,if_pos,Ag,k0,q1]
  have GZ:nx+4<=n2:=m1
  refine aC (fun i:Nat×σ×(Nat->ab)×Nat=>⟨aW [.aa, .ptr yb 0, .ptr vb 0, .ptr nx 0, .aa, .aa, .aa, .aa, .aa, .aa, .aa, .aa, .aa, .d (.sl (t.kids.map Tm.d)), .d (.i t.kids.length), .d (.i i.1)],i.2.2.1,i.2.2.2⟩)
   (fun i=>i.1<=t.kids.length/\cF base (H i.2.1) i.2.2.1 i.2.2.2/\nx<i.2.2.2/\i.2.2.1 nx= .row (Sp.mk t q b).row/\(∀id,base<=id->id<nx->i.2.2.1 id=o id)/\aq step (step s ⟨t,q,b⟩).1 (gA t.kids 0 q (gz t.op b))=aq step i.2.1 (gA (t.kids.drop i.1) i.1 q (gz t.op b))/\ok (gA (t.kids.drop i.1) i.1 q (gz t.op b)++rest) i.2.1) (fun i=>t.kids.length - i.1) (0,(step s ⟨t,q,b⟩).1,o2,n2)
   ⟨Nat.zero_le _,m2.mono (Nat.le_refl _),(show nx<n2 from ag),k0,fun id h1 h2=>hold id h1 h2,rfl,aU _ _ s iT Ag⟩ ?_ ?_
  ·dsimp only
   refine bf.bC _ (show nx<=n2 from ag) ag m2.bB (fun _ _=>rfl) ?_
   exact cN
  rintro⟨k,s',o',n'⟩ ⟨hk,uh,hn,bG,cJ,x4,iJ⟩
  simp only at hk uh hn bG cJ x4 iJ
  have hg:Good o' n':=uh.bB
  have z1:∀k,yb≠n'+k:=fun k=>ag
  have z2:yb≠n':=ag
  have z3:∀k,vb≠n'+k:=fun k=>ag
  have z4:vb≠n':=ag
  have z5:∀k,nx≠n'+k:=fun k=>ag
  have z6:nx≠n':=ag
  have xN:o' vb= .row [.func (.func 102) [] [.ptr yb 0, .ptr vb 0]]:=by rw[cJ vb JO (by omega),Lv]
  have xO:o' yb= .row [.ir mf]:=by rw[cJ yb JN (by omega),Lu]
  have Ej:=jG.1
  refine bc ?_
  refine ai (fun h1=> ?_) (fun h1=> ?_)
  ·simp at h1
   obtain⟨x,hx⟩:=aB h1
   have eC:=List.mem_of_getElem? hx
   have hd:t.kids.drop k=x::t.kids.drop (k+1):=by
    exact Ve
   rw[hd,qm,v7]at x4
   rw[hd,qm,List.append_assoc]at iJ
   have hh:=Tm.mG eC
   have jk:∀y∈jr x (q++[(k:Int)]) (gz t.op b),y∈jr t q b:=fun y hy=>by
    rw[ra]
    refine List.mem_cons_of_mem _ ?_
    rw[show t.kids=t.kids.take k++(x::t.kids.drop (k+1)) by rw[<- hd,List.take_append_drop],mm,qm]
    have cc:(t.kids.take k).length=k:=by rw[List.length_take];omega
    rw[cc,Int.zero_add]
    simp[hy]
   simp+contextual (disch:=first|omega|simp only[go_sem,false_implies]) only[go_sem,wrap64,if_pos,hx,Nat.add_assoc,Nat.left_eq_add,Nat.add_eq_left,Nat.add_left_cancel_iff,bG,xN,xO,z1,z2,z3,z4,z5,z6]
   refine B0 (m:=23) cl ah ?_
   simp+contextual (disch:=first|omega|simp only[go_sem,false_implies]) only[go_sem,wrap64,if_pos,Nat.add_assoc,Nat.left_eq_add,Nat.add_eq_left,Nat.add_left_cancel_iff,bG,xN,xO,z1,z2,z3,z4,z5,z6]
   refine p9 rfl (tA q ag _ _) ?_
   have kx:(b=false/\(t.op !=3)=(t.op !=3)/\gz t.op b=false)\/(b=true/\(t.op !=3)=false/\gz t.op b=false)\/(b=true/\(t.op !=3)=true/\gz t.op b=(t.op !=5)):=by
    unfold gz
    cases b<;>cases h3:(t.op !=3)<;>simp
   have fin:∀bb:Bool,(∀y∈jr x (q++[(k:Int)]) bb,y∈jr t q b)->ok (jr x (q++[(k:Int)]) bb++(gA (t.kids.drop (k+1)) (k+1) q (gz t.op b)++rest)) s'->∀O:Nat->ab,cF base (H s') O (n'+30)->(∀id,base<=id->id<=nx->O id=o' id)->∀KK XX:V->(Nat->ab)->Nat->Prop,
    (∀o5 n5,n'+30<=n5->cF base (H (aq step s' (jr x (q++[(k:Int)]) bb)).1) o5 n5->(∀id,base<=id->id<=nx->o5 id=o' id)->KK (.d (.bool (aq step s' (jr x (q++[(k:Int)]) bb)).2)) o5 n5)->
    cZ Tryz.prog 102 [.d (Sp.mk x (q++[(k:Int)]) bb).d, .ptr yb 0, .ptr vb 0] O (n'+30) KK XX:=by
    intro bb jk abV O hIO hO KK XX hKK
    refine ih x eC (jG.2 x eC) (q++[(k:Int)]) bb nn (fun y hy=>hR y (jk y hy)) tp (n'+30) O yb vb ag JN ag JO ag (by rw[hO yb JN (by omega),xO]) (by rw[hO vb JO (by omega),xN]) _ s' abV O (n'+30) (hIO.ext (Nat.le_refl _) ag) KK XX fun o5 n5 p1 p2 p3=>hKK o5 n5 p1 ⟨p2.bB,ag,fun id au=> ?_⟩ fun id g1 g2=> ?_
    ·rw[p2.eq id (by omega)];unfold ext;rw[if_pos au]
    ·rw[p2.eq id (by omega)];unfold ext;rw[if_neg (by omega),hO id g1 g2]
   rcases kx with⟨F7,h3,kx⟩|⟨F7,h3,kx⟩|⟨F7,h3,kx⟩
   all_goals rw[kx]at x4 jk fin iJ
   ·simp+contextual (disch:=first|omega|simp only[go_sem,false_implies]) only[go_sem,wrap64,if_pos,Nat.add_assoc,Nat.left_eq_add,Nat.add_eq_left,Nat.add_left_cancel_iff,bG,xN,xO,z1,z2,z3,z4,z5,z6,F7]
    refine l5 (gN (ids:=[vb,nx]) (nx:=n'+4) nn nn [([0],[]),([2],[]),([1],[]),([1],[]),([],[9]),([],[]),([],[11]),([9,11],[9]),([1],[]),([1],[]),([],[]),([],[]),([],[]),([],[]),([],[]),([],[]),([],[]),([],[]),([],[]),([],[]),([],[]),([],[]),([],[])] cl) ?_
    dsimp only[List.drop]
    simp+contextual (disch:=first|omega|simp only[go_sem,false_implies]) only[go_sem,wrap64,if_pos,Nat.add_assoc,Nat.left_eq_add,Nat.add_eq_left,Nat.add_left_cancel_iff,bG,xN,xO,z1,z2,z3,z4,z5,z6,F7]
    refine br (cZ.pf (d:=(Sp.mk x (q++[(k:Int)]) false).d) ?_ (fin _ jk iJ _ ⟨?_,ag,fun id au=> ?_⟩ (fun id g1 g2=> ?_) _ _ fun o5 n5 p1 p2 p3=> ?_))
    ·refine bc ?_
     simp
    ·refine bc ?_
     exact eH
    ·refine bc ?_
     (repeat(first|rfl|rw[ad]|rw[af _ _ _ _ (by omega)]))
     exact uh.eq id au
    ·exact yc
    cases hr:(aq step s' (jr x (q++[(k:Int)]) false)).2 with
    |false=>
     rw[hr,if_neg Bool.false_ne_true]at x4
     refine bc ?_
     rw[vK,kx,x4,hr]at hK
     refine hK _ _ ag ⟨p2.bB.mono ag,ag,fun id au=> ?_⟩ (fun id g1 g2=>(p3 id ag ag).trans (cJ id ag g2))
     unfold ext
     split
     ·exact p2.eq id nS
     ·exact Pm
    |true=>
     exact zw1
   ·simp+contextual (disch:=first|omega|simp only[go_sem,false_implies]) only[go_sem,wrap64,if_pos,Nat.add_assoc,Nat.left_eq_add,Nat.add_eq_left,Nat.add_left_cancel_iff,bG,xN,xO,z1,z2,z3,z4,z5,z6,F7,h3]
    refine l5 (gN (ids:=[vb,nx]) (nx:=n'+4) nn nn [([0],[]),([2],[]),([1],[]),([1],[]),([],[9]),([],[]),([],[11]),([9,11],[9]),([1],[]),([1],[]),([],[]),([1],[]),([1],[]),([1],[]),([],[]),([],[]),([],[]),([],[]),([],[]),([],[]),([],[]),([],[]),([],[])] cl) ?_
    dsimp only[List.drop]
    simp+contextual (disch:=first|omega|simp only[go_sem,false_implies]) only[go_sem,wrap64,if_pos,Nat.add_assoc,Nat.left_eq_add,Nat.add_eq_left,Nat.add_left_cancel_iff,bG,xN,xO,z1,z2,z3,z4,z5,z6,F7,h3]
    refine br (cZ.pf (d:=(Sp.mk x (q++[(k:Int)]) false).d) ?_ (fin _ jk iJ _ ⟨?_,ag,fun id au=> ?_⟩ (fun id g1 g2=> ?_) _ _ fun o5 n5 p1 p2 p3=> ?_))
    ·refine bc ?_
     simp
    ·refine bc ?_
     exact eH
    ·refine bc ?_
     (repeat(first|rfl|rw[ad]|rw[af _ _ _ _ (by omega)]))
     exact uh.eq id au
    ·exact yc
    cases hr:(aq step s' (jr x (q++[(k:Int)]) false)).2 with
    |false=>
     rw[hr,if_neg Bool.false_ne_true]at x4
     refine bc ?_
     rw[vK,kx,x4,hr]at hK
     refine hK _ _ ag ⟨p2.bB.mono ag,ag,fun id au=> ?_⟩ (fun id g1 g2=>(p3 id ag ag).trans (cJ id ag g2))
     unfold ext
     split
     ·exact p2.eq id nS
     ·exact Pm
    |true=>
     exact zw1
   ·simp+contextual (disch:=first|omega|simp only[go_sem,false_implies]) only[go_sem,wrap64,if_pos,Nat.add_assoc,Nat.left_eq_add,Nat.add_eq_left,Nat.add_left_cancel_iff,bG,xN,xO,z1,z2,z3,z4,z5,z6,F7,h3]
    refine l5 (gN (ids:=[vb,nx]) (nx:=n'+4) nn nn [([0],[]),([2],[]),([1],[]),([1],[]),([],[9]),([],[]),([],[11]),([9,11],[9]),([1],[]),([1],[]),([],[]),([1],[]),([1],[]),([1],[]),([],[]),([],[]),([],[]),([1],[]),([1],[]),([1],[]),([],[]),([],[]),([],[])] cl) ?_
    dsimp only[List.drop]
    simp+contextual (disch:=first|omega|simp only[go_sem,false_implies]) only[go_sem,wrap64,if_pos,Nat.add_assoc,Nat.left_eq_add,Nat.add_eq_left,Nat.add_left_cancel_iff,bG,xN,xO,z1,z2,z3,z4,z5,z6,F7,h3]
    refine br (cZ.pf (d:=(Sp.mk x (q++[(k:Int)]) (t.op !=5)).d) ?_ (fin _ jk iJ _ ⟨?_,ag,fun id au=> ?_⟩ (fun id g1 g2=> ?_) _ _ fun o5 n5 p1 p2 p3=> ?_))
    ·refine bc ?_
     simp
    ·refine bc ?_
     exact eH
    ·refine bc ?_
     (repeat(first|rfl|rw[ad]|rw[af _ _ _ _ (by omega)]))
     exact uh.eq id au
    ·exact yc
    cases hr:(aq step s' (jr x (q++[(k:Int)]) (t.op !=5))).2 with
    |false=>
     rw[hr,if_neg Bool.false_ne_true]at x4
     refine bc ?_
     rw[vK,kx,x4,hr]at hK
     refine hK _ _ ag ⟨p2.bB.mono ag,ag,fun id au=> ?_⟩ (fun id g1 g2=>(p3 id ag ag).trans (cJ id ag g2))
     unfold ext
     split
     ·exact p2.eq id nS
     ·exact Pm
    |true=>
     rw[hr,if_pos rfl]at x4
     refine bc ?_
     refine aj (k+1,(aq step s' (jr x (q++[(k:Int)]) (t.op !=5))).1,o5,n5+1+1) ⟨h1,p2.mono (show n5<=n5+1+1 from ag),(show nx<n5+1+1 from ag),by dsimp only;rw[p3 nx (by omega) (Nat.le_refl _),bG],fun id i1 i2=>(p3 id i1 ag).trans (cJ id i1 i2),by dsimp only;rw[kx];exact x4,by dsimp only;rw[kx];exact pB step ok aU _ _ s' iJ hr⟩ nQ (bf.bC _ (show nx<=n5+1+1 from ag) nQ (p2.mono (show n5<=n5+1+1 from ag)).bB (fun _ _=>rfl) ?_)
     exact cN
  ·simp at h1
   refine bc ?_
   rw[List.drop_eq_nil_of_le h1]at x4
   rw[vK]at hK
   have cm:aq step s' (gA [] k q (gz t.op b))=(s',true):=by simp[gA,aq]
   rw[cm]at x4
   rw[x4]at hK
   refine hK _ _ ag ⟨uh.bB.mono ag,ag,fun id au=> ?_⟩ (fun id g1 g2=>cJ id ag g2)
   unfold ext
   split
   ·exact uh.eq id nS
   ·rw[cJ id (by omega) (by omega),Be id (by omega) au]
theorem Jn(t:Tm)(hf:t.fits)(hqh:t.la<=1000000)(aU:∀x r s,ok (x::r) s->(step s x).2=true->ok r (step s x).1)(hR:∀x∈jr t [] true,∀r s,ok (x::r) s->T9 Tryz.prog mf [.d x.d] base (H s) (H (step s x).1) (.d (.bool (step s x).2)))(tp:mf<base)(tb:Nat)(Bh:tb<base)(s:σ)(iT:ok (jr t [] true) s)(bG:H s tb= .row t.row):
 jP Tryz.prog 101 [.ir mf, .ptr tb 0] base (H s) (H (aq step s (jr t [] true)).1) (.bP []):=by
 intro o nx hI K X hK
 have hle:=hI.le
 have ot:o tb= .row t.row:=by rw[hI.eq tb Bh,bG]
 have y1:tb≠nx:=ag
 have y2:∀k,tb≠nx+k:=fun k=>ag
 refine cZ.aG mix N4 aK ?_
 rw[Ry]
 refine Pf ot y1 y2 ?_
 have Y2:cF base (H s) (aA (aA (aA o nx (.row [.ir mf])) (nx+1) (.row [.d .bV])) (nx+1) (.row [.func (.func 102) [] [.ptr nx 0, .ptr (nx+1) 0]])) (nx+7):=by
  refine((hI.aA (i:=nx) (m:=nx+7) ag ag ag ?_).aA (i:=nx+1) (m:=nx+7) ag ag ag rfl).aA (i:=nx+1) ag ag ag ?_
  ·exact Gv
  ·exact lA
 refine br (cZ.pf (d:=(Sp.mk t [] true).d) ?_ (FM base mf H step ok aU t hf [] true (by simpa using hqh) hR tp (nx+7) _ nx (nx+1) ag hle ag ag ag ?_ ?_ [] s (by rw[List.append_nil];exact iT) _ _ (Y2.ext (Nat.le_refl _) ag) _ _ ?_))
 ·rfl
 ·exact eO
 ·exact eO
 intro o2 n2 m1 m2 m3
 refine ck ?_
 refine hK _ _ ag ⟨m2.bB,ag,fun id au=> ?_⟩ (fun id h1 h2=> ?_)
 ·exact Gi
 ·exact PS
end
theorem AM(t:Tm)(o:Nat->ab)(nx:Nat)(K X:V->(Nat->ab)->Nat->Prop)(h:K (.func (.func 101) [] [.ptr nx 0]) (aA o nx (.row t.row)) (nx+4)):cZ Tryz.prog 72 [.d t.d] o nx K X:=by
 refine cZ.aG mix Xq aK ?_
 rw[c72]
 refine ck ?_
 exact h
def uJ{σ:Type}(J:σ->Option jh)(step:σ->Sp->σ)(s:σ)(x:Sp):σ×Bool:=(step s x,(J (step s x)).isNone)
theorem qZ{σ:Type}(t:Tm)(hf:t.fits)(hqh:t.la<=1000000){n bq:Nat}{gq:Operand}{ps:List Nat}{iL eI:IC}{Q:eK->S->Prop}{e:Nat->V}{o:Nat->ab}{nx tb:Nat}(env:List V)(he:lg e env 0)
 (mH:ps.all (fun t=>decide (t<n))=true) (hl:ps.length=1) (hg:Good o nx) (hrefs:∀r∈V.aJ env,r<nx) (ht:o tb= .row t.row)
 (G:σ->Nat->ab) (J:σ->Option jh) (step:σ->Sp->σ) (ok:List Sp->σ->Prop) (s0:σ) (iT:ok (jr t [] true) s0) (S9:J s0=none) (h0:∀id,id<nx->o id=G s0 id) (aU:∀x r s,ok (x::r) s->J s=none->J (step s x)=none->ok r (step s x))
 (nC:∀L,gx Tryz.prog n env ps iL eI L->(∀st pd m,nx<=m->(L st pd).refs.all (fun r=>decide (r<m))=true)->∀x∈jr t [] true,∀r s,ok (x::r) s->J s=none->∀o3 n3,cF nx (G s) o3 n3->nx<n3->o3 nx=L .ready none->∀K X,
  (∀e' o' n' st pd,n3<=n'->cF nx (G (step s x)) o' n'->o' nx=L st pd->(∀id,nx<id->id<n3->o' id=o3 id)->ja nx K X (Iv (J (step s x))) ⟨e',o',n'⟩)->
  kN Tryz.prog n n3 true iL (nH Tryz.prog n n3 nx eI K X) ⟨lZ (aW env) ps [.d x.d],o3,n3⟩)
 (iV:∀o' n',cF nx (G (aq (uJ J step) s0 (jr t [] true)).1) o' n'->nB Q (J (aq (uJ J step) s0 (jr t [] true)).1) ⟨e,o',n'⟩):
 xi Tryz.prog n bq false gq ps iL eI Q ⟨e,o,nx⟩ (.func (.func 101) [] [.ptr tb 0]):=by
 refine Cb env he (fun L hL=> ?_)
 have Bh:tb<nx:=hg.lt GK
 let H:σ->Nat->ab:=fun s id=>if id<nx then G s id else if id=nx then(match J s with|none=>L .ready none|some j=>L .done (some j))else .no
 have Eg:∀s id,id<nx->H s id=G s id:=fun s id h=>if_pos h
 have JG:∀s,J s=none->H s nx=L .ready none:=fun s h=>by show(if nx<nx then _ else _)=_;rw[if_neg (by omega),if_pos rfl,h]
 have Pv:∀s j,J s=some j->H s nx=L .done (some j):=fun s j h=>by show(if nx<nx then _ else _)=_;rw[if_neg (by omega),if_pos rfl,h]
 have uL:∀st pd m,nx<=m->(L st pd).refs.all (fun r=>decide (r<m))=true:=fun st pd m hm=>by
  exact PN
 refine Jn (nx+1) nx H (uJ J step) (fun l s=>ok l s/\J s=none) t hf hqh (fun x r s h1 h2=> ?_) (fun x hx r s h1=> ?_) ag tb ag s0 ⟨iT,S9⟩ GI _ _ ⟨?_,Nat.le_refl _,fun id au=> ?_⟩ _ _ ?_
 ·have hj:J (step s x)=none:=by simpa[uJ]using h2
  exact⟨aU x r s h1.1 h1.2 hj,hj⟩
 ·intro o3 n3 hI K X hK
  have hle:=hI.le
  have F6:o3 nx=L .ready none:=by rw[hI.eq nx (by omega),JG s h1.2]
  refine tj hL mix F6 ag mH (by simp[hl]) ?_
  refine nC L hL uL x hx r s h1.1 h1.2 o3 n3 ⟨hI.bB,ag,fun id au=>by rw[hI.eq id (by omega),Eg _ _ au]⟩ ag F6 K X (fun e' o' n' st pd k1 k2 k3 k4=> ?_)
  have key:∀st' pd' b,(J (step s x)).isNone=b->H (step s x) nx=L st' pd'->K (.d (.bool b)) (aA o' nx (L st' pd')) n':=fun st' pd' b hb hh=>by
   subst hb
   refine hK _ _ k1 ⟨k2.bB.aA ag (uL _ _ _ ag),ag,fun id au=> ?_⟩ (fun id g1 g2=> ?_)
   ·by_cases rW:id=nx
    ·exact Gw
    ·rw[af _ _ _ _ rW]
     show o' id=H (step s x) id
     exact Gn
   ·exact PB
  cases hj:J (step s x)with
  |none=>exact Py
  |some j=>
   cases j with
   |ret=>exact Pw
   |exit j=>exact Pu
 ·exact Px
 ·by_cases rW:id=nx
  ·exact GA
  ·exact Pt
 ·intro o' n' k1 k2 k3
  have hle:=k2.le
  generalize hsf:(aq (uJ J step) s0 (jr t [] true)).1=sf at*
  have kk:∀st pd,cF nx (G sf) (aA o' nx (L st pd)) n':=fun st pd=>⟨k2.bB.aA ag (uL _ _ _ ag),ag,fun id au=>by rw[af _ _ _ _ (by omega),k2.eq id (by omega),Eg _ _ au]⟩
  cases hj:J sf with
  |none=>
   refine⟨.ready,none,by rw[k2.eq nx (by omega),JG _ hj],(fun h=>by cases h), ?_⟩
   have:=iV _ _ (kk .exhausted none)
   rwa [hj]at this
  |some j=>
   refine⟨.done,some j,by rw[k2.eq nx (by omega),Pv _ _ hj],(fun h=>by cases h), ?_⟩
   have:=iV _ _ (kk .exhausted (some j))
   rwa [hj]at this
end
theorem rV{c:Nat}{G:List Gr}{so:Nat->ab}{gone:Nat->Prop}{x x' y y':ab}(h:x=y)(h':x'=y')(hs:tg c G so gone y y'):tg c G so gone x x':=by rw[h,h'];exact hs
@[reducible] def jo (B:Nat->ab) (r c:Nat) (ds:List D) (ty sz:Nat) (es:List D):Nat->ab:=aA (aA B r (.row (ds.map .d++[.osl c 0]))) c (.arr 0 ty sz es)
theorem xP{c:Nat}{G:List Gr}{so:Nat->ab}{gone:Nat->Prop}{l l':List V}:∀ds:List D,tf c G so gone l l'->tf c G so gone (ds.map .d++l) (ds.map .d++l')
 |[],h=>h
 |d::ds,h=>Sg (xP ds h)
theorem xQ(B:Nat->ab)(r c:Nat)(ds:List D)(ty sz:Nat)(es:List D):jo B r c ds ty sz es c= .arr 0 ty sz es:=ad _ _ _
theorem xR(B:Nat->ab){r c:Nat}(h:r<c)(ds:List D)(ty sz:Nat)(es:List D):jo B r c ds ty sz es r= .row (ds.map .d++[.osl c 0]):=(af _ _ _ _ ag).trans (ad _ _ _)
theorem CC(B:Nat->ab){r c j:Nat}(h:j≠r)(h2:j≠c)(ds:List D)(ty sz:Nat)(es:List D):jo B r c ds ty sz es j=B j:=(af _ _ _ _ h2).trans (af _ _ _ _ h)
theorem v8{B:Nat->ab}{r c:Nat}{ds:List D}{ty sz:Nat}{e:Nat->V}{so:Nat->ab}{m:Nat}(l:List V)(hg:Good B c)(uQ:∀j,c<=j->B j= .no)(hr:r<c)(ho:∀j,j<c->j≠r->so j=B j)(bG:so r= .row (ds.map .d++[.a8]))(dh:0<sz)
 (he:lu c [⟨.a8,ty,sz,[]⟩] so (fun _=>False) e l 0):bf 0 ⟨e,so,m⟩ ⟨aW l,jo B r c ds ty sz [],c+1⟩:=by
 refine bf.iK (fun _=>False) .a8 c _ ag (fun j hj=> ?_) (xQ _ _ _ _ _ _ _) (.inl ⟨rfl,rfl,dh⟩) (fun j hj=> ?_) (fun _ h=>h.elim) he
 ·by_cases e1:j=r
  ·subst e1
   exact rV (y:= .row (ds.map .d++[.a8])) bG (xR B hr ds ty sz _) (Aa rfl (xP ds (Ik (g:=⟨.a8,ty,sz,[]⟩) 0 rfl rfl rfl z8)))
  ·exact UK
 ·exact Mr
theorem AO{B:Nat->ab}{r c ep:Nat}{ds:List D}{ty sz:Nat}{es:List D}{e:Nat->V}{so:Nat->ab}{m:Nat}(l:List V)(hg:Good B c)(uQ:∀j,c<=j->B j= .no)(hr:r<c)(ho:∀j,j<c->j≠r->so j=B j)(bG:so r= .row (ds.map .d++[.osl c ep]))(cM:so c= .arr ep ty sz es)
 (he:lu c [⟨.osl c ep,ty,sz,es⟩] so (fun j=>j=c) e l 0):bf 0 ⟨e,so,m⟩ ⟨aW l,jo B r c ds ty sz es,c+1⟩:=by
 refine bf.iK (fun j=>j=c) (.osl c ep) c _ ag (fun j hj=> ?_) (xQ _ _ _ _ _ _ _) (.inr ⟨c,ep,rfl,rfl,cM⟩) (fun j hj=> ?_) (fun j h h2=>ag) he
 ·by_cases e1:j=r
  ·subst e1
   exact rV (y:= .row (ds.map .d++[.osl c ep])) bG (xR B hr ds ty sz _) (Aa rfl (xP ds (Ik (g:=⟨.osl c ep,ty,sz,es⟩) 0 rfl rfl rfl z8)))
  ·exact UK
 ·exact Mr
end Go.Proofs.YtnkamdiiakdkgaaGreat
section
namespace Go.Proofs.YtnkamdiiakdkgaaGreat
open Go.Shelf
def AP:Go.Shelf.Ren:=⟨fun|189=>73|125=>104|257=>103|128=>147|129=>148|294=>138|295=>139|296=>140|297=>141|298=>142|299=>143|216=>144|300=>145|301=>146|328=>164|329=>165|330=>166|331=>167|332=>168|215=>169|343=>180|n=>n,fun|28=>37|3=>3|46=>144|0=>0|51=>186|53=>188|4=>4|183=>178|182=>177|131=>183|5=>5|9=>9|218=>205|222=>209|228=>211|229=>212|n=>n,fun|n=>n⟩
theorem D3:Go.Proofs.Lays.n189 Tryz.prog AP:={
 mixed:=ah
 f125:=Tryz.func104.trans (congrArg some ah)
 f128:=Tryz.func147.trans (congrArg some ah)
 f129:=Tryz.func148.trans (congrArg some ah)
 f189:=Tryz.func73.trans (congrArg some ah)
 f215:=Tryz.func169.trans (congrArg some ah)
 f216:=Tryz.func144.trans (congrArg some ah)
 f257:=Tryz.func103.trans (congrArg some ah)
 f294:=Tryz.func138.trans (congrArg some ah)
 f295:=Tryz.func139.trans (congrArg some ah)
 f296:=Tryz.func140.trans (congrArg some ah)
 f297:=Tryz.func141.trans (congrArg some ah)
 f298:=Tryz.func142.trans (congrArg some ah)
 f299:=Tryz.func143.trans (congrArg some ah)
 f300:=Tryz.func145.trans (congrArg some ah)
 f301:=Tryz.func146.trans (congrArg some ah)
 f328:=Tryz.func164.trans (congrArg some ah)
 f329:=Tryz.func165.trans (congrArg some ah)
 f330:=Tryz.func166.trans (congrArg some ah)
 f331:=Tryz.func167.trans (congrArg some ah)
 f332:=Tryz.func168.trans (congrArg some ah)
 f343:=Tryz.func180.trans (congrArg some ah)
 t0:=Tryz.underlying0
 a0:=Tryz.isAgg0
 z0:=Tryz.sizeOf0
 v0:=Tryz.zeroValue0
 t3:=Tryz.underlying3
 a3:=Tryz.isAgg3
 z3:=Tryz.sizeOf3
 v3:=Tryz.zeroValue3
 t4:=Tryz.underlying4
 a4:=Tryz.isAgg4
 z4:=Tryz.sizeOf4
 v4:=Tryz.zeroValue4
 t5:=Tryz.underlying5
 a5:=Tryz.isAgg5
 z5:=Tryz.sizeOf5
 v5:=Tryz.zeroValue5
 t9:=Tryz.underlying9
 a9:=Tryz.isAgg9
 z9:=Tryz.sizeOf9
 v9:=Tryz.zeroValue9
 t28:=Tryz.underlying37
 a28:=Tryz.isAgg37
 z28:=Tryz.sizeOf37
 v28:=Tryz.zeroValue37
 t46:=Tryz.underlying144
 a46:=Tryz.isAgg144
 z46:=Tryz.sizeOf144
 v46:=Tryz.zeroValue144
 t51:=Tryz.underlying186
 a51:=Tryz.isAgg186
 z51:=Tryz.sizeOf186
 v51:=Tryz.zeroValue186
 t53:=Tryz.underlying188
 a53:=Tryz.isAgg188
 z53:=Tryz.sizeOf188
 v53:=Tryz.zeroValue188
 t131:=Tryz.underlying183
 a131:=Tryz.isAgg183
 z131:=Tryz.sizeOf183
 v131:=Tryz.zeroValue183
 t182:=Tryz.underlying177
 a182:=Tryz.isAgg177
 z182:=Tryz.sizeOf177
 v182:=Tryz.zeroValue177
 t183:=Tryz.underlying178
 a183:=Tryz.isAgg178
 z183:=Tryz.sizeOf178
 v183:=Tryz.zeroValue178
 t218:=Tryz.underlying205
 a218:=Tryz.isAgg205
 z218:=Tryz.sizeOf205
 v218:=Tryz.zeroValue205
 t222:=Tryz.underlying209
 a222:=Tryz.isAgg209
 z222:=Tryz.sizeOf209
 v222:=Tryz.zeroValue209
 t228:=Tryz.underlying211
 a228:=Tryz.isAgg211
 z228:=Tryz.sizeOf211
 v228:=Tryz.zeroValue211
 t229:=Tryz.underlying212
 a229:=Tryz.isAgg212
 z229:=Tryz.sizeOf212
 v229:=Tryz.zeroValue212}
theorem FN:AD Tryz.prog 73:=fun cX off cap zs w h1 h2 h3=>Any.slices_Sort_int D3 cX off cap zs w h1 h2 h3
theorem FO:∀ (p:Option Addr) (cap:Nat) (w:World),Calls Tryz.prog 73 #[.slice p 0 cap] w fun e w'=>e= .returned (.tuple #[])/\w'=w:=fun p cap w=>Any.slices_Sort_int_none D3 p cap w
theorem AQ:Enters Tryz.prog 73:=⟨_,Tryz.func73,ah,ah⟩
def AR:Go.Shelf.Ren:=⟨fun|20=>74|n=>n,fun|22=>37|3=>3|4=>4|0=>0|n=>n,fun|n=>n⟩
theorem D4:Go.Proofs.Lays2.n20 Tryz.prog AR:={
 mixed:=ah
 f20:=Tryz.func74.trans (congrArg some ah)
 t0:=Tryz.underlying0
 a0:=Tryz.isAgg0
 z0:=Tryz.sizeOf0
 v0:=Tryz.zeroValue0
 t3:=Tryz.underlying3
 a3:=Tryz.isAgg3
 z3:=Tryz.sizeOf3
 v3:=Tryz.zeroValue3
 t4:=Tryz.underlying4
 a4:=Tryz.isAgg4
 z4:=Tryz.sizeOf4
 v4:=Tryz.zeroValue4
 t22:=Tryz.underlying37
 a22:=Tryz.isAgg37
 z22:=Tryz.sizeOf37
 v22:=Tryz.zeroValue37
 i3:=by kernel_rfl}
theorem xS:mn Tryz.prog 74:=fun cX off cap zs w h1 h2 h3=>Any.slices_Compact_int D4 cX off cap zs w h1 h2 h3
theorem xT:∀ (p:Option Addr) (cap:Nat) (w:World),Calls Tryz.prog 74 #[.slice p 0 cap] w fun e w'=>e= .returned (.slice p 0 cap)/\w'=w:=fun p cap w=>Any.slices_Compact_int_empty D4 p cap w
theorem tR:Enters Tryz.prog 74:=⟨_,Tryz.func74,ah,ah⟩
end Go.Proofs.YtnkamdiiakdkgaaGreat
end
section
namespace Go.Proofs.YtnkamdiiakdkgaaGreat
open Go.ChangeShapes Go.WideShapes Go.RowKit
def tS(P:Program)(rec:TypeId->Option (List TypeId)):Nat->List Field->Option (List TypeId)
 |_,[]=>some []
 |off,f::fs=>if f.offset=off then match rec f.type with
  |some l=>if P.cellsOf f.type=l.length then(tS P rec (off+l.length) fs).map (l++·)else none
  |none=>none else none
def lj(P:Program):Nat->TypeId->Option (List TypeId)
 |0,_=>none
 |n+1,t=>match P.underlying t with
  |some .bool|some (.int _)|some .string|some (.slice _)=>some [t]
  |some (.struct fs)=>tS P (lj P n) 0 fs.toList
  |some (.array k e)=>match lj P n e with
   |some l=>if P.cellsOf e=l.length then some (List.replicate k l).flatten else none
   |none=>none
  |_=>none
def isAgg(P:Program)(t:TypeId):Bool:=match P.underlying t with
 |some (.struct _)|some (.array _ _)=>true
 |_=>false
mutual
def D.jg (P:Program):D->TypeId->Prop
 | .int k n,t=>P.underlying t=some (.int k)/\(Lit.int k n).wf=true
 | .bool _,t=>P.underlying t=some .bool
 | .str l,t=>P.underlying t=some .string/\l.length<=maxLen
 | .sl es,t=>∃e,P.underlying t=some (.slice e)/\es.length<=maxLen/\D.FP P es e
 | .agg cs,t=>isAgg P t=true/\∃ls,lj P 20 t=some ls/\D.gQ P cs ls
 |_,_=>False
def D.FP (P:Program):List D->TypeId->Prop
 |[],_=>True
 |x::l,e=>D.jg P x e/\D.FP P l e
def D.gQ (P:Program):List D->List TypeId->Prop
 |[],ts=>ts=[]
 |x::l,ts=>∃t r,ts=t::r/\D.jg P x t/\D.gQ P l r
end
def rS(P:Program)(T:List TypeId):Bool:=T.all fun t=>match lj P 20 t with
 |some l=>decide (l.length=P.cellsOf t)&&decide (0<l.length)&&l.all fun u=>match P.underlying u with
  |some (.slice e)=>T.contains e
  |_=>true
 |none=>false
theorem pg{P:Program}:∀ {xs ys:List D} {l r:List TypeId},D.gQ P xs l->D.gQ P ys r->D.gQ P (xs++ys) (l++r)
 |[],_,_,_,h,h'=>by simp only[D.gQ]at h;subst h;exact h'
 |x::xs,_,_,_,h,h'=>by
  obtain⟨t,r,rfl,h1,h2⟩:=h
  exact⟨t,_,rfl,h1,pg h2 h'⟩
theorem ba{B:Nat->Prop}{w:World}:∀ {xs ys:List D} {l r:List Value},D.az B w xs l->D.az B w ys r->D.az B w (xs++ys) (l++r)
 |[],_,_,_,h,h'=>by simp only[D.az]at h;subst h;exact h'
 |x::xs,_,_,_,h,h'=>by
  obtain⟨t,r,rfl,h1,h2⟩:=h
  exact⟨t,_,rfl,h1,ba h2 h'⟩
theorem Flat.append {l r:List Value}(h:Flat l)(h':Flat r):Flat (l++r):=fun u hu=>(List.mem_append.1 hu).elim (h u) (h' u)
abbrev SQ:Nat->Prop:=fun _=>False
section
variable {H:Type}{enc:TypeId×Value->H}{P:Program}{W:World}{T:List TypeId}{b0:Nat}
def cT(P:Program)(W:World)(l:List TypeId)(cs:List Value):Prop:=∃xs,D.gQ P xs l/\D.az SQ W xs cs/\Flat cs
theorem cT.append {l r:List TypeId}{cs ds:List Value}(h:cT P W l cs)(h':cT P W r ds):cT P W (l++r) (cs++ds):=by
 obtain⟨xs,a1,a2,a3⟩:=h
 obtain⟨ys,b1,b2,b3⟩:=h'
 exact⟨xs++ys,pg a1 b1,ba a2 b2,a3.append b3⟩
theorem cT.length {l:List TypeId}{cs:List Value}(h:cT P W l cs):cs.length=l.length:=by
 obtain⟨xs,a1,a2,_⟩:=h
 rw[D.ay _ _ a2]
 clear a2
 induction xs generalizing l with
 |nil=>simp only[D.gQ]at a1;simp[a1]
 |cons x xs ih=>obtain⟨t,r,rfl,_,h⟩:=a1;simp[ih h]
theorem cT.nil:cT P W [] []:=⟨[],rfl,rfl,fun _ h=>by cases h⟩
theorem AS{α:Type}(cs:List α)(o k:Nat):cs.drop o=(cs.drop o).take k++cs.drop (o+k):=by
 rw[<- List.drop_drop];exact(List.take_append_drop k _).symm
theorem ph{rec:TypeId->Option (List TypeId)}{cs:List Value}{rd:TypeId->List Value->Prop}
 (bt:∀t l vs,rec t=some l->(∀u∈l,∀e,P.underlying u=some (.slice e)->e∈T)->P.cellsOf t=l.length->rd t vs->cT P W l vs):
 ∀ (fs:List Field) (off:Nat) (l:List TypeId),tS P rec off fs=some l->(∀u∈l,∀e,P.underlying u=some (.slice e)->e∈T)->(∀f∈fs,rd f.type ((cs.drop f.offset).take (P.cellsOf f.type)))->
   off+l.length=cs.length->cT P W l (cs.drop off)
 |[],off,l,h,_,_,hl=>by
  simp only[tS,Option.some.injEq]at h
  subst h
  have:cs.drop off=[]:=List.drop_eq_nil_of_le (by simp at hl;omega)
  rw[this];exact cT.nil
 |f::fs,off,l,h,hT,hr,hl=>by
  simp only[tS]at h
  split at h
  ·rename_i ho
   split at h
   ·rename_i l1 h1
    split at h
    ·rename_i hc
     simp only[Option.map_eq_some_iff]at h
     obtain⟨r,h2,rfl⟩:=h
     have hd:=hr f aK
     rw[ho,hc]at hd
     rw[AS cs off l1.length]
     simp only[List.length_append]at hl
     exact(bt f.type l1 _ h1 (fun u hu=>hT u (by simp[hu])) hc hd).append (ph bt fs _ r h2 (fun u hu=>hT u (by simp[hu])) (fun f hf=>hr f (by simp[hf])) ag)
    ·cases h
   ·cases h
  ·cases h
theorem q9{l:List TypeId}{cs:List Value}:∀ (k i:Nat),(∀j,j<k->cT P W l ((cs.drop ((i+j)*l.length)).take l.length))->(i+k)*l.length=cs.length->cT P W (List.replicate k l).flatten (cs.drop (i*l.length))
 |0,i,_,hl=>by
  have:cs.drop (i*l.length)=[]:=List.drop_eq_nil_of_le (by simp at hl;omega)
  rw[this];exact cT.nil
 |k+1,i,h,hl=>by
  rw[List.replicate_succ,List.flatten_cons,AS cs (i*l.length) l.length]
  refine(by simpa using h 0 ag:cT P W l _).append ?_
  rw[show i*l.length+l.length=(i+1)*l.length by rw[Nat.add_mul];omega]
  refine q9 k (i+1) (fun j hj=> ?_) (by rw[<- hl];congr 1;omega)
  have:=h (j+1) ag
  rwa [show i+(j+1)=i+1+j by omega]at this
theorem AU{e:TypeId}{l:List TypeId}{cs:List Value}(hl:lj P 20 e=some l)(h:cT P W l cs):∃ (ev:Value) (x:D),ev.cells.toList=cs/\D.jg P x e/\D.den SQ W x ev/\(isAgg P e=true->ev= .agg cs.toArray)/\(isAgg P e=false->cs=[ev]/\ev.oneCell'=true):=by
 obtain⟨xs,h1,h2,h3⟩:=h
 cases ha:isAgg P e with
 |true=>exact⟨.agg cs.toArray, .agg xs,by simp[Value.cells],⟨ha,l,hl,h1⟩,⟨_,rfl,by simpa using h2,by simpa using h3⟩,fun _=>rfl,(fun h=>by cases h)⟩
 |false=>
  have:l=[e]:=by
   unfold lj at hl
   unfold isAgg at ha
   split at hl<;>simp_all
  subst this
  obtain⟨t,r,e1,h4,h5⟩:∃x r,xs=x::r/\D.jg P x e/\D.gQ P r []:=by
   cases xs with
   |nil=>simp[D.gQ]at h1
   |cons x r=>obtain⟨t,r',e1,h4,h5⟩:=h1;injection e1 with e1 e2;subst e1;subst e2;exact⟨x,r,rfl,h4,h5⟩
  subst e1
  have:r=[]:=by cases r with
   |nil=>rfl
   |cons y r=>obtain⟨_,_,e,_⟩:=h5;cases e
  subst this
  obtain⟨u,us,rfl,h6,h7⟩:=h2
  simp only[D.az]at h7
  subst h7
  have ho:=h3 u aK
  refine⟨u,t, ?_,h4,h6,(fun h=>by cases h),fun _=>⟨rfl,ho⟩⟩
  cases u<;>simp_all[Value.oneCell',Value.cells]
theorem AV(hp:rS P T=true){t:TypeId}(ht:t∈T):∃l,lj P 20 t=some l/\l.length=P.cellsOf t/\0<l.length/\∀u∈l,∀e,P.underlying u=some (.slice e)->e∈T:=by
 have:=List.all_eq_true.1 hp t ht
 split at this
 ·rename_i l hl
  simp only[Bool.and_eq_true,decide_eq_true_eq,List.all_eq_true]at this
  refine⟨l,hl,this.1.1,this.1.2,fun u hu e he=> ?_⟩
  have:=this.2 u hu
  rw[he]at this
  simpa using this
 ·cases this
theorem Cy(hp:rS P T=true):∀ (n m:Nat) (t:TypeId) (l:List TypeId) (cs:List Value) (x:DataW H×List MemPlace),lj P m t=some l->(∀u∈l,∀e,P.underlying u=some (.slice e)->e∈T)->
 P.cellsOf t=l.length->DataW.trod enc P W 0 (fun _=>true) true n t cs=some x->cT P W l cs:=by
 intro n
 induction n with
 |zero=>intro m t l cs x _ _ _ h;simp[DataW.trod]at h
 |succ n ih=>
  intro m t l cs x hl hT hc h
  cases m with
  |zero=>simp[lj]at hl
  |succ m=>
  unfold lj at hl
  split at hl
  ·rename_i hu
   injection hl with hl;subst hl
   obtain⟨b,rfl,_⟩:=DataW.trod_bool hu h
   exact⟨[.bool b],⟨t,[],rfl,hu,rfl⟩,⟨_,_,rfl,rfl,rfl⟩,by simp[Flat,Value.oneCell']⟩
  ·rename_i k hu
   injection hl with hl;subst hl
   obtain⟨b,rfl,_,hw⟩:=DataW.trod_int hu h
   exact⟨[.int k b],⟨t,[],rfl,⟨hu,hw⟩,rfl⟩,⟨_,_,rfl,rfl,rfl⟩,by simp[Flat,Value.oneCell']⟩
  ·rename_i hu
   injection hl with hl;subst hl
   obtain⟨s,rfl,_,hw⟩:=DataW.trod_string hu h
   exact⟨[.str s.data.toList],⟨t,[],rfl,⟨hu,by simpa using hw⟩,rfl⟩,⟨_,_,rfl,⟨s,rfl,rfl⟩,rfl⟩,by simp[Flat,Value.oneCell']⟩
  ·rename_i e hu
   injection hl with hl;subst hl
   rcases DataW.trod_slice hu h with⟨rfl,_⟩|⟨a,len,cap,elems,rest,n',hn,rfl,_,_,h2,h3,h4,h5,h6,_⟩
   ·exact⟨[.sl []],⟨t,[],rfl,⟨e,hu,aK,trivial⟩,rfl⟩,⟨_,_,rfl,⟨none,0,0,rfl,rfl,aK,fun _=>rfl,0,(fun a ha=>by cases ha)⟩,rfl⟩,by simp[Flat,Value.oneCell']⟩
   ·injection hn with hn;subst hn
    obtain⟨l',g1,g2,g3,g4⟩:=AV hp (hT t aK e hu)
    have at':∀i,i<len->∃ev:Value,∃y:D,ev.cells.size=P.cellsOf e/\fw SQ W (a.add (i*P.cellsOf e)) ev.cells/\D.den SQ W y ev/\D.jg P y e:=by
     intro i hi
     have:=h5 i hi
     rw[List.getElem?_eq_getElem (by omega)]at this
     obtain⟨ci,k1,k2⟩:=Option.bind_eq_some_iff.1 this
     obtain⟨_,k3,k4⟩:=World.cells?_some k1
     have k5:=ih 20 e l' ci _ g1 g4 g2.symm k2
     obtain⟨ev,y,q1,q2,q3,_,_⟩:=AU g1 k5
     have q4:ev.cells=ci.toArray:=by rw[<- q1]
     refine⟨ev,y,by rw[q4];simp[k5.length,g2],fun j u hj=>⟨?_,fun h=>h⟩,q3,q2⟩
     rw[q4]at hj
     have F0:ci[j]? =some u:=by simpa using hj
     have cc:j<P.cellsOf e:=by rw[<- g2, <- k5.length];exact(List.getElem?_eq_some_iff.1 F0).1
     rw[k4 j cc];exact F0
    have list:∀k i,i+k=len->∃es,es.length=k/\D.FP P es e/\D.elems SQ W (P.cellsOf e) a i es:=by
     intro k
     induction k with
     |zero=>intro i _;exact⟨[],rfl,trivial,trivial⟩
     |succ k ihk=>
      intro i hi
      obtain⟨es,e1,e2,e3⟩:=ihk (i+1) ag
      obtain⟨ev,y,y1,y2,y3,y4⟩:=at' i ag
      exact⟨y::es,by simp[e1],⟨y4,e2⟩,⟨ev,y1,y2,y3⟩,e3⟩
    obtain⟨es,e1,e2,e3⟩:=list len 0 ag
    have Zp:cap≠0->a.spot=none:=by
     intro jX
     have OX:∀z,(W.cells? 0 (a.add (0*P.cellsOf e)) (P.cellsOf e)).bind (DataW.trod enc P W 0 (fun _=>true) true n e)=some z->a.spot=none:=by
      intro z hz
      obtain⟨ci,k1,k2⟩:=Option.bind_eq_some_iff.1 hz
      obtain⟨_,k3,k4⟩:=World.cells?_some k1
      have k5:=k4 0 ag
      rw[List.getElem?_eq_getElem (by omega)]at k5
      simpa[Addr.add]using World.cell?_spot k5
     by_cases hlen:0<len
     ·have:=h5 0 hlen
      rw[List.getElem?_eq_getElem (by omega)]at this
      exact OX _ this
     ·obtain⟨h7,h8⟩:=h6 rfl
      have:=h8 0 ag
      rw[List.getElem?_eq_getElem (by omega),show(len+0)=0 by omega]at this
      exact OX _ this
    exact⟨[.sl es],⟨t,[],rfl,⟨e,hu,ag,e2⟩,rfl⟩,⟨_,_,rfl,⟨some a,len,cap,rfl,e1.symm,h2,(fun h=>by cases h),P.cellsOf e,(fun a' Uj=>by injection Uj with Uj;subst Uj;exact⟨Zp,e3⟩)⟩,rfl⟩,by simp[Flat,Value.oneCell']⟩
  ·rename_i fs hu
   obtain⟨xs,n',hn,_,h2,h3,h4⟩:=DataW.trod_struct hu h
   injection hn with hn;subst hn
   have:=ph (P:=P) (W:=W) (T:=T) (cs:=cs) (rd:=fun t vs=>∃y,DataW.trod enc P W 0 (fun _=>true) true n t vs=some y) (rec:=lj P m) (fun t l vs q1 q2 q3 ⟨y,q4⟩=>ih m t l vs y q1 q2 q3 q4) fs.toList 0 l hl hT ?_ ag
   ·simpa using this
   ·intro f hf
    obtain⟨i,hi,hfi⟩:=List.getElem_of_mem hf
    have:=h4 i f (by simp at hi;simp[<- hfi,Array.getElem?_eq_getElem hi])
    rw[List.getElem?_eq_getElem (by simp at hi;omega)]at this
    exact⟨_,this⟩
  ·rename_i k e hu
   split at hl
   ·rename_i l' Ky
    split at hl
    ·rename_i hce
     injection hl with hl;subst hl
     obtain⟨xs,n',hn,_,h2,h3,h4⟩:=DataW.trod_array hu h
     injection hn with hn;subst hn
     have hlen:cs.length=k*l'.length:=by rw[h2,hc];simp
     have hT':0<k->∀u∈l',∀e,P.underlying u=some (.slice e)->e∈T:=fun hk u hu=>hT u (List.mem_flatten.2 ⟨l',List.mem_replicate.2 ⟨ag,rfl⟩,hu⟩)
     have:=q9 (P:=P) (W:=W) (l:=l') (cs:=cs) k 0 (fun j hj=> ?_) (by rw[hlen];simp)
     ·simpa using this
     ·have:=h4 j hj
      rw[hce,List.getElem?_eq_getElem (by omega)]at this
      rw[Nat.zero_add]
      exact ih m e l' _ _ Ky (hT' ag) hce this
    ·cases hl
   ·cases hl
  ·cases hl
theorem wa(hp:rS P T=true):∀ (ts:List TypeId) (vs:List Value) (ds:List (DataW H)) (p:List MemPlace),(∀t∈ts,t∈T)->DataW.TrodAll enc P W 0 (fun _=>true) true ts vs ds p->
 (∀ (j:Nat) t v,ts[j]? =some t->vs[j]? =some v->Value.okWide P W .any b0 t v)->∃xs,D.gQ P xs ts/\D.az SQ W xs vs
 |[],vs,ds,p,_,h,_=>by
  obtain⟨rfl,rfl,rfl⟩:=trodAll_nil h
  exact⟨[],rfl,rfl⟩
 |t::ts,vs,ds,p,hT,h,hv=>by
  obtain⟨v,Zz,d,V7,p1,q1,rfl,rfl,rfl,⟨n,h1⟩,h2⟩:=trodAll_cons h
  obtain⟨xs,a1,a2⟩:=wa hp ts Zz V7 q1 (fun t ht=>hT t (by simp[ht])) h2 (fun j t v h1 h2=>hv (j+1) t v (by simpa using h1) rX)
  obtain⟨l,g1,g2,g3,g4⟩:=AV hp (hT t aK)
  obtain⟨ev,x,q1,q2,q3,q4,q5⟩:=AU g1 (Cy hp n 20 t l _ _ g1 g4 g2.symm h1)
  have aU:=hv 0 t v rfl rfl
  have:ev=v:=by
   cases ha:isAgg P t with
   |true=>
    have:∃cs,v= .agg cs:=by
     unfold isAgg at ha
     unfold Value.okWide at aU
     split at ha
     ·rename_i hu;rw[hu]at aU;obtain⟨cs,rfl,_⟩:=aU;exact⟨cs,rfl⟩
     ·rename_i hu;rw[hu]at aU;obtain⟨cs,rfl,_⟩:=aU;exact⟨cs,rfl⟩
     ·cases ha
    obtain⟨cs,rfl⟩:=this
    rw[q4 ha]
    simp[Value.cells]
   |false=>
    obtain⟨q6,q7⟩:=q5 ha
    cases v with
    |agg cs=>
     exfalso
     unfold isAgg at ha
     unfold Value.okWide at aU
     split at aU
     ·rename_i hu;rw[hu]at ha;cases ha
     ·rename_i hu;rw[hu]at ha;cases ha
     ·unfold Cell.okWide at aU
      split at aU
      case h_8=>
       unfold Cell.ok at aU
       split at aU<;>first|exact aU|contradiction
      all_goals contradiction
    |_=>simp only[Value.cells,List.cons.injEq,and_true]at q6;exact q6.symm
  subst this
  exact⟨x::xs,⟨t,ts,rfl,q2,a1⟩,⟨_,_,rfl,q3,a2⟩⟩
theorem dk.below {w w':World}(h:dk (fun _=>False) w w'):Below w.heap.size w w':=⟨h.os,h.tape,h.output,h.size,fun k hk=>h.block k hk (fun h=>h)⟩
theorem wb(hl:laidOutB P=true){W':World}{sp:Nat->Bool}:∀ {ts:List TypeId} {vs:List Value} {ds:List (DataW H)} {p:List MemPlace},(∀t∈ts,P.readableRec t=true/\t<P.types.size)->DataW.TrodAll enc P W 0 (fun _=>true) true ts vs ds p->
 (∀x∈p,W.sameAt W' x/\sp x.block=true)->DataW.TrodAll enc P W' 0 sp true ts vs ds p
 |[],vs,ds,p,_,h,_=>by
  obtain⟨rfl,rfl,rfl⟩:=trodAll_nil h
  exact trodAll_mk0
 |t::ts,vs,ds,p,hr,h,hs=>by
  obtain⟨v,Zz,d,V7,p1,q1,rfl,rfl,rfl,h1,h2⟩:=trodAll_cons h
  exact⟨p1,q1,WideElems.Trod_stays hl (hr t aK).1 (hr t aK).2 h1 (fun x hx=>(hs x mQ).1) (fun x hx=>(hs x mQ).2),wb hl (fun t ht=>hr t (by simp[ht])) h2 (fun x hx=>hs x mQ),rfl⟩
theorem Jo{sp:Nat->Bool}:∀ {ts:List TypeId} {vs:List Value} {ds:List (DataW H)} {ps:List MemPlace},DataW.TrodAll enc P W 0 sp true ts vs ds ps->ds.length=ts.length
 |[],_,_,_,h=>by obtain⟨_,rfl,_⟩:=trodAll_nil h;rfl
 |_::_,_,_,_,h=>by
  obtain⟨_,_,_,_,_,_,_,rfl,_,_,h2⟩:=trodAll_cons h
  simp[Jo h2]
theorem xU{f:FuncId}{fn:Func}{s:ChangeSpec}{tb:TypeId}{fresh handsOn again:Bool}(wP:fn.resultTypes=#[tb])(Bh:P.underlying tb=some .bool)(OY:s.vars=[])
 (Jp:∀ds:List (DataW H),ds.length=fn.params.toList.length->s.fn H ds={results:=[.lit (.bool true)],args:=ds}) (hp:rS P T=true) (hT:∀t∈fn.params.toList,t∈T) (hl:laidOutB P=true)
 (hr:∀t∈fn.params.toList,P.readableRec t=true/\t<P.types.size) (law:∀xs,D.gQ P xs fn.params.toList->aR P f xs (.ret [.bool true]))
 (base:Nat) (args:Array Value) (ds gs:List (DataW H)) (before:List MemPlace)
 (ef:∀ (j:Nat) t v,fn.params[j]? =some t->args[j]? =some v->Value.okWide P W .any base t v) (hW:DataW.Whole enc P fn.params.toList s.vars false W args.toList ds gs before):
 Calls P f args W fun e W'=>∃v,e= .returned v/\s.post enc P fn false fresh handsOn again W args v W':=by
 have hW':=hW
 obtain⟨p,q,hA,hV,rfl,hfz,hnd⟩:=hW
 rw[OY]at hV
 obtain⟨rfl,rfl⟩:=trodVars_none hV
 obtain⟨xs,a1,a2⟩:=wa (b0:=base) hp fn.params.toList args.toList ds p hT hA (fun j t v h1 h2=>ef j t v (by simpa using h1) rX)
 refine((law xs a1).2 SQ W args (fun _ h=>h.elim) a2).mono fun e W' ⟨hk,ho⟩=> ?_
 have hb:=hk.below
 cases e with
 |panicked ch=>exact ho.elim
 |outgrown=>exact ho.elim
 |returned v=>
  simp only[R.is,D.den]at ho
  subst ho
  refine⟨_,rfl, ?_⟩
  have hlen:ds.length=fn.params.toList.length:=(Jo hA)
  have hold:∀x∈p,x.block<W.heap.size:=fun x hx=>by simpa using hW'.lt x uS
  have dn:∀sp:Nat->Bool,(∀x∈p,sp x.block=true)->DataW.TrodAll enc P W' 0 sp true fn.params.toList args.toList ds p:=fun sp x7=>wb hl hr hA fun x hx=>⟨hb.same (hold x hx),x7 x hx⟩
  have OZ:∀ (b:Nat) (sp:Nat->Bool) (hd:Bool),DataW.TrodAll enc P W' b sp hd fn.resultTypes.toList ((Value.bool true).resultList fn.resultTypes.size) [.lit (.bool true)] []:=fun b sp hd=>by
   rw[wP]
   exact trodAll_cons_mk (p:=[]) (p':=[]) ⟨1,by simp[DataW.trod,Value.cells,Bh]⟩ trodAll_mk0
  have Jq:∀sp:Nat->Bool,DataW.TrodVars enc P W' sp s.vars [] []:=fun sp=>by rw[OY];rfl
  refine⟨ds,[],p++[],[],p,[],hW', ?_, ?_, ?_,World.keptBut_mono (fun _ h=>h.elim) (hb.frame (fun _=>False)),fun _=>⟨?_,[.lit (.bool true)]++ds,[],([]++p)++[],⟨[]++p,[],trodAll_append (dn _ fun _ _=>rfl) (OZ 0 (fun _=>true) true),Jq _,rfl, ?_,(fun h=>by cases h)⟩,fun x hx _=>by simpa using hx⟩⟩
  ·rw[List.append_nil,Jp ds hlen];exact OZ _ _ _
  ·rw[List.append_nil,Jp ds hlen];exact dn _ fun x hx=>by simpa using hold x hx
  ·rw[List.append_nil,Jp ds hlen];exact Jq _
  ·intro j t r h1 h2
   rw[wP]at h1 h2
   match j,h1,h2 with
   |0,h1,h2=>
    simp[Value.resultList]at h1 h2
    subst h1;subst h2
    simp[Value.okWide,Bh,Cell.okWide,Cell.ok]
  ·intro b off hx
   rw[hb.frozen (by simpa[MemPlace.block]using hold _ (by simpa using hx))]
   exact hfz b off uS
end
section
variable {P:Program}{t e:TypeId}{x:D}
theorem AW{k:IntKind}(ht:P.underlying t=some (.int k))(h:D.jg P x t):∃n,x= .int k n/\(Lit.int k n).wf=true:=by
 cases x<;>simp only[D.jg]at h
 case int k' n=>
  rw[ht]at h
  obtain⟨h1,h2⟩:=h
  injection h1 with h1;injection h1 with h1;subst h1
  exact⟨n,rfl,h2⟩
 case bool=>rw[ht]at h;cases h
 case str=>rw[ht]at h;cases h.1
 case sl=>obtain⟨e,h,_⟩:=h;rw[ht]at h;cases h
 case agg=>have:=h.1;unfold isAgg at this;rw[ht]at this;cases this
theorem Jr(ht:P.underlying t=some .string)(h:D.jg P x t):∃l,x= .str l/\l.length<=maxLen:=by
 cases x<;>simp only[D.jg]at h
 case int k' n=>rw[ht]at h;cases h.1
 case bool b=>rw[ht]at h;cases h
 case str l=>exact⟨l,rfl,h.2⟩
 case sl=>obtain⟨e,h,_⟩:=h;rw[ht]at h;cases h
 case agg=>have:=h.1;unfold isAgg at this;rw[ht]at this;cases this
theorem pj(ht:P.underlying t=some (.slice e))(h:D.jg P x t):∃es,x= .sl es/\es.length<=maxLen/\D.FP P es e:=by
 cases x<;>simp only[D.jg]at h
 case int k' n=>rw[ht]at h;cases h.1
 case bool b=>rw[ht]at h;cases h
 case str l=>rw[ht]at h;cases h.1
 case sl es=>
  obtain⟨e',h,h2,h3⟩:=h
  rw[ht]at h;injection h with h;injection h with h;subst h
  exact⟨es,rfl,h2,h3⟩
 case agg=>have:=h.1;unfold isAgg at this;rw[ht]at this;cases this
theorem pk{ls:List TypeId}(ha:isAgg P t=true)(hl:lj P 20 t=some ls)(h:D.jg P x t):∃cs,x= .agg cs/\D.gQ P cs ls:=by
 have no:∀u,P.underlying t=some u->(∀fs,u≠ .struct fs)->(∀k e,u≠ .array k e)->False:=by
  intro u hu h1 h2
  unfold isAgg at ha
  rw[hu]at ha
  split at ha
  ·rename_i e;injection e with e;exact h1 _ e
  ·rename_i e;injection e with e;exact h2 _ _ e
  ·cases ha
 cases x<;>simp only[D.jg]at h
 case int k' n=>exact(no _ h.1 (fun _ h=>by cases h) (fun _ _ h=>by cases h)).elim
 case bool b=>exact(no _ h (fun _ h=>by cases h) (fun _ _ h=>by cases h)).elim
 case str l=>exact(no _ h.1 (fun _ h=>by cases h) (fun _ _ h=>by cases h)).elim
 case sl es=>obtain⟨e',h,_⟩:=h;exact(no _ h (fun _ h=>by cases h) (fun _ _ h=>by cases h)).elim
 case agg cs=>
  obtain⟨_,ls',h1,h2⟩:=h
  rw[hl]at h1;injection h1 with h1;subst h1
  exact⟨cs,rfl,h2⟩
theorem bO{t:TypeId}{ts:List TypeId}{cs:List D}(h:D.gQ P cs (t::ts)):∃x xs,cs=x::xs/\D.jg P x t/\D.gQ P xs ts:=by
 cases cs with
 |nil=>simp[D.gQ]at h
 |cons x xs=>obtain⟨_,_,e,h1,h2⟩:=h;injection e with e1 e2;subst e1;subst e2;exact⟨x,xs,rfl,h1,h2⟩
theorem kp{cs:List D}(h:D.gQ P cs []):cs=[]:=by
 cases cs with
 |nil=>rfl
 |cons x xs=>obtain⟨_,_,e,_⟩:=h;cases e
theorem mo{α:Type}{f:α->D}{q:α->Prop}(hf:∀x,D.jg P x e->∃a,x=f a/\q a):∀ (es:List D),D.FP P es e->∃l:List α,es=l.map f/\∀a∈l,q a
 |[],_=>⟨[],rfl,fun _ h=>by cases h⟩
 |x::es,h=>by
  obtain⟨a,rfl,h1⟩:=hf x h.1
  obtain⟨l,rfl,h2⟩:=mo hf es h.2
  exact⟨a::l,rfl,fun b hb=>(List.mem_cons.1 hb).elim (fun e=>e ▸ h1) (h2 b)⟩
end
end Go.Proofs.YtnkamdiiakdkgaaGreat
end
section
namespace Go.Proofs.YtnkamdiiakdkgaaGreat
open Go.ChangeShapes Go.WideShapes Go.RowKit
theorem mN:maxLen<=9223372036854775807:=cl
theorem AX{x:D}(h:D.jg Tryz.prog x 3):∃n:Int,x= .i n:=by
 obtain⟨n,h,_⟩:=AW undT_3 h
 exact⟨n,h⟩
theorem Zq{x:D}(h:D.jg Tryz.prog x 53):∃n:Int,x= .i n:=by
 obtain⟨n,h,_⟩:=AW undT_53 h
 exact⟨n,h⟩
theorem Zr{x:D}(h:D.jg Tryz.prog x 102):∃r:il,x=r.d/\r.name.length<=9223372036854775807:=by
 obtain⟨cs,rfl,hh⟩:=pk ah (ls:=[9,3]) ah h
 clear h;have h:=hh;clear hh
 obtain⟨a,cs,rfl,ha,h⟩:=bO h
 obtain⟨b,cs,rfl,hb,h⟩:=bO h
 have:=kp h;subst this
 obtain⟨l,rfl,hl⟩:=Jr ah ha
 obtain⟨n,rfl⟩:=AX hb
 exact⟨⟨l,n⟩,rfl,by have:=mN;simp only;omega⟩
theorem Js:∀ (n:Nat) (x:D),SizeOf.sizeOf x<=n->D.jg Tryz.prog x 55->∃t:Tm,x=t.d/\t.fits:=by
 intro n
 induction n with
 |zero=>intro x hx _;cases x<;>simp at hx
 |succ n ih=>
  intro x hx h
  obtain⟨cs,rfl,hh⟩:=pk ah (ls:=[53,3,49]) ah h
  clear h;have h:=hh;clear hh
  obtain⟨a,cs,rfl,ha,h⟩:=bO h
  obtain⟨b,cs,rfl,hb,h⟩:=bO h
  obtain⟨c,cs,rfl,hc,h⟩:=bO h
  have:=kp h;subst this
  obtain⟨o,rfl⟩:=Zq ha
  obtain⟨m,rfl⟩:=AX hb
  obtain⟨es,rfl,h1,h2⟩:=pj undT_49 hc
  have CX:SizeOf.sizeOf es<=n:=by simp at hx;omega
  have:∀es:List D,SizeOf.sizeOf es<=n->D.FP Tryz.prog es 55->∃l:List Tm,es=l.map Tm.d/\∀k∈l,k.fits:=by
   intro es
   induction es with
   |nil=>intro _ _;exact⟨[],rfl,fun _ h=>by cases h⟩
   |cons y es ihe=>
    intro hs h
    simp at hs
    obtain⟨t,rfl,ht⟩:=ih y ag h.1
    obtain⟨l,rfl,hl⟩:=ihe ag h.2
    exact⟨t::l,rfl,fun b hb=>(List.mem_cons.1 hb).elim (fun e=>e ▸ ht) (hl b)⟩
  obtain⟨l,rfl,hl⟩:=this es CX h2
  refine⟨.mk o m l,by rw[Tm.K5], ?_⟩
  rw[Tm.bg]
  exact⟨by have:=mN;simp at h1;simp only[Tm.kids];omega,hl⟩
theorem abW{x:D}(h:D.jg Tryz.prog x 55):∃t:Tm,x=t.d/\t.fits:=Js _ x (Nat.le_refl _) h
end Go.Proofs.YtnkamdiiakdkgaaGreat
end
section
namespace Go.Proofs.YtnkamdiiakdkgaaGreat
open Go.ChangeShapes Go.WideShapes Go.RowKit
theorem O0{x:D}(h:D.jg Tryz.prog x 49):∃l:List Tm,x= .sl (l.map Tm.d)/\l.length<=9223372036854775807/\∀t∈l,t.fits:=by
 obtain⟨es,rfl,h1,h2⟩:=pj undT_49 h
 obtain⟨l,rfl,hl⟩:=mo (fun x h=>abW h) es h2
 have:=mN
 exact⟨l,rfl,by simp at h1;omega,hl⟩
structure Rl.Fits (r:Rl):Prop where
 aw:r.aw.length<=9223372036854775807
 all:∀t∈r.aw,t.fits
 rhs:r.rhs.fits
theorem abX{x:D}(h:D.jg Tryz.prog x 57):∃r:Rl,x=r.d/\r.Fits:=by
 obtain⟨cs,rfl,hh⟩:=pk ah (ls:=[3,49,53,3,49,3]) ah h
 clear h;have h:=hh;clear hh
 obtain⟨a,cs,rfl,ha,h⟩:=bO h
 obtain⟨b,cs,rfl,hb,h⟩:=bO h
 obtain⟨c,cs,rfl,hc,h⟩:=bO h
 obtain⟨d,cs,rfl,hd,h⟩:=bO h
 obtain⟨e,cs,rfl,he,h⟩:=bO h
 obtain⟨f,cs,rfl,hf,h⟩:=bO h
 have:=kp h;subst this
 obtain⟨m,rfl⟩:=AX ha
 obtain⟨l,rfl,l1,l2⟩:=O0 hb
 obtain⟨o,rfl⟩:=Zq hc
 obtain⟨n,rfl⟩:=AX hd
 obtain⟨k,rfl,k1,k2⟩:=O0 he
 obtain⟨v,rfl⟩:=AX hf
 exact⟨⟨m,l, .mk o n k,v⟩,rfl,⟨l1,l2,(Tm.bg _).2 ⟨k1,k2⟩⟩⟩
structure Pg.Fits (p:Pg):Prop where
 sig:p.sig.Fits
 len:p.rules.length<=9223372036854775807
 all:∀r∈p.rules,r.Fits
theorem abY{x:D}(h:D.jg Tryz.prog x 27):∃p:Pg,x=p.d/\p.Fits:=by
 obtain⟨cs,rfl,hh⟩:=pk ah (ls:=[22,22,25]) ah h
 clear h;have h:=hh;clear hh
 obtain⟨a,cs,rfl,ha,h⟩:=bO h
 obtain⟨b,cs,rfl,hb,h⟩:=bO h
 obtain⟨c,cs,rfl,hc,h⟩:=bO h
 have:=kp h;subst this
 obtain⟨es,rfl,h1,h2⟩:=pj undT_22 ha
 obtain⟨l,rfl,hl⟩:=mo (fun x h=>Zr h) es h2
 obtain⟨es',rfl,h3,h4⟩:=pj undT_22 hb
 obtain⟨l',rfl,Ky⟩:=mo (fun x h=>Zr h) es' h4
 obtain⟨es2,rfl,h5,h6⟩:=pj (e:=57) ah hc
 obtain⟨q,rfl,hq⟩:=mo (fun x h=>abX h) es2 h6
 have:=mN
 exact⟨⟨⟨l,l'⟩,q⟩,rfl,⟨⟨by simp at h1;simp only;omega,by simp at h3;simp only;omega,hl,Ky⟩,by simp at h5;simp only;omega,hq⟩⟩
end Go.Proofs.YtnkamdiiakdkgaaGreat
end
namespace Go.Proofs.YtnkamdiiakdkgaaGreat
def dF(l:List Tm):Bool:=decide (l.length<=6)&&l.all jN
def gR(p:Pg):Bool:=(gu p.sig&&decide (p.rules.length<=20))&&p.rules.all fun r=>dF r.aw&&jN r.rhs
theorem FQ{p:Pg}(hf:p.Fits)(h:gR p=true):p.Fin/\DU p:=by
 simp only[gR,dF,Bool.and_eq_true,decide_eq_true_eq,List.all_eq_true,tw]at h
 obtain⟨_,h⟩:=h
 refine⟨⟨hf.sig,hf.len,fun r hr=> ?_⟩,fun r hr=> ?_⟩
 ·obtain⟨⟨a,b⟩,c⟩:=h r hr
  have wI:=hf.all r hr
  exact⟨ag,fun t ht=>⟨wI.all t ht,by have:=(b t ht).2;omega⟩,⟨wI.rhs,by have:=c.2;omega⟩⟩
 ·obtain⟨⟨a,b⟩,c⟩:=h r hr
  exact⟨a,fun t ht=>(b t ht).1,c.1⟩
end Go.Proofs.YtnkamdiiakdkgaaGreat
namespace Go.Proofs.YtnkamdiiakdkgaaGreat
def wc(s:bE)(n:Int)(p:Tm):Bool:=(eG s p&&((fl p []).2&&fM p))&&dO n p
theorem we(s:bE)(r:Rl):eX s r=((je s r&&eG s r.rhs)&&r.aw.all (wc s r.vars)&&(Cp r.aw&&dO r.vars r.rhs&&qi r.rhs (bK (.mk 0 0 r.aw)))):=rfl
set_option maxHeartbeats 1000000 in
theorem SR(s:bE)(hs:s.Fits)(r:Rl)(hp:Jl r.aw)(hf:r.rhs.fits)(hz:r.rhs.sz<=500):aR Tryz.prog 78 [s.d,r.d] (.ret [.bool (eX s r)]):=by
 have uc:=hp.len
 have hlf:=hs.lf
 have hrc:r.rhs.Cg:=Tm.Cg.Cv hf ag
 refine aR.aG mix abA aK ?_
 rw[c78]
 have fin:(je s r&&eG s r.rhs)=false->eX s r=false:=fun h=>by rw[we,h];rfl
 refine O7 ?_
 refine aQ (yk _ _ _) rfl ?_
 cases f1:dQ r.fn 0 ((s.bu.length:Int) - 1)with
 |false=>
  have e:eX s r=false:=fin (by
   have:je s r=false:=by
    simp only[dQ,Bool.and_eq_false_iff,decide_eq_false_iff_not]at f1
    unfold je
    by_cases h:0<=r.fn
    ·rw[List.getElem?_eq_none (by omega:s.bu.length<=r.fn.toNat)];simp
    ·rw[decide_eq_false h];rfl
   rw[this];rfl)
  refine O7 ?_
  exact MB
 |true=>
 obtain⟨h0,x,hx⟩:=wo f1
 have Az:je s r=((r.aw.length:Int)==x.args&&decide (0<=r.vars)&&decide (r.vars<=20)):=by
  unfold je;rw[hx];simp[h0]
 cases f2:((r.aw.length:Int)!=x.args)with
 |true=>
  have e:eX s r=false:=fin (by
   have:((r.aw.length:Int)==x.args)=false:=by simpa using f2
   rw[Az,this];rfl)
  exact PQ
 |false=>
 have IQ:((r.aw.length:Int)==x.args)=true:=by simpa using f2
 refine Ul hx f2 ?_
 refine aQ (yk _ _ _) rfl ?_
 cases f3:dQ r.vars 0 20 with
 |false=>
  have e:eX s r=false:=fin (by
   have:(decide (0<=r.vars)&&decide (r.vars<=20))=false:=f3
   rw[Az,Bool.and_assoc ((r.aw.length:Int)==x.args),this];simp)
  exact PQ
 |true=>
 have SB:(decide (0<=r.vars)&&decide (r.vars<=20))=true:=f3
 refine Ul hx f2 ?_
 refine aQ (Iq s hs r.rhs hf) rfl ?_
 cases f4:eG s r.rhs with
 |false=>
  have e:eX s r=false:=fin (by rw[f4];simp)
  exact PQ
 |true=>
 have hh:je s r=true:=by rw[Az,IQ,Bool.true_and,SB]
 refine Ul hx f2 ?_
 refine aO (aP rfl) ?_
 refine bc ?_
 rw[we,hh,f4,Bool.true_and,Bool.true_and]
 refine aC (fun k:Nat=>⟨aW [.aa, .aa, .ptr 0 0, .ptr 1 0, .aa, .d (.i k)],xz s.row r.row,2⟩)
  (fun k=>k<=r.aw.length/\(r.aw.take k).all (wc s r.vars)=true) (fun k=>r.aw.length - k) 0 ⟨Nat.zero_le _,aK⟩ (bf.d2 _ (fj rfl rfl) ag rfl rfl ?_) (fun k hk=> ?_)
 ·exact cN
 refine nk ?_
 refine ai (fun h2=> ?_) (fun h2=> ?_)
 ·simp at h2
  obtain⟨y,hy⟩:=aB h2
  have Z5:=List.mem_of_getElem? hy
  have F8:=hp.all y Z5
  refine ll hy ?_
  refine aQ (Iq s hs y F8.1) rfl ?_
  cases g1:eG s y with
  |false=>
   refine ll hy ?_
   refine aO (aP rfl) ?_
   refine bc ?_
   rw[cj hy (by rw[wc,g1];rfl)];rfl
  |true=>
  refine ll hy ?_
  refine aQ (FK y (hp.cnt Z5)) rfl ?_
  cases g2:((fl y []).2&&fM y)with
  |false=>
   refine ll hy ?_
   refine aO (aP rfl) ?_
   refine bc ?_
   rw[cj hy (by rw[wc,g1,g2];rfl)];rfl
  |true=>
  refine ll hy ?_
  refine aQ (AG r.vars y F8.1) rfl ?_
  cases g3:dO r.vars y with
  |false=>
   refine ll hy ?_
   refine aO (aP rfl) ?_
   refine bc ?_
   rw[cj hy (by rw[wc,g1,g2,g3];rfl)];rfl
  |true=>
  refine ll hy ?_
  refine aO (aP rfl) ?_
  refine bc ?_
  refine aj (k+1) ⟨h2,eD hy hk.2 (by rw[wc,g1,g2,g3];rfl)⟩ ag (bf.d2 _ (fj rfl rfl) ag rfl rfl ?_)
  exact cN
 ·simp at h2
  rw[dY hk.2 h2,Bool.true_and]
  refine nk ?_
  refine aQ (Jm r.aw hp) rfl ?_
  cases g1:Cp r.aw with
  |false=>
   exact PW
  |true=>
  refine nk ?_
  refine aQ (AG r.vars r.rhs hf) rfl ?_
  cases g2:dO r.vars r.rhs with
  |false=>
   exact PW
  |true=>
  refine nk ?_
  refine cW (AH r.aw) ?_
  refine nk ?_
  refine cW (rR _ hp.whole) ?_
  refine nk ?_
  refine aQ (LZ r.rhs hrc _ ?_) rfl ?_
  ·have:=kn (.mk 0 0 r.aw);have:=hp.fO;rw[Tm.OS]at*;omega
  exact PW
structure Pg.Fw (p:Pg):Prop where
 sig:p.sig.Fits
 len:p.rules.length<=1000
 all:∀r∈p.rules,Jl r.aw/\r.rhs.fits/\r.rhs.sz<=500
theorem L0(p:Pg)(hp:p.Fw):aR Tryz.prog 43 [p.d] (.ret [.bool (ed p)]):=by
 have hl:=hp.len
 refine aR.aG mix abh aK ?_
 rw[c43,ed]
 refine nk ?_
 refine aD (Y0 p.sig hp.sig) rfl ?_
 cases h1:iw p.sig with
 |false=>
  exact Uu
 |true=>
 cases h2:decide (16<(p.rules.length:Int))with
 |true=>
  have yU:decide (p.rules.length<=16)=false:=by simp at h2|-;omega
  refine ll h2 ?_
  rw[yU];rfl
 |false=>
 have yU:decide (p.rules.length<=16)=true:=by simp at h2|-;omega
 refine ll h2 ?_
 rw[yU,Bool.true_and,Bool.true_and]
 refine aC (fun k:Nat=>⟨aW [.aa, .ptr 0 0, .aa, .d (.i k)],hU p.row,1⟩)
  (fun k=>k<=p.rules.length/\(p.rules.take k).all (eX p.sig)=true) (fun k=>p.rules.length - k) 0 ⟨Nat.zero_le _,aK⟩ (bf.d1 _ (aS rfl) ag rfl ?_) (fun k hk=> ?_)
 ·exact cN
 refine nk ?_
 refine ai (fun h2=> ?_) (fun h2=> ?_)
 ·simp at h2
  obtain⟨y,hy⟩:=aB h2
  have F8:=hp.all y (List.mem_of_getElem? hy)
  refine ll hy ?_
  refine aQ (SR p.sig hp.sig y F8.1 F8.2.1 F8.2.2) rfl ?_
  cases g1:eX p.sig y with
  |false=>
   refine ll hy ?_
   refine aO (aP rfl) ?_
   refine bc ?_
   rw[cj hy g1]
  |true=>
  refine ll hy ?_
  refine aO (aP rfl) ?_
  refine bc ?_
  refine aj (k+1) ⟨h2,eD hy hk.2 g1⟩ ag (bf.d1 _ (aS rfl) ag rfl ?_)
  exact cN
 ·simp at h2
  rw[dY hk.2 h2]
  exact yc
theorem Cz(l:List Tm)(hl:l.length<=9223372036854775807)(hf:∀t∈l,t.fits):aR Tryz.prog 60 [.sl (l.map Tm.d)] (.ret [.bool (dF l)]):=by
 refine aR.aG mix abr aK ?_
 rw[c60]
 refine bc ?_
 refine aC (fun k:Nat=>⟨aW [.d (.sl (l.map Tm.d)), .aa, .aa, .d (.i k)],fun _=> .no,0⟩)
  (fun k=>k<=l.length/\(l.take k).all jN=true) (fun k=>l.length - k) 0 ⟨Nat.zero_le _,aK⟩ (bf.d0 _ ?_) (fun k hk=> ?_)
 ·exact cN
 refine nk ?_
 refine ai (fun h2=> ?_) (fun h2=> ?_)
 ·simp at h2
  obtain⟨y,hy⟩:=aB (l:=l) (k:=k) ag
  have F8:=hf y (List.mem_of_getElem? hy)
  refine ll hy ?_
  refine aD (DC y F8) rfl ?_
  cases g1:jN y with
  |false=>
   refine ll hy ?_
   rw[dF,cj hy g1,Bool.and_false]
  |true=>
  refine ll hy ?_
  refine aj (k+1) ⟨ag,eD hy hk.2 g1⟩ ag (bf.d0 _ ?_)
  exact cN
 ·refine nk ?_
  congr 3
  by_cases h3:l.length<=6
  ·have h4:l.length<=k:=by simp at h2;omega
   rw[dF,dY hk.2 h4]
   simp;omega
  ·rw[dF,decide_eq_false h3]
   simp;omega
theorem FR(p:Pg)(hp:p.Fits):aR Tryz.prog 34 [p.d] (.ret [.bool (gR p)]):=by
 have hl:=hp.len
 let q:Rl->Bool:=fun r=>dF r.aw&&jN r.rhs
 have hq:gR p=((gu p.sig&&decide (p.rules.length<=20))&&p.rules.all q):=rfl
 refine aR.aG mix abb aK ?_
 rw[c34,hq]
 refine bc ?_
 refine aC (fun k:Nat=>⟨aW [.aa, .ptr 0 0, .aa, .d (.i k)],hU p.row,1⟩)
  (fun k=>k<=p.rules.length/\(p.rules.take k).all q=true) (fun k=>p.rules.length - k) 0 ⟨Nat.zero_le _,aK⟩ (bf.d1 _ (aS rfl) ag rfl ?_) (fun k hk=> ?_)
 ·exact cN
 refine nk ?_
 refine ai (fun h2=> ?_) (fun h2=> ?_)
 ·simp at h2
  obtain⟨y,hy⟩:=aB (l:=p.rules) (k:=k) ag
  have F8:=hp.all y (List.mem_of_getElem? hy)
  have hqy:q y=(dF y.aw&&jN y.rhs):=rfl
  refine ll hy ?_
  refine aD (Cz y.aw F8.aw F8.all) rfl ?_
  cases g1:dF y.aw with
  |false=>
   refine ll hy ?_
   rw[cj hy (by rw[hqy,g1];rfl),Bool.and_false]
  |true=>
  refine ll hy ?_
  refine aD (DC y.rhs F8.rhs) rfl ?_
  cases g2:jN y.rhs with
  |false=>
   refine ll hy ?_
   rw[cj hy (by rw[hqy,g1,g2];rfl),Bool.and_false]
  |true=>
  refine ll hy ?_
  refine aj (k+1) ⟨ag,eD hy hk.2 (by rw[hqy,g1,g2];rfl)⟩ ag (bf.d1 _ (aS rfl) ag rfl ?_)
  exact cN
 ·refine nk ?_
  refine aD (Cc p.sig hp.sig) rfl ?_
  cases g1:gu p.sig with
  |false=>exact Uu
  |true=>
  refine nk ?_
  congr 3
  by_cases h3:p.rules.length<=20
  ·have h4:p.rules.length<=k:=by simp at h2;omega
   rw[dY hk.2 h4]
   simp;omega
  ·rw[decide_eq_false h3]
   simp;omega
theorem FT{p:Pg}(hf:p.Fits)(h:gR p=true):p.Fw:=by
 simp only[gR,dF,Bool.and_eq_true,decide_eq_true_eq,List.all_eq_true,tw]at h
 obtain⟨⟨_,hl⟩,h⟩:=h
 refine⟨hf.sig,ag,fun r hr=> ?_⟩
 obtain⟨⟨a,b⟩,c⟩:=h r hr
 have wI:=hf.all r hr
 exact⟨⟨ag,fun t ht=>⟨wI.all t ht,by have:=(b t ht).1;omega⟩⟩,wI.rhs,ag⟩
theorem xV:∀ (t:Tm) (q:List Int) (b:Bool),(jr t q b).map Sp.t=eN t:=by
 refine Tm.dy fun t ih q b=> ?_
 have key:∀l:List Tm,(∀k∈l,k∈t.kids)->∀ (i:Int) (b':Bool),(gA l i q b').map Sp.t=l.flatMap eN:=by
  intro l
  induction l with
  |nil=>intro _ _ _;rfl
  |cons k l tl=>
   intro hk i b'
   rw[gA,List.map_append,ih k (hk k (by simp)),tl (fun x hx=>hk x (by simp[hx])),List.flatMap_cons]
 rw[Cs,gW,List.map_cons,key t.kids (fun _ h=>h)]
def lC(s:List Int)(x:Sp):List Int:=s++(if x.t.op=5 then [x.t.n]else [])
theorem D5:∀ (l:List Sp) (s:List Int),(aq (uJ (fun _=>none) lC) s l).1=s++((l.map Sp.t).filter (fun x=>x.op==5)).map Tm.n
 |[],s=>by simp[aq]
 |x::l,s=>by
  simp only[aq,uJ,Option.isNone_none,if_true]
  rw[D5 l,List.map_cons,List.filter_cons,lC,List.append_assoc]
  by_cases h:x.t.op=5
  ·simp[h]
  ·have h':(x.t.op==5)=false:=by simpa using h
   simp[h,h']
theorem SS(t:Tm):(aq (uJ (fun _=>none) lC) [] (jr t [] true)).1=iz t:=by
 rw[D5,xV];rfl
theorem D6(t:Tm):(iz t).length<=t.sz:=by
 unfold iz
 rw[List.length_map, <- rQ]
 exact List.length_filter_le _ _
def rT(p:Pg)(k:Nat):List Int:=(p.rules.take k).flatMap fun r=>iz r.rhs
theorem tT(p:Pg){k:Nat}{r:Rl}(h:p.rules[k]? =some r):rT p (k+1)=rT p k++iz r.rhs:=by
 unfold rT
 rw[List.take_add_one,h,List.flatMap_append];simp
theorem xW{p:Pg}(hp:p.Fw):∀k,k<=p.rules.length->(rT p k).length<=k*500
 |0,_=>by simp[rT]
 |k+1,hk=>by
  have hx:p.rules[k]? =some p.rules[k]:=List.getElem?_eq_getElem ag
  rw[tT p hx,List.length_append]
  have h1:=xW hp k ag
  have h2:=D6 p.rules[k].rhs
  have h3:=(hp.all _ (List.getElem_mem (by omega:k<p.rules.length))).2.2
  omega
@[reducible] def crD (p:Pg) (ps:List Int):D:= .agg [.sl (p.sig.cons.map il.d), .sl (p.sig.bu.map il.d), .sl (p.rules.map Rl.d), .sl (ps.map .i)]
def D7(p:Pg):Nat->ab:=aA (aA (fun _=> .no) 0 (.row p.row)) 1 (.row [.a8, .a8, .a8, .a8])
def Jt(p:Pg)(k:Nat)(r:Rl)(s:List Int):Nat->ab:=aA (aA (aA (aA (jo (D7 p) 2 7 [] 3 1 ((rT p k).map .i)) 11 (.row r.row)) 15 (.row r.rhs.row)) 2 (.row [.osl 7 s.length])) 7 (.arr s.length 3 1 ((rT p k++s).map .i))
theorem L1(p:Pg)(hp:p.Fw):aR Tryz.prog 41 [p.d] (.ret [crD p (Lib.compact (dB (rT p p.rules.length)))]):=by
 have uc:=hp.len
 refine aR.aG mix Xl aK ?_
 rw[c41]
 refine nk ?_
 have hB:Good (D7 p) 7:=by unfold D7;exact eH
 have kb1:D7 p 1= .row [.a8, .a8, .a8, .a8]:=by unfold D7;(repeat(first|rfl|rw[ad]|rw[af _ _ _ _ (by omega)]))
 have uQ:∀j,7<=j->D7 p j= .no:=fun j hj=>by unfold D7;(repeat(first|rfl|rw[ad]|rw[af _ _ _ _ (by omega)]))
 refine aC (fun k:Nat=>⟨aW [.aa, .ptr 0 0, .ptr 1 0, .ptr 2 0, .aa, .aa, .aa, .aa, .d (.sl (p.rules.map Rl.d)), .d (.i p.rules.length), .d (.i k)],jo (D7 p) 2 7 [] 3 1 ((rT p k).map .i),8⟩)
  (fun k=>k<=p.rules.length) (fun k=>p.rules.length - k) 0 (Nat.zero_le _) (v8 (ds:=[]) _ hB uQ ag (fun j hj ku=>by unfold D7;exact S8) eO ag ?_) (fun k hk=> ?_)
 ·exact qp
 replace hk:k<=p.rules.length:=hk
 have Ej:=xW hp k hk
 have k0:jo (D7 p) 2 7 [] 3 1 ((rT p k).map .i) 0= .row p.row:=by unfold jo D7;(repeat(first|rfl|rw[ad]|rw[af _ _ _ _ (by omega)]))
 have k2:jo (D7 p) 2 7 [] 3 1 ((rT p k).map .i) 2= .row [.osl 7 0]:=xR _ ag [] _ _ _
 have k7:jo (D7 p) 2 7 [] 3 1 ((rT p k).map .i) 7= .arr 0 3 1 ((rT p k).map .i):=xQ _ _ _ _ _ _ _
 refine bc ?_
 refine ai (fun h1=> ?_) (fun h1=> ?_)
 ·simp at h1
  obtain⟨r,hr⟩:=aB h1
  have JQ:=List.mem_of_getElem? hr
  obtain⟨f1,f2,f3⟩:=hp.all r JQ
  refine Ur hr k7 ?_
  refine fh (AM r.rhs _ _ _ _ ?_)
  refine Pb k7 ?_
  refine qZ (σ:=List Int) r.rhs f2 (by have:=tO r.rhs;omega) [.aa, .ptr 0 0, .ptr 1 0, .ptr 2 0, .aa, .aa, .aa, .aa, .d (.sl (p.rules.map Rl.d)), .d (.i p.rules.length), .d (.i k)] ?_ cl rfl (by unfold jo D7;exact eH) nP eO (Jt p k r) (fun _=>none) lC (fun l s=>s.length+l.length<=1000) [] ?_ rfl (fun id au=> ?_) (fun x l s hs _ h2=> ?_) ?_ ?_
  ·exact Eb
  ·rw[List.length_nil, <- List.length_map (f:=Sp.t),xV,rQ];omega
  ·unfold Jt
   by_cases e2:id=2
   ·exact Pq
   by_cases e7:id=7
   ·subst e7;(repeat(first|rfl|rw[ad]|rw[af _ _ _ _ (by omega)]));rw[k7,List.append_nil];rfl
   rw[af _ 7 _ _ e7,af _ 2 _ _ e2,fI]
  ·simp only[lC,List.length_append,List.length_cons]at hs|-
   split<;>simp<;>omega
  ·intro L hL uL x hx l s' h1 h2 o3 n3 hI hn ho K X cm
   simp only[lZ]
   have hg:=hI.bB
   have q2:o3 2= .row [.osl 7 s'.length]:=by rw[hI.eq 2 (by omega)];unfold Jt;(repeat(first|rfl|rw[ad]|rw[af _ _ _ _ (by omega)]))
   have q7:o3 7= .arr s'.length 3 1 ((rT p k++s').map .i):=by rw[hI.eq 7 (by omega)];unfold Jt;(repeat(first|rfl|rw[ad]|rw[af _ _ _ _ (by omega)]))
   simp only[List.length_cons]at h1
   refine bc ?_
   refine kb hL (pd:=none) ?_ ?_
   ·(repeat(first|rfl|rw[ad]|rw[af _ _ _ _ (by omega)]))
    exact ho
   have fin:∀ (o':Nat->ab) (n':Nat) (s2:List Int),Good o' n'->n3<=n'->o' 2= .row [.osl 7 s2.length]->o' 7= .arr s2.length 3 1 ((rT p k++s2).map .i)->(∀j,j<19->j≠2->j≠7->o' j=o3 j)->cF 19 (Jt p k r s2) o' n':=fun o' n' s2 k1 k2 k3 k4 k6=>⟨k1,ag,fun j hj=>by
    by_cases e:j=2
    ·subst e;rw[k3];unfold Jt;(repeat(first|rfl|rw[ad]|rw[af _ _ _ _ (by omega)]))
    by_cases e2:j=7
    ·subst e2;rw[k4];unfold Jt;(repeat(first|rfl|rw[ad]|rw[af _ _ _ _ (by omega)]))
    rw[k6 j hj e e2,hI.eq j hj];unfold Jt
    rw[af _ _ _ _ e2,af _ _ _ _ e,af _ _ _ _ e2,af _ _ _ _ e]⟩
   by_cases h5:x.t.op=5
   ·have ub:(x.t.op==5)=true:=by simpa using h5
    have hlen:(rT p k++s').length<=600000:=by rw[List.length_append];omega
    refine A7 q2 q7 ub ?_
    refine cm _ _ _ .busy none ag (fin _ _ _ eH ag ?_ ?_ fun j hj j1 j2=> ?_) eO (fun id h3 h4=>by(repeat(first|rfl|rw[ad]|rw[af _ _ _ _ (by omega)])))
    ·exact UN
    ·exact UN
    ·exact eO
   ·have ub:(x.t.op==5)=false:=by simpa using h5
    refine Ba q2 q7 ub ?_
    refine cm _ _ _ .busy none ag (fin _ _ _ eH ag ?_ ?_ fun j hj j1 j2=> ?_) eO (fun id h3 h4=>by(repeat(first|rfl|rw[ad]|rw[af _ _ _ _ (by omega)])))
    ·unfold lC;rw[if_neg h5];(repeat(first|rfl|rw[ad]|rw[af _ _ _ _ (by omega)]));simp[q2]
    ·unfold lC;rw[if_neg h5];(repeat(first|rfl|rw[ad]|rw[af _ _ _ _ (by omega)]));simp[q7]
    ·exact eO
  ·intro o' n' hI
   rw[SS]at hI
   simp only[nB]
   refine bc ?_
   have hg:=hI.bB
   refine aj (k+1) h1 ag (AO (r:=2) (c:=7) (ep:=(iz r.rhs).length) (ds:=[]) _ hB uQ ag (fun j hj ku=> ?_) ?_ ?_ ?_)
   ·rw[hI.eq j (by omega)];unfold Jt jo;(repeat(first|rfl|rw[ad]|rw[af _ _ _ _ (by omega)]))
   ·rw[hI.eq 2 (by omega)];unfold Jt;(repeat(first|rfl|rw[ad]|rw[af _ _ _ _ (by omega)]))
   ·rw[hI.eq 7 (by omega),tT p hr];unfold Jt;(repeat(first|rfl|rw[ad]|rw[af _ _ _ _ (by omega)]))
   ·exact qp
 ·simp at h1
  have Kz:k=p.rules.length:=ag
  subst Kz
  simp+contextual (disch:=first|omega|simp only[go_sem,false_implies]) only[go_sem,wrap64,if_pos,k2,k7]
  refine fh (I6 AQ FN (zs:=rT p p.rules.length) eO FO ag ?_)
  refine Pb k7 ?_
  refine p9 cl (FG tR xS eO xT (by unfold dB;rw[List.length_mergeSort];omega)) ?_
  simp+contextual (disch:=first|omega|simp only[go_sem,false_implies]) only[go_sem,wrap64,if_pos,k0,k2,k7,kb1]
  exact J9
end Go.Proofs.YtnkamdiiakdkgaaGreat
