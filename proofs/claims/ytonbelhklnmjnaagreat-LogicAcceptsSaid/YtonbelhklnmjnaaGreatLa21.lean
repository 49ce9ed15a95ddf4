/-
  LogicAccepts: at every call the law answers true, and leaves all memory as it was. Conditions: none.
-/
import Derived.Shelf.Sort.Plain
import Derived.Shelf.Slices.In.SortNone
import Derived.Test.YtonbelhklnmjnaaGreatRows
import Derived.Test.YtonbelhklnmjnaaGreatLa20
set_option linter.unusedSimpArgs false
set_option linter.unusedVariables false
namespace Go.Proofs.YtonbelhklnmjnaaGreat
section
variable {P:Program}
def s8(P:Program)(n t t1:Nat)(ic:IC)(aL:List V)(u:V)(o:Nat->ae)(nx:Nat)(K:(Nat->ae)->Nat->Prop):Prop:=
 aL.length<=n/\kS P n nx true ic (Iy K) ⟨aK (aK (cN aL) t u) t1 u,o,nx⟩
def rO(P:Program)(n t t1:Nat)(ic:IC)(aL:List V)(rs:List ResultVar)(K X:V->(Nat->ae)->Nat->Prop)(e:fG)(s:S):Prop:=
 match e with
 | .normal| .ret=>s8 P n t t1 ic aL (.d .fK) s.o s.nx fun o nx=>sJ P rs K X .ret ⟨s.env,o,nx⟩
 | .cc v=>s8 P n t t1 ic aL v s.o s.nx fun o nx=>sJ P rs K X .ret ⟨s.env,o,nx⟩
 | .exit _=>False
def Bn(P:Program)(n t:Nat)(eN:IC)(fP:List Operand)(g:FuncId)(D:List V->fG->S->Prop)(e:fG)(s:S):Prop:=
 match e with
 | .normal=>kS P n s.nx false eN (D (fP.map s.ev)) ⟨aK s.env t (.func (.func g) [] (fP.map s.ev)),s.o,s.nx⟩
 |_=>False
variable {n t t1:Nat}{ic eN:IC}{aL:List V}{rs:List ResultVar}{K X:V->(Nat->ae)->Nat->Prop}{s:S}{v:V}{fP:List Operand}{g:FuncId}{D:List V->fG->S->Prop}{KR:(Nat->ae)->Nat->Prop}
@[go_sem ↓] theorem Nn:rO P n t t1 ic aL rs K X .normal s=s8 P n t t1 ic aL (.d .fK) s.o s.nx fun o nx=>sJ P rs K X .ret ⟨s.env,o,nx⟩:=propext Iff.rfl
@[go_sem ↓] theorem Tt:rO P n t t1 ic aL rs K X .ret s=s8 P n t t1 ic aL (.d .fK) s.o s.nx fun o nx=>sJ P rs K X .ret ⟨s.env,o,nx⟩:=propext Iff.rfl
@[go_sem ↓] theorem Tu:rO P n t t1 ic aL rs K X (.cc v) s=s8 P n t t1 ic aL v s.o s.nx fun o nx=>sJ P rs K X .ret ⟨s.env,o,nx⟩:=propext Iff.rfl
@[go_sem ↓] theorem Np:Bn P n t eN fP g D .normal s=kS P n s.nx false eN (D (fP.map s.ev)) ⟨aK s.env t (.func (.func g) [] (fP.map s.ev)),s.o,s.nx⟩:=propext Iff.rfl
@[go_sem ↓] theorem Tv:Iy KR .normal s=KR s.o s.nx:=propext Iff.rfl
@[go_sem ↓] theorem adg:Iy KR .ret s=KR s.o s.nx:=propext Iff.rfl
theorem s8.w {o:Nat->ae}{nx:Nat}{K K':(Nat->ae)->Nat->Prop}(hK:∀o nx,K o nx->K' o nx)(h:s8 P n t t1 ic aL v o nx K):E5 P n t t1 ic aL v o nx K':=by
 refine⟨h.1,eH ic _ _ _ (fun e s h=> ?_) h.2⟩
 unfold Iy at h|-
 cases e with
 |normal=>exact hK _ _ h
 |ret=>exact hK _ _ h
 |_=>exact h
theorem cU.JB (bM:P.follows .mixedOrders=true){f g:FuncId}{iZ eN yM:IC}{t m r r1:Nat}{fP:List Operand}{rs:List ResultVar}(hf:Gn P f n iZ eN g t fP rs)(hg:CZ P g m r r1 yM)
 {args:List V} {o:Nat->ae} {nx:Nat} {K X:V->(Nat->ae)->Nat->Prop} (hl:args.length<=n)
 (h:kS P n nx true iZ (Bn P n t eN fP g fun aL=>rO P m r r1 yM aL rs K X) ⟨cN args,o,nx⟩):cU P f args o nx K X:=by
 refine cU.C2 bM hf hg hl (eH iZ _ _ _ (fun e s h=> ?_) h)
 unfold Bn at h
 unfold C0
 cases e with
 |normal=>
  refine eH eN _ _ _ (fun e s h=> ?_) h
  unfold rO at h
  unfold AJ
  cases e with
  |normal=>exact s8.w (fun _ _ h=>by unfold sJ at h;exact h) h
  |ret=>exact s8.w (fun _ _ h=>by unfold sJ at h;exact h) h
  |cc v=>exact s8.w (fun _ _ h=>by unfold sJ at h;exact h) h
  |exit _=>exact h
 |_=>exact h
end
attribute [irreducible] s8
theorem xb{P:Program}{n t t1:Nat}{ic:IC}{aL:List V}{v:V}{o:Nat->ae}{nx:Nat}{K:(Nat->ae)->Nat->Prop}(h1:aL.length<=n)(h2:kS P n nx true ic (Iy K) ⟨aK (aK (cN aL) t v) t1 v,o,nx⟩):s8 P n t t1 ic aL v o nx K:=by
 unfold s8
 exact⟨h1,h2⟩
end Go.Proofs.YtonbelhklnmjnaaGreat
namespace Go.Proofs.YtonbelhklnmjnaaGreat
theorem XS{o:Nat->ae}:qx Tryz.prog o 20 true (.d .fK) (.d .fK)=some (.d (.bool true)):=ah
theorem QA{o:Nat->ae}:qx Tryz.prog o 20 true (.d ow) (.d .fK)=some (.d (.bool false)):=ah
theorem Bo:pC Tryz.prog 117=true:=ah
theorem JC{p:Pg}(hp:iM p)(hw:p.Fw)(f:Pf)(hf:mN p.sig f)(env:List Tm)(hv:da p.sig env)(e:Tm)(he:cD p.sig env.length e)(o:Nat->ae)(nx:Nat)(hg:Good o nx)(K X:V->(Nat->ae)->Nat->Prop)
 (hK:∀o' nx',nx<=nx'->Good o' nx'->(∀j,j<nx->o' j=o j)->K (.d (.bool (bc p f env e))) o' nx'):
 cU Tryz.prog 52 [.d p.d, .d (.sl (env.map Tm.d)), .d e.d, .d f.d] o nx K X:=by
 have hc:=JA hp hw f hf env e hv he
 refine cU.JB mix RL RK au ?_
 rw[VI,c52]
 refine iP ?_
 cases g:bc p f env e with
 |false=>
  rw[g,aV]at hc
  rw[g]at hK
  refine bB hc rfl ?_
  refine iP ?_
  refine xb au ?_
  rw[c92]
  simp+contextual (disch:=first|omega|simp only[go_sem,false_implies]) only[go_sem,wrap64,if_pos,QA,Nat.add_assoc,Nat.left_eq_add,Nat.add_eq_left,Nat.add_left_cancel_iff]
  simp+contextual (disch:=first|omega|simp only[go_sem,false_implies]) only[go_sem,wrap64,if_pos,Bo,ow,Nat.add_assoc,Nat.left_eq_add,Nat.add_eq_left,Nat.add_left_cancel_iff]
  exact hK _ _ ad dp (fun j hj=>by(repeat(first|rfl|rw[ab]|rw[aj _ _ _ _ (by omega)])))
 |true=>
  rw[g,bL]at hc
  rw[g]at hK
  refine ag hc rfl ?_
  refine iP ?_
  refine xb au ?_
  rw[c92]
  simp+contextual (disch:=first|omega|simp only[go_sem,false_implies]) only[go_sem,wrap64,if_pos,XS,Nat.add_assoc,Nat.left_eq_add,Nat.add_eq_left,Nat.add_left_cancel_iff]
  exact hK _ _ ad dp (fun j hj=>by(repeat(first|rfl|rw[ab]|rw[aj _ _ _ _ (by omega)])))
theorem XT{σ:Type}(l:List Int)(hl:l.length<=9223372036854775807)(g:Nat)(aL:List V)(base:Nat)(H:σ->Nat->ae)(step:σ->Int->σ×Bool)(hc:∀r∈V.aQ aL,r<base)(ok:σ->Prop)(bA:∀x∈l,∀s,ok s->(step s x).2=true->ok (step s x).1)
 (h:∀x∈l,∀s,ok s->fR Tryz.prog g (.d (.i x)::aL) base (H s) (H (step s x).1) (.d (.bool (!(step s x).2)))) (s:σ) (gG:ok s):
 fR Tryz.prog 167 [.d (.sl (l.map D.i)), .func (.func g) [] aL] base (H s) (H (aA step s l).1) (.d (.i (l7 step s l 0))):=by
 intro o nx hI K X hK
 have fN:∀r∈V.aQ aL,r<nx:=fun r hr=>Nat.lt_of_lt_of_le (hc r hr) hI.le
 refine cU.ay mix Se au ?_
 rw[Wa]
 refine b7 ?_
 refine aE (fun i:Nat×σ×(Nat->ae)×Nat=>⟨bz [.d (.sl (l.map D.i)), .func (.func g) [] aL, .aa, .aa, .aa, .aa, .aa, .d (.i l.length), .d (.i i.1)],i.2.2.1,i.2.2.2⟩)
  (fun i=>i.1<=l.length/\cW base (H i.2.1) i.2.2.1 i.2.2.2/\nx<=i.2.2.2/\(∀id,base<=id->id<nx->i.2.2.1 id=o id)/\aA step s l=aA step i.2.1 (l.drop i.1)/\ok i.2.1/\l7 step s l 0=l7 step i.2.1 (l.drop i.1) i.1) (fun i=>l.length - i.1) (0,s,o,nx)
  ⟨Nat.zero_le _,hI,Nat.le_refl _,fun _ _ _=>rfl,rfl,gG,rfl⟩ ?_ ?_
 ·dsimp only
  refine bE.bS _ (Nat.le_refl _) ad hI.bU (fun _ _=>rfl) ?_
  exact cz
 rintro⟨k,s',o',nx'⟩ ⟨hk,oX,hn,dh,hf,jX,kL⟩
 simp only at hk oX hn dh hf jX kL
 refine b7 ?_
 refine aq (fun h1=> ?_) (fun h1=> ?_)
 ·simp at h1
  obtain⟨x,hx⟩:=aw h1
  have cw:=List.mem_of_getElem? hx
  have hd:l.drop k=x::l.drop (k+1):=by
   rw[List.drop_eq_getElem_cons h1]
   rw[List.getElem?_eq_getElem h1]at hx;injection hx with hx;rw[hx]
  rw[hd]at hf kL
  simp only[aA,l7]at hf kL
  refine Hr hx ?_
  refine df (h x cw s' jX _ _ (oX.mono ad) _ _ fun o2 n2 m1 m2 m3=> ?_)
  cases hb:(step s' x).2 with
  |true=>
   rw[hb]at hf kL
   simp only[if_true]at hf kL
   refine aG ?_
   have Df:∀r∈V.aQ aL,r<n2+1+1:=fun r hr=>by have:=fN r hr;omega
   refine ax (k+1,(step s' x).1,o2,n2+1+1) ⟨h1,m2.mono (show n2<=n2+1+1 from ad),(show nx<=n2+1+1 from ad),fun id i1 i2=>(m3 id i1 ad).trans (dh id i1 i2),hf,bA x cw s' jX hb,by rw[kL];rfl⟩ mX (bE.bS _ (show nx<=n2+1+1 from ad) (Nat.le_refl _) (m2.mono (show n2<=n2+1+1 from ad)).bU (fun _ _=>rfl) ?_)
   exact cz
  |false=>
   rw[hb]at hf kL
   simp only[Bool.false_eq_true,if_false]at hf kL
   refine b7 ?_
   rw[hf,kL]at hK
   exact hK _ _ ad (m2.mono ad) fun id i1 i2=>(m3 id i1 ad).trans (dh id i1 i2)
 ·simp at h1
  refine b7 ?_
  rw[List.drop_eq_nil_of_le h1]at hf kL
  rw[hf,kL]at hK
  exact hK _ _ ad (oX.mono ad) dh
theorem D5{σ:Type}(l:List Int)(hl:l.length<=9223372036854775807)(g:Nat)(aL:List V)(base:Nat)(H:σ->Nat->ae)(step:σ->Int->σ×Bool)(hc:∀r∈V.aQ aL,r<base)(ok:σ->Prop)(bA:∀x∈l,∀s,ok s->(step s x).2=true->ok (step s x).1)
 (h:∀x∈l,∀s,ok s->fR Tryz.prog g (.d (.i x)::aL) base (H s) (H (step s x).1) (.d (.bool (!(step s x).2)))) (s:σ) (gG:ok s):
 fR Tryz.prog 126 [.d (.sl (l.map D.i)), .func (.func g) [] aL] base (H s) (H (aA step s l).1) (.d (.bool (!(aA step s l).2))):=by
 intro o nx hI K X hK
 have fN:∀r∈V.aQ aL,r<nx:=fun r hr=>Nat.lt_of_lt_of_le (hc r hr) hI.le
 refine cU.ay mix RU au ?_
 rw[VQ]
 refine iP ?_
 refine br (XT l hl g aL base H step hc ok bA h s gG _ _ ?_ _ _ fun o2 n2 m1 m2 m3=> ?_)
 ·exact hI.mono ad
 refine iP ?_
 have e:decide (0<=l7 step s l 0)= !(aA step s l).2:=by
  have:=uL step l s 0 ad
  rw[Bool.eq_iff_iff,decide_eq_true_eq,this]
  cases(aA step s l).2<;>simp
 rw[e]
 exact hK _ _ ad (m2.mono ad) fun id i1 i2=>m3 id i1 ad
theorem adh{x:Int}{g:Nat}{aL:List V}{base c bx:Nat}{h h2 O:Nat->ae}{r:Bool}(hS:fR Tryz.prog g (.d (.i x)::aL) base h h2 (.d (.bool r)))(hb:base<=bx)(QM:bx<c)(hO:O bx= .row [.func (.func g) [] aL])(hc:∀r∈V.aQ aL,r<base):
 fR Tryz.prog 127 [.d (.i x), .ptr bx 0] c (ext base h O) (ext base h2 O) (.d (.bool (!r))):=by
 intro o nx hI K X hK
 have hle:=hI.le
 have fN:∀r∈V.aQ aL,r<nx:=fun r hr=>by have:=hc r hr;omega
 have ho:o bx= .row [.func (.func g) [] aL]:=by
  exact J6
 have y1:∀k,bx≠nx+k:=fun k=>ad
 have y2:bx≠nx:=ad
 refine cU.ay mix RV au ?_
 rw[VR]
 refine zM ho y1 y2 ?_
 refine df ((hS.ext (by omega:base<=c) O) _ _ ?_ _ _ fun o2 n2 m1 m2 m3=> ?_)
 ·exact hI.mono ad
 refine iP ?_
 exact hK _ _ ad (m2.mono ad) fun id i1 i2=>m3 id i1 ad
theorem JD{σ:Type}(l:List Int)(hl:l.length<=9223372036854775807)(g:Nat)(aL:List V)(base:Nat)(H:σ->Nat->ae)(step:σ->Int->σ×Bool)(hc:∀r∈V.aQ aL,r<base)(ok:σ->Prop)(bA:∀x∈l,∀s,ok s->(step s x).2=true->ok (step s x).1)
 (h:∀x∈l,∀s,ok s->fR Tryz.prog g (.d (.i x)::aL) base (H s) (H (step s x).1) (.d (.bool (step s x).2))) (s:σ) (gG:ok s):
 fR Tryz.prog 90 [.d (.sl (l.map D.i)), .func (.func g) [] aL] base (H s) (H (aA step s l).1) (.d (.bool (aA step s l).2)):=by
 intro o nx hI K X hK
 have hle:=hI.le
 have fN:∀r∈V.aQ aL,r<nx:=fun r hr=>Nat.lt_of_lt_of_le (hc r hr) hI.le
 refine cU.ay mix aaL au ?_
 rw[c90]
 refine iP ?_
 refine br (D5 l hl 127 [.ptr nx 0] (nx+1) (fun s=>ext base (H s) (aK o nx (.row [.func (.func g) [] aL]))) step mc ok bA (fun x hx s hs=>adh (h x hx s hs) hle ad (ab _ _ _) hc) s gG _ _ ?_ _ _ fun o2 n2 m1 m2 m3=> ?_)
 ·have hr:(ae.row [V.func (.func g) [] aL]).refs.all (fun r=>decide (r<nx+4))=true:=by
   rw[List.all_eq_true]
   intro r hr
   have h1:r∈V.aQ aL:=by simpa[ae.refs,V.aQ,V.refs]using hr
   have:=fN r h1
   simp;omega
  exact(hI.aK ad ad ad hr).ext ad ad
 refine iP ?_
 refine hK _ _ ad ⟨(m2.mono ad).bU,by have:=m2.le;omega,fun id aC=> ?_⟩ fun id i1 i2=> ?_
 ·exact zS
 ·exact J4
theorem Bp(l:List Int)(hl:l.length<=9223372036854775807)(g:Nat)(aL:List V)(base:Nat)(h:Nat->ae)(p:Int->Bool)(hc:∀r∈V.aQ aL,r<base)
 (hp:∀x∈l,fR Tryz.prog g (.d (.i x)::aL) base h h (.d (.bool (p x)))):fR Tryz.prog 90 [.d (.sl (l.map D.i)), .func (.func g) [] aL] base h h (.d (.bool (l.all p))):=by
 have:=JD l hl g aL base (fun _:Unit=>h) (fun _ x=>((),p x)) hc (fun _=>True) (fun _ _ _ _ _=>trivial) (fun x hx _ _=>hp x hx) () trivial
 exact N4
end Go.Proofs.YtonbelhklnmjnaaGreat
section
namespace Go.Proofs.YtonbelhklnmjnaaGreat
open Go.Sort Go.RowKit
def D6(P:Program)(g:FuncId):Prop:=∀ (eT off cap:Nat) (zs:List Int) (w:World),Holds (Value.int .i64) w eT off zs.toArray->eT<w.heap.size->zs.length<4611686018427387904->
    Calls P g #[.slice (some ⟨eT,off,none⟩) zs.length cap] w fun e w'=>
     e= .returned (.tuple #[])/\∃n os,w'=grow (putRow (Value.int .i64) (Sort.ahead w n) eT off (zs.mergeSort fun x y=>decide (x<=y)).toArray) os
def eA(l:List Int):List Int:=l.mergeSort fun x y=>decide (x<=y)
theorem Hh{B:Nat->Prop}{w:World}:∀ (zs:List Int) (xs:List Value),gM B w 1 (zs.map (D.int .i64)) xs↔xs=zs.map (Value.int .i64):=by
 have hd:∀ (zs:List Int) (evs:List Value),D.aP B w (zs.map (D.int .i64)) evs↔evs=zs.map (Value.int .i64):=by
  intro zs
  induction zs with
  |nil=>intro evs;simp[D.aP]
  |cons z zs ih=>
   intro evs
   simp only[List.map_cons,D.aP]
   constructor
   ·rintro⟨v,vs,rfl,h1,h2⟩
    rw[(ih vs).1 h2]
    simp only[D.den]at h1
    rw[h1]
   ·intro h
    exact⟨_,_,h,rfl,(ih _).2 rfl⟩
 have hf:∀zs:List Int,(zs.map (Value.int .i64)).flatMap (·.cells.toList)=zs.map (Value.int .i64):=by
  intro zs
  induction zs with
  |nil=>rfl
  |cons z zs ih=>simp only[List.map_cons,List.flatMap_cons,ih];rfl
 intro zs xs
 constructor
 ·rintro⟨evs,h1,h2,h3⟩
  rw[h1,(hd zs evs).1 h3,hf]
 ·intro h
  subst h
  exact⟨_,(hf zs).symm,fun ev dR=>by
   obtain⟨z,_,rfl⟩:=List.mem_map.1 dR
   rfl,(hd zs _).2 rfl⟩
theorem Nq{P:Program}{g:FuncId}(hE:Enters P g)(hS:D6 P g){o:Nat->ae}{nx id ep:Nat}{ty:TypeId}{zs:List Int}(ho:o id= .arr ep ty 1 (zs.map (D.int .i64)))
 (hn:∀p cap w,Calls P g #[.slice p 0 cap] w fun e w'=>e= .returned (.tuple #[])/\w'=w)
 (hlen:zs.length<4611686018427387904) {K X:V->(Nat->ae)->Nat->Prop} (hK:K (.cA []) (aK o id (.arr ep ty 1 ((eA zs).map (D.int .i64)))) nx):cU P g [.osl id ep] o nx K X:=by
 refine⟨hE,fun M φ w vals hH hd=> ?_⟩
 obtain⟨val,us,pk,⟨v0,v1,v2⟩,fQ⟩:=hd
 have fQ:us=[]:=fQ
 subst fQ
 have fV:val=φ id:=(v2 ep (by show(o id).cH=some ep;rw[ho];rfl)).2 rfl
 have hvs:vals=#[φ id]:=by rw[<- fV];exact Array.ext' (by simpa using pk)
 subst hvs
 have Lo:=hH.ok id
 unfold bn at Lo
 rw[show(hp o nx).o id= .arr ep ty 1 (zs.map (D.int .i64))from ho]at Lo
 obtain⟨_,xs,eF,ck⟩:=Lo
 have Ea:=(Hh zs xs).1 ck
 subst Ea
 simp only[List.length_map]at eF
 obtain⟨hl,Up|⟨b,cap,cur,fj,_,hg,fN,Ev,hcs,adi⟩⟩:=eF
 ·obtain⟨h1,h2⟩:=Up
  have hz:zs=[]:=List.length_eq_zero_iff.1 h2
  subst hz
  rw[h1]
  refine(hn none 0 w).mono ?_
  rintro e w' ⟨rfl,rfl⟩
  have KA:aK o id (.arr ep ty 1 ((eA []).map (D.int .i64)))=o:=by
   funext j
   by_cases e:j=id
   ·subst e;rw[ab,ho,show eA []=[] by simp[eA]]
   ·rw[aj _ _ _ _ e]
  rw[KA]at hK
  exact⟨φ,o,nx, .cA [],hH,Trans.refl _ _ _,⟨#[],rfl,rfl⟩,hK⟩
 ·rw[fj]
  have hb:b<w.heap.size:=(Array.getElem?_eq_some_iff.1 hg).1
  have adj:∀j,j<zs.length->cur[j]? =some (.int .i64 zs[j]!):=by
   intro j hj
   have h1:(cur.toList.take (zs.length*1))[j]? =(zs.map (Value.int .i64))[j]? :=by rw[adi]
   rw[List.getElem?_take_of_lt (by omega),List.getElem?_map,List.getElem?_eq_getElem hj]at h1
   simp only[Option.map_some]at h1
   rw[getElem!_pos zs j hj]
   simpa using h1
  refine(hS b 0 cap zs w (fun j hj=> ?_) hb hlen).mono ?_
  ·simp only[List.size_toArray]at hj
   refine⟨?_, ?_⟩
   ·unfold World.cell?
    simp only[hg,Option.isSome_none,Bool.false_eq_true,if_false,Nat.zero_add]
    rw[adj j hj];simp
   ·unfold World.frozen?
    simp[hg]
  rintro e w' ⟨rfl,n,os,rfl⟩
  have Vj:(eA zs).length=zs.length:=List.length_mergeSort zs
  have GH:∀k,k<w.heap.size->(grow (putRow (Value.int .i64) (Sort.ahead w n) b 0 (eA zs).toArray) os).heap[k]? =(w.heap.modify b (onCells (putCells (Value.int .i64) 0 (eA zs).toArray)))[k]? :=by
   intro k hk
   unfold grow putRow mapBlock Sort.ahead
   simp only
   rw[Array.getElem?_append_left (by simpa using hk)]
  have yx:eO (· =b) w (grow (putRow (Value.int .i64) (Sort.ahead w n) b 0 (eA zs).toArray) os):=by
   refine⟨rfl,rfl,rfl, ?_,fun k hk iQ=> ?_⟩
   ·unfold grow putRow mapBlock Sort.ahead;simp
   ·rw[GH k hk,Array.getElem?_modify,if_neg (fun e=>iQ e.symm)]
  have dk:((hp o nx).o id).live=true:=by show(o id).live=true;rw[ho];rfl
  have Ij:eT (φ id)=some b:=by rw[fj];rfl
  have Uo:(grow (putRow (Value.int .i64) (Sort.ahead w n) b 0 (eA zs).toArray) os).heap[b]? =some (.cells (putCells (Value.int .i64) 0 (eA zs).toArray cur) ty (0,0)):=by
   rw[GH b hb,Array.getElem?_modify,if_pos rfl,hg];rfl
  have lA:(hp o nx).put [(id, .arr ep ty 1 ((eA zs).map (D.int .i64)))]=hp (aK o id (.arr ep ty 1 ((eA zs).map (D.int .i64)))) nx:=by
   have fQ:id<nx:=v1
   simp only[Hp.put,hp]
   congr 1
   funext j
   simp only[List.map_cons,List.map_nil,List.mem_singleton,eq_iff_iff]
   exact⟨fun h=>h.elim (fun h=>h) (fun e=>e ▸ fQ), .inl⟩
  have u7:bn M φ ((hp o nx).put [(id, .arr ep ty 1 ((eA zs).map (D.int .i64)))]) (grow (putRow (Value.int .i64) (Sort.ahead w n) b 0 (eA zs).toArray) os) id:=by
   unfold bn
   rw[show((hp o nx).put [(id, .arr ep ty 1 ((eA zs).map (D.int .i64)))]).o id= .arr ep ty 1 ((eA zs).map (D.int .i64)) by simp]
   refine⟨aT,(eA zs).map (Value.int .i64), ?_,(Hh _ _).2 rfl⟩
   simp only[List.length_map,Vj]
   refine⟨by simp[Vj], .inr ⟨b,cap,_,fj,Nat.zero_le _,Uo,fN,Ev, ?_, ?_⟩⟩
   ·unfold putCells;simpa using hcs
   ·apply List.ext_getElem?
    intro j
    by_cases hj:j<zs.length
    ·rw[List.getElem?_take_of_lt (by omega),List.getElem?_map,List.getElem?_eq_getElem (l:=eA zs) (by omega)]
     have Zn:j<cur.size:=ad
     unfold putCells
     simp only[Array.getElem?_toList,Array.getElem?_mapIdx,Option.map_some]
     rw[Array.getElem?_eq_getElem Zn]
     simp only[Option.map_some,Nat.zero_le,true_and,Nat.zero_add,List.size_toArray,Nat.sub_zero]
     rw[if_pos (by omega)]
     rw[getElem!_pos _ j (by simp;omega)]
     simp
    ·rw[List.getElem?_eq_none (by rw[List.length_take,Nat.mul_one];exact Nat.le_trans (Nat.min_le_left _ _) (Nat.not_lt.1 hj)),List.getElem?_eq_none (by rw[List.length_map,Vj];exact Nat.not_lt.1 hj)]
  have Tw:=ja hH (id:=id) v1 dk Ij yx (.arr ep ty 1 ((eA zs).map (D.int .i64))) N3 N3 u7
  have RC:=fu (φ:=φ) (H:=hp o nx) (id:=id) v1 dk Ij yx (.arr ep ty 1 ((eA zs).map (D.int .i64))) N3 N3
  rw[lA]at Tw RC
  exact⟨φ,_,nx, .cA [],Tw,RC,⟨#[],rfl,rfl⟩,hK⟩
end Go.Proofs.YtonbelhklnmjnaaGreat
end
section
namespace Go.Proofs.YtonbelhklnmjnaaGreat
open Go.Shelf
def D7:Go.Shelf.Ren:=⟨fun|189=>125|125=>166|257=>165|128=>216|129=>217|294=>207|295=>208|296=>209|297=>210|298=>211|299=>212|216=>213|300=>214|301=>215|328=>248|329=>249|330=>250|331=>251|332=>252|215=>253|343=>260|n=>n,fun|28=>41|3=>3|46=>172|0=>0|51=>206|53=>208|4=>4|183=>198|182=>197|131=>203|5=>5|9=>9|218=>220|222=>137|228=>227|229=>228|n=>n,fun|n=>n⟩
theorem Hi:Go.Proofs.Lays.n189 Tryz.prog D7:={
 mixed:=ah
 f125:=Tryz.func166.trans (congrArg some ah)
 f128:=Tryz.func216.trans (congrArg some ah)
 f129:=Tryz.func217.trans (congrArg some ah)
 f189:=Tryz.func125.trans (congrArg some ah)
 f215:=Tryz.func253.trans (congrArg some ah)
 f216:=Tryz.func213.trans (congrArg some ah)
 f257:=Tryz.func165.trans (congrArg some ah)
 f294:=Tryz.func207.trans (congrArg some ah)
 f295:=Tryz.func208.trans (congrArg some ah)
 f296:=Tryz.func209.trans (congrArg some ah)
 f297:=Tryz.func210.trans (congrArg some ah)
 f298:=Tryz.func211.trans (congrArg some ah)
 f299:=Tryz.func212.trans (congrArg some ah)
 f300:=Tryz.func214.trans (congrArg some ah)
 f301:=Tryz.func215.trans (congrArg some ah)
 f328:=Tryz.func248.trans (congrArg some ah)
 f329:=Tryz.func249.trans (congrArg some ah)
 f330:=Tryz.func250.trans (congrArg some ah)
 f331:=Tryz.func251.trans (congrArg some ah)
 f332:=Tryz.func252.trans (congrArg some ah)
 f343:=Tryz.func260.trans (congrArg some ah)
 t0:=Tryz.underlying0
 a0:=Tryz.isAgg0
 z0:=Tryz.sizeOf0
 v0:=Tryz.zeroValue0
 t3:=Tryz.underlying3
 a3:=Tryz.isAgg3
 z3:=Tryz.sizeOf3
 v3:=Tryz.zeroValue3
 t4:=Tryz.underlying4
 a4:=Tryz.isAgg4
 z4:=Tryz.sizeOf4
 v4:=Tryz.zeroValue4
 t5:=Tryz.underlying5
 a5:=Tryz.isAgg5
 z5:=Tryz.sizeOf5
 v5:=Tryz.zeroValue5
 t9:=Tryz.underlying9
 a9:=Tryz.isAgg9
 z9:=Tryz.sizeOf9
 v9:=Tryz.zeroValue9
 t28:=Tryz.underlying41
 a28:=Tryz.isAgg41
 z28:=Tryz.sizeOf41
 v28:=Tryz.zeroValue41
 t46:=Tryz.underlying172
 a46:=Tryz.isAgg172
 z46:=Tryz.sizeOf172
 v46:=Tryz.zeroValue172
 t51:=Tryz.underlying206
 a51:=Tryz.isAgg206
 z51:=Tryz.sizeOf206
 v51:=Tryz.zeroValue206
 t53:=Tryz.underlying208
 a53:=Tryz.isAgg208
 z53:=Tryz.sizeOf208
 v53:=Tryz.zeroValue208
 t131:=Tryz.underlying203
 a131:=Tryz.isAgg203
 z131:=Tryz.sizeOf203
 v131:=Tryz.zeroValue203
 t182:=Tryz.underlying197
 a182:=Tryz.isAgg197
 z182:=Tryz.sizeOf197
 v182:=Tryz.zeroValue197
 t183:=Tryz.underlying198
 a183:=Tryz.isAgg198
 z183:=Tryz.sizeOf198
 v183:=Tryz.zeroValue198
 t218:=Tryz.underlying220
 a218:=Tryz.isAgg220
 z218:=Tryz.sizeOf220
 v218:=Tryz.zeroValue220
 t222:=Tryz.underlying137
 a222:=Tryz.isAgg137
 z222:=Tryz.sizeOf137
 v222:=Tryz.zeroValue137
 t228:=Tryz.underlying227
 a228:=Tryz.isAgg227
 z228:=Tryz.sizeOf227
 v228:=Tryz.zeroValue227
 t229:=Tryz.underlying228
 a229:=Tryz.isAgg228
 z229:=Tryz.sizeOf228
 v229:=Tryz.zeroValue228}
theorem JE:D6 Tryz.prog 125:=fun eT off cap zs w h1 h2 h3=>Any.slices_Sort_int Hi eT off cap zs w h1 h2 h3
theorem JF:∀ (p:Option Addr) (cap:Nat) (w:World),Calls Tryz.prog 125 #[.slice p 0 cap] w fun e w'=>e= .returned (.tuple #[])/\w'=w:=fun p cap w=>Any.slices_Sort_int_none Hi p cap w
theorem D8:Enters Tryz.prog 125:=⟨_,Tryz.func125,ah,ah⟩
end Go.Proofs.YtonbelhklnmjnaaGreat
end
namespace Go.Proofs.YtonbelhklnmjnaaGreat
theorem Nr(t:Tm)(ht:t.fits)(o:Nat->ae)(nx:Nat)(hg:Good o nx)(K X:V->(Nat->ae)->Nat->Prop)
 (hK:∀o' nx' id l,nx<=id->id<nx'->Good o' nx'->(∀j,j<nx->o' j=o j)->o' id=uq l->l.Nodup->(∀v,v∈l↔sU v t=true)->K (.mp id) o' nx'):
 cU Tryz.prog 124 [.d t.d] o nx K X:=by
 refine cU.ay mix RT au ?_
 rw[VP]
 refine iP ?_
 refine c6 (Xt t ht _ _ (nx+2) [] ?_ ?_ List.nodup_nil _ _ fun o2 n2 l m1 m2 m3 m4 m5=> ?_)
 ·exact dp
 ·exact cY
 refine aG ?_
 refine hK _ _ (nx+2) l ?_ ?_ ?_ (fun j hj=> ?_) m4 m5.1 (fun v=> ?_)
 ·omega
 ·omega
 ·exact m2.mono ad
 ·rw[m3 j (by omega) (by omega)];(repeat(first|rfl|rw[ab]|rw[aj _ _ _ _ (by omega)]))
 ·have:=m5.2 v
  simpa using this
theorem D9{l:List Int}{t:Tm}(hn:l.Nodup)(h:∀v,v∈l↔sU v t=true):eA l=bt t:=by
 have hp:(eA l).Perm l:=List.mergeSort_perm _ _
 have hs:(eA l).Pairwise (fun a b=>decide (a<=b)=true):=List.pairwise_mergeSort (fun a b c h1 h2=>by simp at*;omega) (fun a b=>by simp;omega) l
 have hnd:(eA l).Nodup:=hp.nodup_iff.2 hn
 refine Ms ?_ (dS t).1 fun v=>by rw[hp.mem_iff,h v,(dS t).2 v]
 exact(hs.and hnd).imp fun {a b} h=>by have:=h.1;have:=h.2;simp at*;omega
theorem XU(s:ba)(hs:s.Fits)(t:Tm)(ht:t.Fin):aR Tryz.prog 89 [s.d,t.d] (.ret [.sl (if dg s [t]=true then(bt t).map .i else []), .i (mQ (dg s [t]))]):=by
 refine aR.ay mix aaK au ?_
 rw[c89]
 refine aG ?_
 refine ag (A0 s hs [t] au (fun x hx=>by simp at hx;subst hx;exact ht)) rfl ?_
 cases h1:dg s [t]with
 |false=>exact Ht
 |true=>
  refine aG ?_
  refine c6 (Nr t ht.fits _ _ dp _ _ fun o2 n2 id l m1 m2 m3 m4 m5 m6 m7=> ?_)
  have w1:id≠n2:=ad
  have w2:∀k,id≠n2+k:=fun k=>ad
  refine zM m5 w1 w2 ?_
  have afb:=D9 m6 m7
  have hlen:l.length<=40:=by
   have e1:(eA l).length=l.length:=List.length_mergeSort l
   have e2:=eX t
   have e3:=(I9 h1 t au).1
   rw[<- afb]at e2;omega
  refine aE (fun i:List Int×List Int×Option (D×D)=>⟨bz [.aa, .aa, .aa, .aa, .aa, .aa, .osl (n2+1) 0, .aa, .aa, .aa, .aa, .aa, .aa, .aa, .aa, .ptr n2 0],aK (aK (fun _=> .no) n2 (.nq (enc (D.int .i64) (iJ i.1)) i.2.2)) (n2+1) (.arr 0 3 1 (i.2.1.map .i)),n2+2⟩)
   (fun i=>i.1.length+i.2.1.length<=40/\(i.2.1++i.1).Perm l) (fun i=>i.1.length) (l,[],none) ⟨by simpa using hlen,au⟩ (bE.gU (fun _=>False) .bT (n2+1) _ ad (fun j hj=> ?_) (by dsimp only;(repeat(first|rfl|rw[ab]|rw[aj _ _ _ _ (by omega)]))) (.inl ⟨rfl,rfl,aT⟩) (fun j hj=>by dsimp only;(repeat(first|rfl|rw[ab]|rw[aj _ _ _ _ (by omega)]))) (fun _ h=>h.elim) ?_) ?_
  ·dsimp only
   have ne:j≠n2+1:=ad
   simp only[aW,ne,if_false]
   split
   ·exact bw rfl (by simp[ae.refs])
   ·exact GG
  ·try dsimp only
   exact nj
  rintro⟨rest,Tx,last⟩ ⟨hl,hp⟩
  simp only at hl hp
  refine aG ?_
  refine zj (fun hr=> ?_) fun i m hm=> ?_
  ·subst hr
   refine iP ?_
   have hp':Tx.Perm l:=by simpa using hp
   have hsd:eA Tx=bt t:=D9 (hp'.nodup_iff.2 m6) fun v=>by rw[hp'.mem_iff,m7 v]
   refine c6 (Nq D8 JE (zs:=Tx) cY JF ad ?_)
   refine iP ?_
   rw[hsd]
   simp[mQ]
  ·have e1:Tx.length<=140737488355328:=ad
   have e2:Tx.length*8<=140737488355328:=ad
   have e3:Tx.length<=140737488355327:=ad
   have e4:(Tx.length+1)*8<=140737488355328:=ad
   simp+contextual (disch:=first|omega|simp only[go_sem,false_implies]) only[go_sem,wrap64,if_pos,Nat.add_assoc,Nat.left_eq_add,Nat.add_eq_left,Nat.add_left_cancel_iff,e1,e2,e3,e4]
   obtain⟨r1,r2⟩:=wE hm
   have F0:(rest.eraseIdx i).length+1=rest.length:=r2
   refine ax (rest.eraseIdx i,Tx++[m],some (.int .i64 m, .bool true)) ⟨by dsimp only;simp;omega, ?_⟩ mX (bE.gU (fun j=>j=n2+1) (.osl (n2+1) 1) (n2+1) _ ad (fun j hj=> ?_) (by dsimp only;(repeat(first|rfl|rw[ab]|rw[aj _ _ _ _ (by omega)]))) (.inr ⟨n2+1,1,rfl,rfl,by rw[ab,List.map_append];rfl⟩) (fun j hj=>by dsimp only;(repeat(first|rfl|rw[ab]|rw[aj _ _ _ _ (by omega)]))) (fun j h h2=>ad) ?_)
   ·dsimp only
    refine List.Perm.trans ?_ hp
    rw[List.append_assoc]
    refine List.Perm.append_left _ ?_
    exact Fy hm
   ·dsimp only
    have ne:j≠n2+1:=ad
    have ne9:j≠n2+9:=ad
    simp only[aW,ne,ne9,if_false]
    split
    ·exact bw rfl (by simp[ae.refs])
    ·exact GG
   ·try dsimp only
    exact nj
theorem Ns(env:List Tm)(hl:env.length<=9223372036854775807)(n:Int)(base sp:Nat)(h:Nat->ae)(vc:h sp= .row [.d (.sl (env.map Tm.d))])(hb:sp<base):fR Tryz.prog 91 [.d (.i n), .ptr sp 0] base h h (.d (.bool (decide (n<env.length)))):=by
 intro o nx hI K X hK
 have hle:=hI.le
 have hg:=hI.bU
 have q0:o sp= .row [.d (.sl (env.map Tm.d))]:=by rw[hI.eq sp hb,vc]
 refine cU.ay mix aaM au ?_
 rw[c91]
 refine dn q0 ?_
 exact hK _ _ ad ⟨dp,ad,fun j hj=>hI.eq j hj⟩ (fun j g1 g2=>rfl)
def Bq(p:Pg)(env:List Tm)(e:Tm)(f:Pf):Bool:=((mV p&&ng p.sig env)&&og p.sig f)&&(dg p.sig [e]&&(bt e).all fun n=>decide (n<(env.length:Int)))
theorem Nt(p:Pg)(hp:p.Fin)(env:List Tm)(hl:env.length<=9223372036854775807)(hv:∀t∈env,t.fits)(e:Tm)(he:e.xN)(f:Pf)(hf:f.fits)(hd:f.iE<=900000):
 aR Tryz.prog 51 [p.d, .sl (env.map Tm.d),e.d,f.d] (.ret [.bool (Bq p env e f)]):=by
 have Oz:=eX e
 have hz:=he.size
 rw[Tm.kI]at hz
 refine aR.ay mix aay au ?_
 rw[c51,Bq]
 refine aG ?_
 refine ag (Dx p hp) rfl ?_
 cases h1:mV p with
 |false=>exact TG
 |true=>
 refine zO ?_
 refine ag (Mq p.sig hp.sig env hl hv) rfl ?_
 cases h2:ng p.sig env with
 |false=>exact bR
 |true=>
 refine aG ?_
 refine ag (wF p hp f hf hd) rfl ?_
 cases h3:og p.sig f with
 |false=>exact bR
 |true=>
 refine aG ?_
 refine aO (XU p.sig hp.sig e he.toFin) ?_
 cases h4:dg p.sig [e]with
 |false=>exact TG
 |true=>
 refine zO ?_
 refine br (Bp (bt e) ad 91 [.ptr 1 0] 4 (aK (aK (aK (aK (fun _=> .no) 0 (.row p.row)) 1 (.row [.d (.sl (env.map Tm.d))])) 2 (.row e.row)) 3 (.row f.row)) (fun n=>decide (n<(env.length:Int))) mc (fun x hx=>Ns env hl x 4 1 _ cY ad) _ _ ⟨dp,ad,fun id aC=>rfl⟩ _ _ fun o2 n2 m1 m2 m3=> ?_)
 exact bR
end Go.Proofs.YtonbelhklnmjnaaGreat
namespace Go.Proofs.YtonbelhklnmjnaaGreat
structure iW (p:Pg) (env:List Tm) (e:Tm) (f:Pf):Prop where
 pf:p.Fits
 ps:gB p=true
 vf:∀t∈env,t.fits
 vs:iN env=true
 ef:e.fits
 es:iF e=true
 ff:f.fits
 fs:ma f=true
section
variable {p:Pg}{env:List Tm}{e:Tm}{f:Pf}
theorem iW.few (h:iW p env e f):p.Fw:=Jh h.pf h.ps
theorem iW.fin (h:iW p env e f):p.Fin:=(zB h.pf h.ps).1
theorem iW.prog (h:iW p env e f):mV p=fe p:=Qa p (zB h.pf h.ps).2
theorem iW.afc (h:iW p env e f):env.length<=25:=by have:=h.vs;simp only[iN,Bool.and_eq_true,decide_eq_true_eq]at this;exact this.1
theorem iW.adk (h:iW p env e f):e.xN:=Tm.xN.L2 h.ef h.es
theorem iW.fsz (h:iW p env e f):f.sh.sz<=520/\f.iE<=160:=by
 have:=h.fs
 simp only[ma,Bool.and_eq_true,decide_eq_true_eq,kJ,Xy]at this
 omega
end
theorem Hj{l:List Int}(hi:NS l)(n:Int):(l.all fun v=>decide (v<n))=(l.length==0||decide (l.getLast?.getD 0<n)):=by
 cases hl:l.getLast? with
 |none=>rw[List.getLast?_eq_none_iff]at hl;subst hl;rfl
 |some y=>
  have iQ:l≠[]:=by intro h;subst h;cases hl
  have hlen:(l.length==0)=false:=by simpa using iQ
  rw[hlen,Bool.false_or,Option.getD_some,Bool.eq_iff_iff,List.all_eq_true,decide_eq_true_eq]
  constructor
  ·intro h;simpa using h y (List.mem_of_getLast? hl)
  ·intro h v hv
   rw[decide_eq_true_eq]
   rw[List.getLast?_eq_getElem?]at hl
   obtain⟨i,Uk,e⟩:=List.getElem_of_mem hv
   obtain⟨h1,h2⟩:=List.getElem?_eq_some_iff.1 hl
   by_cases hc:i=l.length - 1
   ·subst hc;rw[h2]at e;omega
   ·have:=(List.pairwise_iff_getElem.1 hi) i (l.length - 1) Uk h1 ad
    rw[e,h2]at this;omega
theorem Nu{p:Pg}{env:List Tm}{e:Tm}{f:Pf}(h:iW p env e f):Bq p env e f=(fe p&&gL p.sig f&&j5 p.sig env e):=by
 unfold Bq j5
 rw[h.prog,G9]
 cases h1:fe p with
 |false=>rfl
 |true=>
  have hsg:kF p.sig=true:=by simp only[fe,Bool.and_eq_true]at h1;exact h1.1.1
  have hr:dg p.sig [e]=dV p.sig e:=by unfold dg;simp[hsg,qb]
  rw[hr,Hj (dS e).1]
  cases ng p.sig env<;>cases gL p.sig f<;>cases dV p.sig e<;>simp
structure Ty (p:Pg) (env:List Tm) (e:Tm) (f:Pf):Prop where
 prog:iM p
 few:p.Fw
 ev:da p.sig env
 exp:cD p.sig env.length e
 pf:mN p.sig f
theorem JG{s:ba}{t:Tm}(h:eI s t=true):∀v,sU v t=true->0<=v:=by
 have key:∀t:Tm,eI s t=true->∀v,sU v t=true->0<=v:=by
  refine Tm.cB fun t ih h v hv=> ?_
  rw[dL,Bool.and_eq_true,List.all_eq_true]at h
  rw[gV]at hv
  by_cases h1:t.op=1
  ·rw[if_pos h1]at hv
   have e:t.n=v:=by simpa using hv
   have hn:=h.1
   simp[bC,h1,cP]at hn
   omega
  ·rw[if_neg h1]at hv
   have:∀ (l:List Tm) (i:Nat),(∀k∈l,k∈t.kids)->iu v t.op t.n l i=true->0<=v:=by
    intro l
    induction l with
    |nil=>intro i _ h;simp[iu]at h
    |cons k l pX=>
     intro i hk hv
     simp only[iu,Bool.or_eq_true,Bool.and_eq_true]at hv
     rcases hv with hv|hv
     ·exact ih k (hk k au) (h.2 k (hk k au)) v hv.1
     ·exact pX _ (fun x hx=>hk x mf) hv
   exact this t.kids 0 (fun _ h=>h) hv
 exact key t h
theorem Nv{p:Pg}{env:List Tm}{e:Tm}{f:Pf}(h:iW p env e f)(h1:fe p=true)(h2:gL p.sig f=true)(h3:j5 p.sig env e=true):Ty p env e f:=by
 simp only[j5,Bool.and_eq_true]at h3
 obtain⟨⟨a,b⟩,c⟩:=h3
 simp only[gL,Bool.and_eq_true]at h2
 refine⟨⟨h.fin,h1⟩,h.few,My h.vf a,⟨h.ef,jo b,fun v hv=>⟨JG (jo b) v hv, ?_⟩⟩,⟨h.ff,h2.2,by have:=h.fsz;omega⟩⟩
 rw[<- Hj (dS e).1,List.all_eq_true]at c
 simpa using c v (((dS e).2 v).2 hv)
def QB(p:Pg)(env:List Tm)(e:Tm)(f:Pf):Tm×Int:=if(fe p&&gL p.sig f&&j5 p.sig env e)=true then(if bc p f env e=true then(f.val,0)else(uv,7))else(uv,2)
theorem Nw{p:Pg}{env:List Tm}{e:Tm}{f:Pf}(h:iW p env e f):aR Tryz.prog 10 [p.d, .sl (env.map Tm.d),e.d,f.d] (.ret [(QB p env e f).1.d, .i (QB p env e f).2]):=by
 have Oz:=h.afc
 have hg:=Nt p h.fin env ad h.vf e h.adk f h.ff (by have:=h.fsz;omega)
 rw[Nu h]at hg
 refine aR.ay mix aas au ?_
 rw[c10,QB]
 refine aG ?_
 refine ag hg rfl ?_
 cases h1:(fe p&&gL p.sig f&&j5 p.sig env e)with
 |false=>
  rw[if_neg Bool.false_ne_true,qh]
  exact bR
 |true=>
 rw[if_pos rfl]
 have bJ:=h1
 simp only[Bool.and_eq_true]at bJ
 have ok:=Nv h bJ.1.1 bJ.1.2 bJ.2
 refine aG ?_
 refine c6 (JC ok.prog ok.few f ok.pf env ok.ev e ok.exp _ _ dp _ _ fun o1 n1 g1 g2 g3=> ?_)
 have q2:o1 2= .row f.row:=by
  rw[g3 2 (by omega)]
  exact cY
 have q3:o1 3= .row [.d (.i 0), .d (.i 0), .bT]:=by
  rw[g3 3 (by omega)]
  exact cY
 cases h2:bc p f env e with
 |false=>
  rw[if_neg Bool.false_ne_true,qh]
  exact uU q3
 |true=>
 rw[if_pos rfl]
 have hz:=ok.pf.val.2.1
 have h20:3<n1:=ad
 have y1:∀k,3≠n1+k:=fun k=>ad
 refine zM q2 q3 y1 ?_
 refine aO (MU [f.val] au BH) ?_
 simp+contextual (disch:=first|omega|simp only[go_sem,false_implies]) only[go_sem,wrap64,if_pos,q2,q3,Nat.add_assoc,Nat.left_eq_add,Nat.add_eq_left,Nat.add_left_cancel_iff,y1]
end Go.Proofs.YtonbelhklnmjnaaGreat
namespace Go.Proofs.YtonbelhklnmjnaaGreat
def Br(t:Pf)(d:Int):List Int:=((dt t d).filter (fun x=>x.1.bp==6)).map (·.1.num)
def Hk(t:Pf):List Int:=if t.bp=6 then [t.num]else []
theorem Bs(t:Pf)(d:Int):Br t d=Hk t++t.kids.flatMap fun k=>Br k (d+1):=by
 unfold Br Hk
 rw[oK,List.filter_cons]
 have:∀l:List Pf,((l.flatMap fun k=>dt k (d+1)).filter (fun x=>x.1.bp==6)).map (·.1.num)=l.flatMap fun k=>((dt k (d+1)).filter (fun x=>x.1.bp==6)).map (·.1.num):=fun l=>by
  rw[List.filter_flatMap,List.map_flatMap]
 by_cases h:t.bp=6
 ·simp[h,this]
 ·simp[h,this]
theorem XW:∀ (t:Pf) (d d':Int),Br t d=Br t d':=by
 refine Pf.cB fun t ih d d'=> ?_
 rw[Bs,Bs t d']
 congr 1
 have:∀l:List Pf,(∀k∈l,k∈t.kids)->(l.flatMap fun k=>Br k (d+1))=l.flatMap fun k=>Br k (d'+1):=by
  intro l
  induction l with
  |nil=>intro _;rfl
  |cons k l pX=>
   intro h
   rw[List.flatMap_cons,List.flatMap_cons,ih k (h k (by simp)) (d+1) (d'+1),pX fun x hx=>h x (by simp[hx])]
 exact this t.kids fun _ h=>h
def dU(t:Pf):List Int:=Br t 1
theorem JH(t:Pf):dU t=Hk t++t.kids.flatMap dU:=by
 unfold dU
 rw[Bs]
 congr 2
 funext k
 exact XW k _ _
theorem qi(t:Pf):(dU t).length<=t.sh.sz:=by
 unfold dU Br
 rw[List.length_map, <- rF t 1]
 exact List.length_filter_le _ _
def XX(t:Pf):Nat:=t.sh.sz
def qj(l:List Pf):Nat:=(l.map XX).sum
theorem Nx(t:Pf):t.sh.sz=1+qj t.kids:=by
 rw[Tm.iU,Pf.mM];unfold fU qj XX;rw[List.map_map];rfl
theorem JI{l:List Pf}{k:Nat}{x:Pf}(h:l[k]? =some x):qj (l.take (k+1))=qj (l.take k)+XX x:=by
 unfold qj
 rw[List.take_add_one,h];simp
theorem Bt(l:List Pf)(k:Nat):qj (l.take k)<=qj l:=by
 unfold qj
 conv=>rhs;rw[<- List.take_append_drop k l]
 rw[List.map_append,List.sum_append];omega
theorem Hl{l:List Pf}{x:Pf}(h:x∈l):XX x<=qj l:=by
 unfold qj
 induction l with
 |nil=>cases h
 |cons y l ih=>
  rw[List.map_cons,List.sum_cons]
  rcases List.mem_cons.1 h with e|e
  ·subst e;omega
  ·have:=ih e;omega
theorem Ny(l:List Pf):(l.flatMap dU).length<=qj l:=by
 unfold qj
 induction l with
 |nil=>simp
 |cons y l ih=>
  rw[List.flatMap_cons,List.length_append,List.map_cons,List.sum_cons]
  have:=qi y
  unfold XX at ih|-;omega
theorem xc:∀t:Pf,t.fits->t.sh.sz<=1000000->aR Tryz.prog 17 [t.d] (.ret [.i t.sh.sz]):=by
 refine Pf.cB fun t ih hf hz=> ?_
 have fy:=(Pf.aJ _).1 hf
 have he:=Nx t
 refine aR.ay mix aeh au ?_
 rw[c17]
 refine aG ?_
 refine aE (fun k:Nat=>⟨bz [.aa, .ptr 0 0, .aa, .d (.i (1+qj (t.kids.take k):Nat)), .d (.i k)],fb t.row,1⟩)
  (fun k=>k<=t.kids.length) (fun k=>t.kids.length - k) 0 (Nat.zero_le _) (bE.d1 _ (aU rfl) ad rfl ?_) (fun k hk=> ?_)
 ·exact cz
 replace hk:k<=t.kids.length:=hk
 have hb:=Bt t.kids k
 refine fT ?_
 refine aq (fun h2=> ?_) (fun h2=> ?_)
 ·simp at h2
  obtain⟨x,hx⟩:=aw h2
  have cw:=List.mem_of_getElem? hx
  have hxz:=Hl cw
  have hb2:=Bt t.kids (k+1)
  have mZ:=JI hx
  refine dn hx ?_
  unfold XX at hxz mZ
  refine ag (ih x cw (fy.2.2.2.2 x cw) ad) rfl ?_
  refine dn hx ?_
  refine ax (k+1) h2 ad (bE.d1 _ (aU rfl) ad rfl ?_)
  rw[show((1+qj (t.kids.take (k+1)):Nat):Int)=((1+qj (t.kids.take k):Nat):Int)+(x.sh.sz:Int) by rw[mZ];omega]
  exact cz
 ·simp at h2
  have rT:k=t.kids.length:=ad
  subst rT
  rw[List.take_length]at*
  refine fT ?_
  rw[he]
def Hn:IC:=c16.snd.snd.snd.fst.snd.fst.fst
theorem tU{t:Pf}(hf:t.fits)(hz:t.sh.sz<=1000000)(ih:∀k∈t.kids,k.fits->k.sh.sz<=1000000->aR Tryz.prog 16 [k.d] (.ret [.sl ((dU k).map .i)]))(p:List Int)(hp:p.length<=1){e:Nat->V}{o:Nat->ae}{nx:Nat}{Q:fG->S->Prop}
 (hs:bE 0 ⟨e,o,nx⟩ ⟨bz [.aa, .ptr 0 0, .aa, .osl 1 0, .d (.i 0)],aK (aK (fun _=> .no) 0 (.row t.row)) 1 (.arr 0 3 1 (p.map .i)),2⟩)
 (hQ:∀e' n',e' 3= .osl 1 0->Q (.exit 0) ⟨e',aK (aK (fun _=> .no) 0 (.row t.row)) 1 (.arr 0 3 1 ((p++t.kids.flatMap dU).map .i)),n'⟩):
 rb 0 (fun Q s=>kS Tryz.prog 29 0 false Hn Q s) Q ⟨e,o,nx⟩:=by
 have fy:=(Pf.aJ _).1 hf
 have rS:=Nx t
 refine aE (fun i:Nat=>⟨bz [.aa, .ptr 0 0, .aa, .osl 1 0, .d (.i i)],aK (aK (fun _=> .no) 0 (.row t.row)) 1 (.arr 0 3 1 ((p++(t.kids.take i).flatMap dU).map .i)),2⟩)
  (fun i=>i<=t.kids.length) (fun i=>t.kids.length - i) 0 (Nat.zero_le _) ?_ fun k hk=> ?_
 ·simpa using hs
 replace hk:k<=t.kids.length:=hk
 simp only[Hn,c16,IC.snd,IC.fst]
 refine fT ?_
 refine aq (fun h2=> ?_) (fun h2=> ?_)
 ·simp at h2
  obtain⟨x,hx⟩:=aw h2
  have cw:=List.mem_of_getElem? hx
  have wU:t.kids.take (k+1)=t.kids.take k++[x]:=by rw[List.take_add_one,hx];rfl
  have xi:=Ny (t.kids.take k)
  have ed:=Bt t.kids k
  have Ea:=Hl cw
  unfold XX at Ea
  have oT:=qi x
  have Zf:(p++(t.kids.take k).flatMap dU).length<=1000001:=by rw[List.length_append];omega
  refine dn hx ?_
  refine aO (ih x cw (fy.2.2.2.2 x cw) ad) ?_
  refine dn hx ?_
  refine ax (k+1) h2 ad (bE.gU (fun j=>j=1) (.osl 1 1) 1 _ ad (yU (cp (y:= .row t.row) cY cY (bw rfl fH))) (ab _ _ _) (.inr ⟨1,1,rfl,rfl,by(repeat(first|rfl|rw[ab]|rw[aj _ _ _ _ (by omega)]));rw[wU,List.flatMap_append, <- List.append_assoc,List.map_append];simp⟩) (fun j hj=>by(repeat(first|rfl|rw[ab]|rw[aj _ _ _ _ (by omega)]))) (fun j h h2=>ad) ?_)
  exact nj
 ·simp at h2
  have rT:k=t.kids.length:=ad
  subst rT
  rw[List.take_length]
  refine fT ?_
  exact hQ _ _ rfl
theorem xd:∀t:Pf,t.fits->t.sh.sz<=1000000->aR Tryz.prog 16 [t.d] (.ret [.sl ((dU t).map .i)]):=by
 refine Pf.cB fun t ih hf hz=> ?_
 refine aR.ay mix aeg au ?_
 rw[c16,JH,Hk]
 by_cases h8:t.bp=6
 ·have Ei:(t.bp==6)=true:=by simpa using h8
  refine cg Ei ?_
  rw[if_pos h8]
  refine tU hf hz ih [t.num] au ?_ fun e' n' he=> ?_
  ·refine bE.gU (fun j=>1<=j) _ 1 _ ad (yU (cp (y:= .row t.row) cY cY (bw rfl fH))) (ab _ _ _) (.inr ⟨_,_, ?_,rfl,by(repeat(first|rfl|rw[ab]|rw[aj _ _ _ _ (by omega)]))⟩) (fun j hj=>by(repeat(first|rfl|rw[ab]|rw[aj _ _ _ _ (by omega)]))) (fun j h h2=>ad) ?_
   ·decide
   ·exact nj
  ·exact Hq
 ·have Ei:(t.bp==6)=false:=by simpa using h8
  refine cg Ei ?_
  rw[if_neg h8]
  refine tU hf hz ih [] au ?_ fun e' n' he=> ?_
  ·refine bE.gU (fun _=>False) .bT 1 _ ad (yU (bw rfl fH)) (ab _ _ _) (.inl ⟨rfl,rfl,aT⟩) (fun j hj=>by(repeat(first|rfl|rw[ab]|rw[aj _ _ _ _ (by omega)]))) (fun _ h=>h.elim) ?_
   exact nj
  ·exact Hq
def jP(s:List Int×Int)(x:Pf×Int):List Int×Int:=(s.1++(if x.1.bp=6 then [x.1.num]else []),s.2+1)
theorem Ho:∀ (l:List (Pf×Int)) (s:List Int×Int),(aA (l8 (fun _=>none) jP) s l).1=(s.1++(l.filter (fun x=>x.1.bp==6)).map (·.1.num),s.2+l.length)
 |[],s=>by simp[aA]
 |x::l,s=>by
  have e:l8 (fun _=>none) jP s x=(jP s x,true):=rfl
  rw[aA,e]
  simp only[if_true]
  rw[Ho l]
  unfold jP
  by_cases h:x.1.bp=6
  ·simp[h];omega
  ·simp[h];omega
def Nz(p:Pg)(f:Pf):List Int×Int×Int:=if(mV p&&og p.sig f)=true then(dU f,f.sh.sz,0)else([],0,2)
def QC(p:Pg)(f:Pf):Nat->ae:=aK (aK (aK (aK (fun _=> .no) 0 (.row p.row)) 1 (.row f.row)) 15 (.row [.d (.i 0)])) 18 (.row f.row)
def XY(p:Pg)(f:Pf)(s:List Int×Int):Nat->ae:=aK (aK (aK (QC p f) 14 (.row [.osl 22 s.1.length])) 22 (.arr s.1.length 3 1 (s.1.map .i))) 15 (.row [.d (.i s.2)])
theorem NA(p:Pg)(hp:p.Fin)(f:Pf)(hf:f.fits)(hd:f.iE<=900000)(hz:f.sh.sz<=1000):aR Tryz.prog 11 [p.d,f.d] (.ret [.sl ((Nz p f).1.map .i), .i (Nz p f).2.1, .i (Nz p f).2.2]):=by
 refine aR.ay mix aat au ?_
 rw[c11,Nz]
 refine aG ?_
 refine ag (Dx p hp) rfl ?_
 cases h1:mV p with
 |false=>exact TG
 |true=>
 refine zO ?_
 refine ag (wF p hp f hf hd) rfl ?_
 cases h2:og p.sig f with
 |false=>exact bR
 |true=>
 refine iP ?_
 refine c6 (zm f _ _ _ _ ?_)
 refine iP ?_
 have hB:Good (QC p f) 22:=by unfold QC;exact dp
 have xz:∀j,22<=j->QC p f j= .no:=fun j hj=>by unfold QC;(repeat(first|rfl|rw[ab]|rw[aj _ _ _ _ (by omega)]))
 refine Pz (s6 (B:=QC p f) (r:=14) (c:=22) (ds:=[]) (ty:=3) (sz:=1) [.aa, .aa, .aa, .aa, .aa, .aa, .aa, .ptr 14 0, .ptr 15 0, .aa, .aa, .aa, .aa, .aa, .aa, .aa, .aa, .aa, .aa, .aa, .func (.func 96) [] [.ptr 18 0]] hB xz ad (fun j hj iQ=>by unfold QC;exact rY) cY ad ?_) ?_
 ·exact nj
 refine pv (σ:=List Int×Int) f hf hd [.aa, .aa, .aa, .aa, .aa, .aa, .aa, .ptr 14 0, .ptr 15 0] ?_ aT rfl (by unfold DY QC;exact dp) mc (by unfold DY QC;(repeat(first|rfl|rw[ab]|rw[aj _ _ _ _ (by omega)]))) (XY p f) (fun _=>none) jP (fun r s=>0<=s.2/\(s.1.length:Int)<=s.2/\s.2+r.length<=1000) ([],0) ⟨aT,aT,by rw[rF];simp;omega⟩ rfl (fun id aC=> ?_) (fun x _ r s hs _ h2=> ?_) ?_ ?_
 ·exact Hu
 ·unfold XY DY
  first|exact rY|(rw[iG];exact rY)
 ·simp only[jP,List.length_append,List.length_cons]at hs|-
  split<;>simp<;>omega
 ·intro L hL uW x hx r s' h1 h2 o3 n3 hI hn ho K X cO
  simp only[m8]
  have hg:=hI.bU
  have q1:o3 15= .row [.d (.i s'.2)]:=hI.eq 15 ad
  have q2:o3 14= .row [.osl 22 s'.1.length]:=hI.eq 14 ad
  have q3:o3 22= .arr s'.1.length 3 1 (s'.1.map .i):=hI.eq 22 ad
  simp only[List.length_cons]at h1
  refine aG ?_
  refine l0 hL (pd:=none) ?_ ?_
  ·(repeat(first|rfl|rw[ab]|rw[aj _ _ _ _ (by omega)]))
   exact ho
  have fin:∀ (o':Nat->ae) (n':Nat) (s2:List Int×Int),Good o' n'->n3<=n'->o' 14= .row [.osl 22 s2.1.length]->o' 22= .arr s2.1.length 3 1 (s2.1.map .i)->o' 15= .row [.d (.i s2.2)]->(∀j,j<23->j≠14->j≠22->j≠15->o' j=o3 j)->cW 23 (XY p f s2) o' n':=fun o' n' s2 k1 k2 k3 k4 k5 k6=>⟨k1,ad,fun j hj=>by
   by_cases e:j=14
   ·subst e;rw[k3];unfold XY;(repeat(first|rfl|rw[ab]|rw[aj _ _ _ _ (by omega)]))
   by_cases e2:j=22
   ·subst e2;rw[k4];unfold XY;(repeat(first|rfl|rw[ab]|rw[aj _ _ _ _ (by omega)]))
   by_cases e3:j=15
   ·subst e3;rw[k5];unfold XY;(repeat(first|rfl|rw[ab]|rw[aj _ _ _ _ (by omega)]))
   rw[k6 j hj e e2 e3,hI.eq j hj];unfold XY
   rw[aj _ _ _ _ e3,aj _ _ _ _ e2,aj _ _ _ _ e,aj _ _ _ _ e3,aj _ _ _ _ e2,aj _ _ _ _ e]⟩
  by_cases h6:x.1.bp=6
  ·have h6':(x.1.bp==6)=true:=by simpa using h6
   refine xr q1 q2 q3 h6' ?_
   refine cO _ _ _ .busy none ad (fin _ _ _ dp ad ?_ ?_ ?_ fun j hj j1 j2 j3=> ?_) cY (fun id h3 h4=>by(repeat(first|rfl|rw[ab]|rw[aj _ _ _ _ (by omega)])))
   ·unfold jP;rw[if_pos h6];(repeat(first|rfl|rw[ab]|rw[aj _ _ _ _ (by omega)]));simp
   ·unfold jP;rw[if_pos h6];(repeat(first|rfl|rw[ab]|rw[aj _ _ _ _ (by omega)]));simp
   ·unfold jP;(repeat(first|rfl|rw[ab]|rw[aj _ _ _ _ (by omega)]))
   ·exact cY
  ·have h6':(x.1.bp==6)=false:=by simpa using h6
   refine xr q1 q2 q3 h6' ?_
   refine cO _ _ _ .busy none ad (fin _ _ _ dp ad ?_ ?_ ?_ fun j hj j1 j2 j3=> ?_) cY (fun id h3 h4=>by(repeat(first|rfl|rw[ab]|rw[aj _ _ _ _ (by omega)])))
   ·unfold jP;rw[if_neg h6];(repeat(first|rfl|rw[ab]|rw[aj _ _ _ _ (by omega)]));simp[q2]
   ·unfold jP;rw[if_neg h6];(repeat(first|rfl|rw[ab]|rw[aj _ _ _ _ (by omega)]));simp[q3]
   ·unfold jP;(repeat(first|rfl|rw[ab]|rw[aj _ _ _ _ (by omega)]))
   ·exact cY
 ·intro o' n' hI
  rw[Ho]at hI
  have q1:o' 15= .row [.d (.i (0+(dt f 1).length))]:=hI.eq 15 ad
  have q2:o' 14= .row [.osl 22 ([]++dU f).length]:=hI.eq 14 ad
  have q3:o' 22= .arr ([]++dU f).length 3 1 (([]++dU f).map .i):=hI.eq 22 ad
  rw[rF]at q1
  simp only[oW]
  simp only[List.nil_append,Int.zero_add]at q1 q2 q3
  refine uT q1 q2 q3 ?_
  refine ai (ak rfl) ?_
  exact TH q1 q2 q3
theorem JJ:uv.fits:=by simp[uv,Tm.fits,Tm.jB]
theorem JK:aI uv uv=true:=by rfl
theorem uS:aR Tryz.prog 14 [.agg [.i 0, .i 0, .sl []]] (.ret [.bool true]):=by
 have h:=Qk uv JJ
 rw[JK,qh]at h
 exact h
theorem NB(p:Pg)(hp:p.Fw):aR Tryz.prog 12 [p.d] (.ret [.bool (fe p)]):=by
 refine aR.ay mix aed au ?_
 rw[c12]
 refine aG ?_
 refine ag (Qf p hp) rfl ?_
 exact bR
theorem FP(p:Pg)(hp:p.Fits):aR Tryz.prog 39 [p.d] (.ret [.bool (gB p)]):=by
 refine aR.ay mix aeq au ?_
 rw[c39]
 refine aG ?_
 refine ag (Jg p hp) rfl ?_
 exact bR
theorem JL{p:Pg}{env:List Tm}{e:Tm}{f:Pf}(h:Ty p env e f):aR Tryz.prog 19 [p.d, .sl (env.map Tm.d),e.d,f.d] (.ret [.bool (bc p f env e)]):=by
 refine aR.ay mix aej au ?_
 rw[c19]
 refine aG ?_
 refine ag (Jx h.prog h.few f h.pf env e h.ev h.exp) rfl ?_
 exact bR
def xe(p:Pg)(env:List Tm)(e:Tm)(f:Pf):Bool:=gB p&&iN env&&iF e&&ma f
theorem QD(p:Pg)(env:List Tm)(e:Tm)(f:Pf)(hp:p.Fits)(hl:env.length<=9223372036854775807)(hv:∀t∈env,t.fits)(he:e.fits)(hf:f.fits):aR Tryz.prog 8 [p.d, .sl (env.map Tm.d),e.d,f.d] (.ret [.bool (xe p env e f)]):=by
 refine aR.ay mix fn8 au ?_
 rw[c8,xe]
 refine aG ?_
 refine ag (FP p hp) rfl ?_
 cases h1:gB p with
 |false=>exact bR
 |true=>
 refine aG ?_
 refine ag (DS env hl hv) rfl ?_
 cases h2:iN env with
 |false=>exact bR
 |true=>
 refine aG ?_
 refine ag (AX e he) rfl ?_
 cases h3:iF e with
 |false=>exact bR
 |true=>
 refine aG ?_
 refine ag (Ji f hf) rfl ?_
 exact bR
theorem adl{p:Pg}{env:List Tm}{e:Tm}{f:Pf}(hp:p.Fits)(hv:∀t∈env,t.fits)(he:e.fits)(hf:f.fits)(h:xe p env e f=true):iW p env e f:=by
 simp only[xe,Bool.and_eq_true]at h
 exact⟨hp,h.1.1.1,hv,h.1.1.2,he,h.1.2,hf,h.2⟩
theorem iW.val {p:Pg}{env:List Tm}{e:Tm}{f:Pf}(h:iW p env e f):ll f.val=true:=by
 have:=h.fs
 simp only[ma,Bool.and_eq_true]at this
 have:=this.2
 rw[DT]at this
 simp only[Bool.and_eq_true]at this
 exact this.1.1
set_option maxHeartbeats 2000000 in
theorem xf(Y2:aR Tryz.prog 9 [] (.ret [.bool true]))(p:Pg)(env:List Tm)(e:Tm)(f:Pf)(hp:p.Fits)(hl:env.length<=9223372036854775807/\∀t∈env,t.fits)(he:e.fits)(hf:f.fits):aR Tryz.prog 3 [p.d, .sl (env.map Tm.d),e.d,f.d] (.ret [.bool true]):=by
 refine aR.ay mix fn3 au ?_
 rw[c3]
 refine aG ?_
 refine ag (QD p env e f hp hl.1 hl.2 he hf) rfl ?_
 cases h0:xe p env e f with
 |false=>
  refine aG ?_
  refine ag Y2 rfl ?_
  exact bR
 |true=>
 have sm:=adl hp hl.2 he hf h0
 have hz:=sm.fsz
 have ac:=Nw sm
 have lc:=NA p sm.fin f hf ad ad
 have rp:=NB p sm.few
 have rf:=ML p sm.fin.sig f hf
 have rg:=MM p sm.fin.sig env hl.1 hl.2 e sm.adk
 have tl:(mV p&&og p.sig f)=(fe p&&gL p.sig f):=by rw[sm.prog,G9]
 rw[Nz,tl]at lc
 rw[QB]at ac
 cases h1:(fe p&&gL p.sig f)with
 |false=>
  rw[h1,Bool.false_and,if_neg Bool.false_ne_true,qh]at ac
  rw[h1,if_neg Bool.false_ne_true]at lc
  refine aG ?_
  refine aO ac ?_
  refine aG ?_
  refine aO lc ?_
  refine aG ?_
  refine ag rp rfl ?_
  cases h2:fe p with
  |false=>
   refine aG ?_
   refine ag uS rfl ?_
   refine aG ?_
   refine ag Y2 rfl ?_
   exact bR
  |true=>
   rw[h2,Bool.true_and]at h1
   refine aG ?_
   refine ag rf rfl ?_
   refine cg h1 ?_
   refine ag uS rfl ?_
   refine aG ?_
   refine ag Y2 rfl ?_
   exact bR
 |true=>
 rw[h1,if_pos rfl]at lc
 rw[h1,Bool.true_and]at ac
 rw[Bool.and_eq_true]at h1
 have pI:=qi f
 cases h3:j5 p.sig env e with
 |false=>
  rw[h3,if_neg Bool.false_ne_true,qh]at ac
  refine aG ?_
  refine aO ac ?_
  refine aG ?_
  refine aO lc ?_
  refine aG ?_
  refine ag rp rfl ?_
  refine cg h1.1 ?_
  refine ag rf rfl ?_
  refine cg h1.2 ?_
  refine aO (xd f hf ad) ?_
  refine aG ?_
  refine ag (qf (dU f) (dU f) ad ad) rfl ?_
  refine TE ?_
  refine ag (xc f hf ad) rfl ?_
  refine TD ?_
  refine ag rg rfl ?_
  refine cg h3 ?_
  refine ag uS rfl ?_
  refine aG ?_
  refine ag Y2 rfl ?_
  exact bR
 |true=>
 have ok:=Nv sm h1.1 h1.2 h3
 have rv:=JL ok
 rw[h3,if_pos rfl]at ac
 cases h4:bc p f env e with
 |false=>
  rw[h4,if_neg Bool.false_ne_true,qh]at ac
  refine aG ?_
  refine aO ac ?_
  refine aG ?_
  refine aO lc ?_
  refine aG ?_
  refine ag rp rfl ?_
  refine cg h1.1 ?_
  refine ag rf rfl ?_
  refine cg h1.2 ?_
  refine aO (xd f hf ad) ?_
  refine aG ?_
  refine ag (qf (dU f) (dU f) ad ad) rfl ?_
  refine TE ?_
  refine ag (xc f hf ad) rfl ?_
  refine TD ?_
  refine ag rg rfl ?_
  refine cg h3 ?_
  refine ag rv rfl ?_
  refine cg h4 ?_
  refine ag uS rfl ?_
  refine aG ?_
  refine ag Y2 rfl ?_
  exact bR
 |true=>
  rw[h4,if_pos rfl]at ac
  have M7:=((Pf.aJ f).1 hf).1
  refine aG ?_
  refine aO ac ?_
  refine aG ?_
  refine aO lc ?_
  refine aG ?_
  refine ag rp rfl ?_
  refine cg h1.1 ?_
  refine ag rf rfl ?_
  refine cg h1.2 ?_
  refine aO (xd f hf ad) ?_
  refine aG ?_
  refine ag (qf (dU f) (dU f) ad ad) rfl ?_
  refine TE ?_
  refine ag (xc f hf ad) rfl ?_
  refine TD ?_
  refine ag rg rfl ?_
  refine cg h3 ?_
  refine ag rv rfl ?_
  refine cg h4 ?_
  refine ag (wA f.val M7) rfl ?_
  refine cg sm.val ?_
  refine ag (ei f.val M7 f.val M7) rfl ?_
  simp+contextual (disch:=first|omega|simp only[go_sem,false_implies]) only[go_sem,wrap64,if_pos,wu f.val]
  refine ag Y2 rfl ?_
  exact bR
end Go.Proofs.YtonbelhklnmjnaaGreat
section
namespace Go.Proofs.YtonbelhklnmjnaaGreat
open Go.ChangeShapes Go.WideShapes Go.RowKit
theorem NC:∀ (n:Nat) (x:D),SizeOf.sizeOf x<=n->D.jO Tryz.prog x 35->∃t:Pf,x=t.d/\t.fits:=by
 intro n
 induction n with
 |zero=>intro x hx _;cases x<;>simp at hx
 |succ n ih=>
  intro x hx h
  obtain⟨cs,rfl,hh⟩:=oq ah (ls:=[32,29,3,28,3,28,33]) ah h
  clear h;have h:=hh;clear hh
  obtain⟨a,cs,rfl,ha,h⟩:=bG h
  obtain⟨b,cs,rfl,hb,h⟩:=bG h
  obtain⟨c,cs,rfl,hc,h⟩:=bG h
  obtain⟨d,cs,rfl,hd,h⟩:=bG h
  obtain⟨e,cs,rfl,he,h⟩:=bG h
  obtain⟨f,cs,rfl,hf,h⟩:=bG h
  obtain⟨g,cs,rfl,hg,h⟩:=bG h
  have:=ki h;subst this
  obtain⟨r,hr,_⟩:=wQ undT_32 ha
  subst hr
  obtain⟨o,rfl⟩:=XA hb
  obtain⟨m,rfl⟩:=wR hc
  obtain⟨vk,rfl,v1,v2⟩:=DM hd
  obtain⟨u,rfl⟩:=wR he
  obtain⟨bs,rfl,b1,b2⟩:=DM hf
  obtain⟨es,rfl,h1,h2⟩:=oP (e:=35) ah hg
  have Ec:SizeOf.sizeOf es<=n:=by simp at hx;omega
  have:∀es:List D,SizeOf.sizeOf es<=n->D.FF Tryz.prog es 35->∃l:List Pf,es=l.map Pf.d/\∀k∈l,k.fits:=by
   intro es
   induction es with
   |nil=>intro _ _;exact⟨[],rfl,fun _ h=>by cases h⟩
   |cons y es ihe=>
    intro hs h
    simp at hs
    obtain⟨t,rfl,ht⟩:=ih y ad h.1
    obtain⟨l,rfl,hl⟩:=ihe ad h.2
    exact⟨t::l,rfl,fun b hb=>(List.mem_cons.1 hb).elim (fun e=>e ▸ ht) (hl b)⟩
  obtain⟨l,rfl,hl⟩:=this es Ec h2
  refine⟨.mk r (.mk o m vk) u bs l,by rw[Pf.Iw];rfl, ?_⟩
  rw[Pf.aJ]
  exact⟨(Tm.aJ _).2 ⟨v1,v2⟩,b1,b2,by have:=l9;simp at h1;simp only[Pf.kids];omega,hl⟩
theorem afd{x:D}(h:D.jO Tryz.prog x 35):∃t:Pf,x=t.d/\t.fits:=NC _ x (Nat.le_refl _) h
end Go.Proofs.YtonbelhklnmjnaaGreat
end
section
namespace Go.Proofs.YtonbelhklnmjnaaGreat
open Go
def XZ:Nat->Bool:=fun g=> !([206,205,245,246,231,257,258,56,96,97,129,113,164,125,165,207,208,209,210,211,212,214,215,248,251,252,260,92,116,94]:List Nat).contains g
def xP:D:= .agg [.sl [.agg [.str [70,97,108,115,101], .i 0], .agg [.str [84,114,117,101], .i 0], .agg [.str [90], .i 0], .agg [.str [83], .i 1], .agg [.str [78,105,108], .i 0], .agg [.str [67,111,110,115], .i 2]], .sl [.agg [.str [97,100,100], .i 2], .agg [.str [111,114], .i 2], .agg [.str [99,111,105,110], .i 0], .agg [.str [108,101,110], .i 1]], .sl [.agg [.i 0, .sl [.agg [.i 3, .i 2, .sl []], .agg [.i 1, .i 0, .sl []]], .i 1, .i 0, .sl [], .i 1], .agg [.i 0, .sl [.agg [.i 3, .i 3, .sl [.agg [.i 1, .i 0, .sl []]]], .agg [.i 1, .i 1, .sl []]], .i 3, .i 3, .sl [.agg [.i 4, .i 0, .sl [.agg [.i 1, .i 0, .sl []], .agg [.i 1, .i 1, .sl []]]]], .i 2], .agg [.i 1, .sl [.agg [.i 3, .i 1, .sl []], .agg [.i 1, .i 0, .sl []]], .i 3, .i 1, .sl [], .i 1], .agg [.i 1, .sl [.agg [.i 1, .i 0, .sl []], .agg [.i 3, .i 1, .sl []]], .i 3, .i 1, .sl [], .i 1], .agg [.i 1, .sl [.agg [.i 3, .i 0, .sl []], .agg [.i 3, .i 0, .sl []]], .i 3, .i 0, .sl [], .i 0], .agg [.i 2, .sl [], .i 3, .i 2, .sl [], .i 0], .agg [.i 2, .sl [], .i 3, .i 3, .sl [.agg [.i 3, .i 2, .sl []]], .i 0], .agg [.i 3, .sl [.agg [.i 3, .i 5, .sl [.agg [.i 1, .i 0, .sl []], .agg [.i 1, .i 1, .sl []]]]], .i 3, .i 3, .sl [.agg [.i 4, .i 3, .sl [.agg [.i 1, .i 1, .sl []]]]], .i 2], .agg [.i 3, .sl [.agg [.i 1, .i 0, .sl []]], .i 4, .i 0, .sl [.agg [.i 1, .i 1, .sl []], .agg [.i 1, .i 1, .sl []]], .i 2]]]
def Y3:D:= .agg [.i 6, .i 3, .i 3, .sl [.agg [.i 1, .i 7, .sl []]], .i 1, .sl [.agg [.i 3, .i 2, .sl []], .agg [.i 1, .i 7, .sl []]], .sl [.agg [.i 4, .i 3, .i 3, .sl [.agg [.i 3, .i 2, .sl []]], .i 0, .sl [], .sl [.agg [.i 4, .i 3, .i 2, .sl [], .i 0, .sl [], .sl []]]], .agg [.i 2, .i 1, .i 7, .sl [], .i 0, .sl [], .sl []], .agg [.i 4, .i 3, .i 3, .sl [.agg [.i 1, .i 7, .sl []]], .i 0, .sl [], .sl [.agg [.i 6, .i 1, .i 7, .sl [], .i 0, .sl [.agg [.i 1, .i 7, .sl []]], .sl [.agg [.i 2, .i 3, .i 2, .sl [], .i 0, .sl [], .sl []], .agg [.i 2, .i 1, .i 7, .sl [], .i 0, .sl [], .sl []], .agg [.i 2, .i 1, .i 7, .sl [], .i 0, .sl [], .sl []]]]]]]]
def x5e:D:= .agg [.i 4, .i 0, .sl [.agg [.i 3, .i 3, .sl [.agg [.i 3, .i 2, .sl []]]], .agg [.i 1, .i 0, .sl []]]]
def Y4:D:= .agg [.i 4, .i 0, .sl [.agg [.i 4, .i 2, .sl []], .agg [.i 4, .i 2, .sl []]]]
def x6p:D:= .agg [.i 6, .i 3, .i 3, .sl [.agg [.i 3, .i 2, .sl []]], .i 0, .sl [.agg [.i 3, .i 3, .sl [.agg [.i 3, .i 2, .sl []]]]], .sl [.agg [.i 6, .i 3, .i 2, .sl [], .i 5, .sl [], .sl [.agg [.i 4, .i 3, .i 2, .sl [], .i 0, .sl [], .sl []]]], .agg [.i 6, .i 3, .i 3, .sl [.agg [.i 3, .i 2, .sl []]], .i 6, .sl [], .sl [.agg [.i 4, .i 3, .i 3, .sl [.agg [.i 3, .i 2, .sl []]], .i 0, .sl [], .sl [.agg [.i 4, .i 3, .i 2, .sl [], .i 0, .sl [], .sl []]]]]], .agg [.i 2, .i 3, .i 3, .sl [.agg [.i 3, .i 2, .sl []]], .i 0, .sl [], .sl []]]]
def x6q:D:= .agg [.i 6, .i 3, .i 3, .sl [.agg [.i 3, .i 2, .sl []]], .i 0, .sl [.agg [.i 3, .i 3, .sl [.agg [.i 3, .i 2, .sl []]]]], .sl [.agg [.i 6, .i 3, .i 2, .sl [], .i 5, .sl [], .sl [.agg [.i 4, .i 3, .i 2, .sl [], .i 0, .sl [], .sl []]]], .agg [.i 6, .i 3, .i 2, .sl [], .i 5, .sl [], .sl [.agg [.i 4, .i 3, .i 2, .sl [], .i 0, .sl [], .sl []]]], .agg [.i 2, .i 3, .i 3, .sl [.agg [.i 3, .i 2, .sl []]], .i 0, .sl [], .sl []]]]
def xv7:D:= .sl [.agg [.i 1, .i 7, .sl []]]
def adm:ri Tryz.prog:=ri.of XZ [] (fun _ h=>by cases h)
theorem X0:AU Tryz.prog cu adm 5000 42 []=some (.ret [xP]):=ah
theorem afe:aR Tryz.prog 42 [] (.ret [xP]):=aR.pT mix pU X0
theorem X1:AU Tryz.prog cu adm 5000 54 [xP]=some (.ret [.i 0]):=ah
theorem adn:aR Tryz.prog 54 [xP] (.ret [.i 0]):=aR.pT mix pU X1
def QE:ri Tryz.prog:=ri.of XZ [(54,[xP], .ret [.i 0])] (fun x h=>by
 cases h with
 |head=>exact adn
 |tail _ h=>cases h)
end Go.Proofs.YtonbelhklnmjnaaGreat
end
section
namespace Go.Proofs.YtonbelhklnmjnaaGreat
open Go
theorem QF:AU Tryz.prog cu QE 5000 10 [xP,xv7,x5e,Y3]=some (.ret [.agg [.i 3, .i 3, .sl [.agg [.i 1, .i 7, .sl []]]], .i 0]):=ah
theorem ado:aR Tryz.prog 10 [xP,xv7,x5e,Y3] (.ret [.agg [.i 3, .i 3, .sl [.agg [.i 1, .i 7, .sl []]]], .i 0]):=aR.pT mix pU QF
end Go.Proofs.YtonbelhklnmjnaaGreat
end
section
namespace Go.Proofs.YtonbelhklnmjnaaGreat
open Go
theorem QG:AU Tryz.prog cu QE 5000 10 [xP, .sl [],Y4,x6p]=some (.ret [.agg [.i 3, .i 3, .sl [.agg [.i 3, .i 2, .sl []]]], .i 0]):=ah
theorem adp:aR Tryz.prog 10 [xP, .sl [],Y4,x6p] (.ret [.agg [.i 3, .i 3, .sl [.agg [.i 3, .i 2, .sl []]]], .i 0]):=aR.pT mix pU QG
end Go.Proofs.YtonbelhklnmjnaaGreat
end
section
namespace Go.Proofs.YtonbelhklnmjnaaGreat
open Go
theorem QH:AU Tryz.prog cu QE 5000 10 [xP, .sl [],Y4,x6q]=some (.ret [.agg [.i 0, .i 0, .sl []], .i 7]):=ah
theorem adq:aR Tryz.prog 10 [xP, .sl [],Y4,x6q] (.ret [.agg [.i 0, .i 0, .sl []], .i 7]):=aR.pT mix pU QH
end Go.Proofs.YtonbelhklnmjnaaGreat
end
section
namespace Go.Proofs.YtonbelhklnmjnaaGreat
open Go
theorem QI:AU Tryz.prog cu QE 5000 11 [xP,Y3]=some (.ret [.sl [.i 1, .i 0], .i 9, .i 0]):=ah
theorem adr:aR Tryz.prog 11 [xP,Y3] (.ret [.sl [.i 1, .i 0], .i 9, .i 0]):=aR.pT mix pU QI
end Go.Proofs.YtonbelhklnmjnaaGreat
end
section
namespace Go.Proofs.YtonbelhklnmjnaaGreat
open Go
def aff:ri Tryz.prog:=ri.of XZ [(54,[xP], .ret [.i 0]),(42,[], .ret [xP]),(10,[xP,xv7,x5e,Y3], .ret [.agg [.i 3, .i 3, .sl [.agg [.i 1, .i 7, .sl []]]], .i 0]),(10,[xP, .sl [],Y4,x6p], .ret [.agg [.i 3, .i 3, .sl [.agg [.i 3, .i 2, .sl []]]], .i 0]),(10,[xP, .sl [],Y4,x6q], .ret [.agg [.i 0, .i 0, .sl []], .i 7]),(11,[xP,Y3], .ret [.sl [.i 1, .i 0], .i 9, .i 0])] (fun x h=>by
 simp only[List.mem_cons,List.not_mem_nil,or_false]at h
 rcases h with rfl|rfl|rfl|rfl|rfl|rfl
 ·exact adn
 ·exact afe
 ·exact ado
 ·exact adp
 ·exact adq
 ·exact adr
 )
theorem FQ:AU Tryz.prog cu aff 5000 9 []=some (.ret [.bool true]):=ah
theorem X4:aR Tryz.prog 9 [] (.ret [.bool true]):=aR.pT mix pU FQ
end Go.Proofs.YtonbelhklnmjnaaGreat
end
section
namespace Go.Proofs.YtonbelhklnmjnaaGreat
open Go.ChangeShapes Go.WideShapes Go.RowKit
set_option maxRecDepth 100000 in
theorem oZ(os:Os)(started:os.Started)(H:Type)(enc:TypeId×Value->H):
 ReturnsInHanded {} Tryz.checked os 3 .any (Rows.logicAcceptsSpec.pre6 enc Tryz.prog Tryz.f3 Rows.logicAcceptsRow.domain false) (Rows.logicAcceptsSpec.post enc Tryz.prog Tryz.f3 Rows.logicAcceptsRow.apart Rows.logicAcceptsRow.fresh Rows.logicAcceptsRow.handsOn Rows.logicAcceptsRow.again):=by
 refine returnsInHanded_of_change (C:=Tryz.checked) ah started ah Tryz.func3
  (ChangeSpec.witness6 (enc:=enc) (C:=Tryz.checked) false ⟨#[],#[.agg #[.slice none 0 0, .slice none 0 0, .slice none 0 0], .slice none 0 0, .agg #[.int .i64 0, .int .i64 0, .slice none 0 0], .agg #[.int .i64 0, .int .i64 0, .int .i64 0, .slice none 0 0, .int .i64 0, .slice none 0 0, .slice none 0 0]],[]⟩ 8 ah ah ah ah) ?_
 intro W base args ds gs before fV hW _ _
 refine Bh (T:=[27,24,22,104,9,3,25,106,28,31,29,35,33,32]) (tb:=4) ah ah rfl (fun ds h=>by match ds,h with|[_,_,_,_],_=>rfl) ah (by intro t ht;rw[Tryz.params3]at ht;simp at ht;rcases ht with rfl|rfl|rfl|rfl<;>simp) ah (by intro t ht;rw[Tryz.params3]at ht;simp at ht;rcases ht with rfl|rfl|rfl|rfl<;>exact⟨ah,of_decide_eq_true ah⟩)
  (fun xs hx=> ?_) base args ds gs before fV hW
 rw[Tryz.params3]at hx
 obtain⟨x0,xs,rfl,sr,hx⟩:=bG hx
 obtain⟨x1,xs,rfl,hx1,hx⟩:=bG hx
 obtain⟨x2,xs,rfl,hx2,hx⟩:=bG hx
 obtain⟨x3,xs,rfl,hx3,hx⟩:=bG hx
 have:=ki hx;subst this
 obtain⟨p0,rfl,X6⟩:=ae8 sr
 obtain⟨e1,rfl,he1⟩:=DM hx1
 obtain⟨t2,rfl,ht2⟩:=ac8 hx2
 obtain⟨f3,rfl,hf3⟩:=afd hx3
 exact xf X4 p0 e1 t2 f3 X6 he1 ht2 hf3
theorem logicAccepts_holds:Rows.LogicAcceptsSaid:=
 OpenClaim.holds_of_wide 3 Tryz.f3 rfl rfl rfl rfl rfl rfl rfl ⟨rfl,rfl,rfl,rfl,rfl⟩ rfl rfl rfl rfl rfl ah Tryz.func3 ah
  (of_decide_eq_true ah) (by unfold Func.isWrapper;first|(rw[if_pos (by decide+kernel)];kernel_rfl)|(rw[if_neg (by decide+kernel)];exact⟨rfl,rfl⟩))
  (fun os started H enc _=>oZ os started H enc)
end Go.Proofs.YtonbelhklnmjnaaGreat
end
