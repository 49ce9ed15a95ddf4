/-
  LogicPuts: at every call the law answers true, and leaves all memory as it was. Conditions: none.
-/
import Derived.Shelf.Sort.Plain
import Derived.Shelf.Slices.In.SortNone
import Derived.Test.YtonbelhklnmjnaaGreatRows
import Derived.Test.YtonbelhklnmjnaaGreatLp20
set_option linter.unusedSimpArgs false
set_option linter.unusedVariables false
namespace Go.Proofs.YtonbelhklnmjnaaGreat
theorem Z4{σ:Type}(l:List Int)(hl:l.length<=9223372036854775807)(g:Nat)(aI:List V)(base:Nat)(H:σ->Nat->ab)(step:σ->Int->σ×Bool)(hc:∀r∈V.aL aI,r<base)(ok:σ->Prop)(bn:∀x∈l,∀s,ok s->(step s x).2=true->ok (step s x).1)
 (h:∀x∈l,∀s,ok s->fT Tryz.prog g (.d (.i x)::aI) base (H s) (H (step s x).1) (.d (.bool (!(step s x).2)))) (s:σ) (gH:ok s):
 fT Tryz.prog 167 [.d (.sl (l.map D.i)), .func (.func g) [] aI] base (H s) (H (aB step s l).1) (.d (.i (l8 step s l 0))):=by
 intro o nx hI K X hK
 have fN:∀r∈V.aL aI,r<nx:=fun r hr=>Nat.lt_of_lt_of_le (hc r hr) hI.le
 refine cK.az mix Um ao ?_
 rw[Ys]
 refine b8 ?_
 refine aF (fun i:Nat×σ×(Nat->ab)×Nat=>⟨bp [.d (.sl (l.map D.i)), .func (.func g) [] aI, .aa, .aa, .aa, .aa, .aa, .d (.i l.length), .d (.i i.1)],i.2.2.1,i.2.2.2⟩)
  (fun i=>i.1<=l.length/\cQ base (H i.2.1) i.2.2.1 i.2.2.2/\nx<=i.2.2.2/\(∀id,base<=id->id<nx->i.2.2.1 id=o id)/\aB step s l=aB step i.2.1 (l.drop i.1)/\ok i.2.1/\l8 step s l 0=l8 step i.2.1 (l.drop i.1) i.1) (fun i=>l.length - i.1) (0,s,o,nx)
  ⟨Nat.zero_le _,hI,Nat.le_refl _,fun _ _ _=>rfl,rfl,gH,rfl⟩ ?_ ?_
 ·exact H4
 rintro⟨k,s',o',nx'⟩ ⟨hk,rL,hn,dE,hf,kP,pY⟩
 simp only at hk rL hn dE hf kP pY
 refine b8 ?_
 refine aj (fun h1=> ?_) (fun h1=> ?_)
 ·simp at h1
  obtain⟨x,hx⟩:=aq h1
  have cz:=List.mem_of_getElem? hx
  have hd:l.drop k=x::l.drop (k+1):=by
   exact H3
  rw[hd]at hf pY
  simp only[aB,l8]at hf pY
  refine HP hx ?_
  refine cU (h x cz s' kP _ _ (rL.mono ah) _ _ fun o2 n2 m1 m2 m3=> ?_)
  cases hb:(step s' x).2 with
  |true=>
   rw[hb]at hf pY
   simp only[if_true]at hf pY
   refine aS ?_
   have Dg:∀r∈V.aL aI,r<n2+1+1:=fun r hr=>by have:=fN r hr;omega
   exact V8
  |false=>
   exact O9
 ·exact Pb
theorem D1{σ:Type}(l:List Int)(hl:l.length<=9223372036854775807)(g:Nat)(aI:List V)(base:Nat)(H:σ->Nat->ab)(step:σ->Int->σ×Bool)(hc:∀r∈V.aL aI,r<base)(ok:σ->Prop)(bn:∀x∈l,∀s,ok s->(step s x).2=true->ok (step s x).1)
 (h:∀x∈l,∀s,ok s->fT Tryz.prog g (.d (.i x)::aI) base (H s) (H (step s x).1) (.d (.bool (!(step s x).2)))) (s:σ) (gH:ok s):
 fT Tryz.prog 126 [.d (.sl (l.map D.i)), .func (.func g) [] aI] base (H s) (H (aB step s l).1) (.d (.bool (!(aB step s l).2))):=by
 intro o nx hI K X hK
 have fN:∀r∈V.aL aI,r<nx:=fun r hr=>Nat.lt_of_lt_of_le (hc r hr) hI.le
 refine cK.az mix T1 ao ?_
 rw[X7]
 refine iO ?_
 refine bc (Z4 l hl g aI base H step hc ok bn h s gH _ _ ?_ _ _ fun o2 n2 m1 m2 m3=> ?_)
 ·exact BG
 refine iO ?_
 have e:decide (0<=l8 step s l 0)= !(aB step s l).2:=by
  have:=uA step l s 0 ah
  exact Pk
 rw[e]
 exact Kq
theorem aeP{x:Int}{g:Nat}{aI:List V}{base c bx:Nat}{h h2 O:Nat->ab}{r:Bool}(hS:fT Tryz.prog g (.d (.i x)::aI) base h h2 (.d (.bool r)))(hb:base<=bx)(Rx:bx<c)(hO:O bx= .row [.func (.func g) [] aI])(hc:∀r∈V.aL aI,r<base):
 fT Tryz.prog 127 [.d (.i x), .ptr bx 0] c (ext base h O) (ext base h2 O) (.d (.bool (!r))):=by
 intro o nx hI K X hK
 have hle:=hI.le
 have fN:∀r∈V.aL aI,r<nx:=fun r hr=>by have:=hc r hr;omega
 have ho:o bx= .row [.func (.func g) [] aI]:=by
  exact Ku
 have y1:∀k,bx≠nx+k:=fun k=>ah
 have y2:bx≠nx:=ah
 refine cK.az mix T2 ao ?_
 rw[X8]
 refine OS ho y1 y2 ?_
 refine cU ((hS.ext (by omega:base<=c) O) _ _ ?_ _ _ fun o2 n2 m1 m2 m3=> ?_)
 ·exact BG
 refine iO ?_
 exact Kq
theorem JP{σ:Type}(l:List Int)(hl:l.length<=9223372036854775807)(g:Nat)(aI:List V)(base:Nat)(H:σ->Nat->ab)(step:σ->Int->σ×Bool)(hc:∀r∈V.aL aI,r<base)(ok:σ->Prop)(bn:∀x∈l,∀s,ok s->(step s x).2=true->ok (step s x).1)
 (h:∀x∈l,∀s,ok s->fT Tryz.prog g (.d (.i x)::aI) base (H s) (H (step s x).1) (.d (.bool (step s x).2))) (s:σ) (gH:ok s):
 fT Tryz.prog 90 [.d (.sl (l.map D.i)), .func (.func g) [] aI] base (H s) (H (aB step s l).1) (.d (.bool (aB step s l).2)):=by
 intro o nx hI K X hK
 have hle:=hI.le
 have fN:∀r∈V.aL aI,r<nx:=fun r hr=>Nat.lt_of_lt_of_le (hc r hr) hI.le
 refine cK.az mix adi ao ?_
 rw[c90]
 refine iO ?_
 refine bc (D1 l hl 127 [.ptr nx 0] (nx+1) (fun s=>ext base (H s) (aK o nx (.row [.func (.func g) [] aI]))) step mT ok bn (fun x hx s hs=>aeP (h x hx s hs) hle ah (ad _ _ _) hc) s gH _ _ ?_ _ _ fun o2 n2 m1 m2 m3=> ?_)
 ·have hr:(ab.row [V.func (.func g) [] aI]).refs.all (fun r=>decide (r<nx+4))=true:=by
   rw[List.all_eq_true]
   intro r hr
   have h1:r∈V.aL aI:=by simpa[ab.refs,V.aL,V.refs]using hr
   have:=fN r h1
   simp;omega
  exact Ks
 refine iO ?_
 refine hK _ _ ah ⟨(m2.mono ah).bQ,by have:=m2.le;omega,fun id aC=> ?_⟩ fun id i1 i2=> ?_
 ·exact zM
 ·exact Kn
theorem Bm(l:List Int)(hl:l.length<=9223372036854775807)(g:Nat)(aI:List V)(base:Nat)(h:Nat->ab)(p:Int->Bool)(hc:∀r∈V.aL aI,r<base)
 (hp:∀x∈l,fT Tryz.prog g (.d (.i x)::aI) base h h (.d (.bool (p x)))):fT Tryz.prog 90 [.d (.sl (l.map D.i)), .func (.func g) [] aI] base h h (.d (.bool (l.all p))):=by
 have:=JP l hl g aI base (fun _:Unit=>h) (fun _ x=>((),p x)) hc (fun _=>True) (fun _ _ _ _ _=>trivial) (fun x hx _ _=>hp x hx) () trivial
 exact FZ
end Go.Proofs.YtonbelhklnmjnaaGreat
section
namespace Go.Proofs.YtonbelhklnmjnaaGreat
open Go.Sort Go.RowKit
def D2(P:Program)(g:FuncId):Prop:=∀ (eW off cap:Nat) (zs:List Int) (w:World),Holds (Value.int .i64) w eW off zs.toArray->eW<w.heap.size->zs.length<4611686018427387904->
    Calls P g #[.slice (some ⟨eW,off,none⟩) zs.length cap] w fun e w'=>
     e= .returned (.tuple #[])/\∃n os,w'=grow (putRow (Value.int .i64) (Sort.ahead w n) eW off (zs.mergeSort fun x y=>decide (x<=y)).toArray) os
def eC(l:List Int):List Int:=l.mergeSort fun x y=>decide (x<=y)
theorem HJ{B:Nat->Prop}{w:World}:∀ (zs:List Int) (xs:List Value),gL B w 1 (zs.map (D.int .i64)) xs↔xs=zs.map (Value.int .i64):=by
 have hd:∀ (zs:List Int) (evs:List Value),D.aM B w (zs.map (D.int .i64)) evs↔evs=zs.map (Value.int .i64):=by
  intro zs
  induction zs with
  |nil=>intro evs;simp[D.aM]
  |cons z zs ih=>
   intro evs
   simp only[List.map_cons,D.aM]
   constructor
   ·rintro⟨v,vs,rfl,h1,h2⟩
    rw[(ih vs).1 h2]
    simp only[D.den]at h1
    rw[h1]
   ·intro h
    exact⟨_,_,h,rfl,(ih _).2 rfl⟩
 have hf:∀zs:List Int,(zs.map (Value.int .i64)).flatMap (·.cells.toList)=zs.map (Value.int .i64):=by
  intro zs
  induction zs with
  |nil=>rfl
  |cons z zs ih=>simp only[List.map_cons,List.flatMap_cons,ih];rfl
 intro zs xs
 constructor
 ·rintro⟨evs,h1,h2,h3⟩
  rw[h1,(hd zs evs).1 h3,hf]
 ·intro h
  subst h
  exact⟨_,(hf zs).symm,fun ev dM=>by
   obtain⟨z,_,rfl⟩:=List.mem_map.1 dM
   rfl,(hd zs _).2 rfl⟩
theorem Oq{P:Program}{g:FuncId}(hE:Enters P g)(hS:D2 P g){o:Nat->ab}{nx id ep:Nat}{ty:TypeId}{zs:List Int}(ho:o id= .arr ep ty 1 (zs.map (D.int .i64)))
 (hn:∀p cap w,Calls P g #[.slice p 0 cap] w fun e w'=>e= .returned (.tuple #[])/\w'=w)
 (hlen:zs.length<4611686018427387904) {K X:V->(Nat->ab)->Nat->Prop} (hK:K (.cg []) (aK o id (.arr ep ty 1 ((eC zs).map (D.int .i64)))) nx):cK P g [.osl id ep] o nx K X:=by
 refine⟨hE,fun M φ w vals hH hd=> ?_⟩
 obtain⟨val,us,qe,⟨v0,v1,v2⟩,fS⟩:=hd
 have fS:us=[]:=fS
 subst fS
 have gu:val=φ id:=(v2 ep (by show(o id).cA=some ep;rw[ho];rfl)).2 rfl
 have hvs:vals=#[φ id]:=by rw[<- gu];exact Array.ext' (by simpa using qe)
 subst hvs
 have Mn:=hH.ok id
 unfold aX at Mn
 rw[show(hp o nx).o id= .arr ep ty 1 (zs.map (D.int .i64))from ho]at Mn
 obtain⟨_,xs,eI,cq⟩:=Mn
 have Ea:=(HJ zs xs).1 cq
 subst Ea
 simp only[List.length_map]at eI
 obtain⟨hl,WD|⟨b,cap,cur,fk,_,hg,fN,Ez,hcs,aeQ⟩⟩:=eI
 ·obtain⟨h1,h2⟩:=WD
  have hz:zs=[]:=List.length_eq_zero_iff.1 h2
  subst hz
  rw[h1]
  refine(hn none 0 w).mono ?_
  rintro e w' ⟨rfl,rfl⟩
  have LM:aK o id (.arr ep ty 1 ((eC []).map (D.int .i64)))=o:=by
   funext j
   by_cases e:j=id
   ·subst e;rw[ad,ho,show eC []=[] by simp[eC]]
   ·rw[ak _ _ _ _ e]
  rw[LM]at hK
  exact⟨φ,o,nx, .cg [],hH,Trans.refl _ _ _,⟨#[],rfl,rfl⟩,hK⟩
 ·rw[fk]
  have hb:b<w.heap.size:=(Array.getElem?_eq_some_iff.1 hg).1
  have aeR:∀j,j<zs.length->cur[j]? =some (.int .i64 zs[j]!):=by
   intro j hj
   have h1:(cur.toList.take (zs.length*1))[j]? =(zs.map (Value.int .i64))[j]? :=by rw[aeQ]
   rw[List.getElem?_take_of_lt (by omega),List.getElem?_map,List.getElem?_eq_getElem hj]at h1
   simp only[Option.map_some]at h1
   rw[getElem!_pos zs j hj]
   simpa using h1
  refine(hS b 0 cap zs w (fun j hj=> ?_) hb hlen).mono ?_
  ·simp only[List.size_toArray]at hj
   refine⟨?_, ?_⟩
   ·unfold World.cell?
    simp only[hg,Option.isSome_none,Bool.false_eq_true,if_false,Nat.zero_add]
    rw[aeR j hj];simp
   ·unfold World.frozen?
    simp[hg]
  rintro e w' ⟨rfl,n,os,rfl⟩
  have Xw:(eC zs).length=zs.length:=List.length_mergeSort zs
  have G2:∀k,k<w.heap.size->(grow (putRow (Value.int .i64) (Sort.ahead w n) b 0 (eC zs).toArray) os).heap[k]? =(w.heap.modify b (onCells (putCells (Value.int .i64) 0 (eC zs).toArray)))[k]? :=by
   intro k hk
   unfold grow putRow mapBlock Sort.ahead
   simp only
   rw[Array.getElem?_append_left (by simpa using hk)]
  have yo:eT (· =b) w (grow (putRow (Value.int .i64) (Sort.ahead w n) b 0 (eC zs).toArray) os):=by
   refine⟨rfl,rfl,rfl, ?_,fun k hk ik=> ?_⟩
   ·unfold grow putRow mapBlock Sort.ahead;simp
   ·rw[G2 k hk,Array.getElem?_modify,if_neg (fun e=>ik e.symm)]
  have c0:((hp o nx).o id).live=true:=by show(o id).live=true;rw[ho];rfl
  have IG:eW (φ id)=some b:=by rw[fk];rfl
  have WC:(grow (putRow (Value.int .i64) (Sort.ahead w n) b 0 (eC zs).toArray) os).heap[b]? =some (.cells (putCells (Value.int .i64) 0 (eC zs).toArray cur) ty (0,0)):=by
   rw[G2 b hb,Array.getElem?_modify,if_pos rfl,hg];rfl
  have lz:(hp o nx).put [(id, .arr ep ty 1 ((eC zs).map (D.int .i64)))]=hp (aK o id (.arr ep ty 1 ((eC zs).map (D.int .i64)))) nx:=by
   have fS:id<nx:=v1
   simp only[Hp.put,hp]
   congr 1
   funext j
   simp only[List.map_cons,List.map_nil,List.mem_singleton,eq_iff_iff]
   exact⟨fun h=>h.elim (fun h=>h) (fun e=>e ▸ fS), .inl⟩
  have uU:aX M φ ((hp o nx).put [(id, .arr ep ty 1 ((eC zs).map (D.int .i64)))]) (grow (putRow (Value.int .i64) (Sort.ahead w n) b 0 (eC zs).toArray) os) id:=by
   unfold aX
   rw[show((hp o nx).put [(id, .arr ep ty 1 ((eC zs).map (D.int .i64)))]).o id= .arr ep ty 1 ((eC zs).map (D.int .i64)) by simp]
   refine⟨bE,(eC zs).map (Value.int .i64), ?_,(HJ _ _).2 rfl⟩
   simp only[List.length_map,Xw]
   refine⟨by simp[Xw], .inr ⟨b,cap,_,fk,Nat.zero_le _,WC,fN,Ez, ?_, ?_⟩⟩
   ·unfold putCells;simpa using hcs
   ·apply List.ext_getElem?
    intro j
    by_cases hj:j<zs.length
    ·rw[List.getElem?_take_of_lt (by omega),List.getElem?_map,List.getElem?_eq_getElem (l:=eC zs) (by omega)]
     have hj2:j<cur.size:=ah
     unfold putCells
     simp only[Array.getElem?_toList,Array.getElem?_mapIdx,Option.map_some]
     rw[Array.getElem?_eq_getElem hj2]
     simp only[Option.map_some,Nat.zero_le,true_and,Nat.zero_add,List.size_toArray,Nat.sub_zero]
     rw[if_pos (by omega)]
     rw[getElem!_pos _ j (by simp;omega)]
     simp
    ·rw[List.getElem?_eq_none (by rw[List.length_take,Nat.mul_one];exact Nat.le_trans (Nat.min_le_left _ _) (Nat.not_lt.1 hj)),List.getElem?_eq_none (by rw[List.length_map,Xw];exact Nat.not_lt.1 hj)]
  have VE:=iX hH (id:=id) v1 c0 IG yo (.arr ep ty 1 ((eC zs).map (D.int .i64))) O7 O7 uU
  have TJ:=fw (φ:=φ) (H:=hp o nx) (id:=id) v1 c0 IG yo (.arr ep ty 1 ((eC zs).map (D.int .i64))) O7 O7
  rw[lz]at VE TJ
  exact⟨φ,_,nx, .cg [],VE,TJ,⟨#[],rfl,rfl⟩,hK⟩
end Go.Proofs.YtonbelhklnmjnaaGreat
end
section
namespace Go.Proofs.YtonbelhklnmjnaaGreat
open Go.Shelf
def D3:Go.Shelf.Ren:=⟨fun|189=>125|125=>166|257=>165|128=>216|129=>217|294=>207|295=>208|296=>209|297=>210|298=>211|299=>212|216=>213|300=>214|301=>215|328=>248|329=>249|330=>250|331=>251|332=>252|215=>253|343=>260|n=>n,fun|28=>41|3=>3|46=>172|0=>0|51=>206|53=>208|4=>4|183=>198|182=>197|131=>203|5=>5|9=>9|218=>220|222=>137|228=>227|229=>228|n=>n,fun|n=>n⟩
theorem HK:Go.Proofs.Lays.n189 Tryz.prog D3:={
 mixed:=af
 f125:=Tryz.func166.trans (congrArg some af)
 f128:=Tryz.func216.trans (congrArg some af)
 f129:=Tryz.func217.trans (congrArg some af)
 f189:=Tryz.func125.trans (congrArg some af)
 f215:=Tryz.func253.trans (congrArg some af)
 f216:=Tryz.func213.trans (congrArg some af)
 f257:=Tryz.func165.trans (congrArg some af)
 f294:=Tryz.func207.trans (congrArg some af)
 f295:=Tryz.func208.trans (congrArg some af)
 f296:=Tryz.func209.trans (congrArg some af)
 f297:=Tryz.func210.trans (congrArg some af)
 f298:=Tryz.func211.trans (congrArg some af)
 f299:=Tryz.func212.trans (congrArg some af)
 f300:=Tryz.func214.trans (congrArg some af)
 f301:=Tryz.func215.trans (congrArg some af)
 f328:=Tryz.func248.trans (congrArg some af)
 f329:=Tryz.func249.trans (congrArg some af)
 f330:=Tryz.func250.trans (congrArg some af)
 f331:=Tryz.func251.trans (congrArg some af)
 f332:=Tryz.func252.trans (congrArg some af)
 f343:=Tryz.func260.trans (congrArg some af)
 t0:=Tryz.underlying0
 a0:=Tryz.isAgg0
 z0:=Tryz.sizeOf0
 v0:=Tryz.zeroValue0
 t3:=Tryz.underlying3
 a3:=Tryz.isAgg3
 z3:=Tryz.sizeOf3
 v3:=Tryz.zeroValue3
 t4:=Tryz.underlying4
 a4:=Tryz.isAgg4
 z4:=Tryz.sizeOf4
 v4:=Tryz.zeroValue4
 t5:=Tryz.underlying5
 a5:=Tryz.isAgg5
 z5:=Tryz.sizeOf5
 v5:=Tryz.zeroValue5
 t9:=Tryz.underlying9
 a9:=Tryz.isAgg9
 z9:=Tryz.sizeOf9
 v9:=Tryz.zeroValue9
 t28:=Tryz.underlying41
 a28:=Tryz.isAgg41
 z28:=Tryz.sizeOf41
 v28:=Tryz.zeroValue41
 t46:=Tryz.underlying172
 a46:=Tryz.isAgg172
 z46:=Tryz.sizeOf172
 v46:=Tryz.zeroValue172
 t51:=Tryz.underlying206
 a51:=Tryz.isAgg206
 z51:=Tryz.sizeOf206
 v51:=Tryz.zeroValue206
 t53:=Tryz.underlying208
 a53:=Tryz.isAgg208
 z53:=Tryz.sizeOf208
 v53:=Tryz.zeroValue208
 t131:=Tryz.underlying203
 a131:=Tryz.isAgg203
 z131:=Tryz.sizeOf203
 v131:=Tryz.zeroValue203
 t182:=Tryz.underlying197
 a182:=Tryz.isAgg197
 z182:=Tryz.sizeOf197
 v182:=Tryz.zeroValue197
 t183:=Tryz.underlying198
 a183:=Tryz.isAgg198
 z183:=Tryz.sizeOf198
 v183:=Tryz.zeroValue198
 t218:=Tryz.underlying220
 a218:=Tryz.isAgg220
 z218:=Tryz.sizeOf220
 v218:=Tryz.zeroValue220
 t222:=Tryz.underlying137
 a222:=Tryz.isAgg137
 z222:=Tryz.sizeOf137
 v222:=Tryz.zeroValue137
 t228:=Tryz.underlying227
 a228:=Tryz.isAgg227
 z228:=Tryz.sizeOf227
 v228:=Tryz.zeroValue227
 t229:=Tryz.underlying228
 a229:=Tryz.isAgg228
 z229:=Tryz.sizeOf228
 v229:=Tryz.zeroValue228}
theorem JQ:D2 Tryz.prog 125:=fun eW off cap zs w h1 h2 h3=>Any.slices_Sort_int HK eW off cap zs w h1 h2 h3
theorem JR:∀ (p:Option Addr) (cap:Nat) (w:World),Calls Tryz.prog 125 #[.slice p 0 cap] w fun e w'=>e= .returned (.tuple #[])/\w'=w:=fun p cap w=>Any.slices_Sort_int_none HK p cap w
theorem D4:Enters Tryz.prog 125:=⟨_,Tryz.func125,af,af⟩
end Go.Proofs.YtonbelhklnmjnaaGreat
end
namespace Go.Proofs.YtonbelhklnmjnaaGreat
theorem Ot(t:Tm)(ht:t.fits)(o:Nat->ab)(nx:Nat)(hg:Good o nx)(K X:V->(Nat->ab)->Nat->Prop)
 (hK:∀o' nx' id l,nx<=id->id<nx'->Good o' nx'->(∀j,j<nx->o' j=o j)->o' id=tZ l->l.Nodup->(∀v,v∈l↔sG v t=true)->K (.mp id) o' nx'):
 cK Tryz.prog 124 [.d t.d] o nx K X:=by
 refine cK.az mix T0 ao ?_
 rw[X6]
 refine iO ?_
 refine c7 (ZI t ht _ _ (nx+2) [] ?_ ?_ List.nodup_nil _ _ fun o2 n2 l m1 m2 m3 m4 m5=> ?_)
 ·exact dB
 ·exact dU
 refine aS ?_
 refine hK _ _ (nx+2) l ?_ ?_ ?_ (fun j hj=> ?_) m4 m5.1 (fun v=> ?_)
 ·omega
 ·omega
 ·exact m2.mono ah
 ·rw[m3 j (by omega) (by omega)];(repeat(first|rfl|rw[ad]|rw[ak _ _ _ _ (by omega)]))
 ·have:=m5.2 v
  simpa using this
theorem D5{l:List Int}{t:Tm}(hn:l.Nodup)(h:∀v,v∈l↔sG v t=true):eC l=bM t:=by
 have hp:(eC l).Perm l:=List.mergeSort_perm _ _
 have hs:(eC l).Pairwise (fun a b=>decide (a<=b)=true):=List.pairwise_mergeSort (fun a b c h1 h2=>by simp at*;omega) (fun a b=>by simp;omega) l
 have hnd:(eC l).Nodup:=hp.nodup_iff.2 hn
 refine Nt ?_ (dO t).1 fun v=>by rw[hp.mem_iff,h v,(dO t).2 v]
 exact(hs.and hnd).imp fun {a b} h=>by have:=h.1;have:=h.2;simp at*;omega
theorem Z5(s:aO)(hs:s.Fits)(t:Tm)(ht:t.Fin):aR Tryz.prog 89 [s.d,t.d] (.ret [.sl (if cV s [t]=true then(bM t).map .i else []), .i (mL (cV s [t]))]):=by
 refine aR.az mix adh ao ?_
 rw[c89]
 refine aS ?_
 refine ai (AV s hs [t] ao (fun x hx=>by simp at hx;subst hx;exact ht)) rfl ?_
 cases h1:cV s [t]with
 |false=>exact HS
 |true=>
  refine aS ?_
  refine c7 (Ot t ht.fits _ _ dB _ _ fun o2 n2 id l m1 m2 m3 m4 m5 m6 m7=> ?_)
  have w1:id≠n2:=ah
  have w2:∀k,id≠n2+k:=fun k=>ah
  refine OS m5 w1 w2 ?_
  have ag6:=D5 m6 m7
  have hlen:l.length<=40:=by
   have e1:(eC l).length=l.length:=List.length_mergeSort l
   have e2:=jk t
   have e3:=(Js h1 t ao).1
   rw[<- ag6]at e2;omega
  refine aF (fun i:List Int×List Int×Option (D×D)=>⟨bp [.aa, .aa, .aa, .aa, .aa, .aa, .osl (n2+1) 0, .aa, .aa, .aa, .aa, .aa, .aa, .aa, .aa, .ptr n2 0],aK (aK (fun _=> .no) n2 (.nh (enc (D.int .i64) (iH i.1)) i.2.2)) (n2+1) (.arr 0 3 1 (i.2.1.map .i)),n2+2⟩)
   (fun i=>i.1.length+i.2.1.length<=40/\(i.2.1++i.1).Perm l) (fun i=>i.1.length) (l,[],none) ⟨by simpa using hlen,ao⟩ (bJ.oP (fun _=>False) .br (n2+1) _ ah (fun j hj=> ?_) abr (.inl ⟨rfl,rfl,bE⟩) (fun j hj=>by dsimp only;(repeat(first|rfl|rw[ad]|rw[ak _ _ _ _ (by omega)]))) (fun _ h=>h.elim) ?_) ?_
  ·dsimp only
   have ne:j≠n2+1:=ah
   simp only[aQ,ne,if_false]
   split
   ·exact cn rfl (by simp[ab.refs])
   ·exact G1
  ·try dsimp only
   exact ud
  rintro⟨rest,VF,last⟩ ⟨hl,hp⟩
  simp only at hl hp
  refine aS ?_
  refine zd (fun hr=> ?_) fun i m hm=> ?_
  ·subst hr
   refine iO ?_
   have hp':VF.Perm l:=by simpa using hp
   have hsd:eC VF=bM t:=D5 (hp'.nodup_iff.2 m6) fun v=>by rw[hp'.mem_iff,m7 v]
   refine c7 (Oq D4 JQ (zs:=VF) dU JR ah ?_)
   refine iO ?_
   rw[hsd]
   simp[mL]
  ·have e1:VF.length<=140737488355328:=ah
   have e2:VF.length*8<=140737488355328:=ah
   have e3:VF.length<=140737488355327:=ah
   have e4:(VF.length+1)*8<=140737488355328:=ah
   simp+contextual (disch:=first|omega|simp only[go_sem,false_implies]) only[go_sem,wrap64,if_pos,Nat.add_assoc,Nat.left_eq_add,Nat.add_eq_left,Nat.add_left_cancel_iff,e1,e2,e3,e4]
   obtain⟨r1,r2⟩:=wc hm
   have J3:(rest.eraseIdx i).length+1=rest.length:=r2
   refine au (rest.eraseIdx i,VF++[m],some (.int .i64 m, .bool true)) ⟨by dsimp only;simp;omega, ?_⟩ oN (bJ.oP (fun j=>j=n2+1) (.osl (n2+1) 1) (n2+1) _ ah (fun j hj=> ?_) abr (.inr ⟨n2+1,1,rfl,rfl,by rw[ad,List.map_append];rfl⟩) (fun j hj=>by dsimp only;(repeat(first|rfl|rw[ad]|rw[ak _ _ _ _ (by omega)]))) (fun j h h2=>ah) ?_)
   ·dsimp only
    refine List.Perm.trans ?_ hp
    rw[List.append_assoc]
    refine List.Perm.append_left _ ?_
    exact FC hm
   ·dsimp only
    have ne:j≠n2+1:=ah
    have ne9:j≠n2+9:=ah
    simp only[aQ,ne,ne9,if_false]
    split
    ·exact cn rfl (by simp[ab.refs])
    ·exact G1
   ·try dsimp only
    exact ud
end Go.Proofs.YtonbelhklnmjnaaGreat
namespace Go.Proofs.YtonbelhklnmjnaaGreat
theorem Ou(env:List Tm)(hl:env.length<=9223372036854775807)(n:Int)(base sp:Nat)(h:Nat->ab)(uX:h sp= .row [.d (.sl (env.map Tm.d))])(hb:sp<base):fT Tryz.prog 91 [.d (.i n), .ptr sp 0] base h h (.d (.bool (decide (n<env.length)))):=by
 intro o nx hI K X hK
 have hle:=hI.le
 have hg:=hI.bQ
 have q0:o sp= .row [.d (.sl (env.map Tm.d))]:=by rw[hI.eq sp hb,uX]
 refine cK.az mix adj ao ?_
 rw[c91]
 refine et q0 ?_
 exact hK _ _ ah ⟨dB,ah,fun j hj=>hI.eq j hj⟩ (fun j g1 g2=>rfl)
def Bn(p:Pg)(env:List Tm)(e:Tm)(f:Pf):Bool:=((nZ p&&jS p.sig env)&&mP p.sig f)&&(cV p.sig [e]&&(bM e).all fun n=>decide (n<(env.length:Int)))
theorem Ov(p:Pg)(hp:p.Fin)(env:List Tm)(hl:env.length<=9223372036854775807)(hv:∀t∈env,t.fits)(e:Tm)(he:e.yU)(f:Pf)(hf:f.fits)(hd:f.iN<=900000):
 aR Tryz.prog 51 [p.d, .sl (env.map Tm.d),e.d,f.d] (.ret [.bool (Bn p env e f)]):=by
 have WA:=jk e
 have hz:=he.size
 rw[Tm.l0]at hz
 refine aR.az mix ac3 ao ?_
 rw[c51,Bn]
 refine aS ?_
 refine ai (Dy p hp) rfl ?_
 cases h1:nZ p with
 |false=>exact VK
 |true=>
 refine zF ?_
 refine ai (Nr p.sig hp.sig env hl hv) rfl ?_
 cases h2:jS p.sig env with
 |false=>exact gK
 |true=>
 refine aS ?_
 refine ai (pT p hp f hf hd) rfl ?_
 cases h3:mP p.sig f with
 |false=>exact gK
 |true=>
 refine aS ?_
 refine aP (Z5 p.sig hp.sig e he.toFin) ?_
 cases h4:cV p.sig [e]with
 |false=>exact VK
 |true=>
 refine zF ?_
 refine bc (Bm (bM e) ah 91 [.ptr 1 0] 4 (aK (aK (aK (aK (fun _=> .no) 0 (.row p.row)) 1 (.row [.d (.sl (env.map Tm.d))])) 2 (.row e.row)) 3 (.row f.row)) (fun n=>decide (n<(env.length:Int))) mT (fun x hx=>Ou env hl x 4 1 _ dU ah) _ _ ⟨dB,ah,fun id aC=>rfl⟩ _ _ fun o2 n2 m1 m2 m3=> ?_)
 exact gK
section
structure fE (p:Pg) (env:List Tm) (e:Tm) (f:Pf):Prop where
 pf:p.Fits
 ps:gB p=true
 vf:∀t∈env,t.fits
 vs:dA env=true
 ef:e.fits
 es:iE e=true
 ff:f.fits
 fs:iJ f=true
section
variable {p:Pg}{env:List Tm}{e:Tm}{f:Pf}
theorem fE.few (h:fE p env e f):p.Fw:=JA h.pf h.ps
theorem fE.fin (h:fE p env e f):p.Fin:=(zr h.pf h.ps).1
theorem fE.prog (h:fE p env e f):nZ p=gk p:=QS p (zr h.pf h.ps).2
theorem fE.aeS (h:fE p env e f):env.length<=25:=by have:=h.vs;simp only[dA,Bool.and_eq_true,decide_eq_true_eq]at this;exact this.1
theorem fE.ag7 (h:fE p env e f):e.yU:=Tm.yU.MZ h.ef h.es
theorem fE.fsz (h:fE p env e f):f.sh.sz<=520/\f.iN<=160:=by
 have:=h.fs
 simp only[iJ,Bool.and_eq_true,decide_eq_true_eq,dv,FH]at this
 omega
end
theorem HL{l:List Int}(hi:OR l)(n:Int):(l.all fun v=>decide (v<n))=(l.length==0||decide (l.getLast?.getD 0<n)):=by
 cases hl:l.getLast? with
 |none=>rw[List.getLast?_eq_none_iff]at hl;subst hl;rfl
 |some y=>
  have ik:l≠[]:=by intro h;subst h;cases hl
  have hlen:(l.length==0)=false:=by simpa using ik
  rw[hlen,Bool.false_or,Option.getD_some,Bool.eq_iff_iff,List.all_eq_true,decide_eq_true_eq]
  constructor
  ·intro h;simpa using h y (List.mem_of_getLast? hl)
  ·intro h v hv
   rw[decide_eq_true_eq]
   rw[List.getLast?_eq_getElem?]at hl
   obtain⟨i,Wx,e⟩:=List.getElem_of_mem hv
   obtain⟨h1,h2⟩:=List.getElem?_eq_some_iff.1 hl
   by_cases hc:i=l.length - 1
   ·subst hc;rw[h2]at e;omega
   ·have:=(List.pairwise_iff_getElem.1 hi) i (l.length - 1) Wx h1 ah
    rw[e,h2]at this;omega
theorem Ow{p:Pg}{env:List Tm}{e:Tm}{f:Pf}(h:fE p env e f):Bn p env e f=(gk p&&dS p.sig f&&ju p.sig env e):=by
 unfold Bn ju
 rw[h.prog,uD]
 cases h1:gk p with
 |false=>rfl
 |true=>
  have hsg:kE p.sig=true:=by simp only[gk,Bool.and_eq_true]at h1;exact h1.1.1
  have hr:cV p.sig [e]=ei p.sig e:=by unfold cV;simp[hsg,pR]
  rw[hr,HL (dO e).1]
  cases jS p.sig env<;>cases dS p.sig f<;>cases ei p.sig e<;>simp
structure aeT (p:Pg) (env:List Tm) (e:Tm) (f:Pf):Prop where
 prog:kK p
 few:p.Fw
 ev:dP p.sig env
 exp:cW p.sig env.length e
 pf:ph p.sig f
theorem JS{s:aO}{t:Tm}(h:eL s t=true):∀v,sG v t=true->0<=v:=by
 have key:∀t:Tm,eL s t=true->∀v,sG v t=true->0<=v:=by
  refine Tm.bW fun t ih h v hv=> ?_
  rw[dG,Bool.and_eq_true,List.all_eq_true]at h
  rw[gU]at hv
  by_cases h1:t.op=1
  ·rw[if_pos h1]at hv
   have e:t.n=v:=by simpa using hv
   have hn:=h.1
   simp[bz,h1,cF]at hn
   omega
  ·rw[if_neg h1]at hv
   have:∀ (l:List Tm) (i:Nat),(∀k∈l,k∈t.kids)->im v t.op t.n l i=true->0<=v:=by
    intro l
    induction l with
    |nil=>intro i _ h;simp[im]at h
    |cons k l mX=>
     intro i hk hv
     simp only[im,Bool.or_eq_true,Bool.and_eq_true]at hv
     rcases hv with hv|hv
     ·exact ih k (hk k ao) (h.2 k (hk k ao)) v hv.1
     ·exact mX _ (fun x hx=>hk x lJ) hv
   exact this t.kids 0 (fun _ h=>h) hv
 exact key t h
theorem Z6{p:Pg}{env:List Tm}{e:Tm}{f:Pf}(h:fE p env e f)(h1:gk p=true)(h2:dS p.sig f=true)(h3:ju p.sig env e=true):aeT p env e f:=by
 simp only[ju,Bool.and_eq_true]at h3
 obtain⟨⟨a,b⟩,c⟩:=h3
 simp only[dS,Bool.and_eq_true]at h2
 refine⟨⟨h.fin,h1⟩,h.few,NC h.vf a,⟨h.ef,jm b,fun v hv=>⟨JS (jm b) v hv, ?_⟩⟩,⟨h.ff,h2.2,by have:=h.fsz;omega⟩⟩
 rw[<- HL (dO e).1,List.all_eq_true]at c
 simpa using c v (((dO e).2 v).2 hv)
def Ox(p:Pg)(env:List Tm)(e:Tm)(f:Pf):Tm×Int:=if(gk p&&dS p.sig f&&ju p.sig env e)=true then(if bd p f env e=true then(f.val,0)else(Q6,7))else(Q6,2)
theorem D6{p:Pg}{env:List Tm}{e:Tm}{f:Pf}(h:fE p env e f):aR Tryz.prog 10 [p.d, .sl (env.map Tm.d),e.d,f.d] (.ret [(Ox p env e f).1.d, .i (Ox p env e f).2]):=by
 have WA:=h.aeS
 have hg:=Ov p h.fin env ah h.vf e h.ag7 f h.ff (by have:=h.fsz;omega)
 rw[Ow h]at hg
 refine aR.az mix acZ ao ?_
 rw[c10,Ox]
 refine aS ?_
 refine ai hg rfl ?_
 cases h1:(gk p&&dS p.sig f&&ju p.sig env e)with
 |false=>
  rw[if_neg Bool.false_ne_true,Bg]
  exact gK
 |true=>
 rw[if_pos rfl]
 have cH:=h1
 simp only[Bool.and_eq_true]at cH
 have ok:=Z6 h cH.1.1 cH.1.2 cH.2
 refine aS ?_
 refine c7 (JO ok.prog ok.few f ok.pf env ok.ev e ok.exp _ _ dB _ _ fun o1 n1 g1 g2 g3=> ?_)
 have q2:o1 2= .row f.row:=by
  rw[g3 2 (by omega)]
  exact dU
 have q3:o1 3= .row [.d (.i 0), .d (.i 0), .br]:=by
  rw[g3 3 (by omega)]
  exact dU
 cases h2:bd p f env e with
 |false=>
  rw[if_neg Bool.false_ne_true,Bg]
  exact zH q3
 |true=>
 rw[if_pos rfl]
 have hz:=ok.pf.val.2.1
 have h20:3<n1:=ah
 have y1:∀k,3≠n1+k:=fun k=>ah
 refine OS q2 q3 y1 ?_
 refine aP (DY [f.val] ao qb) ?_
 simp+contextual (disch:=first|omega|simp only[go_sem,false_implies]) only[go_sem,wrap64,if_pos,q2,q3,Nat.add_assoc,Nat.left_eq_add,Nat.add_eq_left,Nat.add_left_cancel_iff,y1]
end
theorem wM{s:aO}{t:Tm}(h:p8 s t=true):da t=true:=by
 simp only[p8,Bool.and_eq_true,decide_eq_true_eq,dv]at h
 simp only[da,decide_eq_true_eq,dv]
 omega
theorem Oy(p:Pg)(hp:p.Fw):aR Tryz.prog 12 [p.d] (.ret [.bool (gk p)]):=by
 refine aR.az mix afZ ao ?_
 rw[c12]
 refine aS ?_
 refine ai (QY p hp) rfl ?_
 exact gK
theorem FU(p:Pg)(hp:p.Fits):aR Tryz.prog 39 [p.d] (.ret [.bool (gB p)]):=by
 refine aR.az mix age ao ?_
 rw[c39]
 refine aS ?_
 refine ai (Jz p hp) rfl ?_
 exact gK
def wN(p:Pg)(env:List Tm)(e:Tm)(f:Pf):Bool:=gB p&&dA env&&iE e&&iJ f
theorem Rm(p:Pg)(env:List Tm)(e:Tm)(f:Pf)(hp:p.Fits)(hl:env.length<=9223372036854775807)(hv:∀t∈env,t.fits)(he:e.fits)(hf:f.fits):aR Tryz.prog 8 [p.d, .sl (env.map Tm.d),e.d,f.d] (.ret [.bool (wN p env e f)]):=by
 refine aR.az mix fn8 ao ?_
 rw[c8,wN]
 refine aS ?_
 refine ai (FU p hp) rfl ?_
 cases h1:gB p with
 |false=>exact gK
 |true=>
 refine aS ?_
 refine ai (DT env hl hv) rfl ?_
 cases h2:dA env with
 |false=>exact gK
 |true=>
 refine aS ?_
 refine ai (AR e he) rfl ?_
 cases h3:iE e with
 |false=>exact gK
 |true=>
 refine aS ?_
 refine ai (zx f hf) rfl ?_
 exact gK
theorem aeU{p:Pg}{env:List Tm}{e:Tm}{f:Pf}(hp:p.Fits)(hv:∀t∈env,t.fits)(he:e.fits)(hf:f.fits)(h:wN p env e f=true):fE p env e f:=by
 simp only[wN,Bool.and_eq_true]at h
 exact⟨hp,h.1.1.1,hv,h.1.1.2,he,h.1.2,hf,h.2⟩
theorem fE.val {p:Pg}{env:List Tm}{e:Tm}{f:Pf}(h:fE p env e f):da f.val=true:=by
 have:=h.fs
 simp only[iJ,Bool.and_eq_true]at this
 have:=this.2
 rw[oh]at this
 simp only[Bool.and_eq_true]at this
 exact this.1.1
theorem Pf.m9 (r:Int)(v:Tm)(n:Int)(b:List Tm)(ks:List Pf):(Pf.mk r v n b ks).d= .agg [.i r, .i v.op, .i v.n, .sl (v.kids.map Tm.d), .i n, .sl (b.map Tm.d), .sl (ks.map Pf.d)]:=by rw[Pf.E8];rfl
def iK:List TB->Int->Option Tm
 |[],_=>none
 |b::l,n=>if b.var=n then some b.term else iK l n
theorem wO(a b:List TB)(n:Int)(h:∀x∈a,x.var≠n):iK (a++b) n=iK b n:=by
 induction a with
 |nil=>rfl
 |cons x a ih=>rw[List.cons_append,iK,if_neg (h x (by simp)),ih fun y hy=>h y (by simp[hy])]
theorem D7{l:List TB}{n:Int}(h:∀x∈l,x.var≠n):iK l n=none:=by
 have:=wO l [] n h
 rwa [List.append_nil]at this
theorem Bo(l:List TB)(hl:l.length<=1000000):∀t:Tm,t.fits->t.sz<=1000000->aR Tryz.prog 37 [t.d, .sl (l.map TB.d)] (.ret [(bO (iK l) t).d]):=by
 refine Tm.bW fun t ih hf hz=> ?_
 have dR:=(Tm.aH _).1 hf
 have s5:=Tm.ig t
 refine aR.az mix agd ao ?_
 rw[c37,dT]
 by_cases h1:t.op=1
 ·have cH:(t.op==1)=true:=by simpa using h1
  rw[if_pos h1]
  refine dc cH ?_
  refine aF (fun i:Nat=>⟨bp [.aa, .d (.sl (l.map TB.d)), .ptr 0 0, .aa, .ptr 1 0, .d (.i i)],aK (aK (fun _=> .no) 0 (.row t.row)) 1 (.row [.d (.i 0), .d (.i 0), .br]),2⟩)
   (fun i=>i<=l.length/\∀x∈l.take i,x.var≠t.n) (fun i=>l.length - i) 0 ⟨Nat.zero_le _,ao⟩ ?_ fun k hk=> ?_
  ·exact Pj
  refine gD ?_
  refine aj (fun h2=> ?_) (fun h2=> ?_)
  ·simp at h2
   obtain⟨x,hx⟩:=aq h2
   refine et hx ?_
   refine aD (aZ rfl) ?_
   have sS:l.take (k+1)=l.take k++[x]:=by rw[List.take_add_one,hx];rfl
   have hd:l=l.take k++x::l.drop (k+1):=by
    have hdk:l.drop k=x::l.drop (k+1):=by
     exact Sn
    conv=>lhs;rw[<- List.take_append_drop k l,hdk]
   cases h3:(x.var==t.n)with
   |true=>
    have sb:x.var=t.n:=by simpa using h3
    have e:iK l t.n=some x.term:=by
     rw[hd,wO _ _ _ hk.2,iK,if_pos sb]
    rw[e]
    simp+contextual (disch:=first|omega|simp only[go_sem,false_implies]) only[go_sem,wrap64,if_pos,List.length_map,hx]
   |false=>
    have sb:x.var≠t.n:=by simpa using h3
    refine et hx ?_
    refine au (k+1) ⟨ah,fun y hy=> ?_⟩ ah ?_
    ·rw[sS]at hy
     rcases List.mem_append.1 hy with h|h
     ·exact hk.2 y h
     ·rw[List.mem_singleton.1 h];exact sb
    ·exact Pj
  ·simp at h2
   have:iK l t.n=none:=D7 fun x hx=>hk.2 x (by rw[List.take_of_length_le h2];exact hx)
   rw[this]
   exact HO
 ·have cH:(t.op==1)=false:=by simpa using h1
  rw[if_neg h1]
  refine dc cH ?_
  refine aF (fun i:Nat=>⟨bp [.aa, .d (.sl (l.map TB.d)), .ptr 0 0, .aa, .ptr 1 0, .aa, .osl 2 0, .d (.i i)],aK (aK (aK (fun _=> .no) 0 (.row t.row)) 1 (.row [.d (.i 0), .d (.i 0), .br])) 2 (.arr 0 31 3 (((t.kids.take i).map (bO (iK l))).map Tm.d)),3⟩)
   (fun i=>i<=t.kids.length) (fun i=>t.kids.length - i) 0 (Nat.zero_le _) (bJ.oP (ty:=31) (sz:=3) (es:=[]) (fun _=>False) .br 2 _ ah (lt2 (cn rfl mS) (cn rfl mS)) (by rw[ad];simp) (.inl ⟨rfl,rfl,bE⟩) (fun j hj=>by(repeat(first|rfl|rw[ad]|rw[ak _ _ _ _ (by omega)]))) (fun _ h=>h.elim) ?_) ?_
  ·exact ud
  rintro k hk
  replace hk:k<=t.kids.length:=hk
  refine gD ?_
  refine aj (fun h2=> ?_) (fun h2=> ?_)
  ·simp at h2
   obtain⟨x,hx⟩:=aq h2
   have cz:=List.mem_of_getElem? hx
   have Ea:=jq cz
   have rI:t.kids.length<=1000000:=by have:=og t.kids;omega
   have sS:t.kids.take (k+1)=t.kids.take k++[x]:=by rw[List.take_add_one,hx];rfl
   have e0:(t.kids.take k).length=k:=by rw[List.length_take];omega
   refine kS hx e0 ?_
   refine aP (ih x cz (dR.2 x cz) ah) ?_
   refine kS hx e0 ?_
   refine au (k+1) h2 ah (bJ.oP (fun j=>j=2) (.osl 2 1) 2 _ ah (lt2 (gC (y:= .row t.row) dU dU (cn rfl mS)) (gC (y:= .row [.d (.i 0), .d (.i 0), .br]) dU dU (cn rfl mS))) (ad _ _ _) (.inr ⟨2,1,rfl,rfl,by(repeat(first|rfl|rw[ad]|rw[ak _ _ _ _ (by omega)]));rw[sS,List.map_append,List.map_append];rfl⟩) (fun j hj=>by(repeat(first|rfl|rw[ad]|rw[ak _ _ _ _ (by omega)]))) (fun j h h2=>ah) ?_)
   exact ud
  ·simp at h2
   have rI:k=t.kids.length:=ah
   subst rI
   rw[List.take_length]
   refine gD ?_
   rw[Tm.m9]
theorem wP(b:List TB)(hb:b.length<=1000000)(l:List Tm)(hl:l.length<=1000000)(hf:∀t∈l,t.fits/\t.sz<=1000000):aR Tryz.prog 36 [.sl (l.map Tm.d), .sl (b.map TB.d)] (.ret [.sl ((l.map (bO (iK b))).map Tm.d)]):=by
 refine aR.az mix agc ao ?_
 rw[c36]
 refine aS ?_
 refine aF (fun i:Nat=>⟨bp [.d (.sl (l.map Tm.d)), .d (.sl (b.map TB.d)), .aa, .aa, .aa, .osl 0 0, .d (.i i)],aK (fun _=> .no) 0 (.arr 0 31 3 (((l.take i).map (bO (iK b))).map Tm.d)),1⟩)
  (fun i=>i<=l.length) (fun i=>l.length - i) 0 (Nat.zero_le _) (bJ.oP (ty:=31) (sz:=3) (es:=[]) (fun _=>False) .br 0 _ ah (fun j hj=>absurd hj ah) (by rw[ad];simp) (.inl ⟨rfl,rfl,bE⟩) (fun j hj=>by(repeat(first|rfl|rw[ad]|rw[ak _ _ _ _ (by omega)]))) (fun _ h=>h.elim) ?_) ?_
 ·exact ud
 rintro k hk
 replace hk:k<=l.length:=hk
 refine gD ?_
 refine aj (fun h2=> ?_) (fun h2=> ?_)
 ·simp at h2
  obtain⟨x,hx⟩:=aq h2
  have cz:=hf x (List.mem_of_getElem? hx)
  have sS:l.take (k+1)=l.take k++[x]:=by rw[List.take_add_one,hx];rfl
  have e0:(l.take k).length=k:=by rw[List.length_take];omega
  refine kS hx e0 ?_
  refine aP (Bo b hb x cz.1 cz.2) ?_
  refine kS hx e0 ?_
  refine au (k+1) h2 ah (bJ.oP (fun j=>j=0) (.osl 0 1) 0 _ ah (fun j hj=>absurd hj ah) (ad _ _ _) (.inr ⟨0,1,rfl,rfl,by(repeat(first|rfl|rw[ad]|rw[ak _ _ _ _ (by omega)]));rw[sS,List.map_append,List.map_append];rfl⟩) (fun j hj=>by(repeat(first|rfl|rw[ad]|rw[ak _ _ _ _ (by omega)]))) (fun j h h2=>ah) ?_)
  exact ud
 ·simp at h2
  have rI:k=l.length:=ah
  subst rI
  rw[List.take_length]
  exact HO
theorem Bp(b:List TB)(hb:b.length<=1000000):∀f:Pf,f.fits->Hx f<=1000->lr f=true->aR Tryz.prog 33 [f.d, .sl (b.map TB.d)] (.ret [(eN (iK b) f).d]):=by
 refine Pf.bW fun f ih hf hz hv=> ?_
 have dR:=(Pf.aH f).1 hf
 rw[oh,Bool.and_eq_true,List.all_eq_true,Bool.and_eq_true]at hv
 have hvz:f.val.sz<=100:=by have:=hv.1.1;simp only[da,decide_eq_true_eq,dv]at this;omega
 have yP:=hv.1.2
 simp only[dA,Bool.and_eq_true,decide_eq_true_eq,List.all_eq_true]at yP
 have hbz:∀t∈f.binds,t.fits/\t.sz<=1000000:=fun t ht=>by
  refine⟨dR.2.2.1 t ht, ?_⟩
  have:=yP.2 t ht;simp only[da,decide_eq_true_eq,dv]at this;omega
 refine aR.az mix aga ao ?_
 rw[c33,oJ]
 refine aS ?_
 refine ba (Bo b hb f.val dR.1 ah) ?_
 refine aS ?_
 refine ba (wP b hb f.binds ah hbz) ?_
 refine aS ?_
 refine aD af ?_
 refine aS ?_
 generalize bO (iK b) f.val=v
 generalize f.binds.map (bO (iK b))=bs
 have hB:Good (aK (aK (fun _=>ab.no) 0 (.row f.row)) 1 (.row [.d (.i 0), .d (.i 0), .d (.i 0), .br, .d (.i 0), .br, .br])) 18:=dB
 have wS:∀j,18<=j->(aK (aK (fun _=>ab.no) 0 (.row f.row)) 1 (.row [.d (.i 0), .d (.i 0), .d (.i 0), .br, .d (.i 0), .br, .br])) j= .no:=fun j hj=>by(repeat(first|rfl|rw[ad]|rw[ak _ _ _ _ (by omega)]))
 refine aF (fun i:Nat=>⟨bp [.aa, .d (.sl (b.map TB.d)), .ptr 0 0, .aa, .ptr 1 0, .ptr 15 0, .d (.i i)],
  aK (aK (aK (aK (fun _=>ab.no) 0 (.row f.row)) 1 (.row [.d (.i 0), .d (.i 0), .d (.i 0), .br, .d (.i 0), .br, .br])) 15 (.row [.d (.i f.bG), .d (.i v.op), .d (.i v.n), .d (.sl (v.kids.map Tm.d)), .d (.i f.num), .d (.sl (bs.map Tm.d)), .osl 18 0])) 18 (.arr 0 35 7 (((f.kids.take i).map (eN (iK b))).map Pf.d)),19⟩)
  (fun i=>i<=f.kids.length) (fun i=>f.kids.length - i) 0 (Nat.zero_le _) (oK (r:=15) (ds:=[.i f.bG, .i v.op, .i v.n, .sl (v.kids.map Tm.d), .i f.num, .sl (bs.map Tm.d)]) _ hB wS ah (fun j hj ik=>by(repeat(first|rfl|rw[ad]|rw[ak _ _ _ _ (by omega)]))) dU ah ?_) ?_
 ·exact ud
 rintro k hk
 replace hk:k<=f.kids.length:=hk
 refine gD ?_
 refine aj (fun h2=> ?_) (fun h2=> ?_)
 ·simp at h2
  obtain⟨x,hx⟩:=aq h2
  have cz:=List.mem_of_getElem? hx
  have Ea:=Hy cz
  have eu:Hx f=1+rq f.kids:=NR f
  have rI:f.kids.length<=1000:=by
   have h3:∀l:List Pf,l.length<=rq l:=fun l=>by
    induction l with
    |nil=>simp
    |cons y l mX=>
     have:1<=Hx y:=Tm.sB y.sh
     have e:rq (y::l)=Hx y+rq l:=by unfold rq;simp
     rw[e,List.length_cons];omega
   have:=h3 f.kids;omega
  have sS:f.kids.take (k+1)=f.kids.take k++[x]:=by rw[List.take_add_one,hx];rfl
  have e0:(f.kids.take k).length=k:=by rw[List.length_take];omega
  refine kS hx e0 ?_
  refine ba (ih x cz (dR.2.2.2.2 x cz) ah (hv.2 x cz)) ?_
  refine kS hx e0 ?_
  refine aD af ?_
  refine kS hx e0 ?_
  refine au (k+1) h2 ah (rv (r:=15) (c:=18) (ep:=1) (ds:=[.i f.bG, .i v.op, .i v.n, .sl (v.kids.map Tm.d), .i f.num, .sl (bs.map Tm.d)]) _ hB wS ah (fun j hj ik=>by(repeat(first|rfl|rw[ad]|rw[ak _ _ _ _ (by omega)]))) dU VQ ?_)
  exact ud
 ·simp at h2
  have rI:k=f.kids.length:=ah
  subst rI
  rw[List.take_length]
  exact aaW
def ma(l:List TB):Bool:=decide (l.length<=210)&&l.all fun b=>da b.term
theorem JT(l:List TB)(hl:l.length<=9223372036854775807)(hf:∀b∈l,b.term.fits):aR Tryz.prog 29 [.sl (l.map TB.d)] (.ret [.bool (ma l)]):=by
 refine aR.az mix af6 ao ?_
 rw[c29]
 refine aS ?_
 refine aF (fun k:Nat=>⟨bp [.d (.sl (l.map TB.d)), .aa, .aa, .d (.i k)],fun _=> .no,0⟩)
  (fun k=>k<=l.length/\(l.take k).all (fun b=>da b.term)=true) (fun k=>l.length - k) 0 ⟨Nat.zero_le _,ao⟩ (bJ.d0 _ ?_) (fun k hk=> ?_)
 ·exact cY
 refine gD ?_
 refine aj (fun h2=> ?_) (fun h2=> ?_)
 ·simp at h2
  obtain⟨y,hy⟩:=aq (l:=l) (k:=k) ah
  have wB:=hf y (List.mem_of_getElem? hy)
  refine et hy ?_
  refine ai (nX y.term wB) rfl ?_
  cases g1:da y.term with
  |false=>
   refine et hy ?_
   rw[ma,b7 (p:=fun b:TB=>da b.term) hy g1,Bool.and_false]
  |true=>
  refine et hy ?_
  refine au (k+1) ⟨ah,cT (p:=fun b:TB=>da b.term) hy hk.2 g1⟩ ah (bJ.d0 _ ?_)
  exact cY
 ·refine gD ?_
  congr 3
  by_cases h3:l.length<=210
  ·have h4:l.length<=k:=by simp at h2;omega
   rw[ma,cJ hk.2 h4]
   simp;omega
  ·rw[ma,decide_eq_false h3]
   simp;omega
theorem D8(a b:List Tm)(ha:a.length<=1000000)(hb:b.length<=1000000)(fa:∀t∈a,t.fits)(fb:∀t∈b,t.fits):aR Tryz.prog 74 [.sl (a.map Tm.d), .sl (b.map Tm.d)] (.ret [.bool (aU (.mk 0 0 a) (.mk 0 0 b))]):=by
 have h1:aR Tryz.prog 119 [.sl (a.map Tm.d), .sl (b.map Tm.d)] (.ret [.bool (aU (.mk 0 0 a) (.mk 0 0 b))]):=by
  refine aR.az mix TX ao ?_
  rw[X1]
  refine aS ?_
  refine aP (rn a) ?_
  refine aS ?_
  refine aP (rn b) ?_
  refine aS ?_
  refine ai (Fk (.mk 0 0 a) ((Tm.aH _).2 ⟨by change a.length<=_;omega,fa⟩) (.mk 0 0 b) ((Tm.aH _).2 ⟨by change b.length<=_;omega,fb⟩)) rfl ?_
  exact gK
 refine aR.az mix adf ao ?_
 rw[c74]
 refine aS ?_
 refine ai h1 rfl ?_
 exact gK
theorem Oz:∀f:Pf,f.fits->lr f=true->aR Tryz.prog 35 [f.d,f.d] (.ret [.bool true]):=by
 refine Pf.bW fun f ih hf hv=> ?_
 have dR:=(Pf.aH f).1 hf
 rw[oh,Bool.and_eq_true,List.all_eq_true,Bool.and_eq_true]at hv
 have hb:f.binds.length<=25:=by have:=hv.1.2;simp only[dA,Bool.and_eq_true,decide_eq_true_eq]at this;exact this.1
 refine aR.az mix ac2 ao ?_
 rw[c35]
 simp+contextual (disch:=first|omega|simp only[go_sem,false_implies]) only[go_sem,wrap64,if_pos,bne_self_eq_false]
 refine ai (Fk f.val dR.1 f.val dR.1) rfl ?_
 simp+contextual (disch:=first|omega|simp only[go_sem,false_implies]) only[go_sem,wrap64,if_pos,bne_self_eq_false,mD f.val]
 refine ai (D8 f.binds f.binds ah ah dR.2.2.1 dR.2.2.1) rfl ?_
 simp+contextual (disch:=first|omega|simp only[go_sem,false_implies]) only[go_sem,wrap64,if_pos,bne_self_eq_false,mD (.mk 0 0 f.binds),List.length_map]
 refine aF (fun i:Nat=>⟨bp [.aa, .aa, .ptr 0 0, .ptr 1 0, .aa, .d (.i i)],aK (aK (fun _=> .no) 0 (.row f.row)) 1 (.row f.row),2⟩)
  (fun i=>i<=f.kids.length) (fun i=>f.kids.length - i) 0 (Nat.zero_le _) ?_ fun k hk=> ?_
 ·exact Pj
 replace hk:k<=f.kids.length:=hk
 refine gD ?_
 refine aj (fun h2=> ?_) (fun h2=> ?_)
 ·simp at h2
  obtain⟨x,hx⟩:=aq h2
  have cz:=List.mem_of_getElem? hx
  refine et hx ?_
  refine aw (ih x cz (dR.2.2.2.2 x cz) (hv.2 x cz)) rfl ?_
  refine et hx ?_
  refine aD (aZ rfl) ?_
  refine aS ?_
  refine au (k+1) h2 ah ?_
  exact Pj
 ·simp at h2
  exact HO
def iL(s:aO):Int->List TB->Bool
 |_,[]=>true
 |q,b::l=>cF b.var (q+1) 199&&p8 s b.term&&bS 16 b.term&&iL s b.var l
def fW(l:List TB)(k:Nat):Int:=match k with
 |0=> -1
 |m+1=>((l[m]?).map TB.var).getD (-1)
theorem OA(s:aO)(hs:s.Fits)(l:List TB)(hl:l.length<=1000000)(hf:∀b∈l,b.term.fits):aR Tryz.prog 31 [s.d, .sl (l.map TB.d)] (.ret [.bool (iL s (-1) l)]):=by
 refine aR.az mix af8 ao ?_
 rw[c31]
 refine aS ?_
 refine aF (fun k:Nat=>⟨bp [.aa, .d (.sl (l.map TB.d)), .ptr 0 0, .aa, .aa, .d (.i k)],e8 s.row,1⟩)
  (fun k=>k<=l.length/\ -1<=fW l k/\iL s (-1) l=iL s (fW l k) (l.drop k)) (fun k=>l.length - k) 0 ⟨Nat.zero_le _,by simp[fW],rfl⟩ (bJ.d1 _ (aV rfl) ah rfl ?_) (fun k hk=> ?_)
 ·exact cY
 refine gD ?_
 refine aj (fun h2=> ?_) (fun h2=> ?_)
 ·simp at h2
  obtain⟨y,hy⟩:=aq h2
  have wB:=hf y (List.mem_of_getElem? hy)
  have hd:l.drop k=y::l.drop (k+1):=by
   rw[List.drop_eq_getElem_cons h2]
   rw[List.getElem?_eq_getElem h2]at hy;injection hy with hy;rw[hy]
  have hb:=hk.2.2
  rw[hd,iL]at hb
  refine et hy ?_
  refine aw (Gd y.var 0 199) rfl ?_
  cases g1:cF y.var 0 199 with
  |false=>
   have e:cF y.var (fW l k+1) 199=false:=by
    have:=hk.2.1
    unfold cF at g1|-
    simp at g1|-;omega
   rw[e]at hb
   simp only[Bool.false_and]at hb
   rw[hb]
   refine et hy ?_
   exact Wa
  |true=>
  have Wc:fW l (k+1)=y.var:=by simp[fW,hy]
  by_cases hk0:k=0
  ·have z0:decide ((0:Int)<(k:Int))=false:=by simp;omega
   have e:cF y.var (fW l k+1) 199=true:=by subst hk0;simpa[fW]using g1
   refine kS hy z0 ?_
   refine aw (AZ s hs y.term wB) rfl ?_
   cases g2:p8 s y.term with
   |false=>
    exact RX
   |true=>
   refine et hy ?_
   refine aw (Dn y.term wB) rfl ?_
   cases g3:bS 16 y.term with
   |false=>
    exact R8
   |true=>
   exact abF
  ·obtain⟨m,hm⟩:∃m,k=m+1:=⟨k - 1,ah⟩
   have z0:decide ((0:Int)<(k:Int))=true:=by simp;omega
   obtain⟨x,hx⟩:=aq (l:=l) (k:=m) ah
   have hpx:fW l k=x.var:=by subst hm;simp[fW,hx]
   have nw:IntKind.i64.wrap ((k:Int) - 1)=(m:Int):=by rw[wrap64 (by omega) (by omega)];omega
   refine Ej hy z0 nw hx ?_
   cases g4:decide (y.var<=x.var)with
   |true=>
    have e:cF y.var (fW l k+1) 199=false:=by
     rw[hpx];unfold cF
     simp at g4|-;omega
    rw[e]at hb
    simp only[Bool.false_and]at hb
    rw[hb]
    refine VJ hy z0 nw hx g4 ?_
    exact Wa
   |false=>
   have e:cF y.var (fW l k+1) 199=true:=by
    rw[hpx];unfold cF at g1|-
    simp at g1 g4|-;omega
   refine VJ hy z0 nw hx g4 ?_
   refine aw (AZ s hs y.term wB) rfl ?_
   cases g2:p8 s y.term with
   |false=>
    exact RX
   |true=>
   refine et hy ?_
   refine aw (Dn y.term wB) rfl ?_
   cases g3:bS 16 y.term with
   |false=>
    exact R8
   |true=>
   exact abF
 ·simp at h2
  rw[hk.2.2,List.drop_eq_nil_of_le h2]
  simp+contextual (disch:=first|omega|simp only[go_sem,false_implies]) only[go_sem,wrap64,if_pos,List.length_map,iL]
@[reducible] def mpD (m:List (Int×D)):D:= .mp ((enc (D.int .i64) m).map (·.1)) ((enc (D.int .i64) m).map (·.2))
theorem HM(m:List (Int×D)):(((enc (D.int .i64) m).map (·.1)).zip ((enc (D.int .i64) m).map (·.2)))=enc (D.int .i64) m:=G7 _ m
def wQ(b:List TB):List (Int×D):=b.map fun x=>(x.var,x.term.d)
@[reducible] def mpB (b:List TB):D:=mpD (wQ b)
theorem sQ:∀ (m:List TB) (v:Int) (i:Nat),(match eM v (wQ m) i with|some (_,x)=>some x|none=>none)=(iK m v).map Tm.d
 |[],_,_=>rfl
 |p::m,v,i=>by
  have ih:=sQ m v (i+1)
  simp only[wQ,List.map_cons,eM,iK]at ih|-
  by_cases h:v=p.var
  ·subst h;simp
  ·have h2: ¬p.var=v:=fun e=>h e.symm
   simp only[beq_iff_eq,h,h2,if_false]
   exact ih
theorem wR{m:List TB}{v:Int}{x:Tm}(h:iK m v=some x):∃j,eM v (wQ m) 0=some (j,x.d):=by
 have:=sQ m v 0
 rw[h]at this
 cases h2:eM v (wQ m) 0 with
 |none=>rw[h2]at this;cases this
 |some p=>obtain⟨j,y⟩:=p;rw[h2]at this;simp at this;subst this;exact⟨j,rfl⟩
theorem om{m:List TB}{v:Int}(h:iK m v=none):eM v (wQ m) 0=none:=by
 have:=sQ m v 0
 rw[h]at this
 cases h2:eM v (wQ m) 0 with
 |none=>rfl
 |some p=>rw[h2]at this;cases this
theorem OB(o:Nat->ab)(b:List TB)(v:Int):iy Tryz.prog o 97 (.d (mpB b)) (.d (.int .i64 v)) true=some (match iK b v with|some x=> .cg [.d x.d, .d (.bool true)]|none=> .cg [.agg [.d (.i 0), .d (.i 0), .br], .d (.bool false)],[],[]):=by
 cases h:iK b v with
 |none=>
  simp+contextual (disch:=first|omega|simp only[go_sem,false_implies]) only[go_sem,wrap64,if_pos,HM,om h]
 |some x=>
  obtain⟨j,hj⟩:=wR h
  simp+contextual (disch:=first|omega|simp only[go_sem,false_implies]) only[go_sem,wrap64,if_pos,HM,hj]
theorem Z7{σ:Int->Option Tm}{m:Nat}(hm:1<=m)(FO:∀n x,σ n=some x->x.sz<=m):∀t:Tm,(bO σ t).sz<=m*t.sz:=by
 refine Tm.bW fun t ih=> ?_
 rw[dT]
 have h1:1<=t.sz:=Tm.sB t
 split
 ·cases hx:σ t.n with
  |none=>exact Nat.le_mul_of_pos_left _ hm
  |some x=>exact Nat.le_trans (FO _ x hx) (Nat.le_mul_of_pos_right _ h1)
 ·have h2:∀l:List Tm,(∀k∈l,k∈t.kids)->fR (l.map (bO σ))<=m*fR l:=by
   intro l
   induction l with
   |nil=>intro _;exact Nat.zero_le _
   |cons k l mX=>
    intro h
    rw[List.map_cons,db,db,Nat.mul_add]
    exact Nat.add_le_add (ih k (h k ao)) (mX fun x hx=>h x lJ)
  have h3:=h2 t.kids fun _ h=>h
  rw[Tm.ig,Tm.ig t,Nat.mul_add]
  change 1+fR (t.kids.map (bO σ))<=_
  omega
theorem OC{s:aO}(b:List TB)(hb:∀ (n:Int) (x:Tm),iK b n=some x->x.sz<=100):∀ (n:Nat) (l:List Tm),fR l<n->n<=10000->(∀t∈l,Pn s t)->aR Tryz.prog 117 [mpB b, .sl (l.map Tm.d)] (.ret [.sl ((l.map (bO (iK b))).map Tm.d)]):=by
 intro n
 induction n with
 |zero=>intro l h;omega
 |succ n ihn=>
 intro l hl hn hp
 have hll:=og l
 refine aR.az mix adD ao ?_
 rw[adC]
 refine aS ?_
 refine aF (fun i:Nat=>⟨bp [.d (mpB b), .aa, .aa, .aa, .aa, .osl 0 0, .aa, .aa, .aa, .aa, .d (.sl (l.map Tm.d)), .d (.i l.length), .d (.i i)],aK (fun _=> .no) 0 (.arr 0 31 3 (((l.take i).map (bO (iK b))).map Tm.d)),1⟩)
  (fun i=>i<=l.length) (fun i=>l.length - i) 0 (Nat.zero_le _) (bJ.oP (ty:=31) (sz:=3) (es:=[]) (fun _=>False) .br 0 _ ah (fun j hj=>absurd hj ah) (by rw[ad];simp) (.inl ⟨rfl,rfl,bE⟩) (fun j hj=>by(repeat(first|rfl|rw[ad]|rw[ak _ _ _ _ (by omega)]))) (fun _ h=>h.elim) ?_) ?_
 ·exact ud
 rintro k hk
 replace hk:k<=l.length:=hk
 refine gD ?_
 refine aj (fun h2=> ?_) (fun h2=> ?_)
 ·simp at h2
  obtain⟨x,hx⟩:=aq h2
  have cz:=List.mem_of_getElem? hx
  have Ea:=jq cz
  have hxe:=Tm.ig x
  have sS:l.take (k+1)=l.take k++[x]:=by rw[List.take_add_one,hx];rfl
  have e0:(l.take k).length=k:=by rw[List.length_take];omega
  have bw:=ihn x.kids ah ah fun t ht=>Pn.kH (hp x cz) ht
  cases BI:iK b x.n with
  |none=>
   have hz:Tm.mk x.op x.n (x.kids.map (bO (iK b)))=bO (iK b) x:=by
    rw[dT]
    split
    ·rename_i h1
     rw[BI]
     have hk:=(hp x cz).bare (.inr (.inl h1))
     rw[Option.getD_none,hk]
     conv=>rhs;rw[<- Tm.eta x,hk]
     rfl
    ·rfl
   simp+contextual (disch:=first|omega|simp only[go_sem,false_implies]) only[go_sem,wrap64,if_pos,List.length_map,hx,e0,OB,BI]
   exact abE
  |some y=>
   by_cases h1:x.op=1
   ·have hz:y=bO (iK b) x:=by rw[dT,if_pos h1,BI];rfl
    have cH:(x.op !=1)=false:=by simpa using h1
    simp+contextual (disch:=first|omega|simp only[go_sem,false_implies]) only[go_sem,wrap64,if_pos,List.length_map,hx,e0,OB,BI,cH]
    refine au (k+1) h2 ah (bJ.oP (fun j=>j=0) (.osl 0 1) 0 _ ah (fun j hj=>absurd hj ah) (ad _ _ _) (.inr ⟨0,1,rfl,rfl,by(repeat(first|rfl|rw[ad]|rw[ak _ _ _ _ (by omega)]));rw[sS,List.map_append,List.map_append,List.map_singleton,List.map_singleton,hz]⟩) (fun j hj=>by(repeat(first|rfl|rw[ad]|rw[ak _ _ _ _ (by omega)]))) (fun j h h2=>ah) ?_)
    exact ud
   ·have hz:Tm.mk x.op x.n (x.kids.map (bO (iK b)))=bO (iK b) x:=by rw[dT,if_neg h1]
    have cH:(x.op !=1)=true:=by simpa using h1
    simp+contextual (disch:=first|omega|simp only[go_sem,false_implies]) only[go_sem,wrap64,if_pos,List.length_map,hx,e0,OB,BI,cH]
    exact abE
 ·simp at h2
  have rI:k=l.length:=ah
  subst rI
  rw[List.take_length]
  refine gD ?_
  refine aP (DY (l.map (bO (iK b))) qb fun t ht=> ?_) ?_
  ·obtain⟨x,hx,rfl⟩:=List.mem_map.1 ht
   have h1:=Z7 (σ:=iK b) (m:=100) ah hb x
   have:=jq hx
   have:100*x.sz<=100*10000:=Nat.mul_le_mul_left _ ah
   omega
  ·exact gK
theorem fE.with {p:Pg}{env v:List Tm}{e:Tm}{f:Pf}(h:fE p env e f)(hf:∀t∈v,t.fits)(hs:dA v=true):fE p v e f:=⟨h.pf,h.ps,hf,hs,h.ef,h.es,h.ff,h.fs⟩
def JU:D:= .agg [.i 0, .i 0, .i 0, .sl [], .i 0, .sl [], .sl []]
end Go.Proofs.YtonbelhklnmjnaaGreat
section
namespace Go.Proofs.YtonbelhklnmjnaaGreat
open Go
def Z8:Nat->Bool:=fun g=> !([206,205,245,246,231,257,258,56,96,97,129,113,164,125,165,207,208,209,210,211,212,214,215,248,251,252,260,92,116,94]:List Nat).contains g
def xP:D:= .agg [.sl [.agg [.str [70,97,108,115,101], .i 0], .agg [.str [84,114,117,101], .i 0], .agg [.str [90], .i 0], .agg [.str [83], .i 1], .agg [.str [78,105,108], .i 0], .agg [.str [67,111,110,115], .i 2]], .sl [.agg [.str [97,100,100], .i 2], .agg [.str [111,114], .i 2], .agg [.str [99,111,105,110], .i 0], .agg [.str [108,101,110], .i 1]], .sl [.agg [.i 0, .sl [.agg [.i 3, .i 2, .sl []], .agg [.i 1, .i 0, .sl []]], .i 1, .i 0, .sl [], .i 1], .agg [.i 0, .sl [.agg [.i 3, .i 3, .sl [.agg [.i 1, .i 0, .sl []]]], .agg [.i 1, .i 1, .sl []]], .i 3, .i 3, .sl [.agg [.i 4, .i 0, .sl [.agg [.i 1, .i 0, .sl []], .agg [.i 1, .i 1, .sl []]]]], .i 2], .agg [.i 1, .sl [.agg [.i 3, .i 1, .sl []], .agg [.i 1, .i 0, .sl []]], .i 3, .i 1, .sl [], .i 1], .agg [.i 1, .sl [.agg [.i 1, .i 0, .sl []], .agg [.i 3, .i 1, .sl []]], .i 3, .i 1, .sl [], .i 1], .agg [.i 1, .sl [.agg [.i 3, .i 0, .sl []], .agg [.i 3, .i 0, .sl []]], .i 3, .i 0, .sl [], .i 0], .agg [.i 2, .sl [], .i 3, .i 2, .sl [], .i 0], .agg [.i 2, .sl [], .i 3, .i 3, .sl [.agg [.i 3, .i 2, .sl []]], .i 0], .agg [.i 3, .sl [.agg [.i 3, .i 5, .sl [.agg [.i 1, .i 0, .sl []], .agg [.i 1, .i 1, .sl []]]]], .i 3, .i 3, .sl [.agg [.i 4, .i 3, .sl [.agg [.i 1, .i 1, .sl []]]]], .i 2], .agg [.i 3, .sl [.agg [.i 1, .i 0, .sl []]], .i 4, .i 0, .sl [.agg [.i 1, .i 1, .sl []], .agg [.i 1, .i 1, .sl []]], .i 2]]]
def x5p:D:= .agg [.i 6, .i 3, .i 3, .sl [.agg [.i 1, .i 7, .sl []]], .i 1, .sl [.agg [.i 3, .i 2, .sl []], .agg [.i 1, .i 7, .sl []]], .sl [.agg [.i 4, .i 3, .i 3, .sl [.agg [.i 3, .i 2, .sl []]], .i 0, .sl [], .sl [.agg [.i 4, .i 3, .i 2, .sl [], .i 0, .sl [], .sl []]]], .agg [.i 2, .i 1, .i 7, .sl [], .i 0, .sl [], .sl []], .agg [.i 4, .i 3, .i 3, .sl [.agg [.i 1, .i 7, .sl []]], .i 0, .sl [], .sl [.agg [.i 6, .i 1, .i 7, .sl [], .i 0, .sl [.agg [.i 1, .i 7, .sl []]], .sl [.agg [.i 2, .i 3, .i 2, .sl [], .i 0, .sl [], .sl []], .agg [.i 2, .i 1, .i 7, .sl [], .i 0, .sl [], .sl []], .agg [.i 2, .i 1, .i 7, .sl [], .i 0, .sl [], .sl []]]]]]]]
def x5e:D:= .agg [.i 4, .i 0, .sl [.agg [.i 3, .i 3, .sl [.agg [.i 3, .i 2, .sl []]]], .agg [.i 1, .i 0, .sl []]]]
def x6e:D:= .agg [.i 4, .i 0, .sl [.agg [.i 4, .i 2, .sl []], .agg [.i 4, .i 2, .sl []]]]
def x6p:D:= .agg [.i 6, .i 3, .i 3, .sl [.agg [.i 3, .i 2, .sl []]], .i 0, .sl [.agg [.i 3, .i 3, .sl [.agg [.i 3, .i 2, .sl []]]]], .sl [.agg [.i 6, .i 3, .i 2, .sl [], .i 5, .sl [], .sl [.agg [.i 4, .i 3, .i 2, .sl [], .i 0, .sl [], .sl []]]], .agg [.i 6, .i 3, .i 3, .sl [.agg [.i 3, .i 2, .sl []]], .i 6, .sl [], .sl [.agg [.i 4, .i 3, .i 3, .sl [.agg [.i 3, .i 2, .sl []]], .i 0, .sl [], .sl [.agg [.i 4, .i 3, .i 2, .sl [], .i 0, .sl [], .sl []]]]]], .agg [.i 2, .i 3, .i 3, .sl [.agg [.i 3, .i 2, .sl []]], .i 0, .sl [], .sl []]]]
def x6q:D:= .agg [.i 6, .i 3, .i 3, .sl [.agg [.i 3, .i 2, .sl []]], .i 0, .sl [.agg [.i 3, .i 3, .sl [.agg [.i 3, .i 2, .sl []]]]], .sl [.agg [.i 6, .i 3, .i 2, .sl [], .i 5, .sl [], .sl [.agg [.i 4, .i 3, .i 2, .sl [], .i 0, .sl [], .sl []]]], .agg [.i 6, .i 3, .i 2, .sl [], .i 5, .sl [], .sl [.agg [.i 4, .i 3, .i 2, .sl [], .i 0, .sl [], .sl []]]], .agg [.i 2, .i 3, .i 3, .sl [.agg [.i 3, .i 2, .sl []]], .i 0, .sl [], .sl []]]]
def xv7:D:= .sl [.agg [.i 1, .i 7, .sl []]]
def aeV:qO Tryz.prog:=qO.of Z8 [] (fun _ h=>by cases h)
theorem Z9:xl Tryz.prog cf aeV 5000 42 []=some (.ret [xP]):=af
theorem ag8:aR Tryz.prog 42 [] (.ret [xP]):=aR.nQ mix nR Z9
theorem aaa:xl Tryz.prog cf aeV 5000 54 [xP]=some (.ret [.i 0]):=af
theorem aeW:aR Tryz.prog 54 [xP] (.ret [.i 0]):=aR.nQ mix nR aaa
def Rn:qO Tryz.prog:=qO.of Z8 [(54,[xP], .ret [.i 0])] (fun x h=>by
 cases h with
 |head=>exact aeW
 |tail _ h=>cases h)
end Go.Proofs.YtonbelhklnmjnaaGreat
end
section
namespace Go.Proofs.YtonbelhklnmjnaaGreat
open Go
theorem Ro:xl Tryz.prog cf Rn 5000 10 [xP,xv7,x5e,x5p]=some (.ret [.agg [.i 3, .i 3, .sl [.agg [.i 1, .i 7, .sl []]]], .i 0]):=af
theorem aeX:aR Tryz.prog 10 [xP,xv7,x5e,x5p] (.ret [.agg [.i 3, .i 3, .sl [.agg [.i 1, .i 7, .sl []]]], .i 0]):=aR.nQ mix nR Ro
end Go.Proofs.YtonbelhklnmjnaaGreat
end
section
namespace Go.Proofs.YtonbelhklnmjnaaGreat
open Go
theorem Rp:xl Tryz.prog cf Rn 5000 10 [xP, .sl [],x6e,x6p]=some (.ret [.agg [.i 3, .i 3, .sl [.agg [.i 3, .i 2, .sl []]]], .i 0]):=af
theorem aeY:aR Tryz.prog 10 [xP, .sl [],x6e,x6p] (.ret [.agg [.i 3, .i 3, .sl [.agg [.i 3, .i 2, .sl []]]], .i 0]):=aR.nQ mix nR Rp
end Go.Proofs.YtonbelhklnmjnaaGreat
end
section
namespace Go.Proofs.YtonbelhklnmjnaaGreat
open Go
theorem Rq:xl Tryz.prog cf Rn 5000 10 [xP, .sl [],x6e,x6q]=some (.ret [.agg [.i 0, .i 0, .sl []], .i 7]):=af
theorem aeZ:aR Tryz.prog 10 [xP, .sl [],x6e,x6q] (.ret [.agg [.i 0, .i 0, .sl []], .i 7]):=aR.nQ mix nR Rq
end Go.Proofs.YtonbelhklnmjnaaGreat
end
section
namespace Go.Proofs.YtonbelhklnmjnaaGreat
open Go
theorem Rr:xl Tryz.prog cf Rn 5000 11 [xP,x5p]=some (.ret [.sl [.i 1, .i 0], .i 9, .i 0]):=af
theorem ae0:aR Tryz.prog 11 [xP,x5p] (.ret [.sl [.i 1, .i 0], .i 9, .i 0]):=aR.nQ mix nR Rr
end Go.Proofs.YtonbelhklnmjnaaGreat
end
section
namespace Go.Proofs.YtonbelhklnmjnaaGreat
open Go
def ae1:qO Tryz.prog:=qO.of Z8 [(54,[xP], .ret [.i 0]),(42,[], .ret [xP]),(10,[xP,xv7,x5e,x5p], .ret [.agg [.i 3, .i 3, .sl [.agg [.i 1, .i 7, .sl []]]], .i 0]),(10,[xP, .sl [],x6e,x6p], .ret [.agg [.i 3, .i 3, .sl [.agg [.i 3, .i 2, .sl []]]], .i 0]),(10,[xP, .sl [],x6e,x6q], .ret [.agg [.i 0, .i 0, .sl []], .i 7]),(11,[xP,x5p], .ret [.sl [.i 1, .i 0], .i 9, .i 0])] (fun x h=>by
 simp only[List.mem_cons,List.not_mem_nil,or_false]at h
 rcases h with rfl|rfl|rfl|rfl|rfl|rfl
 ·exact aeW
 ·exact ag8
 ·exact aeX
 ·exact aeY
 ·exact aeZ
 ·exact ae0
 )
theorem FV:xl Tryz.prog cf ae1 5000 9 []=some (.ret [.bool true]):=af
theorem aab:aR Tryz.prog 9 [] (.ret [.bool true]):=aR.nQ mix nR FV
end Go.Proofs.YtonbelhklnmjnaaGreat
end
namespace Go.Proofs.YtonbelhklnmjnaaGreat
theorem FW:xl Tryz.prog cf ae1 5000 32 [JU]=some (.ret [.bool true]):=af
theorem K7:aR Tryz.prog 32 [.agg [.i 0, .i 0, .i 0, .sl [], .i 0, .sl [], .sl []]] (.ret [.bool true]):=aR.nQ mix nR FW
theorem FX{s:aO}:∀f:Pf,gr s f=true->lr f=true:=by
 refine Pf.bW fun f ih h=> ?_
 rw[ij,Bool.and_eq_true,List.all_eq_true]at h
 rw[oh,Bool.and_eq_true,List.all_eq_true,Bool.and_eq_true]
 have h1:=h.1
 unfold fe at h1
 simp only[Bool.and_eq_true]at h1
 refine⟨⟨wM h1.1.1, ?_⟩,fun k hk=>ih k hk (h.2 k hk)⟩
 have h2:=h1.1.2
 simp only[jS,dA,Bool.and_eq_true,decide_eq_true_eq,List.all_eq_true]at h2|-
 exact⟨ah,fun t ht=>wM (h2.2 t ht)⟩
end Go.Proofs.YtonbelhklnmjnaaGreat
namespace Go.Proofs.YtonbelhklnmjnaaGreat
theorem Rs{s:aO}(b:List TB)(hb:∀ (n:Int) (x:Tm),iK b n=some x->x.sz<=100):∀f:Pf,f.fits->Hx f<=1000->gr s f=true->aR Tryz.prog 70 [mpB b,f.d] (.ret [(eN (iK b) f).d]):=by
 refine Pf.bW fun f ih hf hz pl=> ?_
 have dR:=(Pf.aH f).1 hf
 rw[ij,Bool.and_eq_true,List.all_eq_true]at pl
 have J8:=pl.1
 unfold fe at J8
 simp only[Bool.and_eq_true]at J8
 have pz:∀t:Tm,p8 s t=true->t.sz<=80/\Pn s t:=fun t h=>by
  refine⟨?_,wC h⟩
  simp only[p8,Bool.and_eq_true,decide_eq_true_eq,dv]at h;omega
 have hbn:=J8.1.2
 simp only[jS,Bool.and_eq_true,decide_eq_true_eq,List.all_eq_true]at hbn
 have hbs:fR f.binds<9000:=by
  have:∀l:List Tm,l.length<=20->(∀t∈l,t.sz<=80)->fR l<=80*l.length:=fun l=>by
   induction l with
   |nil=>intro _ _;simp[fR]
   |cons k l mX=>intro h1 h2;rw[db,List.length_cons];have:=h2 k ao;have:=mX (by simp at h1;omega) fun t ht=>h2 t (by simp[ht]);omega
  have:=this f.binds hbn.1 fun t ht=>(pz t (hbn.2 t ht)).1
  omega
 have h1:=OC (s:=s) b hb 9000 [f.val] (by rw[db];have:=(pz _ J8.1.1).1;simp[fR];omega) ah (fun t ht=>by rw[List.mem_singleton.1 ht];exact(pz _ J8.1.1).2)
 have h2:=OC (s:=s) b hb 9000 f.binds hbs ah fun t ht=>(pz t (hbn.2 t ht)).2
 refine aR.az mix agy ao ?_
 rw[c70,oJ]
 refine aS ?_
 refine ba h1 ?_
 refine aS ?_
 refine ba h2 ?_
 refine aS ?_
 refine aD af ?_
 refine aS ?_
 generalize bO (iK b) f.val=v
 generalize f.binds.map (bO (iK b))=bs
 have hB:Good (aK (aK (aK (fun _=>ab.no) 0 (.row f.row)) 1 (.row [.d (.i 0), .d (.i 0), .d (.i 0), .br, .d (.i 0), .br, .br])) 7 (.qg 0 [f.val.d])) 24:=dB
 have wS:∀j,24<=j->(aK (aK (aK (fun _=>ab.no) 0 (.row f.row)) 1 (.row [.d (.i 0), .d (.i 0), .d (.i 0), .br, .d (.i 0), .br, .br])) 7 (.qg 0 [f.val.d])) j= .no:=fun j hj=>by(repeat(first|rfl|rw[ad]|rw[ak _ _ _ _ (by omega)]))
 refine aF (fun i:Nat=>⟨bp [.d (mpB b), .aa, .aa, .ptr 0 0, .ptr 1 0, .ptr 18 0, .aa, .aa, .aa, .aa, .aa, .aa, .aa, .aa, .aa, .aa, .aa, .aa, .aa, .aa, .aa, .aa, .aa, .aa, .aa, .d (.sl (f.kids.map Pf.d)), .d (.i f.kids.length), .d (.i i)],
  aK (aK (aK (aK (aK (fun _=>ab.no) 0 (.row f.row)) 1 (.row [.d (.i 0), .d (.i 0), .d (.i 0), .br, .d (.i 0), .br, .br])) 7 (.qg 0 [f.val.d])) 18 (.row [.d (.i f.bG), .d (.i v.op), .d (.i v.n), .d (.sl (v.kids.map Tm.d)), .d (.i f.num), .d (.sl (bs.map Tm.d)), .osl 24 0])) 24 (.arr 0 35 7 (((f.kids.take i).map (eN (iK b))).map Pf.d)),25⟩)
  (fun i=>i<=f.kids.length) (fun i=>f.kids.length - i) 0 (Nat.zero_le _) (oK (r:=18) (ds:=[.i f.bG, .i v.op, .i v.n, .sl (v.kids.map Tm.d), .i f.num, .sl (bs.map Tm.d)]) _ hB wS ah (fun j hj ik=>zK) dU ah ?_) ?_
 ·exact ud
 rintro k hk
 replace hk:k<=f.kids.length:=hk
 refine gD ?_
 refine aj (fun h2=> ?_) (fun h2=> ?_)
 ·simp at h2
  obtain⟨x,hx⟩:=aq h2
  have cz:=List.mem_of_getElem? hx
  have Ea:=Hy cz
  have eu:Hx f=1+rq f.kids:=NR f
  have rI:f.kids.length<=1000:=by
   have h3:∀l:List Pf,l.length<=rq l:=fun l=>by
    induction l with
    |nil=>simp
    |cons y l mX=>
     have:1<=Hx y:=Tm.sB y.sh
     have e:rq (y::l)=Hx y+rq l:=by unfold rq;simp
     rw[e,List.length_cons];omega
   have:=h3 f.kids;omega
  have sS:f.kids.take (k+1)=f.kids.take k++[x]:=by rw[List.take_add_one,hx];rfl
  have e0:(f.kids.take k).length=k:=by rw[List.length_take];omega
  refine kS hx e0 ?_
  refine ba (ih x cz (dR.2.2.2.2 x cz) ah (pl.2 x cz)) ?_
  refine kS hx e0 ?_
  refine aD af ?_
  refine kS hx e0 ?_
  refine au (k+1) h2 ah (rv (r:=18) (c:=24) (ep:=1) (ds:=[.i f.bG, .i v.op, .i v.n, .sl (v.kids.map Tm.d), .i f.num, .sl (bs.map Tm.d)]) _ hB wS ah (fun j hj ik=>by(repeat(first|rfl|rw[ad]|rw[ak _ _ _ _ (by omega)]))) dU VQ ?_)
  exact ud
 ·simp at h2
  have rI:k=f.kids.length:=ah
  subst rI
  rw[List.take_length]
  exact aaW
theorem JV{m:List TB}{x:TB}(h:iK m x.var=none):tV x.var x.term.d (wQ m)=wQ (m++[x]):=by
 unfold tV
 rw[om h]
 simp[wQ]
theorem Bq{l:List TB}{n:Int}{x:Tm}(h:iK l n=some x):∃y∈l,y.term=x:=by
 induction l with
 |nil=>cases h
 |cons b l ih=>
  rw[iK]at h
  split at h
  ·injection h with h;exact⟨b,ao,h⟩
  ·obtain⟨y,hy,e⟩:=ih h;exact⟨y,by simp[hy],e⟩
theorem pX{s:aO}:∀ {l:List TB} {q:Int},iL s q l=true->∀x∈l,p8 s x.term=true/\bS 16 x.term=true
 |[],_,_,x,hx=>by cases hx
 |b::l,q,h,x,hx=>by
  rw[iL]at h
  simp only[Bool.and_eq_true]at h
  rcases List.mem_cons.1 hx with e|e
  ·rw[e];exact⟨h.1.1.2,h.1.2⟩
  ·exact pX h.2 x e
@[reducible] def ag9 (m:List TB):ab:= .map 3 31 (enc (D.int .i64) (wQ m))
def HN(p:Pg)(f:Pf)(l:List TB):D×Int:=
 if((nZ p&&mP p.sig f)&&iL p.sig (-1) l)=true then(if mP p.sig (eN (iK l) f)=true then((eN (iK l) f).d,0)else(JU,3))else(JU,2)
theorem aac{p:Pg}(hp:p.Fin){f:Pf}(hf:f.fits)(hd:f.iN<=900000)(hz:Hx f<=1000){l:List TB}(hl:l.length<=1000000)(hlf:∀b∈l,b.term.fits)(LF:(eN (iK l) f).fits):aR Tryz.prog 30 [p.d,f.d, .sl (l.map TB.d)] (.ret [(HN p f l).1, .i (HN p f l).2]):=by
 refine aR.az mix af7 ao ?_
 rw[c30,HN]
 refine aS ?_
 refine ai (Dy p hp) rfl ?_
 cases h1:nZ p with
 |false=>
  rw[Bool.false_and,Bool.false_and,if_neg Bool.false_ne_true,JU]
  exact VK
 |true=>
 refine zF ?_
 refine ai (pT p hp f hf hd) rfl ?_
 cases h2:mP p.sig f with
 |false=>
  rw[Bool.true_and,Bool.false_and,if_neg Bool.false_ne_true,JU]
  exact gK
 |true=>
 rw[Bool.true_and,Bool.true_and]
 refine aS ?_
 refine aF (fun i:Nat=>⟨bp [.aa, .aa, .aa, .ptr 0 0, .ptr 1 0, .aa, .ptr 2 0, .aa, .mp 13, .d (.i (fW l i)), .aa, .aa, .aa, .aa, .aa, .aa, .aa, .aa, .aa, .aa, .aa, .aa, .aa, .aa, .d (.sl (l.map TB.d)), .d (.i l.length), .d (.i i)],
  aK (aK (aK (aK (fun _=> .no) 0 (.row p.row)) 1 (.row f.row)) 2 (.row [.d (.i 0), .d (.i 0), .d (.i 0), .br, .d (.i 0), .br, .br])) 13 (ag9 (l.take i)),19⟩)
  (fun i=>i<=l.length/\(-1<=fW l i/\fW l i<=199)/\(∀x∈l.take i,x.var<=fW l i)/\iL p.sig (-1) l=iL p.sig (fW l i) (l.drop i)) (fun i=>l.length - i) 0 ⟨Nat.zero_le _,by simp[fW],ao,rfl⟩ ?_ fun k hk=> ?_
 ·refine bJ.bX _ bE (Nat.le_refl _) dB (fun j hj=>rfl) ?_
  exact cY
 obtain⟨k1,⟨k2,k2'⟩,k3,k4⟩:=hk
 replace k1:k<=l.length:=k1
 refine gD ?_
 refine aj (fun h5=> ?_) (fun h5=> ?_)
 ·simp at h5
  obtain⟨x,hx⟩:=aq h5
  have hxf:=hlf x (List.mem_of_getElem? hx)
  have sS:l.take (k+1)=l.take k++[x]:=by rw[List.take_add_one,hx];rfl
  have hd:l.drop k=x::l.drop (k+1):=by
   rw[List.drop_eq_getElem_cons h5]
   rw[List.getElem?_eq_getElem h5]at hx;injection hx with hx;rw[hx]
  rw[hd,iL]at k4
  refine et hx ?_
  refine ai (iS x.var (fW l k+1) 199) rfl ?_
  cases g1:cF x.var (fW l k+1) 199 with
  |false=>
   rw[g1,Bool.false_and,Bool.false_and,Bool.false_and]at k4
   rw[k4,if_neg Bool.false_ne_true,JU]
   exact gK
  |true=>
  refine et hx ?_
  refine ai (A1 p.sig hp.sig x.term hxf) rfl ?_
  cases g2:p8 p.sig x.term with
  |false=>
   rw[g2,Bool.and_false,Bool.false_and,Bool.false_and]at k4
   rw[k4,if_neg Bool.false_ne_true,JU]
   exact gK
  |true=>
  have hpn:=wC g2
  obtain⟨n1,n2,n3⟩:=AX x.term hpn
  have t1:decide (Dm x.term<1)= !bS 16 x.term:=by
   rw[Bool.eq_iff_iff,decide_eq_true_eq,Bool.not_eq_true']
   constructor
   ·intro h;rw[Bool.eq_false_iff];intro c;have:=n2.2 c;omega
   ·intro h;rw[Bool.eq_false_iff]at h
    by_cases hc:1<=Dm x.term
    ·exact absurd (n2.1 hc) h
    ·omega
  refine et hx ?_
  refine ai (qV x.term hxf hpn) rfl ?_
  cases g3:bS 16 x.term with
  |false=>
   rw[g3,Bool.and_false,Bool.false_and]at k4
   rw[k4,if_neg Bool.false_ne_true,JU]
   exact Kg t1 g3
  |true=>
  rw[g1,g2,g3,Bool.true_and,Bool.true_and,Bool.true_and]at k4
  have Wc:fW l (k+1)=x.var:=by simp[fW,hx]
  have Fx:=g1
  unfold cF at Fx
  simp at Fx
  have Ni:iK (l.take k) x.var=none:=D7 fun y hy=>by have:=k3 y hy;omega
  simp+contextual (disch:=first|omega|simp only[go_sem,false_implies]) only[go_sem,wrap64,if_pos,List.length_map,hx,t1,g3,JV Ni]
  refine aD af ?_
  refine aS ?_
  refine au (k+1) ⟨h5,by rw[Wc];omega,fun y hy=> ?_,by rw[Wc];exact k4⟩ ah (bJ.bX _ bE ah dB (fun j hj=> ?_) ?_)
  ·rw[Wc]
   rw[sS]at hy
   rcases List.mem_append.1 hy with h|h
   ·have:=k3 y h;omega
   ·rw[List.mem_singleton.1 h];exact Int.le_refl _
  ·rw[sS]
   by_cases e:j=13
   ·exact zL
   ·(repeat(first|rfl|rw[ad]|rw[ak _ _ _ _ (by omega)]))
    rw[ak _ _ _ _ e]
  ·rw[Wc]
   exact cY
 ·simp at h5
  have rI:k=l.length:=ah
  subst rI
  rw[List.drop_length,iL]at k4
  have k4':=k4
  rw[k4,if_pos rfl,List.take_length]
  have bw:=pX k4'
  have pl:gr p.sig f=true:=by rw[uD]at h2;simp only[dS,Bool.and_eq_true]at h2;exact h2.2
  have hh:(eN (iK l) f).iN=f.iN:=by rw[<- FH, <- FH,HC]
  refine gD ?_
  refine aP (Rs (s:=p.sig) l (fun n x hx=> ?_) f hf hz pl) ?_
  ·obtain⟨y,hy,rfl⟩:=Bq hx
   have:=(bw y hy).1
   simp only[p8,Bool.and_eq_true,decide_eq_true_eq,dv]at this;omega
  refine aS ?_
  refine ai (pT p hp (eN (iK l) f) LF ah) rfl ?_
  cases h6:mP p.sig (eN (iK l) f)with
  |false=>
   rw[if_neg Bool.false_ne_true,JU]
   exact gK
  |true=>
   rw[if_pos rfl]
   exact gK
theorem oL{σ:Int->Option Tm}(FO:∀n x,σ n=some x->x.fits):∀t:Tm,t.fits->(bO σ t).fits:=by
 refine Tm.bW fun t ih hf=> ?_
 have dR:=(Tm.aH t).1 hf
 rw[dT]
 split
 ·cases hx:σ t.n with
  |none=>exact hf
  |some x=>exact FO _ x hx
 ·refine(Tm.aH _).2 ⟨by change (t.kids.map (bO σ)).length<=_;rw[List.length_map];exact dR.1,fun k hk=> ?_⟩
  obtain⟨x,hx,rfl⟩:=List.mem_map.1 (show k∈t.kids.map (bO σ)from hk)
  exact ih x hx (dR.2 x hx)
theorem zE{σ:Int->Option Tm}(FO:∀n x,σ n=some x->x.fits):∀f:Pf,f.fits->(eN σ f).fits:=by
 refine Pf.bW fun f ih hf=> ?_
 have dR:=(Pf.aH f).1 hf
 rw[oJ]
 refine(Pf.aH _).2 ⟨oL FO _ dR.1, ?_,fun x hx=> ?_, ?_,fun x hx=> ?_⟩
 ·change (f.binds.map (bO σ)).length<=_;rw[List.length_map];exact dR.2.1
 ·obtain⟨y,hy,rfl⟩:=List.mem_map.1 (show x∈f.binds.map (bO σ)from hx)
  exact oL FO y (dR.2.2.1 y hy)
 ·change (f.kids.map (eN σ)).length<=_;rw[List.length_map];exact dR.2.2.2.1
 ·obtain⟨y,hy,rfl⟩:=List.mem_map.1 (show x∈f.kids.map (eN σ)from hx)
  exact ih y hy (dR.2.2.2.2 y hy)
theorem JW{p:Pg}{env:List Tm}{e:Tm}{f:Pf}(sm:fE p env e f){σ:Int->Option Tm}(FO:∀n x,σ n=some x->x.fits)(h:dS p.sig (eN σ f)=true):fE p env e (eN σ f):=by
 refine⟨sm.pf,sm.ps,sm.vf,sm.vs,sm.ef,sm.es,zE FO f sm.ff, ?_⟩
 have hs:=sm.fs
 simp only[iJ,Bool.and_eq_true]at hs|-
 simp only[dS,Bool.and_eq_true]at h
 rw[HC]
 exact⟨hs.1,FX _ h.2⟩
theorem JX{s:aO}{l:List Tm}(h:jS s l=true):dA l=true:=by
 simp only[jS,dA,Bool.and_eq_true,decide_eq_true_eq,List.all_eq_true]at h|-
 exact⟨ah,fun t ht=>wM (h.2 t ht)⟩
set_option maxHeartbeats 2000000 in
theorem D9(hkn:aR Tryz.prog 9 [] (.ret [.bool true]))(p:Pg)(env:List Tm)(e:Tm)(f:Pf)(l:List TB)(hp:p.Fits)(hl:env.length<=9223372036854775807/\∀t∈env,t.fits)(he:e.fits)(hf:f.fits)(hb:l.length<=9223372036854775807/\∀b∈l,b.term.fits):aR Tryz.prog 6 [p.d, .sl (env.map Tm.d),e.d,f.d, .sl (l.map TB.d)] (.ret [.bool true]):=by
 refine aR.az mix fn6 ao ?_
 rw[c6]
 refine aS ?_
 refine ai (Rm p env e f hp hl.1 hl.2 he hf) rfl ?_
 cases h0:wN p env e f with
 |false=>
  exact Wb
 |true=>
 have sm:=aeU hp hl.2 he hf h0
 refine aS ?_
 refine ai (JT l hb.1 hb.2) rfl ?_
 cases h1:ma l with
 |false=>
  exact Wb
 |true=>
 have xW:l.length<=210:=by simp only[ma,Bool.and_eq_true,decide_eq_true_eq]at h1;exact h1.1
 have hz:=sm.fsz
 have σf:∀n x,iK l n=some x->x.fits:=fun n x hx=>by
  obtain⟨y,hy,rfl⟩:=Bq hx;exact hb.2 y hy
 have yf:=zE σf f hf
 have hv1:lr f=true:=by have:=sm.fs;simp only[iJ,Bool.and_eq_true]at this;exact this.2
 have lw:=aac sm.fin hf ah (by unfold Hx;omega) ah hb.2 yf
 have rp:=Oy p sm.few
 have rf:=DU p sm.fin.sig f hf
 have rb:=OA p.sig sm.fin.sig l ah hb.2
 have ry:=DU p sm.fin.sig (eN (iK l) f) yf
 rw[HN,sm.prog,uD,uD]at lw
 refine aS ?_
 cases h2:gk p with
 |false=>
  rw[h2,Bool.false_and,Bool.false_and,if_neg Bool.false_ne_true,JU]at lw
  refine aP lw ?_
  refine aS ?_
  refine ai rp rfl ?_
  refine dc h2 ?_
  exact Ph
 |true=>
 cases h3:dS p.sig f with
 |false=>
  rw[h3,Bool.and_false,Bool.false_and,if_neg Bool.false_ne_true,JU]at lw
  refine aP lw ?_
  refine aS ?_
  refine ai rp rfl ?_
  refine dc h2 ?_
  refine ai rf rfl ?_
  refine dc h3 ?_
  exact Ph
 |true=>
 cases h4:iL p.sig (-1) l with
 |false=>
  rw[h4,Bool.and_false,if_neg Bool.false_ne_true,JU]at lw
  refine aP lw ?_
  refine aS ?_
  refine ai rp rfl ?_
  refine dc h2 ?_
  refine ai rf rfl ?_
  refine dc h3 ?_
  refine ai rb rfl ?_
  refine dc h4 ?_
  exact Ph
 |true=>
 rw[h2,h3,h4,Bool.and_true,Bool.and_true,if_pos rfl]at lw
 have rpp:=Bp l ah f hf (by unfold Hx;omega) hv1
 cases h5:dS p.sig (eN (iK l) f)with
 |false=>
  rw[h5,if_neg Bool.false_ne_true,JU]at lw
  refine aP lw ?_
  refine aS ?_
  refine ai rp rfl ?_
  refine dc h2 ?_
  refine ai rf rfl ?_
  refine dc h3 ?_
  refine ai rb rfl ?_
  refine dc h4 ?_
  refine aP rpp ?_
  refine aS ?_
  refine ai ry rfl ?_
  refine dc h5 ?_
  exact Ph
 |true=>
 rw[h5,if_pos rfl]at lw
 have sy:=JW sm σf h5
 have vy:lr (eN (iK l) f)=true:=by have:=sy.fs;simp only[iJ,Bool.and_eq_true]at this;exact this.2
 have ac:=D6 sm
 refine aP lw ?_
 refine aS ?_
 refine ai rp rfl ?_
 refine dc h2 ?_
 refine ai rf rfl ?_
 refine dc h3 ?_
 refine ai rb rfl ?_
 refine dc h4 ?_
 refine aP rpp ?_
 refine aS ?_
 refine ai ry rfl ?_
 refine dc h5 ?_
 refine ai (zx _ yf) rfl ?_
 refine dc sy.fs ?_
 refine ai (Oz _ yf vy) rfl ?_
 refine aS ?_
 rw[Ox,h2,h3,Bool.true_and,Bool.true_and]at ac
 cases h6:ju p.sig env e with
 |false=>
  rw[h6,if_neg Bool.false_ne_true,Bg]at ac
  exact SN
 |true=>
 rw[h6,if_pos rfl]at ac
 cases h7:bd p f env e with
 |false=>
  rw[h7,if_neg Bool.false_ne_true,Bg]at ac
  exact SN
 |true=>
 rw[h7,if_pos rfl]at ac
 have hel:=sm.aeS
 have hvf:=((Pf.aH f).1 hf).1
 have hez:∀t∈env,t.fits/\t.sz<=1000000:=fun t ht=>by
  refine⟨hl.2 t ht, ?_⟩
  have:=sm.vs
  simp only[dA,Bool.and_eq_true,decide_eq_true_eq,List.all_eq_true]at this
  have:=this.2 t ht
  simp only[da,decide_eq_true_eq,dv]at this;omega
 have ef:∀t∈env.map (bO (iK l)),t.fits:=fun t ht=>by
  obtain⟨x,hx,rfl⟩:=List.mem_map.1 ht
  exact oL σf x (hl.2 x hx)
 refine aP ac ?_
 refine aS ?_
 refine aP (wP l ah env ah hez) ?_
 refine aS ?_
 refine ai (NP p.sig sm.fin.sig (env.map (bO (iK l))) (by rw[List.length_map];exact hl.1) ef) rfl ?_
 cases h8:jS p.sig (env.map (bO (iK l)))with
 |false=>
  exact Wb
 |true=>
 have sy2:=sy.with ef (JX h8)
 have bw:=pX h4
 have g6:=h6
 simp only[ju,Bool.and_eq_true]at g6
 have g6':ju p.sig (env.map (bO (iK l))) e=true:=by
  simp only[ju,Bool.and_eq_true]
  refine⟨⟨h8,g6.1.2⟩, ?_⟩
  rw[List.length_map];exact g6.2
 have xY:gr p.sig f=true:=by simp only[dS,Bool.and_eq_true]at h3;exact h3.2
 have hpv:=Q4 (p:=p) (s:=p.sig) (σ:=iK l) (fun n x hx=>by
  obtain⟨y,hy,rfl⟩:=Bq hx
  exact⟨wC (bw y hy).1,(bw y hy).2⟩) f xY env e (fun t ht=>by
   have:=g6.1.1
   simp only[jS,Bool.and_eq_true,List.all_eq_true]at this
   exact wC (this.2 t ht)) h7
 have ax:=D6 sy2
 rw[Ox,h2,h5,g6',Bool.true_and,Bool.true_and,if_pos rfl,hpv,if_pos rfl,rr]at ax
 have hwf:=oL σf f.val hvf
 have L6:da (bO (iK l) f.val)=true:=by have:=sy.val;rwa [rr]at this
 have hvz:f.val.sz<=1000000:=by have:=sm.val;simp only[da,decide_eq_true_eq,dv]at this;omega
 have aha:=Bo l ah f.val hvf hvz
 refine aS ?_
 refine aP ax ?_
 generalize bO (iK l) f.val=w at*
 refine aS ?_
 refine aw (nX f.val hvf) rfl ?_
 refine dc sm.val ?_
 refine aw (nX w hwf) rfl ?_
 refine dc L6 ?_
 refine ba aha ?_
 refine aS ?_
 refine aw (Fk w hwf w hwf) rfl ?_
 simp+contextual (disch:=first|omega|simp only[go_sem,false_implies]) only[go_sem,wrap64,if_pos,mD w]
 refine aw hkn rfl ?_
 refine aS ?_
 exact Wa
end Go.Proofs.YtonbelhklnmjnaaGreat
section
namespace Go.Proofs.YtonbelhklnmjnaaGreat
open Go.ChangeShapes Go.WideShapes Go.RowKit
theorem ahb{x:D}(h:D.jn Tryz.prog x 95):∃b:TB,x=b.d/\b.term.fits:=by
 obtain⟨cs,rfl,hh⟩:=l9 af (ls:=[3,29,3,28]) af h
 clear h;have h:=hh;clear hh
 obtain⟨v,cs,rfl,hv,h⟩:=bf h
 obtain⟨a,cs,rfl,ha,h⟩:=bf h
 obtain⟨b,cs,rfl,hb,h⟩:=bf h
 obtain⟨c,cs,rfl,hc,h⟩:=bf h
 have:=jo h;subst this
 obtain⟨k,rfl⟩:=rm hv
 obtain⟨o,rfl⟩:=QU ha
 obtain⟨m,rfl⟩:=rm hb
 obtain⟨es,rfl,h1,h2⟩:=lq undT_28 hc
 obtain⟨l,rfl,hl⟩:=kL (fun x h=>ZQ h) es h2
 refine⟨⟨k, .mk o m l⟩,rfl, ?_⟩
 rw[Tm.aH]
 exact RF
theorem Rt{x:D}(h:D.jn Tryz.prog x 62):∃l:List TB,x= .sl (l.map TB.d)/\(l.length<=9223372036854775807/\∀b∈l,b.term.fits):=by
 obtain⟨es,rfl,h1,h2⟩:=lq undT_62 h
 obtain⟨l,rfl,hl⟩:=kL (fun x h=>ahb h) es h2
 exact⟨l,rfl,by have:=jU;simp at h1;omega,hl⟩
end Go.Proofs.YtonbelhklnmjnaaGreat
end
section
namespace Go.Proofs.YtonbelhklnmjnaaGreat
open Go.ChangeShapes Go.WideShapes Go.RowKit
set_option maxRecDepth 100000 in
theorem sR(os:Os)(started:os.Started)(H:Type)(enc:TypeId×Value->H):
 ReturnsInHanded {} Tryz.checked os 6 .any (Rows.logicPutsSpec.pre6 enc Tryz.prog Tryz.f6 Rows.logicPutsRow.domain false) (Rows.logicPutsSpec.post enc Tryz.prog Tryz.f6 Rows.logicPutsRow.apart Rows.logicPutsRow.fresh Rows.logicPutsRow.handsOn Rows.logicPutsRow.again):=by
 refine returnsInHanded_of_change (C:=Tryz.checked) af started af Tryz.func6
  (ChangeSpec.witness6 (enc:=enc) (C:=Tryz.checked) false ⟨#[],#[.agg #[.slice none 0 0, .slice none 0 0, .slice none 0 0], .slice none 0 0, .agg #[.int .i64 0, .int .i64 0, .slice none 0 0], .agg #[.int .i64 0, .int .i64 0, .int .i64 0, .slice none 0 0, .int .i64 0, .slice none 0 0, .slice none 0 0], .slice none 0 0],[]⟩ 8 af af af af) ?_
 intro W base args ds gs before gu hW _ _
 refine Bd (T:=[27,24,22,104,9,3,25,106,28,31,29,35,33,32,62,95]) (tb:=4) af af rfl (fun ds h=>by match ds,h with|[_,_,_,_,_],_=>rfl) af (by intro t ht;rw[Tryz.params6]at ht;simp at ht;rcases ht with rfl|rfl|rfl|rfl|rfl<;>simp) af (by intro t ht;rw[Tryz.params6]at ht;simp at ht;rcases ht with rfl|rfl|rfl|rfl|rfl<;>exact⟨af,of_decide_eq_true af⟩)
  (fun xs hx=> ?_) base args ds gs before gu hW
 rw[Tryz.params6]at hx
 obtain⟨x0,xs,rfl,uL,hx⟩:=bf hx
 obtain⟨x1,xs,rfl,hx1,hx⟩:=bf hx
 obtain⟨x2,xs,rfl,hx2,hx⟩:=bf hx
 obtain⟨x3,xs,rfl,hx3,hx⟩:=bf hx
 obtain⟨x4,xs,rfl,hx4,hx⟩:=bf hx
 have:=jo hx;subst this
 obtain⟨p0,rfl,hp0⟩:=ag3 uL
 obtain⟨e1,rfl,he1⟩:=DO hx1
 obtain⟨t2,rfl,ht2⟩:=ZQ hx2
 obtain⟨f3,rfl,hf3⟩:=ag4 hx3
 obtain⟨l4,rfl,hl4⟩:=Rt hx4
 exact D9 aab p0 e1 t2 f3 l4 hp0 he1 ht2 hf3 hl4
theorem logicPuts_holds:Rows.LogicPutsSaid:=
 OpenClaim.holds_of_wide 6 Tryz.f6 rfl rfl rfl rfl rfl rfl rfl ⟨rfl,rfl,rfl,rfl,rfl⟩ rfl rfl rfl rfl rfl af Tryz.func6 af
  (of_decide_eq_true af) (by unfold Func.isWrapper;first|(rw[if_pos (by decide+kernel)];kernel_rfl)|(rw[if_neg (by decide+kernel)];exact⟨rfl,rfl⟩))
  (fun os started H enc _=>sR os started H enc)
end Go.Proofs.YtonbelhklnmjnaaGreat
end
