/-
  A PART OF THE PROOF. Conditions: none.
-/
import Derived.Shelf.Sort.Plain
import Derived.Shelf.Slices.In.SortNone
import Derived.Test.YtlhemmpklhhgoaaGreatQo15
set_option linter.unusedSimpArgs false
set_option linter.unusedVariables false
namespace Go.Proofs.YtlhemmpklhhgoaaGreat
def o7:List Int->Int->List Int
 |[],n=>[n]
 |x::l,n=>if x<n then x::o7 l n else if x=n then x::l else n::x::l
def qd(op n:Int)(i:Nat)(l out:List Int):List Int:=l.foldl (fun out v=>if(op !=8||(i:Int)!=1||v !=n)=true then o7 out v else out) out
mutual
def cJ:Tm->List Int
 | .mk op n kids=>if op=1 then [n]else mF op n kids 0 []
def mF(op n:Int):List Tm->Nat->List Int->List Int
 |[],_,out=>out
 |k::l,i,out=>mF op n l (i+1) (qd op n i (cJ k) out)
end
theorem rv(t:Tm):cJ t=if t.op=1 then [t.n]else mF t.op t.n t.kids 0 []:=by cases t;rfl
theorem wV:∀ (l:List Int) (n v:Int),v∈o7 l n↔v∈l\/v=n
 |[],n,v=>by simp[o7]
 |x::l,n,v=>by
  simp only[o7]
  split
  ·simp only[List.mem_cons,wV l n v];constructor
   ·rintro(h|h|h)
    ·exact .inl (.inl h)
    ·exact .inl (.inr h)
    ·exact .inr h
   ·rintro((h|h)|h)
    ·exact .inl h
    ·exact .inr (.inl h)
    ·exact .inr (.inr h)
  ·split
   ·rename_i h;subst h;simp only[List.mem_cons];constructor
    ·exact .inl
    ·rintro(h|h)
     ·exact h
     ·exact .inl h
   ·simp only[List.mem_cons];constructor
    ·rintro(h|h)
     ·exact .inr h
     ·exact .inl h
    ·rintro(h|h)
     ·exact .inr h
     ·exact .inl h
abbrev FM(l:List Int):Prop:=l.Pairwise (· <·)
theorem DF:∀ {l:List Int} (n:Int),FM l->FM (o7 l n)
 |[],n,_=>by simp[o7]
 |x::l,n,h=>by
  have h1:=List.pairwise_cons.1 h
  simp only[o7]
  split
  ·rename_i hx
   refine List.pairwise_cons.2 ⟨fun y hy=> ?_,DF n h1.2⟩
   rcases(wV l n y).1 hy with hy|hy
   ·exact h1.1 y hy
   ·omega
  ·split
   ·exact h
   ·refine List.pairwise_cons.2 ⟨fun y hy=> ?_,h⟩
    rcases List.mem_cons.1 hy with hy|hy
    ·omega
    ·have:=h1.1 y hy;omega
theorem oK(op n:Int)(i:Nat):∀ (l out:List Int),FM out->FM (qd op n i l out)/\∀v,v∈qd op n i l out↔v∈out\/(v∈l/\ ¬ (op=8/\i=1/\n=v))
 |[],out,h=>⟨h,fun v=>by simp[qd]⟩
 |x::l,out,h=>by
  have hk:qd op n i (x::l) out=qd op n i l (if(op !=8||(i:Int)!=1||x !=n)=true then o7 out x else out):=rfl
  rw[hk]
  by_cases hc:(op !=8||(i:Int)!=1||x !=n)=true
  ·rw[if_pos hc]
   have ih:=oK op n i l (o7 out x) (DF x h)
   refine⟨ih.1,fun v=> ?_⟩
   rw[ih.2 v,wV,List.mem_cons]
   have sD: ¬ (op=8/\i=1/\n=x):=by
    rintro⟨h1,h2,h3⟩;subst h1;subst h2;subst h3;simp at hc
   constructor
   ·rintro((h|h)|h)
    ·exact .inl h
    ·subst h;exact .inr ⟨.inl rfl,sD⟩
    ·exact .inr ⟨.inr h.1,h.2⟩
   ·rintro(h|⟨h|h,h2⟩)
    ·exact .inl (.inl h)
    ·exact .inl (.inr h)
    ·exact .inr ⟨h,h2⟩
  ·rw[if_neg hc]
   have ih:=oK op n i l out h
   refine⟨ih.1,fun v=> ?_⟩
   rw[ih.2 v,List.mem_cons]
   have sD:op=8/\i=1/\n=x:=by simp at hc;exact⟨hc.1.1,af,hc.2.symm⟩
   constructor
   ·rintro(h|h)
    ·exact .inl h
    ·exact .inr ⟨.inr h.1,h.2⟩
   ·rintro(h|⟨h|h,h2⟩)
    ·exact .inl h
    ·subst h;exact absurd sD h2
    ·exact .inr ⟨h,h2⟩
theorem cO:∀t:Tm,FM (cJ t)/\∀v,v∈cJ t↔fO v t=true:=by
 refine Tm.ek fun t ih=> ?_
 have hs:∀ (l:List Tm) (i:Nat) (out:List Int),(∀k∈l,k∈t.kids)->FM out->FM (mF t.op t.n l i out)/\∀v,v∈mF t.op t.n l i out↔v∈out\/Ba v t.op t.n l i=true:=by
  intro l
  induction l with
  |nil=>intro i out _ h;exact⟨h,fun v=>by simp[mF,Ba]⟩
  |cons k l Yh=>
   intro i out hk h
   have h1:=ih k (hk k aE)
   have h2:=oK t.op t.n i (cJ k) out h
   have h3:=Yh (i+1) _ (fun x hx=>hk x kE) h2.1
   refine⟨h3.1,fun v=> ?_⟩
   show v∈mF t.op t.n l (i+1) (qd t.op t.n i (cJ k) out)↔_
   rw[h3.2 v,h2.2 v,h1.2 v,Ba]
   simp only[Bool.or_eq_true,Bool.and_eq_true,Bool.not_eq_true',Bool.and_eq_false_iff,beq_eq_false_iff_ne,ne_eq,not_and]
   have:(∀ (_:t.op=8) (_:i=1), ¬t.n=v)↔((¬t.op=8\/ ¬i=1)\/ ¬t.n=v):=by
    constructor
    ·intro h
     by_cases c1:t.op=8
     ·by_cases c2:i=1
      ·exact .inr (h c1 c2)
      ·exact .inl (.inr c2)
     ·exact .inl (.inl c1)
    ·rintro((h|h)|h) c1 c2
     ·exact absurd c1 h
     ·exact absurd c2 h
     ·exact h
   rw[this]
   constructor
   ·rintro((h|h)|h)
    ·exact .inl h
    ·exact .inr (.inl h)
    ·exact .inr (.inr h)
   ·rintro(h|h|h)
    ·exact .inl (.inl h)
    ·exact .inl (.inr h)
    ·exact .inr h
 by_cases h1:t.op=1
 ·rw[rv,if_pos h1]
  refine⟨aE,fun v=> ?_⟩
  rw[s7,if_pos h1]
  simp only[List.mem_singleton,beq_iff_eq]
  exact eq_comm
 ·rw[rv,if_neg h1]
  have:=hs t.kids 0 [] (fun _ h=>h) aE
  refine⟨this.1,fun v=> ?_⟩
  rw[this.2 v,s7,if_neg h1]
  simp
theorem Nw:∀ {l l':List Int},FM l->FM l'->(∀v,v∈l↔v∈l')->l=l'
 |[],[],_,_,_=>rfl
 |[],y::l',_,_,h=>by have:=(h y).2 aE;cases this
 |x::l,[],_,_,h=>by have:=(h x).1 aE;cases this
 |x::l,y::l',h1,h2,h=>by
  have g1:=List.pairwise_cons.1 h1
  have g2:=List.pairwise_cons.1 h2
  have e:x=y:=by
   rcases List.mem_cons.1 ((h x).1 aE)with e|e
   ·exact e
   ·rcases List.mem_cons.1 ((h y).2 aE)with e2|e2
    ·exact e2.symm
    ·have:=g2.1 x e;have:=g1.1 y e2;omega
  subst e
  rw[Nw g1.2 g2.2 fun v=> ?_]
  constructor
  ·intro hv
   rcases List.mem_cons.1 ((h v).1 (by simp[hv]))with e|e
   ·subst e;exact absurd (g1.1 v hv) af
   ·exact e
  ·intro hv
   rcases List.mem_cons.1 ((h v).2 (by simp[hv]))with e|e
   ·subst e;exact absurd (g2.1 v hv) af
   ·exact e
theorem qe{α:Type}{l:List α}{i:Nat}{n:α}(h:l[i]? =some n):(n::l.eraseIdx i).Perm l:=by
 obtain⟨hi,e⟩:=List.getElem?_eq_some_iff.1 h
 have Tj:l=l.take i++n::l.drop (i+1):=by rw[<- e,List.getElem_cons_drop,List.take_append_drop]
 rw[List.eraseIdx_eq_take_drop_succ]
 conv=>rhs;rw[Tj]
 exact List.perm_middle.symm
end Go.Proofs.YtlhemmpklhhgoaaGreat
section
namespace Go.Proofs.YtlhemmpklhhgoaaGreat
open Go.Sort Go.RowKit
def DG(P:Program)(g:FuncId):Prop:=∀ (eB off cap:Nat) (zs:List Int) (w:World),Holds (Value.int .i64) w eB off zs.toArray->eB<w.heap.size->zs.length<4611686018427387904->
    Calls P g #[.slice (some ⟨eB,off,none⟩) zs.length cap] w fun e w'=>
     e= .returned (.tuple #[])/\∃n os,w'=grow (putRow (Value.int .i64) (Sort.ahead w n) eB off (zs.mergeSort fun x y=>decide (x<=y)).toArray) os
def c9(l:List Int):List Int:=l.mergeSort fun x y=>decide (x<=y)
theorem HN{B:Nat->Prop}{w:World}:∀ (zs:List Int) (xs:List Value),eK B w 1 (zs.map (D.int .i64)) xs↔xs=zs.map (Value.int .i64):=by
 have hd:∀ (zs:List Int) (evs:List Value),D.aF B w (zs.map (D.int .i64)) evs↔evs=zs.map (Value.int .i64):=by
  intro zs
  induction zs with
  |nil=>intro evs;simp[D.aF]
  |cons z zs ih=>
   intro evs
   simp only[List.map_cons,D.aF]
   constructor
   ·rintro⟨v,vs,rfl,h1,h2⟩
    rw[(ih vs).1 h2]
    simp only[D.den]at h1
    rw[h1]
   ·intro h
    exact⟨_,_,h,rfl,(ih _).2 rfl⟩
 have hf:∀zs:List Int,(zs.map (Value.int .i64)).flatMap (·.cells.toList)=zs.map (Value.int .i64):=by
  intro zs
  induction zs with
  |nil=>rfl
  |cons z zs ih=>simp only[List.map_cons,List.flatMap_cons,ih];rfl
 intro zs xs
 constructor
 ·rintro⟨evs,h1,h2,h3⟩
  rw[h1,(hd zs evs).1 h3,hf]
 ·intro h
  subst h
  exact⟨_,(hf zs).symm,fun ev dv=>by
   obtain⟨z,_,rfl⟩:=List.mem_map.1 dv
   rfl,(hd zs _).2 rfl⟩
theorem Nx{P:Program}{g:FuncId}(hE:Enters P g)(hS:DG P g){o:Nat->ad}{nx id ep:Nat}{ty:TypeId}{zs:List Int}(ho:o id= .arr ep ty 1 (zs.map (D.int .i64)))
 (hn:∀p cap w,Calls P g #[.slice p 0 cap] w fun e w'=>e= .returned (.tuple #[])/\w'=w)
 (hlen:zs.length<4611686018427387904) {K X:V->(Nat->ad)->Nat->Prop} (hK:K (.bY []) (ay o id (.arr ep ty 1 ((c9 zs).map (D.int .i64)))) nx):bP P g [.osl id ep] o nx K X:=by
 refine⟨hE,fun M φ w vals hH hd=> ?_⟩
 obtain⟨val,us,lE,⟨v0,v1,v2⟩,ec⟩:=hd
 have ec:us=[]:=ec
 subst ec
 have fS:val=φ id:=(v2 ep (by show(o id).cz=some ep;rw[ho];rfl)).2 rfl
 have FN:vals=#[φ id]:=by rw[<- fS];exact Array.ext' (by simpa using lE)
 subst FN
 have MI:=hH.ok id
 unfold aS at MI
 rw[show(hp o nx).o id= .arr ep ty 1 (zs.map (D.int .i64))from ho]at MI
 obtain⟨_,xs,dG,c8⟩:=MI
 have Af:=(HN zs xs).1 c8
 subst Af
 simp only[List.length_map]at dG
 obtain⟨hl,Wa|⟨b,cap,cur,eT,_,hg,dV,ER,hcs,aeK⟩⟩:=dG
 ·obtain⟨h1,h2⟩:=Wa
  have hz:zs=[]:=List.length_eq_zero_iff.1 h2
  subst hz
  rw[h1]
  refine(hn none 0 w).mono ?_
  rintro e w' ⟨rfl,rfl⟩
  have tK:ay o id (.arr ep ty 1 ((c9 []).map (D.int .i64)))=o:=by
   funext j
   by_cases e:j=id
   ·subst e;rw[aa,ho,show c9 []=[] by simp[c9]]
   ·exact GH
  rw[tK]at hK
  exact⟨φ,o,nx, .bY [],hH,Trans.refl _ _ _,⟨#[],rfl,rfl⟩,hK⟩
 ·rw[eT]
  have hb:b<w.heap.size:=(Array.getElem?_eq_some_iff.1 hg).1
  have aeL:∀j,j<zs.length->cur[j]? =some (.int .i64 zs[j]!):=by
   intro j hj
   have h1:(cur.toList.take (zs.length*1))[j]? =(zs.map (Value.int .i64))[j]? :=by rw[aeK]
   rw[List.getElem?_take_of_lt (by omega),List.getElem?_map,List.getElem?_eq_getElem hj]at h1
   simp only[Option.map_some]at h1
   rw[getElem!_pos zs j hj]
   simpa using h1
  refine(hS b 0 cap zs w (fun j hj=> ?_) hb hlen).mono ?_
  ·simp only[List.size_toArray]at hj
   refine⟨?_, ?_⟩
   ·unfold World.cell?
    simp only[hg,Option.isSome_none,Bool.false_eq_true,if_false,Nat.zero_add]
    rw[aeL j hj];simp
   ·unfold World.frozen?
    simp[hg]
  rintro e w' ⟨rfl,n,os,rfl⟩
  have MH:(c9 zs).length=zs.length:=List.length_mergeSort zs
  have HG:∀k,k<w.heap.size->(grow (putRow (Value.int .i64) (Sort.ahead w n) b 0 (c9 zs).toArray) os).heap[k]? =(w.heap.modify b (onCells (putCells (Value.int .i64) 0 (c9 zs).toArray)))[k]? :=by
   intro k hk
   unfold grow putRow mapBlock Sort.ahead
   simp only
   rw[Array.getElem?_append_left (by simpa using hk)]
  have G9:eC (· =b) w (grow (putRow (Value.int .i64) (Sort.ahead w n) b 0 (c9 zs).toArray) os):=by
   refine⟨rfl,rfl,rfl, ?_,fun k hk iu=> ?_⟩
   ·unfold grow putRow mapBlock Sort.ahead;simp
   ·rw[HG k hk,Array.getElem?_modify,if_neg (fun e=>iu e.symm)]
  have cX:((hp o nx).o id).live=true:=by show(o id).live=true;rw[ho];rfl
  have JC:eB (φ id)=some b:=by rw[eT];rfl
  have V9:(grow (putRow (Value.int .i64) (Sort.ahead w n) b 0 (c9 zs).toArray) os).heap[b]? =some (.cells (putCells (Value.int .i64) 0 (c9 zs).toArray cur) ty (0,0)):=by
   rw[HG b hb,Array.getElem?_modify,if_pos rfl,hg];rfl
  have fA:(hp o nx).put [(id, .arr ep ty 1 ((c9 zs).map (D.int .i64)))]=hp (ay o id (.arr ep ty 1 ((c9 zs).map (D.int .i64)))) nx:=by
   have ec:id<nx:=v1
   simp only[Hp.put,hp]
   congr 1
   funext j
   simp only[List.map_cons,List.map_nil,List.mem_singleton,eq_iff_iff]
   exact⟨fun h=>h.elim (fun h=>h) (fun e=>e ▸ ec), .inl⟩
  have vE:aS M φ ((hp o nx).put [(id, .arr ep ty 1 ((c9 zs).map (D.int .i64)))]) (grow (putRow (Value.int .i64) (Sort.ahead w n) b 0 (c9 zs).toArray) os) id:=by
   unfold aS
   rw[show((hp o nx).put [(id, .arr ep ty 1 ((c9 zs).map (D.int .i64)))]).o id= .arr ep ty 1 ((c9 zs).map (D.int .i64)) by simp]
   refine⟨bF,(c9 zs).map (Value.int .i64), ?_,(HN _ _).2 rfl⟩
   simp only[List.length_map,MH]
   refine⟨by simp[MH], .inr ⟨b,cap,_,eT,Nat.zero_le _,V9,dV,ER, ?_, ?_⟩⟩
   ·unfold putCells;simpa using hcs
   ·apply List.ext_getElem?
    intro j
    by_cases hj:j<zs.length
    ·rw[List.getElem?_take_of_lt (by omega),List.getElem?_map,List.getElem?_eq_getElem (l:=c9 zs) (by omega)]
     have Tq:j<cur.size:=af
     unfold putCells
     simp only[Array.getElem?_toList,Array.getElem?_mapIdx,Option.map_some]
     rw[Array.getElem?_eq_getElem Tq]
     simp only[Option.map_some,Nat.zero_le,true_and,Nat.zero_add,List.size_toArray,Nat.sub_zero]
     rw[if_pos (by omega)]
     rw[getElem!_pos _ j (by simp;omega)]
     simp
    ·rw[List.getElem?_eq_none (by rw[List.length_take,Nat.mul_one];exact Nat.le_trans (Nat.min_le_left _ _) (Nat.not_lt.1 hj)),List.getElem?_eq_none (by rw[List.length_map,MH];exact Nat.not_lt.1 hj)]
  have U7:=iD hH (id:=id) v1 cX JC G9 (.arr ep ty 1 ((c9 zs).map (D.int .i64))) Gt Gt vE
  have T7:=eZ (φ:=φ) (H:=hp o nx) (id:=id) v1 cX JC G9 (.arr ep ty 1 ((c9 zs).map (D.int .i64))) Gt Gt
  rw[fA]at U7 T7
  exact⟨φ,_,nx, .bY [],U7,T7,⟨#[],rfl,rfl⟩,hK⟩
end Go.Proofs.YtlhemmpklhhgoaaGreat
end
section
namespace Go.Proofs.YtlhemmpklhhgoaaGreat
open Go.Shelf
def DH:Go.Shelf.Ren:=⟨fun|189=>135|125=>163|257=>162|128=>184|129=>185|294=>175|295=>176|296=>177|297=>178|298=>179|299=>180|216=>181|300=>182|301=>183|328=>188|329=>189|330=>190|331=>191|332=>192|215=>193|343=>201|n=>n,fun|28=>142|3=>3|46=>193|0=>0|51=>205|53=>207|4=>4|183=>197|182=>196|131=>202|5=>5|9=>9|218=>214|222=>218|228=>220|229=>221|n=>n,fun|n=>n⟩
theorem HO:Go.Proofs.Lays.n189 Tryz.prog DH:={
 mixed:=ai
 f125:=Tryz.func163.trans (congrArg some ai)
 f128:=Tryz.func184.trans (congrArg some ai)
 f129:=Tryz.func185.trans (congrArg some ai)
 f189:=Tryz.func135.trans (congrArg some ai)
 f215:=Tryz.func193.trans (congrArg some ai)
 f216:=Tryz.func181.trans (congrArg some ai)
 f257:=Tryz.func162.trans (congrArg some ai)
 f294:=Tryz.func175.trans (congrArg some ai)
 f295:=Tryz.func176.trans (congrArg some ai)
 f296:=Tryz.func177.trans (congrArg some ai)
 f297:=Tryz.func178.trans (congrArg some ai)
 f298:=Tryz.func179.trans (congrArg some ai)
 f299:=Tryz.func180.trans (congrArg some ai)
 f300:=Tryz.func182.trans (congrArg some ai)
 f301:=Tryz.func183.trans (congrArg some ai)
 f328:=Tryz.func188.trans (congrArg some ai)
 f329:=Tryz.func189.trans (congrArg some ai)
 f330:=Tryz.func190.trans (congrArg some ai)
 f331:=Tryz.func191.trans (congrArg some ai)
 f332:=Tryz.func192.trans (congrArg some ai)
 f343:=Tryz.func201.trans (congrArg some ai)
 t0:=Tryz.underlying0
 a0:=Tryz.isAgg0
 z0:=Tryz.sizeOf0
 v0:=Tryz.zeroValue0
 t3:=Tryz.underlying3
 a3:=Tryz.isAgg3
 z3:=Tryz.sizeOf3
 v3:=Tryz.zeroValue3
 t4:=Tryz.underlying4
 a4:=Tryz.isAgg4
 z4:=Tryz.sizeOf4
 v4:=Tryz.zeroValue4
 t5:=Tryz.underlying5
 a5:=Tryz.isAgg5
 z5:=Tryz.sizeOf5
 v5:=Tryz.zeroValue5
 t9:=Tryz.underlying9
 a9:=Tryz.isAgg9
 z9:=Tryz.sizeOf9
 v9:=Tryz.zeroValue9
 t28:=Tryz.underlying142
 a28:=Tryz.isAgg142
 z28:=Tryz.sizeOf142
 v28:=Tryz.zeroValue142
 t46:=Tryz.underlying193
 a46:=Tryz.isAgg193
 z46:=Tryz.sizeOf193
 v46:=Tryz.zeroValue193
 t51:=Tryz.underlying205
 a51:=Tryz.isAgg205
 z51:=Tryz.sizeOf205
 v51:=Tryz.zeroValue205
 t53:=Tryz.underlying207
 a53:=Tryz.isAgg207
 z53:=Tryz.sizeOf207
 v53:=Tryz.zeroValue207
 t131:=Tryz.underlying202
 a131:=Tryz.isAgg202
 z131:=Tryz.sizeOf202
 v131:=Tryz.zeroValue202
 t182:=Tryz.underlying196
 a182:=Tryz.isAgg196
 z182:=Tryz.sizeOf196
 v182:=Tryz.zeroValue196
 t183:=Tryz.underlying197
 a183:=Tryz.isAgg197
 z183:=Tryz.sizeOf197
 v183:=Tryz.zeroValue197
 t218:=Tryz.underlying214
 a218:=Tryz.isAgg214
 z218:=Tryz.sizeOf214
 v218:=Tryz.zeroValue214
 t222:=Tryz.underlying218
 a222:=Tryz.isAgg218
 z222:=Tryz.sizeOf218
 v222:=Tryz.zeroValue218
 t228:=Tryz.underlying220
 a228:=Tryz.isAgg220
 z228:=Tryz.sizeOf220
 v228:=Tryz.zeroValue220
 t229:=Tryz.underlying221
 a229:=Tryz.isAgg221
 z229:=Tryz.sizeOf221
 v229:=Tryz.zeroValue221}
theorem J8:DG Tryz.prog 135:=fun eB off cap zs w h1 h2 h3=>Any.slices_Sort_int HO eB off cap zs w h1 h2 h3
theorem J9:∀ (p:Option Addr) (cap:Nat) (w:World),Calls Tryz.prog 135 #[.slice p 0 cap] w fun e w'=>e= .returned (.tuple #[])/\w'=w:=fun p cap w=>Any.slices_Sort_int_none HO p cap w
theorem DI:Enters Tryz.prog 135:=⟨_,Tryz.func135,ai,ai⟩
end Go.Proofs.YtlhemmpklhhgoaaGreat
end
namespace Go.Proofs.YtlhemmpklhhgoaaGreat
end Go.Proofs.YtlhemmpklhhgoaaGreat
namespace Go.Proofs.YtlhemmpklhhgoaaGreat
theorem Bb{o:Nat->ad}{nx:Nat}{Δ:List (Nat×ad)}(h:∀x∈Δ,x.1<nx):(hp o nx).put Δ=hp (put o Δ) nx:=by
 simp only[Hp.put,hp]
 congr 1
 funext j
 simp only[List.mem_map,eq_iff_iff]
 exact⟨fun h2=>h2.elim (fun h=>h) fun⟨x,hx,e⟩=>e ▸ h x hx, .inl⟩
theorem bP.FO {P:Program}{g:FuncId}{args:List V}{o:Nat->ad}{nx id:Nat}{kt vt:TypeId}{l:List (D×D)}{K X:V->(Nat->ad)->Nat->Prop}(ho:o id= .map kt vt l)(aw:id<nx)
 (h:bP P g args (ay o id (.cc l)) nx K X):bP P g args o nx K X:=by
 refine⟨h.1,fun M φ w vals hH hd=> ?_⟩
 obtain⟨h1,h2⟩:=Ad hH (id:=id) aw ho
 have fA:(hp o nx).put [(id, .cc l)]=hp (ay o id (.cc l)) nx:=Bb (fun x hx=>by simp at hx;subst hx;exact aw)
 rw[fA]at h1 h2
 have hB:∀b, ¬ao M φ (hp o nx) b-> ¬ao M φ (hp (ay o id (.cc l)) nx) b:=by
  rintro b hn (hb|⟨j,hl,hb⟩)
  ·exact hn (.inl hb)
  ·refine hn (.inr ⟨j, ?_,hb⟩)
   by_cases e:j=id
   ·subst e;show(o j).live=true;rw[ho];rfl
   ·have hl:(ay o id (.cc l) j).live=true:=hl
    rw[ae _ _ _ _ e]at hl;exact hl
 refine(h.2 M φ w vals h1 (V.eG (H:=hp o nx) hB _ _ (fun j hj=>⟨?_,rfl,V.eo _ _ hd j hj⟩) hd)).mono ?_
 ·show kz (ay o id (.cc l) j) (o j)
  by_cases e:j=id
  ·subst e;rw[aa,ho];exact⟨fun _=>rfl,fun e he=>by cases he⟩
  ·rw[ae _ _ _ _ e];exact kz.rfl' rfl
 ·rintro e w' ⟨aH,o',nx',v,k1,k2,k3⟩
  exact⟨aH,o',nx',v,k1,h2.trans k2,k3⟩
theorem bP.seal {P:Program}{g:FuncId}{args:List V}{o:Nat->ad}{nx:Nat}{K X:V->(Nat->ad)->Nat->Prop}
 (h:bP P g args o nx (fun v o' nx'=>∃x,dM o' v=some x/\K (.d x) (put o' (bG o' v.ids)) nx') X):bP P g args o nx K X:=by
 refine⟨h.1,fun M φ w vals hH hd=>(h.2 M φ w vals hH hd).mono ?_⟩
 rintro e w' ⟨aH,o',nx',v,k1,k2,k3⟩
 cases e with
 |returned val=>
  obtain⟨k4,x,k5,k6⟩:=k3
  have hu:=fun id aw=>cS v val k4 id aw
  obtain⟨f1,f2,f3,f4,f5⟩:=cY (H:=hp o' nx') k1 v.ids hu
  have fA:(hp o' nx').put (bG o' v.ids)=hp (put o' (bG o' v.ids)) nx':=Bb (fun y hy=>by
   simp only[bG,List.mem_map]at hy
   obtain⟨id,aw,rfl⟩:=hy
   exact hu id aw)
  have U8:=f1;have U9:=f2
  rw[show bG (hp o' nx').o v.ids=bG o' v.ids from rfl,fA]at U8 U9
  have O7:∀k,cI aH ((hp o' nx').put (bG o' v.ids)) k->cI aH (hp o' nx') k:=by
   rintro k ⟨id,g1,g2⟩
   by_cases aw:id∈v.ids
   ·have:=f3 id aw
    rw[show((hp o' nx').put (bG o' v.ids)).o id=_ from this]at g1
    refine⟨id, ?_,g2⟩
    revert g1
    cases(hp o' nx').o id<;>simp[ad.fz,ad.live]
   ·have:=f4 id aw
    rw[show((hp o' nx').put (bG o' v.ids)).o id=_ from this]at g1
    exact⟨id,g1,g2⟩
  have h4:V.den (ao M aH ((hp o' nx').put (bG o' v.ids))) aH ((hp o' nx').put (bG o' v.ids)) w' v val:=
   V.ke (H:=hp o' nx') (fun k h h'=>h (h'.imp id (O7 k))) v val (fun id aw=>by
     have ec:(hp o' nx').us id:=(V.jF v val k4) id aw
     refine⟨?_,rfl,(f5 id).2 ec⟩
     by_cases hm:id∈v.ids
     ·rw[show((hp o' nx').put (bG o' v.ids)).o id=_ from f3 id hm];exact kz.fz _
     ·rw[show((hp o' nx').put (bG o' v.ids)).o id=_ from f4 id hm];exact kz.rfl' rfl) k4
  have h5:=eN f1 (o:=o') v x val (fun id aw=>f3 id aw) k5 h4
  rw[show(hp o' nx').put (bG (hp o' nx').o v.ids)=hp (put o' (bG o' v.ids)) nx' from fA]at h5
  exact⟨aH,_,nx', .d x,U8,k2.trans U9,h5,k6⟩
 |panicked ch=>exact⟨aH,o',nx',v,k1,k2,k3⟩
 |outgrown=>exact k3.elim
section
section
variable {B:Nat->Prop}{w:World}
end
end
@[reducible] def mpD (m:List (Int×D)):D:= .mp ((enc (D.int .i64) m).map (·.1)) ((enc (D.int .i64) m).map (·.2))
theorem oL(m:List (Int×D)):(((enc (D.int .i64) m).map (·.1)).zip ((enc (D.int .i64) m).map (·.2)))=enc (D.int .i64) m:=Q0 _ m
theorem Ka:∀ {l:List Int},FM l->l.Nodup:=by
 intro l h
 exact List.Pairwise.imp (fun h=>af) h
theorem Ny(a b:List Tm)(ha:a.length<=9223372036854775807)(hb:b.length<=9223372036854775807)(g:Nat)(h:∀x∈a,∀y∈b,aW Tryz.prog g [x.d,y.d] (.ret [.bool (gY x y)]))(o:Nat->ad)(nx:Nat)(hg:Good o nx)(K X:V->(Nat->ad)->Nat->Prop)
 (hK:∀o' nx',nx<=nx'->Good o' nx'->(∀j,j<nx->o' j=o j)->K (.d (.bool (a.length==b.length&&iO a b))) o' nx'):
 bP Tryz.prog 133 [.d (.sl (a.map Tm.d)), .d (.sl (b.map Tm.d)), .func (.func g) [] []] o nx K X:=by
 refine bP.aG mix Uu aE ?_
 rw[XI]
 refine fY ?_
 refine ak (fun h1=> ?_) (fun h1=> ?_)
 ·refine cK ?_
  have:(a.length==b.length&&iO a b)=false:=by
   have:(a.length==b.length)=false:=by
    rw[Bool.eq_false_iff];intro h
    simp at h;simp[h]at h1
   rw[this];rfl
  rw[this]at hK
  exact hK _ _ af (hg.mono af) (fun _ _=>rfl)
 ·have hl:a.length=b.length:=by simp at h1;omega
  have G0:(a.length==b.length)=true:=by simpa using hl
  rw[G0,Bool.true_and]at hK
  refine fY ?_
  refine aD (fun k:Nat=>⟨aX [.d (.sl (a.map Tm.d)), .d (.sl (b.map Tm.d)), .func (.func g) [] [], .ab, .ab, .ab, .ab, .ab, .ab, .ab, .ab, .ab, .ab, .ab, .ab, .d (.sl (a.map Tm.d)), .d (.i a.length), .d (.i k)],o,nx⟩)
   (fun k=>k<=a.length/\∀i,i<k->∀x y,a[i]? =some x->b[i]? =some y->gY x y=true) (fun k=>a.length - k) 0 ⟨Nat.zero_le _,fun i h=>af⟩ (bL.bS _ (Nat.le_refl _) af hg (fun _ _=>rfl) ?_) (fun k hk=> ?_)
  ·exact dT
  refine cK ?_
  refine ak (fun h2=> ?_) (fun h2=> ?_)
  ·simp at h2
   obtain⟨x,hx⟩:=aB h2
   obtain⟨y,hy⟩:=aB (l:=b) (k:=k) af
   refine K2 hx hy ?_
   refine aq (h x (List.mem_of_getElem? hx) y (List.mem_of_getElem? hy)) rfl ?_
   refine cK ?_
   refine ak (fun h3=> ?_) (fun h3=> ?_)
   ·refine cK ?_
    simp at h3
    have:iO a b=false:=by
     rw[Bool.eq_false_iff];intro h4
     have:=(iQ _ _ hl).1 h4 k x y hx hy
     rw[h3]at this;cases this
    rw[this]at hK
    refine hK _ _ af ?_ (fun j hj=>by(repeat(first|rfl|rw[aa]|rw[ae _ _ _ _ (by omega)])))
    exact dh
   ·refine cK ?_
    simp at h3
    refine aj (k+1) ⟨h2,fun i hi u v hu hv=> ?_⟩ af (bL.bS _ (Nat.le_refl _) af hg (fun j hj=>by(repeat(first|rfl|rw[aa]|rw[ae _ _ _ _ (by omega)]))) ?_)
    ·by_cases e:i=k
     ·subst e
      rw[hx]at hu;rw[hy]at hv
      exact Sx
     ·exact hk.2 i af u v hu hv
    ·exact dT
  ·refine cK ?_
   simp at h2
   have:iO a b=true:=(iQ _ _ hl).2 fun i x y hx hy=>hk.2 i (by have:=(List.getElem?_eq_some_iff.1 hx).1;omega) x y hx hy
   rw[this]at hK
   exact hK _ _ af (hg.mono af) (fun _ _=>rfl)
theorem Yw(n:Int):aW Tryz.prog 80 [.i n] (.ret [(Tm.mk 1 n []).d]):=by
 refine aW.aG mix adm aE ?_
 rw[c80]
 refine cK ?_
 rw[Tm.Db]
 rfl
def lk:List (Int×Int)->Int->Option Int
 |[],_=>none
 |p::m,v=>if p.1=v then some p.2 else lk m v
abbrev Keys(m:List (Int×Int)):Prop:=(m.map (·.1)).Nodup
def ints(m:List (Int×Int)):List (Int×D):=m.map fun p=>(p.1,D.i p.2)
def bQ:List (Int×Tm)->Int->Option Tm
 |[],_=>none
 |p::l,v=>if p.1=v then some p.2 else bQ l v
mutual
def Tm.wf:Tm->Prop
 | .mk op _ kids=>(op=1->kids=[])/\(op=8->kids.length=2)/\Tm.wfs kids
def Tm.wfs:List Tm->Prop
 |[]=>True
 |k::l=>k.wf/\Tm.wfs l
end
theorem Tm.HP:∀l:List Tm,Tm.wfs l↔∀k∈l,k.wf
 |[]=>by simp[Tm.wfs]
 |k::l=>by simp[Tm.wfs,Tm.HP l]
theorem Tm.FP (t:Tm):t.wf↔(t.op=1->t.kids=[])/\(t.op=8->t.kids.length=2)/\∀k∈t.kids,k.wf:=by cases t;simp[Tm.wf,Tm.HP,Tm.op,Tm.kids]
theorem Yx{t:Tm}(h:t.kids.length=2):∃a b,t.kids=[a,b]:=by
 match hk:t.kids with
 |[a,b]=>exact⟨a,b,rfl⟩
 |[]=>rw[hk]at h;cases h
 |[_]=>rw[hk]at h;cases h
 |_::_::_::_=>rw[hk]at h;simp at h
theorem lS{b:List (Int×Tm)}{v:Int}:bQ b v=none↔v∉b.map (·.1):=by
 induction b with
 |nil=>simp[bQ]
 |cons p l ih=>
  simp only[bQ,List.map_cons,List.mem_cons,not_or]
  split
  ·rename_i h;simp[h]
  ·rename_i h;rw[ih];exact⟨fun h2=>⟨fun e=>h e.symm,h2⟩,fun h2=>h2.2⟩
theorem ck{b:List (Int×Tm)}{v:Int}{x:Tm}(h:bQ b v=some x):(v,x)∈b:=by
 induction b with
 |nil=>cases h
 |cons p l ih=>
  simp only[bQ]at h
  split at h
  ·rename_i e;injection h with h;subst h;subst e;exact List.mem_cons_self ..
  ·exact List.mem_cons_of_mem _ (ih h)
theorem fW{b:List (Int×Tm)}(hb:(b.map (·.1)).Nodup){v:Int}{x:Tm}:bQ b v=some x↔(v,x)∈b:=by
 refine⟨ck,fun h=> ?_⟩
 induction b with
 |nil=>cases h
 |cons p l ih=>
  rw[List.map_cons,List.nodup_cons]at hb
  simp only[bQ]
  rcases List.mem_cons.1 h with e|h
  ·subst e;simp
  ·rw[if_neg (fun e=>hb.1 (by rw[e];exact List.mem_map.2 ⟨_,h,rfl⟩)),ih hb.2 h]
def DJ(b:Bool)(x:Tm×Int):Bool:=b&&x.1.op !=1
def Va(t:Tm):Bool:=(pre t 1).all fun x=>x.1.op !=1
theorem tX:∀ (l:List (Tm×Int)) (b:Bool),(aQ (xB (fun _=>none) DJ) b l).1=(b&&l.all fun x=>x.1.op !=1)
 |[],b=>by simp[aQ]
 |x::l,b=>by
  have e1:xB (fun _=>(none:Option ku)) DJ b x=(DJ b x,true):=rfl
  rw[aQ,e1]
  simp only[if_true]
  rw[tX l,DJ,List.all_cons,Bool.and_assoc]
theorem FQ(s:az)(hs:s.Fits)(t:Tm)(ht:t.Fin):aW Tryz.prog 129 [s.d,t.d] (.ret [.bool (jk s [t]&&nV t), .bool (jk s [t]&&nV t&&Va t), .i (m7 (jk s [t]))]):=by
 refine aW.aG mix Us aE ?_
 rw[XG]
 refine cK ?_
 refine aq (Q3 s hs [t] aE (fun x hx=>by simp at hx;subst hx;exact ht)) rfl ?_
 cases h1:jk s [t]with
 |false=>simp+contextual (disch:=first|omega|simp only[go_sem,false_implies]) only[go_sem,wrap64,if_pos,and_self];simp[m7]
 |true=>
  refine fY ?_
  refine bX (wO t _ _ _ _ ?_)
  refine fY ?_
  refine nU (σ:=Bool) t ht.fits ht.mA [.ab, .ab, .ab, .ptr 1 0, .ab, .ab, .ab, .ptr 10 0] ?_ bF rfl dh yg (aa _ _ _)
   (fun b=>ay (ay (ay (ay (ay (fun _=> .no) 0 (.row s.row)) 1 (.row t.row)) 7 (.arr 0 33 3 [t.d])) 10 (.row [.d (.bool b)])) 13 (.row t.row)) (fun _=>none) DJ (fun _=>True) true trivial rfl (fun id aw=> ?_) (fun _ _ _ _ _ _=>trivial) ?_ ?_
  ·exact La
  ·rw[uV]
  ·intro L hL x8 x hx s' h1 h2 o3 n3 hI hn ho K X eJ
   simp only[pS]
   have hg:=hI.cu
   have q1:o3 10= .row [.d (.bool s')]:=hI.eq 10 af
   refine cK ?_
   refine nR hL (pd:=none) ?_ ?_
   ·(repeat(first|rfl|rw[aa]|rw[ae _ _ _ _ (by omega)]))
    exact ho
   refine ou q1 ?_
   refine eJ _ _ _ .busy none af ⟨dh,af,fun id aw=> ?_⟩ cg (fun id h3 h4=>by(repeat(first|rfl|rw[aa]|rw[ae _ _ _ _ (by omega)])))
   by_cases e:id=10
   ·exact vi
   ·rw[ae _ _ _ _ e];(repeat(first|rfl|rw[aa]|rw[ae _ _ _ _ (by omega)]))
    rw[hI.eq id aw]
    simp only[aN,e,if_false]
  ·intro o' n' hI
   have hf:=tX (pre t 1) true
   rw[Bool.true_and]at hf
   rw[hf]at hI
   have q0:o' 1= .row t.row:=hI.eq 1 af
   have q1:o' 10= .row [.d (.bool (Va t))]:=hI.eq 10 af
   simp only[qS]
   refine IB q0 q1 ?_
   refine aq (J3 t ht) rfl ?_
   cases hv:nV t<;>(simp+contextual (disch:=first|omega|simp only[go_sem,false_implies]) only[go_sem,wrap64,if_pos,q0,q1];refine aK bF ?_;simp+contextual (disch:=first|omega|simp only[go_sem,false_implies]) only[go_sem,wrap64,if_pos,and_self];simp[m7])
theorem HQ{v op n:Int}(h:op≠8):∀ (l:List Tm) (i:Nat),Ba v op n l i=l.any (fO v)
 |[],i=>rfl
 |k::l,i=>by
  have:(op==8)=false:=by simpa using h
  simp[Ba,HQ h l,this]
theorem Nz{s:az}{t:Tm}(h:bw s t=true)(h1:t.op=1):t.kids=[]:=by
 simp[bw,h1]at h
 exact h.1
theorem wW:∀ (l:List Int) (n:Int),∃k,k<=l.length/\(∀x∈l.take k,x<n)/\(∀x,l[k]? =some x-> ¬x<n)/\o7 l n=if l[k]? =some n then l else l.take k++n::l.drop k
 |[],n=>⟨0,Nat.zero_le _,aE,aE,by simp[o7]⟩
 |x::l,n=>by
  obtain⟨k,h1,h2,h3,h4⟩:=wW l n
  by_cases hx:x<n
  ·refine⟨k+1,by simp;omega, ?_,by simpa using h3, ?_⟩
   ·intro y hy
    simp only[List.take_succ_cons,List.mem_cons]at hy
    rcases hy with rfl|hy
    ·exact hx
    ·exact h2 y hy
   ·simp only[o7,if_pos hx,h4,List.getElem?_cons_succ,List.take_succ_cons,List.drop_succ_cons]
    split<;>simp
  ·refine⟨0,Nat.zero_le _,aE,by simpa using hx, ?_⟩
   simp only[o7,if_neg hx]
   by_cases e:x=n
   ·subst e;simp
   ·simp[e]
theorem aeM(l:List Int)(n:Int)(hl:l.length<=1000000):aW Tryz.prog 155 [.sl (l.map .i), .i n] (.ret [.sl ((o7 l n).map .i)]):=by
 obtain⟨j,j1,j2,j3,j4⟩:=wW l n
 have tk:∀ (i:Nat) (l:List Int),List.take i (l.map D.i)=(l.take i).map D.i:=fun i l=>List.map_take.symm
 have dr:∀ (i:Nat) (l:List Int),List.drop i (l.map D.i)=(l.drop i).map D.i:=fun i l=>List.map_drop.symm
 have ap:∀ (a b:List Int),a.map D.i++[D.i n]++b.map D.i=(a++n::b).map D.i:=fun a b=>aE
 refine aW.aG mix adT aE ?_
 rw[adS]
 refine cK ?_
 refine aD (fun k:Nat=>⟨aX [.d (.sl (l.map .i)), .d (.i n), .ab, .ab, .ab, .d (.i k)],fun _=> .no,0⟩)
  (fun k=>k<=j) (fun k=>l.length - k) 0 (Nat.zero_le _) (bL.d0 _ ?_) (fun k hk=> ?_)
 ·exact dT
 by_cases hkj:k=j
 ·subst hkj
  by_cases h5:k<l.length
  ·obtain⟨x,hx⟩:=aB h5
   have h6:=j3 x hx
   have uJ:(k:Int)<l.length:=af
   refine K7 hx uJ h6 ?_
   refine ak (fun h3=> ?_) (fun h3=> ?_)
   ·refine cK ?_
    have e:x=n:=by simpa using h3
    rw[j4,if_pos (by rw[hx,e])]
   ·have e: ¬x=n:=by simpa using h3
    rw[j4,if_neg (by rw[hx];simpa using e)]
    simp+contextual (disch:=first|omega|simp only[go_sem,false_implies]) only[go_sem,wrap64,if_pos,hx,uJ,h6,tk,dr,List.take_length,List.length_map,List.length_take,List.length_drop,List.length_append,List.length_cons,List.length_nil]
    rw[ap]
    refine aK bF ?_
    exact pD
  ·have uJ: ¬ (k:Int)<l.length:=af
   have hx:l[k]? =none:=by simp;omega
   rw[j4,if_neg (by rw[hx];simp)]
   simp+contextual (disch:=first|omega|simp only[go_sem,false_implies]) only[go_sem,wrap64,if_pos,uJ,tk,dr,List.take_length,List.length_map,List.length_take,List.length_drop,List.length_append,List.length_cons,List.length_nil]
   rw[ap]
   refine aK bF ?_
   exact pD
 ·have cq:k<l.length:=af
  obtain⟨x,hx⟩:=aB cq
  have uJ:(k:Int)<l.length:=af
  have h6:x<n:=j2 x (List.mem_of_getElem? (i:=k) (by rw[List.getElem?_take_of_lt (by omega)];exact hx))
  refine K7 hx uJ h6 ?_
  refine aj (k+1) af af (bL.d0 _ ?_)
  exact dT
theorem Kc{op n:Int}{i:Nat}{l:List Int}{k:Nat}{v:Int}(h:l[k]? =some v)(out:List Int):qd op n i (l.take (k+1)) out=if(op !=8||(i:Int)!=1||v !=n)=true then o7 (qd op n i (l.take k) out) v else qd op n i (l.take k) out:=by
 unfold qd
 rw[List.take_add_one,h,List.foldl_append]
 rfl
theorem Yy{t a body:Tm}{v:Int}(h8:t.op=8)(hk:t.kids=[a,body]):fO v t=(fO v a||(fO v body&& !(t.n==v))):=by
 rw[s7,hk,h8]
 simp[Ba]
theorem nY{v n:Int}:fO v (.mk 1 n [])=(n==v):=rfl
theorem NA{t:Tm}{v:Int}(h1:t.op≠1)(h8:t.op≠8):fO v t=t.kids.any (fO v):=by rw[s7,if_neg h1,HQ h8]
def ag5(R:Int->Int->Prop)(x y:Int):Int->Int->Prop:=fun v w=>(v=x/\w=y)\/(v≠x/\w≠y/\R v w)
inductive Al:(Int->Int->Prop)->Tm->Tm->Prop where
 |var {R:Int->Int->Prop} {v w:Int} (h:R v w):Al R (.mk 1 v []) (.mk 1 w [])
 |FR {R:Int->Int->Prop} {n m:Int} {a a' b b':Tm} (ha:Al R a a') (hb:Al (ag5 R n m) b b'):Al R (.mk 8 n [a,b]) (.mk 8 m [a',b'])
 |node {R:Int->Int->Prop} {op n:Int} {l l':List Tm} (h1:op≠1) (h8:op≠8) (hl:l.length=l'.length) (h:∀ (i:Nat) (k k':Tm),l[i]? =some k->l'[i]? =some k'->Al R k k'):Al R (.mk op n l) (.mk op n l')
theorem Al.mono {R:Int->Int->Prop}{t t':Tm}(h:Al R t t'):∀ {S:Int->Int->Prop},(∀v w,R v w->S v w)->Al S t t':=by
 induction h with
 |var h=>exact fun hs=> .var (hs _ _ h)
 |FR ha hb iha ihb=>
  exact fun hs=> .FR (iha hs) (ihb fun v w h=>h.elim Or.inl fun h=>Or.inr ⟨h.1,h.2.1,hs _ _ h.2.2⟩)
 |node h1 h8 hl h ih=>exact fun hs=> .node h1 h8 hl fun i k k' g g'=>ih i k k' g g' hs
def aeN(R S:Int->Int->Prop):Int->Int->Prop:=fun v w=>∃u,R v u/\S u w
theorem Al.comp {R:Int->Int->Prop}{t t1:Tm}(h:Al R t t1):∀ {S:Int->Int->Prop} {t2:Tm},Al S t1 t2->Al (aeN R S) t t2:=by
 induction h with
 |var h=>
  intro S t2 h2
  generalize he:Tm.mk 1 _ []=x at h2
  cases h2 with
  |var h3=>injection he with _ e _;subst e;exact .var ⟨_,h,h3⟩
  |FR _ _=>injection he with e;cases e
  |node g1 _ _ _=>injection he with e;exact absurd e.symm g1
 |FR ha hb iha ihb=>
  intro S t2 h2
  generalize he:Tm.mk 8 _ _=x at h2
  cases h2 with
  |var h3=>injection he with e;cases e
  |FR g1 g2=>
   injection he with _ e1 e2
   injection e2 with e2 e3
   injection e3 with e3 _
   subst e1;subst e2;subst e3
   refine .FR (iha g1) ((ihb g2).mono ?_)
   rintro v w ⟨u,(⟨p1,p2⟩|⟨p1,p2,p3⟩),(⟨q1,q2⟩|⟨q1,q2,q3⟩)⟩
   ·exact Or.inl ⟨p1,q2⟩
   ·exact absurd p2 q1
   ·exact absurd q1 p2
   ·exact Or.inr ⟨p1,q2,u,p3,q3⟩
  |node g1 g8 _ _=>injection he with e;exact absurd e.symm g8
 |node h1 h8 hl h ih=>
  intro S t2 h2
  generalize he:Tm.mk _ _ _=x at h2
  cases h2 with
  |var h3=>injection he with e;exact absurd e h1
  |FR _ _=>injection he with e;exact absurd e h8
  |node g1 g8 gl g3=>
   injection he with e1 e2 e3
   subst e1;subst e2;subst e3
   refine .node h1 h8 (hl.trans gl) fun i k k2 hk zV=> ?_
   have cq:i<_:=(List.getElem?_eq_some_iff.1 hk).1
   have Mi:=List.getElem?_eq_getElem (hl ▸ cq)
   exact ih i k _ hk Mi (g3 i _ k2 Mi zV)
theorem Q4{t:Tm}(hw:t.wf)(h:t.op=1):t= .mk 1 t.n []:=by
 obtain⟨op,n,kids⟩:=t
 rw[Tm.FP]at hw
 simp only[Tm.op,Tm.n,Tm.kids]at h hw|-
 rw[h,hw.1 h]
def IC.snd:IC->IC
 | .seq _ y=>y
 |c=>c
def IC.fst:IC->IC
 | .seq x _=>x
 | .block _ x=>x
 | .loop x=>x
 | .cond _ x _=>x
 |c=>c
@[reducible] def ag6 (m:List (Int×Int)):ad:= .map 3 3 (enc (D.int .i64) (ints m))
@[reducible] def ag7 (m:List (Int×Int)):ad:= .cc (enc (D.int .i64) (ints m))
def BdV(o:Nat->ad)(bv:V)(m:List (Int×Int)):Prop:=(bv= .d .dL/\m=[])\/∃b,bv= .mp b/\o b=ag7 m
structure ag8 (o:Nat->ad) (nx cid fid:Nat) (bv:V) (mB bd fr:List (Int×Int)) (n:Int) (sz:Nat):Prop where
 cu:Good o nx
 hc:o cid= .row [.d (.i n), .mp fid]
 hf:o fid=ag6 fr
 hb:BdV o bv mB
 kb:Keys mB
 lk:∀v,lk mB v=lk bd v
 n0:0<=n
 n1:n+sz<=1000000
@[go_sem] theorem aaf {P:Program} {kt:TypeId} {k:D} {i:Nat}:findD P kt k [] i=some none:=rfl
theorem mG{c:Nat}{G:List Gr}{so:Nat->ad}{gone:Nat->Prop}{x x' y y':ad}(h:x=y)(h':x'=y')(hs:Dt c G so gone y y'):Dt c G so gone x x':=by rw[h,h'];exact hs
theorem mH:∀l:List Tm,l.length<=oH l
 |[]=>by simp[oH]
 |k::l=>by have:=mH l;have:=Tm.sY k;rw[rq,List.length_cons];omega
theorem Tm.l7 {t k:Tm}(hk:k∈t.kids):k.sz+1<=t.sz:=by
 have:=Tm.zu hk
 rw[Tm.DD,Tm.DD]at this
 omega
theorem Tm.s8:∀t:Tm,t.mA<=t.sz:=by
 refine Tm.ek fun t ih=> ?_
 have h:Tm.iZ t.kids<=t.sz - 1:=(oI _ _).2 fun k hk=>by have:=ih k hk;have:=Tm.l7 hk;omega
 have:=Tm.sY t
 rw[Tm.qa]
 omega
theorem Tm.dC:∀t:Tm,t.sz<=1000000->t.fits:=by
 refine Tm.ek fun t ih h=> ?_
 rw[Tm.cj]
 refine⟨?_,fun k hk=>ih k hk (by have:=Tm.l7 hk;omega)⟩
 have:=mH t.kids
 rw[Tm.iw]at h
 omega
def kA(b:List (Int×Tm)):List (Int×D):=b.map fun p=>(p.1,p.2.d)
@[reducible] def Ew (b:List (Int×Tm)):D:=mpD (kA b)
theorem wX:∀ (m:List (Int×Tm)) (v:Int) (i:Nat),(match jt v (kA m) i with|some (_,x)=>some x|none=>none)=(bQ m v).map Tm.d
 |[],_,_=>rfl
 |p::m,v,i=>by
  have ih:=wX m v (i+1)
  simp only[kA,List.map_cons,jt,bQ]at ih|-
  by_cases h:v=p.1
  ·subst h;simp
  ·have h2: ¬p.1=v:=fun e=>h e.symm
   simp only[beq_iff_eq,h,h2,if_false]
   exact ih
theorem fX{m:List (Int×Tm)}{v:Int}{x:Tm}(h:bQ m v=some x):∃j,jt v (kA m) 0=some (j,x.d):=by
 have:=wX m v 0
 rw[h]at this
 cases h2:jt v (kA m) 0 with
 |none=>rw[h2]at this;cases this
 |some p=>obtain⟨j,y⟩:=p;rw[h2]at this;simp at this;subst this;exact⟨j,rfl⟩
theorem eH{m:List (Int×Tm)}{v:Int}(h:bQ m v=none):jt v (kA m) 0=none:=by
 have:=wX m v 0
 rw[h]at this
 cases h2:jt v (kA m) 0 with
 |none=>rfl
 |some p=>rw[h2]at this;cases this
theorem s9{K:V->List (Nat×ad)->Prop}{id:Nat}{m:List (Int×Tm)}(h0:m=[]->K (.bY [.d (.bool false)]) [])
 (h1:∀ (i:Nat) k x,m[i]? =some (k,x)->K (.bY [.d (.bool true), .d (.int .i64 k), .d x.d]) [(id, .rW (enc (D.int .i64) (kA (m.eraseIdx i))) (some (.int .i64 k,x.d)))]):Hh K id (enc (D.int .i64) (kA m)):=by
 refine JX _ (fun h=>h0 ?_) fun i k x h=> ?_
 ·cases m with
  |nil=>rfl
  |cons x l=>simp[kA]at h
 ·unfold kA at h|-
  rw[List.getElem?_map]at h
  cases hm:m[i]? with
  |none=>rw[hm]at h;cases h
  |some p=>
   rw[hm]at h
   simp at h
   obtain⟨rfl,rfl⟩:=h
   have:=h1 i p.1 p.2 (by rw[hm])
   rw[mE]
   exact this
@[reducible] def dt (m:List (Int×Tm)):ad:= .map 3 33 (enc (D.int .i64) (kA m))
theorem DK{m:List (Int×Tm)}{v:Int}{x:Tm}(h:bQ m v=none):JW v x.d (kA m)=kA (m++[(v,x)]):=by
 unfold JW
 rw[eH h]
 simp[kA]
theorem nZ(s:az):∀t:Tm,iN s t=true->t.wf:=by
 refine Tm.ek fun t ih h=> ?_
 rw[lQ,Bool.and_eq_true,List.all_eq_true]at h
 rw[Tm.FP]
 refine⟨fun h1=>Nz h.1 h1,fun h8=> ?_,fun k hk=>ih k hk (h.2 k hk)⟩
 have:=h.1
 simp[bw,h8]at this
 omega
theorem HS{s:az}{t:Tm}(h:gI s t=true):t.wf/\t.sz<=40/\t.mA<=12:=by
 simp only[gI,Bool.and_eq_true,decide_eq_true_eq,nW]at h
 exact⟨nZ s t h.2,af,af⟩
def ag(l:List TB):List (Int×Tm):=l.map fun x=>(x.var,x.term)
theorem FT{s:az}{op n:Int}{l l':List Tm}(h:l'.length=l.length):bw s (.mk op n l')=bw s (.mk op n l):=by
 unfold bw
 dsimp only[Tm.op,Tm.n,Tm.kids]
 rw[h]
 rfl
theorem Kd{s:az}{k:Int}(h:0<=k/\k<20):bw s (.mk 1 k [])=true:=by
 have:dU k 0 19=true:=by simp[dU];omega
 simp[bw,Tm.op,Tm.n,Tm.kids,this]
theorem NB{s:az}:∀t:Tm,iN s t=true->∀v,fO v t=true->0<=v/\v<20:=by
 refine Tm.ek fun t ih h v hv=> ?_
 have hw:=(Tm.FP t).1 (nZ s t h)
 rw[lQ,Bool.and_eq_true,List.all_eq_true]at h
 by_cases h1:t.op=1
 ·rw[s7,if_pos h1]at hv
  have hv:t.n=v:=by simpa using hv
  have:=h.1
  simp[bw,h1,dU]at this
  omega
 ·by_cases h8:t.op=8
  ·obtain⟨a,body,hk⟩:=Yx (hw.2.1 h8)
   rw[Yy h8 hk,Bool.or_eq_true,Bool.and_eq_true]at hv
   rcases hv with hv|hv
   ·exact ih a (by rw[hk];simp) (h.2 a (by rw[hk];simp)) v hv
   ·exact ih body (by rw[hk];simp) (h.2 body (by rw[hk];simp)) v hv.1
  ·rw[NA h1 h8,List.any_eq_true]at hv
   obtain⟨k,hk,hv⟩:=hv
   exact ih k hk (h.2 k hk) v hv
def findF(l:List TB)(n:Int):Int:=match l.findIdx? (·.var==n)with|some i=>i|none=> -1
theorem NC(l:List TB)(n:Int)(hl:l.length<=1000000):aW Tryz.prog 123 [.sl (l.map TB.d), .i n] (.ret [.i (findF l n)]):=by
 refine aW.aG mix adC aE ?_
 rw[adB]
 refine cK ?_
 refine aD (fun k:Nat=>⟨aX [.d (.sl (l.map TB.d)), .d (.i n), .ab, .ab, .ab, .d (.i k)],fun _=> .no,0⟩)
  (fun k=>k<=l.length/\∀j x,j<k->l[j]? =some x->x.var≠n) (fun k=>l.length - k) 0 ⟨Nat.zero_le _,fun _ _ h=>absurd h af⟩ (bL.d0 _ ?_) (fun k hk=> ?_)
 ·exact dT
 refine tv ?_
 refine ak (fun h2=> ?_) (fun h2=> ?_)
 ·simp at h2
  obtain⟨x,hx⟩:=aB h2
  refine rU hx ?_
  refine ak (fun h3=> ?_) (fun h3=> ?_)
  ·have kF:x.var=n:=by simpa using h3
   have:findF l n=k:=by
    have:l.findIdx? (·.var==n)=some k:=by
     rw[List.findIdx?_eq_some_iff_getElem]
     obtain⟨Cq,e⟩:=List.getElem?_eq_some_iff.1 hx
     refine⟨Cq,by rw[e];simpa using kF,fun j hj=> ?_⟩
     have:=hk.2 j _ hj (List.getElem?_eq_getElem af)
     simpa using this
    rw[findF,this]
   exact yp
  ·have kF:x.var≠n:=by simpa using h3
   refine cK ?_
   refine aj (k+1) ⟨h2,fun j y hj hy=> ?_⟩ af (bL.d0 _ ?_)
   ·by_cases e:j=k
    ·exact SF
    ·exact hk.2 j y af hy
   ·exact dT
 ·simp at h2
  have:findF l n= -1:=by
   have:l.findIdx? (·.var==n)=none:=by
    rw[List.findIdx?_eq_none_iff]
    intro x hx
    obtain⟨j,hj,e⟩:=List.getElem_of_mem hx
    have:=hk.2 j x af (by rw[List.getElem?_eq_getElem hj,e])
    simpa using this
   rw[findF,this]
  exact yp
theorem rz(l:List TB)(n:Int):(findF l n<0/\bQ (ag l) n=none)\/∃ (k:Nat) (x:TB),findF l n=k/\l[k]? =some x/\bQ (ag l) n=some x.term:=by
 induction l with
 |nil=>left;exact⟨by simp[findF],rfl⟩
 |cons y l ih=>
  by_cases h:y.var=n
  ·right
   refine⟨0,y, ?_,rfl, ?_⟩
   ·simp[findF,List.findIdx?_cons,h]
   ·simp[ag,bQ,h]
  ·have hf:bQ (ag (y::l)) n=bQ (ag l) n:=by simp[ag,bQ,h]
   have h':(y.var==n)=false:=by simpa using h
   rw[hf]
   unfold findF at ih|-
   rw[List.findIdx?_cons,h']
   simp only[Bool.false_eq_true,if_false]
   rcases ih with⟨h1,h2⟩|⟨k,x,h1,h2,h3⟩
   ·left
    refine⟨?_,h2⟩
    cases hi:l.findIdx? (·.var==n)with
    |none=>simp
    |some i=>rw[hi]at h1;simp at h1;omega
   ·right
    refine⟨k+1,x, ?_,h2,h3⟩
    cases hi:l.findIdx? (·.var==n)with
    |none=>rw[hi]at h1;simp at h1;try omega
    |some i=>rw[hi]at h1;simp at h1|-;try omega
def kB(g:List Int)(i:Int):Nat:=(g.filter fun x=>decide (x<i)).length
theorem n6{g:List Int}{i:Int}(h:∀x∈g,i<=x):kB g i=0:=by
 unfold kB
 rw[List.filter_eq_nil_iff.2 (fun x hx=>by have:=h x hx;simp;omega)];rfl
theorem Q5{g:List Int}{i:Int}(h:∀x∈g,x<i):kB g i=g.length:=by
 unfold kB
 rw[List.filter_eq_self.2 (fun x hx=>by simpa using h x hx)]
theorem DL:∀ {g:List Int},FM g->∀i:Int,if i∈g then g[kB g i]? =some i/\kB g (i+1)=kB g i+1 else kB g (i+1)=kB g i
 |[],_,i=>by simp[kB]
 |x::g,hg,i=>by
  have Q6:=List.pairwise_cons.1 hg
  have ih:=DL Q6.2 i
  have hc:∀j,kB (x::g) j=(if x<j then 1 else 0)+kB g j:=fun j=>by
   unfold kB
   rw[List.filter_cons]
   by_cases e:x<j
   ·simp[e];omega
   ·simp[e]
  rcases Int.lt_trichotomy x i with h|h|h
  ·have hm:(i∈x::g)↔i∈g:=by simp;omega
   simp only[hm,hc,if_pos h,if_pos (show x<i+1 by omega)]
   split
   ·rename_i e
    rw[if_pos e]at ih
    refine⟨?_,af⟩
    rw[show 1+kB g i=kB g i+1 by omega,List.getElem?_cons_succ]
    exact ih.1
   ·rename_i e
    rw[if_neg e]at ih
    omega
  ·subst h
   have z1:kB g x=0:=n6 fun y hy=>by have:=Q6.1 y hy;omega
   have z2:kB g (x+1)=0:=n6 fun y hy=>by have:=Q6.1 y hy;omega
   rw[if_pos (by simp),hc,hc,z1,z2,if_neg (by omega),if_pos (by omega)]
   exact⟨rfl,rfl⟩
  ·have hm: ¬i∈x::g:=by
    intro hm
    rcases List.mem_cons.1 hm with rfl|hm
    ·omega
    ·have:=Q6.1 i hm;omega
   have z1:kB g i=0:=n6 fun y hy=>by have:=Q6.1 y hy;omega
   have z2:kB g (i+1)=0:=n6 fun y hy=>by have:=Q6.1 y hy;omega
   rw[if_neg hm,hc,hc,z1,z2,if_neg (by omega),if_neg (by omega)]
theorem Bc{ns:List Int}(h:∀n∈ns,0<=n/\n<20)(hi:FM ns):ns.length<=20:=by
 have hc:∀k:Nat,kB ns (k:Int)<=k:=by
  intro k
  induction k with
  |zero=>show kB ns (0:Int)<=0;rw[n6 (fun x hx=>(h x hx).1)];exact Nat.le_refl _
  |succ k ih=>
   have:=DL hi (k:Int)
   rw[Int.natCast_succ]
   split at this<;>omega
 have:kB ns (20:Int)<=20:=hc 20
 rwa [Q5 (fun x hx=>(h x hx).2)]at this
mutual
def aR(b:List (Int×Tm)):Tm->Tm
 | .mk op n kids=>if op=1 then(match bQ b n with|some x=>x|none=> .mk op n kids)else .mk op n (Q7 b kids)
def Q7(b:List (Int×Tm)):List Tm->List Tm
 |[]=>[]
 |k::l=>aR b k::Q7 b l
end
theorem DM(b:List (Int×Tm)):∀l:List Tm,Q7 b l=l.map (aR b)
 |[]=>rfl
 |k::l=>by simp[Q7,DM b l]
theorem n9(b:List (Int×Tm))(t:Tm):aR b t=if t.op=1 then(match bQ b t.n with|some x=>x|none=>t)else .mk t.op t.n (t.kids.map (aR b)):=by
 cases t;simp only[aR,DM,Tm.op,Tm.n,Tm.kids];rfl
def Lv(b:List (Int×Tm))(v:Int):Tm:=match bQ b v with|some x=>x|none=> .mk 1 v []
def vop(t:Tm):Prop:=(1<=t.op/\t.op<=3)\/t.op=5
def Vs(s:az)(t:Tm):Prop:=iN s t=true/\ff t=true
theorem qf{s:az}{t:Tm}:Vs s t↔bw s t=true/\vop t/\∀k∈t.kids,Vs s k:=by
 unfold Vs vop
 rw[lQ,sX]
 simp only[Bool.and_eq_true,List.all_eq_true,Bool.or_eq_true,decide_eq_true_eq,beq_iff_eq]
 constructor
 ·rintro⟨⟨h1,h2⟩,h3,h4⟩;exact⟨h1,h4,fun k hk=>⟨h2 k hk,h3 k hk⟩⟩
 ·rintro⟨h1,h2,h3⟩;exact⟨⟨h1,fun k hk=>(h3 k hk).1⟩,fun k hk=>(h3 k hk).2,h2⟩
theorem Vs.ki {s:az}{t k:Tm}(h:Vs s t)(hk:k∈t.kids):Vs s k:=(qf.1 h).2.2 k hk
theorem Vs.eta {s:az}{t:Tm}(h:Vs s t)(h1:t.op=1):t= .mk 1 t.n []:=Q4 (nZ s t h.1) h1
theorem Vs.n8 {s:az}{t:Tm}(h:Vs s t):t.op≠8:=by rcases(qf.1 h).2.1 with h|h<;>omega
theorem Vs.range {s:az}{t:Tm}(h:Vs s t){v:Int}(hv:fO v t=true):0<=v/\v<20:=NB t h.1 v hv
theorem Vs.var {s:az}{v:Int}(h:0<=v/\v<20):Vs s (.mk 1 v []):=qf.2 ⟨Kd h,Or.inl ⟨by show(1:Int)<=1;omega,by show(1:Int)<=3;omega⟩,fun k hk=>by cases hk⟩
theorem Vs.mk' {s:az}{t:Tm}{l:List Tm}(h:Vs s t)(hl:l.length=t.kids.length)(hk:∀k∈l,Vs s k):Vs s (.mk t.op t.n l):=
 qf.2 ⟨by rw[FT hl,Tm.eta];exact(qf.1 h).1,(qf.1 h).2.1,hk⟩
theorem fG{t:Tm}(h1:t.op=1){v:Int}:fO v t=true↔t.n=v:=by rw[s7,if_pos h1];simp
theorem pA{s:az}{t:Tm}(h:Vs s t)(h1:t.op≠1){v:Int}:fO v t=true↔∃k∈t.kids,fO v k=true:=by rw[NA h1 h.n8,List.any_eq_true]
theorem du{b:List (Int×Tm)}{s:az}{t:Tm}(h:Vs s t)(h1:t.op=1):aR b t=Lv b t.n:=by
 rw[n9,if_pos h1,Lv]
 cases bQ b t.n with
 |some x=>rfl
 |none=>exact h.eta h1
theorem gv{b:List (Int×Tm)}{v:Int}:aR b (.mk 1 v [])=Lv b v:=by rw[n9];rfl
theorem dY{b:List (Int×Tm)}{t:Tm}(h1:t.op≠1):aR b t= .mk t.op t.n (t.kids.map (aR b)):=by rw[n9,if_neg h1]
theorem ND{s:az}{b c:List (Int×Tm)}:∀t:Tm,Vs s t->(∀v,fO v t=true->Lv b v=Lv c v)->aR b t=aR c t:=by
 refine Tm.ek fun t ih hv h=> ?_
 by_cases h1:t.op=1
 ·rw[du hv h1,du hv h1,h _ ((fG h1).2 rfl)]
 ·rw[dY h1,dY h1,List.map_congr_left fun k hk=>ih k hk (hv.ki hk) fun v NF=>h v ((pA hv h1).2 ⟨k,hk,NF⟩)]
theorem mI{s:az}{b c d:List (Int×Tm)}:∀t:Tm,Vs s t->(∀v,fO v t=true->aR c (Lv b v)=Lv d v)->aR c (aR b t)=aR d t:=by
 refine Tm.ek fun t ih hv h=> ?_
 by_cases h1:t.op=1
 ·rw[du hv h1,du hv h1,h _ ((fG h1).2 rfl)]
 ·rw[dY h1,dY h1 (b:=d),dY (by exact h1)]
  show Tm.mk t.op t.n ((t.kids.map (aR b)).map (aR c))=_
  rw[List.map_map,List.map_congr_left (f:=aR c∘aR b) (g:=aR d) fun k hk=>ih k hk (hv.ki hk) fun v NF=>h v ((pA hv h1).2 ⟨k,hk,NF⟩)]
theorem HT{s:az}{b:List (Int×Tm)}:∀t:Tm,Vs s t->(∀v,fO v t=true->bQ b v=none)->aR b t=t:=by
 refine Tm.ek fun t ih hv h=> ?_
 by_cases h1:t.op=1
 ·rw[du hv h1,Lv,h _ ((fG h1).2 rfl)]
  exact(hv.eta h1).symm
 ·rw[dY h1,List.map_congr_left (g:=id) fun k hk=>ih k hk (hv.ki hk) fun v NF=>h v ((pA hv h1).2 ⟨k,hk,NF⟩),List.map_id]
  exact Tm.eta t
theorem Vs.Lv {s:az}{b:List (Int×Tm)}(hb:∀p∈b,Vs s p.2){v:Int}(h:0<=v/\v<20):Vs s (Lv b v):=by
 unfold YtlhemmpklhhgoaaGreat.Lv
 cases hl:bQ b v with
 |some x=>exact hb _ (ck hl)
 |none=>exact Vs.var h
theorem Vs.sub {s:az}{b:List (Int×Tm)}(hb:∀p∈b,Vs s p.2):∀t:Tm,Vs s t->Vs s (aR b t):=by
 refine Tm.ek fun t ih hv=> ?_
 by_cases h1:t.op=1
 ·rw[du hv h1];exact Vs.Lv hb (hv.range ((fG h1).2 rfl))
 ·rw[dY h1]
  refine hv.mk' aE fun k hk=> ?_
  obtain⟨x,hx,rfl⟩:=List.mem_map.1 hk
  exact ih x hx (hv.ki hx)
theorem tY{s:az}{b:List (Int×Tm)}(hb:∀p∈b,Vs s p.2):∀t:Tm,Vs s t->∀v,fO v (aR b t)=true↔∃u,fO u t=true/\fO v (Lv b u)=true:=by
 refine Tm.ek fun t ih hv v=> ?_
 by_cases h1:t.op=1
 ·rw[du hv h1]
  simp only[fG h1]
  exact⟨fun h=>⟨_,rfl,h⟩,fun⟨u,e,h⟩=>e ▸ h⟩
 ·have FN:=Vs.sub hb t hv
  rw[dY h1]at FN|-
  rw[pA FN (by exact h1)]
  simp only[pA hv h1,Tm.kids,List.mem_map]
  constructor
  ·rintro⟨_,⟨k,hk,rfl⟩,h⟩
   obtain⟨u,h2,h3⟩:=(ih k hk (hv.ki hk) v).1 h
   exact⟨u,⟨k,hk,h2⟩,h3⟩
  ·rintro⟨u,⟨k,hk,h2⟩,h3⟩
   exact⟨_,⟨k,hk,rfl⟩,(ih k hk (hv.ki hk) v).2 ⟨u,h2,h3⟩⟩
theorem aeO{b:List (Int×Tm)}{t:Tm}(h1:t.op≠1):(aR b t).op=t.op/\(aR b t).n=t.n/\(aR b t).kids=t.kids.map (aR b):=by rw[dY h1];exact⟨rfl,rfl,rfl⟩
def ta:List TB->Int->Tm->List TB
 |[],n,t=>[⟨n,t⟩]
 |x::l,n,t=>if x.var<n then x::ta l n t else⟨n,t⟩::x::l
abbrev xV(n:Int)(t:Tm):List (Int×Tm):=[(n,t)]
def iy(l:List TB)(n:Int)(t:Tm):List TB:=ta (l.map fun x=>⟨x.var,aR (xV n t) x.term⟩) n t
def da(F:Tm->Tm->List TB->Option (List TB×Bool)):List Tm->List Tm->List TB->Option (List TB×Bool)
 |k::ks,k'::cE,l=>match F k k' l with
  |some (l1,true)=>da F ks cE l1
  |some (l1,false)=>some (l1,false)
  |none=>none
 |_,_,l=>some (l,true)
def fP:Nat->Tm->Tm->List TB->Option (List TB×Bool)
 |0,_,_,_=>none
 |f+1,a,c,l=>
  if gY (aR (ag l) a) (aR (ag l) c)=true then some (l,true)
  else if(aR (ag l) a).op=1/\(aR (ag l) c).op=1 then some (iy l (max (aR (ag l) a).n (aR (ag l) c).n) (.mk 1 (min (aR (ag l) a).n (aR (ag l) c).n) []),true)
  else if(aR (ag l) a).op=1 then some (iy l (aR (ag l) a).n (aR (ag l) c), !(cJ (aR (ag l) c)).contains (aR (ag l) a).n)
  else if(aR (ag l) c).op=1 then some (iy l (aR (ag l) c).n (aR (ag l) a), !(cJ (aR (ag l) a)).contains (aR (ag l) c).n)
  else if(aR (ag l) a).op≠(aR (ag l) c).op\/(aR (ag l) a).n≠(aR (ag l) c).n\/(aR (ag l) a).kids.length≠(aR (ag l) c).kids.length then some ([],false)
  else da (fP f) (aR (ag l) a).kids (aR (ag l) c).kids l
theorem Yz{l:List TB}{n:Int}{t:Tm}(hn:bQ (ag l) n=none)(v:Int):bQ (ag (ta l n t)) v=if v=n then some t else bQ (ag l) v:=by
 induction l with
 |nil=>
  simp only[ta,ag,List.map_cons,List.map_nil,bQ]
  by_cases e:v=n
  ·simp[e]
  ·exact Lr
 |cons x l ih=>
  simp only[ag,List.map_cons,bQ]at hn
  by_cases e1:x.var=n
  ·rw[if_pos e1]at hn;cases hn
  ·rw[if_neg e1]at hn
   have ih:=ih hn
   simp only[ta]
   split
   ·simp only[ag,List.map_cons,bQ]at ih|-
    by_cases e:x.var=v
    ·rw[if_pos e,if_pos e,if_neg fun h=>e1 (e.trans h)]
    ·rw[if_neg e,if_neg e];exact ih
   ·simp only[ag,List.map_cons,bQ]
    by_cases e:v=n
    ·simp[e]
    ·exact Lr
theorem NG(l:List TB)(g:Tm->Tm)(v:Int):bQ (ag (l.map fun x=>⟨x.var,g x.term⟩)) v=(bQ (ag l) v).map g:=by
 induction l with
 |nil=>rfl
 |cons x l ih=>
  simp only[ag,List.map_cons,bQ]at ih|-
  split
  ·rfl
  ·exact ih
theorem uW{l:List TB}{n:Int}{t:Tm}(hn:bQ (ag l) n=none)(v:Int):bQ (ag (iy l n t)) v=if v=n then some t else(bQ (ag l) v).map (aR (xV n t)):=by
 unfold iy
 rw[Yz (by rw[NG,hn];rfl),NG]
theorem tc{n v:Int}{t:Tm}:Lv (xV n t) v=if v=n then t else .mk 1 v []:=by
 simp only[Lv,xV,bQ]
 by_cases e:v=n
 ·simp[e]
 ·exact Lr
theorem ju{l:List TB}{n:Int}{t:Tm}(hn:bQ (ag l) n=none)(v:Int):Lv (ag (iy l n t)) v=if v=n then t else aR (xV n t) (Lv (ag l) v):=by
 simp only[Lv,uW hn]
 by_cases e:v=n
 ·simp[e]
 ·simp only[if_neg e]
  cases h:bQ (ag l) v with
  |some x=>rfl
  |none=>simp only[Option.map_none];rw[gv,tc,if_neg e]
structure iq (s:az) (l:List TB):Prop where
 srt:l.Pairwise fun x y=>x.var<y.var
 ok:∀x∈l,(0<=x.var/\x.var<20)/\Vs s x.term
 idem:∀x∈l,∀u,fO u x.term=true->bQ (ag l) u=none
theorem iq.nil {s:az}:iq s []:=⟨List.Pairwise.nil,fun _ h=>jQ,fun _ h=>jQ⟩
theorem iq.bd {s:az}{l:List TB}(h:iq s l):∀p∈ag l,Vs s p.2:=fun p hp=>by
 obtain⟨x,hx,rfl⟩:=List.mem_map.1 hp
 exact(h.ok x hx).2
theorem lT{l:List TB}{v:Int}{t:Tm}(h:bQ (ag l) v=some t):∃x∈l,x.var=v/\x.term=t:=by
 obtain⟨x,hx,e⟩:=List.mem_map.1 (ck h)
 injection e with e1 e2
 exact⟨x,hx,e1,e2⟩
theorem iq.Q8 {s:az}{l:List TB}(h:iq s l){v u:Int}(hu:fO u (Lv (ag l) v)=true):bQ (ag l) u=none:=by
 unfold Lv at hu
 cases hl:bQ (ag l) v with
 |some x=>
  rw[hl]at hu
  obtain⟨y,hy,e1,e2⟩:=lT hl
  exact h.idem y hy u (e2 ▸ hu)
 |none=>
  rw[hl]at hu
  have:v=u:=by rw[nY]at hu;simpa using hu
  exact this ▸ hl
theorem iq.free {s:az}{l:List TB}(h:iq s l){t:Tm}(ht:Vs s t){u:Int}(hu:fO u (aR (ag l) t)=true):bQ (ag l) u=none:=by
 obtain⟨w,_,h2⟩:=(tY h.bd t ht u).1 hu
 exact h.Q8 h2
def mY(l l':List TB):Prop:=∀v,aR (ag l') (Lv (ag l) v)=Lv (ag l') v
theorem mY.sub {s:az}{l l':List TB}(h:mY l l'){t:Tm}(ht:Vs s t):aR (ag l') (aR (ag l) t)=aR (ag l') t:=mI t ht fun v _=>h v
theorem mY.refl {s:az}{l:List TB}(h:iq s l):mY l l:=fun v=>by
 cases hl:bQ (ag l) v with
 |none=>rw[show Lv (ag l) v= .mk 1 v [] by simp[Lv,hl],gv];simp[Lv,hl]
 |some x=>
  have hx:Lv (ag l) v=x:=by simp[Lv,hl]
  obtain⟨y,hy,e1,e2⟩:=lT hl
  rw[hx]
  exact HT (s:=s) x (e2 ▸ (h.ok y hy).2) fun u hu=>h.idem y hy u (e2 ▸ hu)
theorem mY.trans {s:az}{l l' l'':List TB}(hl:iq s l)(h:mY l l')(h':mY l' l'')(hr:∀v,bQ (ag l) v≠none->0<=v/\v<20):mY l l'':=fun v=>by
 cases hv:bQ (ag l) v with
 |none=>rw[show Lv (ag l) v= .mk 1 v [] by simp[Lv,hv],gv]
 |some x=>
  have hx:Lv (ag l) v=x:=by simp[Lv,hv]
  obtain⟨y,hy,e1,e2⟩:=lT hv
  have FN:Vs s x:=e2 ▸ (hl.ok y hy).2
  rw[hx, <- h'.sub FN, <- hx,h v,h' v]
theorem iq.xC {s:az}{l:List TB}(h:iq s l){v:Int}(hv:bQ (ag l) v≠none):0<=v/\v<20:=by
 cases hl:bQ (ag l) v with
 |none=>exact absurd hl hv
 |some x=>obtain⟨y,hy,e1,e2⟩:=lT hl;exact e1 ▸ (h.ok y hy).1
theorem uX{l:List TB}{n:Int}{t:Tm}{x:TB}:x∈ta l n t↔x=⟨n,t⟩\/x∈l:=by
 induction l with
 |nil=>simp[ta]
 |cons y l ih=>
  simp only[ta]
  split
  ·simp only[List.mem_cons,ih]
   constructor
   ·rintro(h|h|h)
    ·exact Or.inr (Or.inl h)
    ·exact Or.inl h
    ·exact Or.inr (Or.inr h)
   ·rintro(h|h|h)
    ·exact Or.inr (Or.inl h)
    ·exact Or.inl h
    ·exact Or.inr (Or.inr h)
  ·simp only[List.mem_cons]
theorem Q9{l:List TB}{n:Int}{t:Tm}(h:l.Pairwise fun x y=>x.var<y.var)(hn:∀x∈l,x.var≠n):(ta l n t).Pairwise fun x y=>x.var<y.var:=by
 induction l with
 |nil=>simp[ta]
 |cons y l ih=>
  rw[List.pairwise_cons]at h
  simp only[ta]
  split
  ·rename_i hy
   rw[List.pairwise_cons]
   refine⟨fun z hz=> ?_,ih h.2 fun x hx=>hn x kE⟩
   rcases uX.1 hz with rfl|hz
   ·exact hy
   ·exact h.1 z hz
  ·rename_i hy
   have:=hn y aE
   rw[List.pairwise_cons,List.pairwise_cons]
   refine⟨fun z hz=> ?_,h⟩
   rcases List.mem_cons.1 hz with rfl|hz
   ·show n<z.var;omega
   ·have:=h.1 z hz;show n<z.var;omega
theorem xW{l:List TB}{n:Int}(h:bQ (ag l) n=none):∀x∈l,x.var≠n:=fun x hx e=>by
 rw[lS]at h
 exact h (List.mem_map.2 ⟨(x.var,x.term),List.mem_map.2 ⟨x,hx,rfl⟩,e⟩)
theorem rA{s:az}{l:List TB}(h:iq s l){n:Int}{t:Tm}(hr:0<=n/\n<20)(hn:bQ (ag l) n=none)(ht:Vs s t)(hf:∀u,fO u t=true->bQ (ag l) u=none)(hnt: ¬fO n t=true):iq s (iy l n t):=by
 have h1:∀p∈xV n t,Vs s p.2:=fun p hp=>by simp[xV]at hp;subst hp;exact ht
 have NH:∀u,u≠n->bQ (ag l) u=none->bQ (ag (iy l n t)) u=none:=fun u e hu=>by rw[uW hn,if_neg e,hu];rfl
 refine⟨?_,fun x hx=> ?_,fun x hx u hu=> ?_⟩
 ·refine Q9 ?_ ?_
  ·rw[List.pairwise_map];exact h.srt
  ·intro x hx
   obtain⟨y,hy,rfl⟩:=List.mem_map.1 hx
   exact xW hn y hy
 ·rcases uX.1 hx with rfl|hx
  ·exact⟨hr,ht⟩
  ·obtain⟨y,hy,rfl⟩:=List.mem_map.1 hx
   exact⟨(h.ok y hy).1,Vs.sub h1 _ (h.ok y hy).2⟩
 ·rcases uX.1 hx with rfl|hx
  ·exact NH u (fun e=>hnt (e ▸ hu)) (hf u hu)
  ·obtain⟨y,hy,rfl⟩:=List.mem_map.1 hx
   obtain⟨w,hw,Tl⟩:=(tY h1 _ (h.ok y hy).2 u).1 hu
   rw[tc]at Tl
   split at Tl
   ·exact NH u (fun e=>hnt (e ▸ Tl)) (hf u Tl)
   ·rename_i e
    have:w=u:=by rw[nY]at Tl;simpa using Tl
    subst this
    exact NH w e (h.idem y hy w hw)
theorem wY{s:az}{l:List TB}(h:iq s l){n:Int}{t:Tm}(hn:bQ (ag l) n=none):mY l (iy l n t):=fun v=>by
 cases hl:bQ (ag l) v with
 |none=>rw[show Lv (ag l) v= .mk 1 v [] by simp[Lv,hl],gv]
 |some x=>
  have hx:Lv (ag l) v=x:=by simp[Lv,hl]
  obtain⟨y,hy,e1,e2⟩:=lT hl
  have hvn:v≠n:=fun e=>by rw[e,hn]at hl;cases hl
  rw[ju hn,if_neg hvn,hx]
  refine ND (s:=s) x (e2 ▸ (h.ok y hy).2) fun u hu=> ?_
  have hu2:bQ (ag l) u=none:=h.idem y hy u (e2 ▸ hu)
  rw[ju hn,show Lv (ag l) u= .mk 1 u [] by simp[Lv,hu2],gv,tc]
  split<;>rfl
theorem iq.Ke {s:az}{l:List TB}(h:iq s l){t:Tm}(ht:Vs s t)(h1:(aR (ag l) t).op=1):(0<=(aR (ag l) t).n/\(aR (ag l) t).n<20)/\bQ (ag l) (aR (ag l) t).n=none/\aR (ag l) t= .mk 1 (aR (ag l) t).n []:=by
 have hv:=Vs.sub h.bd t ht
 have hf:fO (aR (ag l) t).n (aR (ag l) t)=true:=(fG h1).2 rfl
 exact⟨hv.range hf,h.free ht hf,hv.eta h1⟩
theorem od{s:az}:∀ (f:Nat) (a c:Tm) (l l':List TB),fP f a c l=some (l',true)->iq s l->Vs s a->Vs s c->iq s l'/\mY l l'
 |0,_,_,_,_,h,_,_,_=>by cases h
 |f+1,a,c,l,l',h,hl,ha,hc=>by
  have va:=Vs.sub hl.bd a ha
  have vc:=Vs.sub hl.bd c hc
  have fa:=fun u=>hl.free ha (u:=u)
  have fc:=fun u=>hl.free hc (u:=u)
  have na:=hl.Ke ha
  have nc:=hl.Ke hc
  simp only[fP]at h
  generalize aR (ag l) a=a0 at*
  generalize aR (ag l) c=c0 at*
  split at h
  ·injection h with h;injection h with h;subst h;exact⟨hl,mY.refl hl⟩
  ·rename_i hs
   split at h
   ·rename_i h1
    injection h with h;injection h with h;subst h
    obtain⟨r1,u1,e1⟩:=na h1.1
    obtain⟨r2,u2,e2⟩:=nc h1.2
    have iu:a0.n≠c0.n:=fun e=>hs (by rw[dR,e1,e2,e])
    have Ah:bQ (ag l) (max a0.n c0.n)=none:=by rcases Int.le_total a0.n c0.n with h|h<;>simp[Int.max_def]<;>split<;>assumption
    have hmn:bQ (ag l) (min a0.n c0.n)=none:=by rcases Int.le_total a0.n c0.n with h|h<;>simp[Int.min_def]<;>split<;>assumption
    refine⟨rA hl af Ah (Vs.var af) (fun u hu=> ?_) (fun hu=> ?_),wY hl Ah⟩
    ·have:min a0.n c0.n=u:=by rw[nY]at hu;simpa using hu
     exact this ▸ hmn
    ·have:min a0.n c0.n=max a0.n c0.n:=by rw[nY]at hu;simpa using hu
     omega
   ·split at h
    ·rename_i h1 h2
     injection h with h;injection h with h h3;subst h
     obtain⟨r1,u1,e1⟩:=na h2
     have kx: ¬fO a0.n c0=true:=fun hh=>by
      have:(cJ c0).contains a0.n=true:=List.contains_iff_mem.2 (((cO c0).2 _).2 hh)
      exact GD
     exact⟨rA hl r1 u1 vc (fun u hu=>fc u hu) kx,wY hl u1⟩
    ·split at h
     ·rename_i h1 h2 kF
      injection h with h;injection h with h h3;subst h
      obtain⟨r2,u2,e2⟩:=nc kF
      have kx: ¬fO c0.n a0=true:=fun hh=>by
       have:(cJ a0).contains c0.n=true:=List.contains_iff_mem.2 (((cO a0).2 _).2 hh)
       exact GD
      exact⟨rA hl r2 u2 va (fun u hu=>fa u hu) kx,wY hl u2⟩
     ·split at h
      ·injection h with h;injection h with _ h;cases h
      ·have key:∀ (ks cE:List Tm) (l:List TB),(∀k∈ks,Vs s k)->(∀k∈cE,Vs s k)->iq s l->da (fP f) ks cE l=some (l',true)->iq s l'/\mY l l':=by
        intro ks
        induction ks with
        |nil=>intro cE l _ _ hl h;simp only[da]at h;injection h with h;injection h with h;subst h;exact⟨hl,mY.refl hl⟩
        |cons k ks uF=>
         intro cE l h1 h2 hl h
         cases cE with
         |nil=>simp only[da]at h;injection h with h;injection h with h;subst h;exact⟨hl,mY.refl hl⟩
         |cons k' cE=>
          simp only[da]at h
          split at h
          ·rename_i l1 e
           obtain⟨g1,g2⟩:=od f k k' l l1 e hl (h1 k aE) (h2 k' aE)
           obtain⟨g3,g4⟩:=uF cE l1 (fun x hx=>h1 x kE) (fun x hx=>h2 x kE) g1 h
           exact⟨g3,g2.trans hl g4 (fun v=>hl.xC)⟩
          ·injection h with h;injection h with _ h;cases h
          ·cases h
       exact key _ _ _ (fun k hk=>va.ki hk) (fun k hk=>vc.ki hk) hl h
def lC:Nat->List (Int×Tm)->Tm->Option Tm
 |0,_,_=>none
 |f+1,b,t=>if t.op=1 then(match bQ b t.n with|some x=>lC f b x|none=>some t)else some t
theorem hZ{b:List (Int×Tm)}:∀ {f g:Nat} {t x:Tm},lC f b t=some x->f<=g->lC g b t=some x
 |0,_,_,_,h,_=>by cases h
 |f+1,0,_,_,_,h=>af
 |f+1,g+1,t,x,h,hg=>by
  simp only[lC]at h|-
  split
  ·rename_i h1
   rw[if_pos h1]at h
   cases hl:bQ b t.n with
   |none=>rw[hl]at h;exact h
   |some y=>rw[hl]at h;exact hZ (f:=f) h af
  ·rename_i h1
   rw[if_neg h1]at h
   exact h
structure kn (s:az) (b:List (Int×Tm)) (l:List TB) (ρ:Int->Nat) (R:Nat):Prop where
 keys:(b.map (·.1)).Nodup
 xC:∀v,bQ b v=none↔bQ (ag l) v=none
 ok:∀v x,bQ b v=some x->Vs s x/\Lv (ag l) v=aR (ag l) x/\∀u,fO u x=true->ρ u<ρ v
 bd:∀v,ρ v<=R
theorem kn.nil {s:az}:kn s [] [] (fun _=>0) 0:=⟨List.nodup_nil,fun _=>Iff.rfl,fun _ _ h=>jQ,fun _=>Nat.le_refl _⟩
theorem kn.at {s:az}{b:List (Int×Tm)}{l:List TB}{ρ:Int->Nat}{R:Nat}(h:kn s b l ρ R):∀ (m:Nat) (t:Tm),Vs s t->(t.op=1->ρ t.n<=m)->∃x,lC (m+2) b t=some x/\Vs s x/\aR (ag l) x=aR (ag l) t/\(x.op=1->bQ b x.n=none)/\(t.op≠1->x=t)/\(t.op=1->(∀u,fO u x=true->ρ u<=ρ t.n)/\(x.op≠1->∀u,fO u x=true->ρ u<ρ t.n)):=by
 intro m
 induction m with
 |zero=>
  intro t hv hm
  by_cases h1:t.op=1
  ·cases hl:bQ b t.n with
   |none=>
    exact abh
   |some x=>
    obtain⟨g1,g2,g3⟩:=h.ok _ _ hl
    by_cases hx:x.op=1
    ·have:=g3 x.n ((fG hx).2 rfl)
     have:=hm h1
     omega
    ·refine⟨x,by simp only[lC,if_pos h1,hl,if_neg hx],g1,by rw[<- g2,du hv h1],fun h=>absurd h hx,fun h=>absurd h1 h,fun _=>⟨fun u hu=>Nat.le_of_lt (g3 u hu),fun _=>g3⟩⟩
  ·exact aaO
 |succ m ih=>
  intro t hv hm
  by_cases h1:t.op=1
  ·cases hl:bQ b t.n with
   |none=>
    exact abh
   |some x=>
    obtain⟨g1,g2,g3⟩:=h.ok _ _ hl
    obtain⟨y,i1,i2,i3,i4,i5,i6⟩:=ih x g1 (fun hx=>by have:=g3 x.n ((fG hx).2 rfl);have:=hm h1;omega)
    refine⟨y,by rw[lC,if_pos h1,hl];exact i1,i2,by rw[i3, <- g2,du hv h1],i4,fun h=>absurd h1 h,fun _=> ?_⟩
    by_cases hx:x.op=1
    ·have g4:=g3 x.n ((fG hx).2 rfl)
     exact⟨fun u hu=>by have:=(i6 hx).1 u hu;omega,fun h2 u hu=>by have:=(i6 hx).2 h2 u hu;omega⟩
    ·rw[i5 hx]
     exact⟨fun u hu=>Nat.le_of_lt (g3 u hu),fun _=>g3⟩
  ·exact aaO
theorem kn.root {s:az}{b:List (Int×Tm)}{l:List TB}{ρ:Int->Nat}{R:Nat}(h:kn s b l ρ R){t:Tm}(hv:Vs s t):∃x,lC (R+2) b t=some x/\Vs s x/\aR (ag l) x=aR (ag l) t/\(x.op=1->bQ b x.n=none)/\(t.op≠1->x=t)/\(t.op=1->(∀u,fO u x=true->ρ u<=ρ t.n)/\(x.op≠1->∀u,fO u x=true->ρ u<ρ t.n)):=
 h.at R t hv fun _=>h.bd _
theorem DN(l:List (Int×Tm))(p:Int×Tm)(v:Int):bQ (l++[p]) v=match bQ l v with|some x=>some x|none=>if p.1=v then some p.2 else none:=by
 induction l with
 |nil=>simp[bQ]
 |cons q l ih=>
  simp only[List.cons_append,bQ]
  split
  ·rfl
  ·exact ih
theorem one_sub{s:az}{l:List TB}{n:Int}{t:Tm}(hn:bQ (ag l) n=none){x:Tm}(hx:Vs s x):aR (xV n t) (aR (ag l) x)=aR (ag (iy l n t)) x:=by
 refine mI x hx fun u _=> ?_
 rw[ju hn]
 split
 ·rename_i e
  rw[e,show Lv (ag l) n= .mk 1 n [] by simp[Lv,hn],gv,tc,if_pos rfl]
 ·rfl
theorem kn.ext {s:az}{b:List (Int×Tm)}{l:List TB}{ρ:Int->Nat}{R:Nat}(h:kn s b l ρ R)(hl:iq s l){n:Int}(hn:bQ b n=none){y:Tm}(hy:Vs s y)(hny: ¬fO n (aR (ag l) y)=true):
 ∃NI R',kn s (b++[(n,y)]) (iy l n (aR (ag l) y)) NI R':=by
 have L6:=(h.xC n).1 hn
 refine⟨fun v=>if fO n (Lv (ag l) v)=true then R+1+ρ v else ρ v,2*R+1, ?_,fun v=> ?_,fun v x hx=> ?_,fun v=> ?_⟩
 ·rw[List.map_append,List.map_cons,List.map_nil,List.nodup_append]
  refine⟨h.keys,aE,fun a ha c hc=> ?_⟩
  simp at hc
  subst hc
  exact fun e=>(lS.1 hn) (e ▸ ha)
 ·rw[DN,uW L6]
  by_cases e:v=n
  ·subst e;simp[hn]
  ·rw[if_neg e]
   cases hv:bQ b v with
   |some x=>
    simp only[reduceCtorEq,false_iff]
    intro h2
    cases h3:bQ (ag l) v with
    |some y=>rw[h3]at h2;cases h2
    |none=>rw[(h.xC v).2 h3]at hv;cases hv
   |none=>
    simp[(h.xC v).1 hv]
    exact fun h=>e h.symm
 ·rw[DN]at hx
  cases hv:bQ b v with
  |some z=>
   rw[hv]at hx
   injection hx with hx
   subst hx
   have hvn:v≠n:=fun e=>by rw[e,hn]at hv;cases hv
   obtain⟨g1,g2,g3⟩:=h.ok v z hv
   refine⟨g1,by rw[ju L6,if_neg hvn,g2,one_sub L6 g1],fun u hu=> ?_⟩
   have h3:=g3 u hu
   have h4:fO n (Lv (ag l) u)=true->fO n (Lv (ag l) v)=true:=fun h5=>by rw[g2];exact(tY hl.bd z g1 n).2 ⟨u,hu,h5⟩
   by_cases h5:fO n (Lv (ag l) u)=true
   ·rw[if_pos h5,if_pos (h4 h5)];omega
   ·rw[if_neg h5];split<;>omega
  |none=>
   rw[hv]at hx
   simp only at hx
   split at hx
   ·rename_i e
    injection hx with hx
    subst hx;subst e
    refine⟨hy, ?_,fun u hu=> ?_⟩
    ·rw[ju L6,if_pos rfl, <- one_sub L6 hy]
     exact(HT (s:=s) _ (Vs.sub hl.bd y hy) fun v hv=>by
      have: ¬n=v:=fun e=>by subst e;exact hny hv
      simp[xV,bQ,this]).symm
    ·have h5: ¬fO n (Lv (ag l) u)=true:=fun h5=>hny ((tY hl.bd y hy n).2 ⟨u,hu,h5⟩)
     have h6:fO n (Lv (ag l) n)=true:=by rw[show Lv (ag l) n= .mk 1 n [] by simp[Lv,L6],nY];simp
     have:=h.bd u
     simp only[if_neg h5,if_pos h6]
     omega
   ·cases hx
 ·have:=h.bd v
  split<;>omega
theorem uY{s:az}{l:List TB}{b:List (Int×Tm)}{ρ:Int->Nat}{R:Nat}(h:kn s b l ρ R){x:Tm}(hx:Vs s x)(hr:x.op=1->bQ b x.n=none):(aR (ag l) x).op=x.op/\(aR (ag l) x).n=x.n/\(aR (ag l) x).kids.length=x.kids.length/\(x.op=1->aR (ag l) x=x)/\(x.op≠1->(aR (ag l) x).kids=x.kids.map (aR (ag l))):=by
 by_cases h1:x.op=1
 ·have:aR (ag l) x=x:=by
   rw[du hx h1,show Lv (ag l) x.n= .mk 1 x.n [] by simp[Lv,(h.xC _).1 (hr h1)]]
   exact(hx.eta h1).symm
  rw[this]
  exact⟨rfl,rfl,rfl,fun _=>rfl,fun h=>absurd h1 h⟩
 ·obtain⟨g1,g2,g3⟩:=aeO (b:=ag l) h1
  exact⟨g1,g2,by rw[g3];simp,fun h=>absurd h h1,fun _=>g3⟩
theorem qg{F G:Tm->Tm->List TB->Option (List TB×Bool)}(DO:∀k k' l r,F k k' l=some r->G k k' l=some r):∀ {ks cE:List Tm} {l:List TB} {r:List TB×Bool},da F ks cE l=some r->da G ks cE l=some r
 |[],_,_,_,h=>by simp only[da]at h|-;exact h
 |_::_,[],_,_,h=>by simp only[da]at h|-;exact h
 |k::ks,k'::cE,b,r,h=>by
  simp only[da]at h|-
  split at h
  ·rename_i b1 e;rw[DO _ _ _ _ e];exact qg DO h
  ·rename_i b1 e;rw[DO _ _ _ _ e];exact h
  ·cases h
theorem te:∀ {f g:Nat} {a c:Tm} {l:List TB} {r:List TB×Bool},fP f a c l=some r->f<=g->fP g a c l=some r
 |0,_,_,_,_,_,h,_=>by cases h
 |f+1,0,_,_,_,_,_,h=>af
 |f+1,g+1,a,c,l,r,h,hg=>by
  simp only[fP]at h|-
  repeat' (split at h<;>rename_i hh<;>first|rw[if_pos hh]|rw[if_neg hh])
  all_goals first
   |exact h
   |exact qg (fun k k' l r hk=>te hk af) h
theorem Ra(l:List TB)(n:Int)(t:Tm):(ta l n t).length=l.length+1:=by
 induction l with
 |nil=>rfl
 |cons x l ih=>simp only[ta];split<;>simp[ih]
theorem Lc(l:List TB)(n:Int)(t:Tm):(iy l n t).length=l.length+1:=by rw[iy,Ra,List.length_map]
theorem HU:∀ (f:Nat) (a c:Tm) (l l':List TB),fP f a c l=some (l',true)->l'=l\/l.length<l'.length
 |0,_,_,_,_,h=>by cases h
 |f+1,a,c,l,l',h=>by
  simp only[fP]at h
  split at h
  ·injection h with h;injection h with h;exact Or.inl h.symm
  ·split at h
   ·exact VJ
   ·split at h
    ·exact VJ
    ·split at h
     ·exact VJ
     ·split at h
      ·injection h with h;injection h with _ h;cases h
      ·have key:∀ (ks cE:List Tm) (l:List TB),da (fP f) ks cE l=some (l',true)->l'=l\/l.length<l'.length:=by
        intro ks
        induction ks with
        |nil=>intro cE l h;simp only[da]at h;injection h with h;injection h with h;exact Or.inl h.symm
        |cons k ks uF=>
         intro cE l h
         cases cE with
         |nil=>simp only[da]at h;injection h with h;injection h with h;exact Or.inl h.symm
         |cons k' cE=>
          simp only[da]at h
          split at h
          ·rename_i l1 e
           have h1:=HU f k k' l l1 e
           have h2:=uF cE l1 h
           rcases h1 with rfl|h1
           ·exact h2
           ·rcases h2 with rfl|h2
            ·exact Or.inr h1
            ·exact Or.inr af
          ·injection h with h;injection h with _ h;cases h
          ·cases h
       exact key _ _ _ h
theorem iq.len {s:az}{l:List TB}(h:iq s l):l.length<=20:=by
 have:=Bc (ns:=l.map (·.var)) (fun n hn=>by obtain⟨x,hx,rfl⟩:=List.mem_map.1 hn;exact(h.ok x hx).1) (by rw[FM,List.pairwise_map];exact h.srt)
 rwa [List.length_map]at this
theorem tf{s:az}:∀ (N z:Nat) (a c:Tm) (l:List TB),20 - l.length<=N->(aR (ag l) a).sz<=z->iq s l->Vs s a->Vs s c->∃f r,fP f a c l=some r:=by
 intro N
 induction N using Nat.strongRecOn with
 |ind N ihN=>
 intro z
 induction z with
 |zero=>intro a c l _ hz;have:=Tm.sY (aR (ag l) a);omega
 |succ z ihz=>
  intro a c l hN hz hl ha hc
  have va:=Vs.sub hl.bd a ha
  have vc:=Vs.sub hl.bd c hc
  have key:∀ (ks cE:List Tm) (l1:List TB),(∀k∈ks,k∈(aR (ag l) a).kids)->(∀k∈cE,Vs s k)->iq s l1->(l1=l\/l.length<l1.length)->∃f r,da (fP f) ks cE l1=some r:=by
   intro ks
   induction ks with
   |nil=>intro cE l1 _ _ _ _;exact⟨0,_,rfl⟩
   |cons k ks uF=>
    intro cE l1 m1 m2 r8 Xn
    cases cE with
    |nil=>exact⟨0,_,rfl⟩
    |cons k' cE=>
     have hk:=m1 k aE
     have vk:=va.ki hk
     have I7:∃f r,fP f k k' l1=some r:=by
      rcases Xn with rfl|Xn
      ·refine ihz k k' l1 hN ?_ r8 vk (m2 k' aE)
       have:aR (ag l1) k=k:=HT (s:=s) k vk fun v hv=>by
        by_cases h1:(aR (ag l1) a).op=1
        ·rw[va.eta h1]at hk;cases hk
        ·exact hl.free ha ((pA va h1).2 ⟨k,hk,hv⟩)
       rw[this]
       have:=Tm.l7 hk
       omega
      ·have h20:=r8.len
       exact ihN (20 - l1.length) af _ k k' l1 (Nat.le_refl _) (Nat.le_refl _) r8 vk (m2 k' aE)
     obtain⟨f,⟨l2,ok⟩,e⟩:=I7
     cases ok with
     |false=>exact⟨f,(l2,false),by simp only[da,e]⟩
     |true=>
      obtain⟨o1,_⟩:=od f k k' l1 l2 e r8 vk (m2 k' aE)
      have hle:=HU f k k' l1 l2 e
      obtain⟨f2,r2,e2⟩:=uF cE l2 (fun y hy=>m1 y lD) (fun y hy=>m2 y lD) o1 (by
       rcases hle with rfl|h
       ·exact Xn
       ·right
        rcases Xn with rfl|h2
        ·exact h
        ·omega)
      refine⟨max f f2,r2, ?_⟩
      simp only[da]
      rw[te e (Nat.le_max_left _ _)]
      exact qg (fun k k' l r hk=>te hk (Nat.le_max_right _ _)) e2
  obtain⟨f,r,e⟩:=key (aR (ag l) a).kids (aR (ag l) c).kids l (fun _ h=>h) (fun k hk=>vc.ki hk) hl (Or.inl rfl)
  refine⟨f+1, ?_⟩
  simp only[fP]
  repeat' split
  all_goals first
   |exact⟨_,rfl⟩
   |exact⟨r,e⟩
end Go.Proofs.YtlhemmpklhhgoaaGreat
