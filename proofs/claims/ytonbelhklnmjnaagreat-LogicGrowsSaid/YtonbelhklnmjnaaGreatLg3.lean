/-
  A PART OF THE PROOF. Conditions: none.
-/
import Derived.ChangeKeysEq
import Derived.Laws.CopyRow
import Derived.Test.YtonbelhklnmjnaaGreatLg2
set_option linter.unusedSimpArgs false
set_option linter.unusedVariables false
namespace Go.Proofs.YtonbelhklnmjnaaGreat
section
variable {P:Program}{M:Nat->Prop}{φ:Place}{H:Hp}{w w':World}{fr:Nat}{K:V->List (Nat×ab)->List Nat->Prop}
theorem pX{base:Nat}{e:TypeId}{sz n:Nat}{v:Value}{xs:List Value}(h:w.ownsRow base e sz v n xs):w.ownsRow 0 e sz v n xs:=by
 obtain⟨h1,h2⟩:=h
 refine⟨h1, ?_⟩
 rcases h2 with h2|⟨g,cap,cur,a,_,b⟩
 ·exact .inl h2
 ·exact .inr ⟨g,cap,cur,a,Nat.zero_le _,b⟩
theorem kK{base:Nat}{e:TypeId}{sz n:Nat}{v:Value}{xs:List Value}(h:w.ownsRow base e sz v n xs)(b:Nat)(hb:eK v=some b):base<=b/\b<w.heap.size:=by
 rcases h.2 with⟨rfl,_⟩|⟨g,cap,cur,rfl,h1,h2,_⟩
 ·cases hb
 ·simp[eK]at hb;subst hb
  exact⟨h1,(Array.getElem?_eq_some_iff.1 h2).1⟩
theorem gz.mono {B B':Nat->Prop}(hb:∀b,dt w b-> ¬B b->w'.heap[b]? =w.heap[b]? /\ ¬B' b){sz:Nat}{es:List D}{xs:List Value}(h:gz B w sz es xs):gz B' w' sz es xs:=by
 obtain⟨evs,h1,h2,h3⟩:=h
 exact⟨evs,h1,h2,D.a8 hb es evs h3⟩
theorem EX(hH:aC M φ H w)(db: ¬H.us fr)(hk:eF (fun _=>False) w w'){val:Value}{ty:TypeId}{sz:Nat}{es:List D}{xs:List Value}(ec:0<sz)
 (eu:w'.ownsRow w.heap.size ty sz val es.length xs) (hd:gz (ax M φ H) w sz es xs):
 let aO:=aL φ fr val;let H':=H.put [(fr, .arr 0 ty sz es)]
 aC M aO H' w'/\Trans φ H w aO H' w'/\V.den (ax M aO H') aO H' w' (.osl fr 0) val:=by
 intro aO H'
 have ht:Trans φ H w aO H' w':=eM hk db _ _ fun b hb=>(kK eu b hb).1
 refine⟨jl hH hk db _ _ (kK eu) ?_,ht, ?_,by simp[H'],fun e he=> ?_⟩
 ·unfold ba
  simp only[bO,aR,if_true]
  exact⟨ec,xs,pX eu,hd.mono (ht.blocks (M:=M))⟩
 ·rcases eu.2 with⟨rfl,_⟩|⟨g,cap,cur,rfl,_⟩<;>rfl
 ·simp[H',ab.ct]at he
  subst he
  exact⟨Nat.le_refl _,fun _=>by simp[aO]⟩
theorem fg(hH:aC M φ H w)(db: ¬H.us fr)(hk:eF (fun _=>False) w w'){s:Sem Value}{val:Value}{ty:TypeId}{sz:Nat}{es:List D}{xs:List Value}{rd:List Nat}(ec:0<sz)
 (hK:K (.osl fr 0) [(fr, .arr 0 ty sz es)] rd) (hr:s.run P w= .ok val w') (eu:w'.ownsRow w.heap.size ty sz val es.length xs) (hd:gz (ax M φ H) w sz es xs):
 cV M φ H w fr ((do let y <- s;pure (Next.value y):Sem Next).run P w) K:=by
 obtain⟨h1,h2,h3⟩:=EX hH db hk ec eu hd
 exact⟨_,_,_,_,_,_,_,hK,by simp[hr], .inl rfl,h1,h2,h3,aj⟩
theorem j7{e:TypeId}(h:0<P.cellsOf e):∃i,P.info? e=some i:=by
 cases hi:P.info? e with
 |none=>simp[Program.cellsOf,hi]at h
 |some i=>exact⟨i,rfl⟩
theorem Bd(parts:List (Nat×Value))(n:Nat)(h:parts.map (·.1)=List.range n):parts=((parts.map (·.2)).zipIdx 0).map fun x=>(x.2,x.1):=by
 apply List.ext_getElem?
 intro i
 have hl:parts.length=n:=by have:=congrArg List.length h;simpa using this
 rw[List.getElem?_map,List.getElem?_zipIdx,List.getElem?_map]
 cases hp:parts[i]? with
 |none=>simp
 |some p=>
  have h1:(parts.map (·.1))[i]? =some p.1:=by simp[hp]
  rw[h,List.getElem?_range (by have:=(List.getElem?_eq_some_iff.1 hp).1;omega)]at h1
  simp at h1
  obtain⟨p1,p2⟩:=p
  simp_all
theorem tc{t e:TypeId}(ht:P.underlying t=some (.slice e))(fV:0<P.cellsOf e):(Instr.buildSlice t 0 #[]).run P w= .ok (.slice (some ⟨w.heap.size,0,none⟩) 0 0) (w.alloc (.cells #[] e)):=by
 obtain⟨i,hi⟩:=j7 fV
 have h1:(underlying t).run P w= .ok (.slice e) w:=by simp[Go.underlying,ht]
 have h2:(sizeOf e).run P w= .ok i.size w:=by simp[Go.sizeOf,Go.typeInfo,hi]
 simp[Instr.buildSlice,h1,h2,Instr.fill,newRow]
 congr 2
 exact Array.eq_empty_of_size_eq_zero aj
theorem uu(hH:aC M φ H w)(db: ¬H.us fr){t:TypeId}{len:Nat}{parts:Array (Nat×Operand)}{s:S}{a:Act}(eG:∀i,V.den (ax M φ H) φ H w (s.env i) (a.tmps.getD i undef))
 (h:jk P H.o fr t len (parts.toList.map fun p=>(p.1,s.ev p.2)) K):
 cV M φ H w fr ((do let y <- Instr.buildSlice t len (parts.map fun(i,x)=>(i,a.eval x));pure (Next.value y):Sem Next).run P w) K:=by
 unfold jk at h
 split at h
 ·rename_i e ht
  rcases h with⟨rfl,Wz,fV,hK⟩|⟨fL,hz,hlen,fV,hsm,ds,eX,hw,hK⟩
  ·have Ix:parts=#[]:=by
    have:=congrArg List.length Wz
    simp at this
    exact this
   subst Ix
   have eu:=World.ownsRow_lit (base:=w.heap.size) (e:=e) (size:=P.cellsOf e) w #[] 0 (Nat.le_refl _) (Nat.zero_le _) aj
   exact fg hH db (cR w _) fV hK (by simpa using tc (w:=w) (bE ht) fV) eu ⟨[],rfl,aj,rfl⟩
  obtain⟨z,hz⟩:=Option.isSome_iff_exists.1 hz
  obtain⟨ie,zv,h1,h2,h3,h4,_⟩:=j6 hz
  have hd:V.aM (ax M φ H) φ H w ((parts.toList.map fun p=>(p.1,s.ev p.2)).map (·.2)) ((parts.map fun(i,x)=>(i,a.eval x)).toList.map (·.2)):=by
   have:=kJ s a eG (parts.toList.map (·.2))
   simpa[Function.comp_def]using this
  have Jb:(parts.map fun(i,x)=>(i,a.eval x)).toList.map (·.1)=List.range len:=by
   rw[<- fL];simp[Function.comp_def]
  generalize hvp:(parts.map fun(i,x)=>(i,a.eval x)).toList=vp at hd Jb
  generalize te:(parts.toList.map fun p=>(p.1,s.ev p.2)).map (·.2)=sp at hd eX hK
  obtain⟨f1,f2,f3,f4,f5⟩:=du hH (V.bF sp) (dh sp _ hd)
  have hd1:=V.a8 f2 _ _ hd
  have xb:=dE f1 sp ds _ f3 eX hd1
  have ec:∀v∈vp.map (·.2),v.cells.size=P.cellsOf e:=by
   intro v hv
   obtain⟨i,hi⟩:=List.mem_iff_getElem?.1 hv
   have hl:=D.aH _ _ xb
   have cU:i<ds.length:=by rw[<- hl];exact(List.getElem?_eq_some_iff.1 hi).1
   obtain⟨v',tf,M9⟩:=D.dP _ _ i ds[i] xb (by simp[cU])
   rw[hi]at tf;injection tf with tf;subst tf
   have:=D.aH _ _ (D.ft _ _ M9).1
   rw[hw _ (List.getElem_mem cU)]at this
   simpa using this
  have Pl:vp.length=len:=by have:=congrArg List.length Jb;simpa using this
  have XJ:Instr.fill (fun i=>some (i*ie.size,ie.size)) ((Array.range (len*ie.size)).map (zv.cells[· %zv.cells.size]!)) vp=some ((vp.map (·.2)).flatMap fun v=>v.cells.toList).toArray:=by
   rw[<- b9 h1]
   have:=Great.fill_whole fV (vp.map (·.2)) ((Array.range (len*P.cellsOf e)).map (zv.cells[· %zv.cells.size]!)) ec (by simp[Pl])
   rwa [<- Bd vp len Jb]at this
  have fu:=run_buildSlice (P:=P) w t e len (parts.map fun(i,x)=>(i,a.eval x)) _ ie zv (bE ht) h1 h2 (by rw[<- b9 h1];omega) (by rw[<- b9 h1];have:=Nat.mul_pos hlen fV;omega) (by rw[hvp];exact XJ)
  have hdl:=D.aH _ _ xb
  have eu:=World.ownsRow_lit (base:=w.heap.size) (e:=e) (size:=P.cellsOf e) w ((vp.map (·.2)).flatMap fun v=>v.cells.toList).toArray len (Nat.le_refl _) (by have:=Nat.le_mul_of_pos_right len fV;simp[maxLen];omega) (by
   have:∀l:List Value,(∀v∈l,v.cells.size=P.cellsOf e)->(l.flatMap fun v=>v.cells.toList).length=l.length*P.cellsOf e:=by
    intro l
    induction l with
    |nil=>simp
    |cons x l ih=>intro hx;simp[hx x (by simp),ih (fun v hv=>hx v (by simp[hv])),Nat.add_mul,Nat.add_comm]
   have:=this (vp.map (·.2)) ec
   simpa[Pl]using this)
  have xc:len=ds.length:=by rw[<- hdl];simp[Pl]
  obtain⟨g1,g2,g3⟩:=EX (ty:=e) (sz:=P.cellsOf e) (es:=ds) f1 (fr:=fr) (fun hu=>db ((f5 fr).1 hu)) (cR w _) fV (by rw[<- xc];exact eu) ⟨vp.map (·.2),aj,ec,xb⟩
  rw[<- eo]at g1 g2 g3
  refine⟨_,_,_,_,_,_,_,hK,by simp only[Sem.run_bind,fu,Result.andThen_ok];rfl, .inl rfl,g1,f2.trans g2,g3,fun id aB=> ?_⟩
  simp only[List.map_append,List.mem_append,List.map_cons,List.map_nil,List.mem_singleton]at aB
  rcases aB with aB|aB
  ·left
   refine dh sp _ hd id ?_
   rw[l4]at aB
   simpa[Function.comp_def]using aB
  ·exact .inr aB
 ·exact h.elim
theorem mW:∀ (vs:List Value),V.bF (vs.map V.dD)=[]
 |[]=>rfl
 |v::vs=>by
  have h:(V.dD v).ids=[]:=by cases v<;>simp only[V.dD,V.ids]<;>split<;>rfl
  simp[V.bF,h,mW vs]
theorem xd(hH:aC M φ H w){e:TypeId}{x:D}(h:A0 P e=some x):∃i z ev,P.info? e=some i/\i.zero=some z/\z.cells.size=i.size/\Flat z.cells.toList/\ev.cells=z.cells/\D.den (ax M φ H) w x ev:=by
 unfold A0 at h
 split at h
 ·rename_i zs hz
  obtain⟨i,z,h1,h2,h3,h4,rfl⟩:=j6 hz
  have key:∀ds,cn (fun _=> .no) (z.cells.toList.map V.dD)=some ds->D.aM (ax M φ H) w ds z.cells.toList:=fun ds eX=>
   dE hH _ _ _ (by rw[mW];simp) eX (dR _ h4)
  split at h
  ·rename_i ds eX Dr
   injection h with h;subst h
   exact⟨i,z, .agg z.cells,h1,h2,h3,h4,rfl,z.cells,rfl,key ds eX,h4⟩
  ·rename_i y eX Dr
   injection h with h;subst h
   obtain⟨u,us,h5,h6,h7⟩:=key _ eX
   simp only[D.aM]at h7;subst h7
   have M5:=h4 u (by rw[h5];simp)
   have hu:u.cells=#[u]:=by cases u<;>simp_all[Value.oneCell',Value.cells]
   refine⟨i,z,u,h1,h2,h3,h4, ?_,h6⟩
   rw[hu];apply Array.ext';simpa using h5.symm
  ·cases h
 ·cases h
theorem mX(z:Value)(n:Nat):(madeCells z.cells (n*z.cells.size)).toList=(List.replicate n z).flatMap (·.cells.toList):=by
 apply List.ext_getElem?
 intro i
 by_cases h0:z.cells.size=0
 ·have:z.cells.toList=[]:=by simpa using h0
  simp[madeCells,h0]
 ·have fV:0<z.cells.size:=ad
  by_cases hi:i<n*z.cells.size
  ·have hd:i/z.cells.size<n:=Nat.div_lt_of_lt_mul (by rwa [Nat.mul_comm]at hi)
   have hm:=Nat.mod_lt i fV
   have:=mV z.cells.size (List.replicate n z) (i/z.cells.size) (i%z.cells.size) z z.cells[i%z.cells.size] (fun x hx=>by rw[(List.mem_replicate.1 hx).2]) (by simp[hd]) (by simp[hm])
   rw[Nat.mul_comm,Nat.div_add_mod]at this
   rw[this]
   simp[madeCells,List.getElem?_range hi,hm]
  ·have h1:(madeCells z.cells (n*z.cells.size)).toList.length=n*z.cells.size:=by simp[madeCells]
   have h2:((List.replicate n z).flatMap (·.cells.toList)).length=n*z.cells.size:=by simp[List.flatMap_replicate]
   rw[List.getElem?_eq_none (by omega),List.getElem?_eq_none (by omega)]
theorem wC(hH:aC M φ H w)(db: ¬H.us fr){t:TypeId}{l c:V}{lv cv:Value}(hl:V.den (ax M φ H) φ H w l lv)(hc:V.den (ax M φ H) φ H w c cv)
 (h:jY P fr t l c fun v Δ=>K v Δ []):cV M φ H w fr ((do let y <- Instr.makeSlice t lv cv;pure (Next.value y):Sem Next).run P w) K:=by
 unfold jY at h
 split at h
 ·rename_i e kl n kc m ht
  obtain⟨rfl,h0,fV,hb,hn,x,hx,hK⟩:=h
  simp only[V.den,D.den]at hl hc;subst hl;subst hc
  obtain⟨i,z,ev,h1,h2,h3,h4,h5,h6⟩:=xd hH hx
  obtain⟨k,rfl⟩:=Int.eq_ofNat_of_zero_le h0
  simp only[Int.toNat_natCast]at hb hn hK
  rw[l0 h1]at hb
  obtain⟨w',r1,r2,r3⟩:=run_make_full (P:=P) w w.heap.size t e i z (P.cellsOf e) (bE ht) h1 h2 (b9 h1).symm kl kc k ad (by simp[maxLen];omega) (Nat.le_refl _)
  refine fg hH db (lZ r3) fV hK r1 MV ⟨List.replicate k ev, ?_, ?_, ?_⟩
  ·rw[b9 h1, <- h3,mX]
   simp[List.flatMap_replicate,h5]
  ·intro v hv
   rw[(List.mem_replicate.1 hv).2,h5,h3,b9 h1]
  ·clear r1 r2 hK hb hn
   induction k with
   |zero=>rfl
   |succ k ih=>exact⟨ev,List.replicate k ev,rfl,h6,ih ad⟩
 ·exact h.elim
theorem tg(w:World)(t u ty e:TypeId)(i:TypeInfo)(z:Value)(ht:P.underlying t=some (.slice e)){k0:IntKind}(hu:P.underlying u=some (.int k0))(hi:P.info? e=some i)(hz:i.zero=some z)(fV:0<i.size)
 (k:IntKind) (n:Nat) (h0:0<n) (h63:n<=1099511627776) (h48:n*i.bytes<=1099511627776):
 (Builtin.append_ #[t,u] ty #[.slice none 0 0, .int k n]).run P w=
  .ok (.slice (some ⟨w.heap.size,0,none⟩) n (grownCap w n 0 e)) (w.drew.alloc (.cells (Builtin.zeroCells z.cells n++Builtin.zeroCells z.cells (grownCap w n 0 e - n)) e)):=by
 have hn:n≠0:=ad
 have Mj: ¬ (n*i.size=0):=by
  intro h
  rcases Nat.mul_eq_zero.1 h with h|h<;>omega
 have hwr:IntKind.i64.wrap (n:Int)=n:=by
  unfold IntKind.wrap
  have e1:((2:Int)^IntKind.i64.bits)=18446744073709551616:=aV
  have e2:((2:Int)^(IntKind.i64.bits - 1))=9223372036854775808:=aV
  have e3:IntKind.i64.signed=true:=rfl
  simp only[e1,e2,e3]
  have h1:(n:Int)%18446744073709551616=n:=Int.emod_eq_of_lt ad ad
  rw[h1]
  split<;>simp_all<;>omega
 have abk: ¬ (9223372036854775807<(n:Int)):=ad
 have SX: ¬ (281474976710656<(n:Int)*(i.bytes:Int)):=by
  have h5:((n*i.bytes:Nat):Int)<=(1099511627776:Nat):=Int.ofNat_le.2 h48
  rw[Int.natCast_mul]at h5;omega
 have abl: ¬ (281474976710656<Builtin.nextslicecap n 0*i.bytes):=by rw[nextslicecap_zero h0];omega
 simp[Builtin.append_,run_underlying ht,run_underlying hu,sizeOf,typeInfo,zeroValue,hi,hz,Builtin.lenOf,hn,Mj,hwr,abk,abl,SX,Question.forced,run_firstCells_none,newRow,grownCap,asInt,asIntOf]
 intro h;omega
theorem Jc(hH:aC M φ H w)(db: ¬H.us fr){ts:Array TypeId}{ty0:TypeId}{x y:V}{xv yv:Value}(hx:V.den (ax M φ H) φ H w x xv)(hy:V.den (ax M φ H) φ H w y yv)
 (h:dm (w8 P fr ts x y) K):cV M φ H w fr ((do let z <- Builtin.append_ ts ty0 #[xv,yv];pure (Next.value z):Sem Next).run P w) K:=by
 unfold w8 at h
 split at h
 ·rename_i t t' th
  have th:ts=#[t,t']:=by apply Array.ext';simpa using th
  subst th
  split at h
  ·exact h.elim
  ·split at h
   ·rename_i e ht
    split at h
    ·rename_i k0 kk n hu
     split at h
     ·rename_i hc
      obtain⟨c1,c2,c3,c4⟩:=hc
      split at h
      ·rename_i x0 rr
       simp only[V.den,D.den]at hx hy;subst hx;subst hy
       obtain⟨i,z,ev,h1,h2,h3,h4,h5,h6⟩:=xd hH rr
       obtain⟨k,rfl⟩:=Int.eq_ofNat_of_zero_le (Int.le_of_lt c1)
       simp only[Int.toNat_natCast]at c3 c4 h
       have wD:P.underlying t'=some (.int k0):=by
        unfold yT at hu
        split at hu
        ·rename_i k1 hk;injection hu with hu;subst hu;exact hk
        ·cases hu
       have hr:=tg (P:=P) w t t' ty0 e i z (bE ht) wD h1 h2 (by rw[<- b9 h1];exact c2) kk k ad ad (by rw[<- l0 h1];omega)
       have AF:=grownCap_ge w k 0 e
       have ec:z.cells.size=P.cellsOf e:=by rw[b9 h1, <- h3]
       have Jd:(Builtin.zeroCells z.cells k).toList=(List.replicate k ev).flatMap (·.cells.toList):=by
        have e1:(Builtin.zeroCells z.cells k).toList=(madeCells z.cells (k*z.cells.size)).toList:=by simp[Builtin.zeroCells,madeCells]
        rw[e1,mX]
        simp[List.flatMap_replicate,h5]
       refine fg hH db (w':=w.drew.alloc (.cells (Builtin.zeroCells z.cells k++Builtin.zeroCells z.cells (grownCap w k 0 e - k)) e)) (xs:=(List.replicate k ev).flatMap (·.cells.toList)) ⟨rfl,rfl,rfl,aj,fun j hj _=>RowKit.Below.heap_alloc w.drew _ j hj⟩ c2 h hr ?_ ⟨List.replicate k ev,rfl, ?_, ?_⟩
       ·refine⟨?_, .inr ⟨w.heap.size,_,_,by rw[List.length_replicate],Nat.le_refl _,heap_alloc_new w.drew _,by rw[List.length_replicate];exact AF,grownCap_le_maxLen w k 0 e (by simp[maxLen];omega), ?_, ?_⟩⟩
        ·rw[<- Jd,Array.length_toList,size_zeroCells,ec,List.length_replicate]
        ·rw[Array.size_append,size_zeroCells,size_zeroCells,ec, <- Nat.add_mul];congr 1;omega
        ·rw[Array.toList_append, <- Jd,List.take_append_of_le_length (by simp[size_zeroCells,ec]),List.take_of_length_le (by simp[size_zeroCells,ec])]
       ·intro v hv
        rw[(List.mem_replicate.1 hv).2,h5,ec]
       ·clear hr h c1 c3 c4 AF Jd
        induction k with
        |zero=>rfl
        |succ k ih=>exact⟨ev,List.replicate k ev,rfl,h6,ih⟩
      ·exact h.elim
     ·exact h.elim
    ·exact h.elim
   ·exact h.elim
 ·exact h.elim
theorem oR(hH:aC M φ H w){y:V}{yv:Value}{new:List D}{sz:Nat}(hy:V.den (ax M φ H) φ H w y yv)(h:e8 H.o y=some new)(hw:∀z∈new,z.cells.length=sz):
 (yv= .slice none 0 0/\new=[])\/∃a c evs,yv= .slice (some a) new.length c/\D.aM (ax M φ H) w new evs/\(∀ev∈evs,ev.cells.size=sz)/\
  (∀j u,(evs.flatMap (·.cells.toList))[j]? =some u->w.cell? (a.add j)=some u)/\Flat (evs.flatMap (·.cells.toList)):=by
 have Pm:∀ {evs:List Value},D.aM (ax M φ H) w new evs->(∀ev∈evs,ev.cells.size=sz)/\Flat (evs.flatMap (·.cells.toList)):=by
  intro evs hd
  have key:∀ev∈evs,ev.cells.size=sz/\Flat ev.cells.toList:=by
   intro ev dI
   obtain⟨i,hi⟩:=List.mem_iff_getElem?.1 dI
   have hl:=D.aH _ _ hd
   have cU:i<new.length:=by rw[<- hl];exact(List.getElem?_eq_some_iff.1 hi).1
   obtain⟨v',tf,M9⟩:=D.dP _ _ i new[i] hd (by simp[cU])
   rw[hi]at tf;injection tf with tf;subst tf
   have h1:=D.ft _ _ M9
   have h2:=D.aH _ _ h1.1
   rw[hw _ (List.getElem_mem cU)]at h2
   exact⟨by simpa using h2,h1.2⟩
  refine⟨fun ev dI=>(key ev dI).1,fun u hu=> ?_⟩
  obtain⟨ev,h1,h2⟩:=List.mem_flatMap.1 hu
  exact(key ev h1).2 u h2
 have EY:D.den (ax M φ H) w (.sl new) yv->(yv= .slice none 0 0/\new=[])\/∃a c evs,yv= .slice (some a) new.length c/\D.aM (ax M φ H) w new evs/\(∀ev∈evs,ev.cells.size=sz)/\
  (∀j u,(evs.flatMap (·.cells.toList))[j]? =some u->w.cell? (a.add j)=some u)/\Flat (evs.flatMap (·.cells.toList)):=by
  rintro⟨base,len,cap,rfl,rfl,h2,h3,qU,h4⟩
  cases base with
  |none=>
   left
   have h5:=h3 rfl;subst h5
   have:new=[]:=by simpa using h2
   subst this;exact⟨rfl,rfl⟩
  |some a=>
   right
   obtain⟨h5,h6⟩:=h4 a rfl
   by_cases hc0:cap=0
   ·have:new=[]:=List.eq_nil_of_length_eq_zero ad
    subst this
    exact⟨a,cap,[],rfl,rfl,aj,aj,by simp[Flat]⟩
   replace h5:=h5 hc0
   have key:∀ (es:List D) (i:Nat),(∀z∈es,z.cells.length=sz)->D.elems (ax M φ H) w qU a i es->
    ∃evs,D.aM (ax M φ H) w es evs/\∀j u,(evs.flatMap (·.cells.toList))[j]? =some u->w.cell? (a.add (i*sz+j))=some u:=by
    intro es
    induction es with
    |nil=>intro i _ _;exact⟨[],rfl,aj⟩
    |cons e es ih=>
     intro i hz h
     obtain⟨⟨ev,k1,k2,k3⟩,k4⟩:=h
     obtain⟨evs,g1,g2⟩:=ih (i+1) (fun z hz'=>hz z (by simp[hz'])) k4
     have k5:ev.cells.size=sz:=by
      have:=D.aH _ _ (D.ft _ _ k3).1
      rw[hz e (by simp)]at this
      simpa using this
     refine⟨ev::evs,⟨ev,evs,rfl,k3,g1⟩,fun j u hj=> ?_⟩
     rw[List.flatMap_cons]at hj
     by_cases cU:j<sz
     ·rw[List.getElem?_append_left (by simp;omega)]at hj
      have:=(k2 j u kW).1
      rw[add_add a h5]at this
      rwa [<- k1,k5]at this
     ·rw[List.getElem?_append_right (by simp;omega)]at hj
      have:=g2 (j - sz) u (by simpa[k5]using hj)
      rwa [show(i+1)*sz+(j - sz)=i*sz+j by rw[Nat.add_mul];omega]at this
   obtain⟨evs,g1,g2⟩:=key new 0 hw h6
   obtain⟨s1,s2⟩:=Pm g1
   exact⟨a,cap,evs,rfl,g1,s1,fun j u hj=>by simpa using g2 j u hj,s2⟩
 unfold e8 at h
 split at h
 ·rename_i es hD
  injection h with h;subst h
  cases y with
  |d x=>simp only[dZ,Option.some.injEq]at hD;subst hD;exact EY hy
  |bW=>simp only[dZ,Option.some.injEq,D.sl.injEq]at hD;subst hD;exact .inl ⟨hy,rfl⟩
  |osl id ep=>
   obtain⟨_,_,wy⟩:=hy
   have bn:=hH.ok id
   simp only[dZ]at hD
   cases hx:H.o id with
   |no=>simp[hx]at hD
   |row cs=>simp[hx]at hD
   |map kt vt l=>simp[hx]at hD
   |loop nf n env ps iK eE st GC=>simp[hx]at hD
   |iJ l=>simp[hx]at hD
   |mP l last=>simp[hx]at hD
   |yR s pos=>simp[hx]at hD
   |arr jj ty qU es'=>
    simp only[hx]at hD
    split at hD
    ·rename_i e;subst e
     simp only[Option.some.injEq,D.sl.injEq]at hD;subst hD
     simp only[ba,hx]at bn
     have hv:=(wy ep AR).2 rfl
     obtain⟨h0,xs,⟨hl,bX⟩,evs,rfl,h2,h3⟩:=bn
     obtain⟨s1,s2⟩:=Pm h3
     rw[hv]
     rcases bX with⟨h4,h5⟩|⟨g,cap,cur,h4,_,h5,h6,h7,h8,h9⟩
     ·exact .inl ⟨h4,by simpa using h5⟩
     ·right
      refine⟨_,cap,evs,h4,h3,s1,fun j u hj=> ?_,s2⟩
      refine pV h5 j u ?_
      rw[<- h9,List.getElem?_take]at hj
      split at hj
      ·simpa using hj
      ·cases hj
    ·cases hD
   |su jj es'=>
    simp only[hx]at hD
    split at hD
    ·rename_i e;subst e
     simp only[Option.some.injEq,D.sl.injEq]at hD;subst hD
     simp only[ba,hx]at bn
     have hv:=(wy ep AR).2 rfl
     rw[hv]at EY|-
     exact EY bn
    ·cases hD
  |agg cs=>simp[dZ]at hD
  |iface t x=>simp[dZ]at hD
  |qT es'=>simp only[dZ,Option.some.injEq,D.sl.injEq]at hD;subst hD;exact EY hy.1
  |mp id=>simp only[dZ]at hD;split at hD<;>simp at hD
  |_=>simp[dZ]at hD
 ·cases h
theorem uv(hH:aC M φ H w){id ep:Nat}(fG:H.us id){ty:TypeId}{sz:Nat}{es es':List D}(ho:H.o id= .arr ep ty sz es){val:Value}{xs':List Value}{m:Nat->Prop}(hk:eF m w w')
 (hm:∀b,m b->eK (φ id)=some b) (fK:∀b,eK val=some b->eK (φ id)=some b\/w.heap.size<=b) (eu:w'.ownsRow 0 ty sz val es'.length xs') (hd:gz (ax M φ H) w sz es' xs'):
 let aO:=aL φ id val;let H':=H.put [(id, .arr (ep+1) ty sz es')]
 aC M aO H' w'/\Trans φ H w aO H' w'/\V.den (ax M aO H') aO H' w' (.osl id (ep+1)) val:=by
 intro aO H'
 have hl:(H.o id).live=true:=by rw[ho];rfl
 have ht:Trans φ H w aO H' w':={
  cw:=⟨hk.os,hk.tape,hk.output,hk.size,fun k h WA=>hk.block k h (fun e=>WA ⟨id,hl,hm k e⟩)⟩
  grow:=by
   rintro b ⟨j,h1,h2⟩
   by_cases hj:j=id
   ·subst hj
    simp only[aO,aR,if_true]at h2
    rcases fK b h2 with h3|h3
    ·exact .inl ⟨j,hl,h3⟩
    ·exact .inr h3
   ·simp[H',aO,hj]at h1 h2;exact .inl ⟨j,h1,h2⟩
  rel:={
   us:=fun j h=>by simp[H',h]
   row:=fun j hu hr=>by
    by_cases hj:j=id
    ·subst hj;simp[H',ab.cy]at hr
    ·simp[H',aO,hj]at hr|-;exact hr
   ep:=fun j e' hu he=>by
    by_cases hj:j=id
    ·subst hj;simp[H',ab.ct]at he;subst he;exact⟨ep,by rw[ho];rfl,Nat.le_succ _,fun h=>ad⟩
    ·simp[H',aO,hj]at he|-;exact⟨e',he,Nat.le_refl _⟩}}
 have h0:=hH.ok id
 simp only[ba,ho]at h0
 refine⟨hH.of ht (· =id) (fun j h=> ?_) (fun j h=> ?_) (fun j h=> ?_) (fun i j b hi hj bi bj=> ?_) (fun b=> ?_),ht, ?_,by simp[H'],fun e he=> ?_⟩
 ·subst h
  unfold ba
  simp only[H',bO,aR,if_true]
  exact⟨h0.1,xs',by simpa[aO]using eu,hd.mono (ht.blocks (M:=M))⟩
 ·refine⟨by simp[H',h],by simp[aO,h],fun hlj b hb=>hk.block b (hH.ours b ⟨j,hlj,hb⟩).2 fun e=>h ?_⟩
  exact hH.apart j id b hlj hl hb (hm b e)
 ·rw[et]at h
  have h1:j≠id:=fun e=>h (.inr e)
  simp only[H',bO,aR,h1,if_false]
  exact hH.fresh j fun hu=>h (.inl hu)
 ·by_cases e1:i=id<;>by_cases e2:j=id
  ·exact e1.trans e2.symm
  ·subst e1
   simp[H',aO,e2]at hj bj bi
   rcases fK b bi with h3|h3
   ·exact hH.apart i j b hl hj h3 bj
   ·have:=(hH.ours b ⟨j,hj,bj⟩).2;omega
  ·subst e2
   simp[H',aO,e1]at hi bi bj
   rcases fK b bj with h3|h3
   ·exact hH.apart i j b hi hl bi h3
   ·have:=(hH.ours b ⟨i,hi,bi⟩).2;omega
  ·simp[H',aO,e1,e2]at hi hj bi bj
   exact hH.apart i j b hi hj bi bj
 ·rintro⟨j,h1,h2⟩
  by_cases hj:j=id
  ·subst hj;simp only[aO,aR,if_true]at h2;exact(kK eu b h2).2
  ·simp[H',aO,hj]at h1 h2
   exact Nat.lt_of_lt_of_le (hH.ours b ⟨j,h1,h2⟩).2 hk.size
 ·rcases eu.2 with⟨rfl,_⟩|⟨g,cap,cur,rfl,_⟩<;>rfl
 ·simp[H',ab.ct]at he
  subst he
  exact⟨Nat.le_refl _,fun _=>by simp[aO]⟩
theorem gz.append {B:Nat->Prop}{sz:Nat}{es new:List D}{xs:List Value}{evs:List Value}(h:gz B w sz es xs)(h1:D.aM B w new evs)(h2:∀ev∈evs,ev.cells.size=sz):
 gz B w sz (es++new) (xs++evs.flatMap (·.cells.toList)):=by
 obtain⟨abm,rfl,h3,h4⟩:=h
 refine⟨abm++evs,aj,fun ev dI=> ?_,D.bI _ _ _ _ h4 h1⟩
 rcases List.mem_append.1 dI with h|h
 ·exact h3 ev h
 ·exact h2 ev h
theorem dp{sz:Nat}:∀ (evs:List Value),(∀ev∈evs,ev.cells.size=sz)->(evs.flatMap (·.cells.toList)).length=evs.length*sz
 |[],_=>aj
 |x::l,hx=>by
  have:=dp l fun v hv=>hx v (by simp[hv])
  simp[this,hx x (by simp),Nat.add_mul,Nat.add_comm]
theorem Dt(hH:aC M φ H w)(db: ¬H.us fr){ts:Array TypeId}{ty0:TypeId}{x y:V}{xv yv:Value}(hx:V.den (ax M φ H) φ H w x xv)(hy:V.den (ax M φ H) φ H w y yv)
 (h:pM P H.o fr ts x y K):cV M φ H w fr ((do let z <- Builtin.append_ ts ty0 #[xv,yv];pure (Next.value z):Sem Next).run P w) K:=by
 unfold pM at h
 split at h
 ·rename_i t t' th
  obtain⟨rfl,h⟩:=h
  have th:ts=#[t,t]:=by apply Array.ext';simpa using th
  subst th
  split at h
  ·rename_i e ht
   obtain⟨new,SY,fV,hz,hw,h⟩:=h
   obtain⟨zz,hz⟩:=Option.isSome_iff_exists.1 hz
   obtain⟨i,z,g1,g2,g3,g4,_⟩:=j6 hz
   have hi:=b9 g1
   have SX:=l0 g1
   have EZ:=oR hH hy SY hw
   split at h
   ·obtain⟨h1,h2,hK⟩:=h
    simp only[V.den]at hx;subst hx
    rcases EZ with⟨rfl,rfl⟩|⟨a,c,evs,rfl,k1,k2,k3,k4⟩
    ·refine fg hH db (eF.refl _ _) fV hK (run_append_owned_none (P:=P) w 0 t ty0 e i i.size (bE ht) g1 _ 0 [] (World.ownsRow_nil w 0 e i.size)) ?_ ⟨[],rfl,aj,rfl⟩
     exact World.ownsRow_nil w _ e _
    ·obtain⟨v',w',r1,r2,r3,_⟩:=run_append_own (P:=P) w w.heap.size t ty0 e i z (P.cellsOf e) (P.bytesOf e) (bE ht) g1 g2 hi.symm SX.symm (by rw[g3,hi]) fV _ 0 [] (World.ownsRow_nil w _ e _) a new.length c
      (evs.flatMap fun v:Value=>v.cells.toList) (by rw[dp evs k2,D.aH _ _ k1]) k3 (fun u hu=>k4 u hu) (by simp[maxLen];omega) Dk (Nat.le_refl _)
     refine fg hH db (lZ r3) fV hK r1 MV ⟨evs,rfl,k2,k1⟩
   ·rename_i es
    obtain⟨hw2,h⟩:=h
    have Iy:=oR (sz:=P.cellsOf e) hH (y:= .d (.sl es)) (new:=es) (show V.den (ax M φ H) φ H w (.d (.sl es)) xv from hx.1) (by simp[e8,dZ]) hw2
    obtain⟨b,n,wk⟩:=hx.2
    subst wk
    split at h
    ·rename_i hn;subst hn
     have hsm:(sizeOf e).run P w= .ok i.size w:=by rw[dS g1,hi]
     have hr:(Builtin.append_ #[t,t] ty0 #[.slice b n n,yv]).run P w= .ok (.slice b n n) w:=by
      rcases EZ with⟨rfl,_⟩|⟨a,c,evs,rfl,_⟩
      ·cases b<;>simp[Builtin.append_,run_underlying (bE ht),hsm,Builtin.lenOf,Builtin.firstCells,storeCells]
      ·cases b<;>simp[Builtin.append_,run_underlying (bE ht),hsm,Builtin.lenOf,Builtin.firstCells,storeCells,loadCells,loadCellsFrom]
     exact cV.same hH _ h MF hx
    ·rename_i iD
     obtain⟨h1,h2,hK⟩:=h
     rcases EZ with⟨rfl,rfl⟩|⟨a,c,evs,rfl,k1,k2,k3,k4⟩
     ·exact absurd rfl iD
     ·have hlen:(evs.flatMap (·.cells.toList)).length=new.length*P.cellsOf e:=by rw[dp evs k2,D.aH _ _ k1]
      rcases Iy with⟨e1,rfl⟩|⟨a',c',Je,e1,q1,q2,q3,q4⟩
      ·injection e1 with e1 e2 e3
       subst e1;subst e2
       obtain⟨v',w',r1,r2,r3,_⟩:=run_append_own (P:=P) w w.heap.size t ty0 e i z (P.cellsOf e) (P.bytesOf e) (bE ht) g1 g2 hi.symm SX.symm (by rw[g3,hi]) fV _ 0 [] (World.ownsRow_nil w _ e _) a new.length c
        (evs.flatMap fun v:Value=>v.cells.toList) (by rw[dp evs k2,D.aH _ _ k1]) k3 (fun u hu=>k4 u hu) (by simp[maxLen];simp at h1;omega) (by simp at h2|-;omega) (Nat.le_refl _)
       refine fg hH db (lZ r3) fV hK r1 MV ⟨evs,rfl,k2,k1⟩
      ·injection e1 with e1 e2 e3
       subst e1;subst e2
       have xc:(Je.flatMap (·.cells.toList)).length=es.length*P.cellsOf e:=by rw[dp Je q2,D.aH _ _ q1]
       have acV:0<new.length:=by cases new with|nil=>exact absurd rfl iD|cons _ _=>simp
       have Du:es.length+new.length<=maxLen:=by simp[maxLen];omega
       have hr:=run_append_grow (P:=P) w t ty0 e i z (bE ht) g1 g2 a' es.length es.length _ (by rw[xc,hi]) q3 a new.length c _ (by rw[hlen,hi]) k3 ad ad
        (growslice_fits ad (by rw[<- SX];omega))
       refine fg (xs:=Je.flatMap (·.cells.toList)++evs.flatMap (·.cells.toList)) hH db ?_ fV hK hr ?_ ⟨Je++evs,aj,fun ev dI=> ?_,D.bI _ _ _ _ q1 k1⟩
       ·exact⟨rfl,rfl,rfl,aj,fun k hk _=>RowKit.Below.heap_alloc w.drew _ k hk⟩
       ·have AF:=grownCap_ge w (es.length+new.length) es.length e
        refine⟨by rw[List.length_append,xc,hlen,List.length_append,Nat.add_mul], .inr ⟨w.heap.size,_,_,by rw[List.length_append],Nat.le_refl _,heap_alloc_new w.drew _,by rw[List.length_append];exact AF,
         grownCap_le_maxLen w _ _ e Du, ?_, ?_⟩⟩
        ·simp only[Array.size_append,List.size_toArray,size_zeroCells,g3,xc,hlen,hi, <- Nat.add_mul]
         congr 1
         omega
        ·have:(Je.flatMap (·.cells.toList)++evs.flatMap (·.cells.toList)).length=(es++new).length*P.cellsOf e:=by rw[List.length_append,xc,hlen,List.length_append,Nat.add_mul]
         simp only[Array.toList_append]
         rw[<- this]
         exact List.take_left
       ·rcases List.mem_append.1 dI with dI|dI
        ·exact q2 ev dI
        ·exact k2 ev dI
   ·rename_i id ep
    split at h
    ·rename_i jj ty sz es ho
     obtain⟨rfl,rfl,rfl,h1,h2,hK⟩:=h
     obtain⟨_,fG,wy⟩:=hx
     have hv:=(wy ep eV).2 rfl
     subst hv
     have bn:=hH.ok id
     simp only[ba,ho]at bn
     obtain⟨_,xs,eu,mL⟩:=bn
     have done:∀ {val:Value} {w':World} {m:Nat->Prop} {evs:List Value},(Builtin.append_ #[t,t] ty0 #[φ id,yv]).run P w= .ok val w'->eF m w w'->(∀b,m b->eK (φ id)=some b)->
      (∀b,eK val=some b->eK (φ id)=some b\/w.heap.size<=b)->w'.ownsRow 0 ty (P.cellsOf ty) val (es++new).length (xs++evs.flatMap (·.cells.toList))->D.aM (ax M φ H) w new evs->
      (∀ev∈evs,ev.cells.size=P.cellsOf ty)->cV M φ H w fr ((do let z <- Builtin.append_ #[t,t] ty0 #[φ id,yv];pure (Next.value z):Sem Next).run P w) K:=by
      intro val w' m evs r1 r2 r3 r4 r5 r6 r7
      obtain⟨s1,s2,s3⟩:=uv hH fG ho r2 r3 r4 r5 (mL.append r6 r7)
      exact⟨_,_,_,_,_,_,_,hK,by simp only[Sem.run_bind,r1,Result.andThen_ok];rfl, .inl rfl,s1,s2,s3,by simp[fG]⟩
     rcases EZ with⟨rfl,rfl⟩|⟨a,c,evs,rfl,k1,k2,k3,k4⟩
     ·refine done (evs:=[]) (run_append_owned_none (P:=P) w 0 t ty0 ty i (P.cellsOf ty) (bE ht) g1 _ _ xs eu) (eF.refl (fun _=>False) _) (fun _ h=>h.elim) (fun b hb=> .inl hb) (by simpa using eu) rfl aj
     ·have hlen:(evs.flatMap (·.cells.toList)).length=new.length*P.cellsOf ty:=by rw[dp evs k2,D.aH _ _ k1]
      have Du:es.length+new.length<=maxLen:=by simp[maxLen];omega
      rcases eu.2 with⟨h3,h4⟩|⟨g,cap,cur,h3,h4,h5,h6,h7,h8,h9⟩
      ·have Be:w.ownsRow w.heap.size ty (P.cellsOf ty) (φ id) es.length xs:=⟨eu.1, .inl ⟨h3,h4⟩⟩
       obtain⟨v',w',r1,r2,r3,_⟩:=run_append_own (P:=P) w w.heap.size t ty0 ty i z (P.cellsOf ty) (P.bytesOf ty) (bE ht) g1 g2 hi.symm SX.symm (by rw[g3,hi]) fV _ _ xs Be a new.length c
        (evs.flatMap fun v:Value=>v.cells.toList) hlen k3 (fun u hu=>k4 u hu) Du h2 (Nat.le_refl _)
       refine done r1 (lZ (by rw[h3]at r3;exact r3)) (fun _ h=>h.elim) (fun b hb=> .inr (kK r2 b hb).1) (by simpa using pX r2) k1 k2
      ·by_cases Po:es.length+new.length<=cap
       ·rw[h3]at eu
        obtain⟨w',r1,r2,r3⟩:=run_append_fits (P:=P) w 0 t ty0 ty i (P.cellsOf ty) (bE ht) g1 hi.symm g es.length cap xs eu a new.length c (evs.flatMap fun v:Value=>v.cells.toList) hlen k3 (fun u hu=>k4 u hu) Po
        rw[<- h3]at r1
        exact done (m:=(· =g)) r1 ⟨r3.os,r3.tape,r3.output,r3.size,fun k hk iD=>r3.block k hk (by simpa using iD)⟩ (fun b hb=>by subst hb;rw[h3];rfl) (fun b hb=> .inl (by rw[h3];exact hb)) MV k1 k2
       ·have holds:∀j u,xs[j]? =some u->w.cell? ((⟨g,0,none⟩:Addr).add j)=some u:=eu.cells (g:=g) (by rw[h3];rfl)
        have hr:=run_append_grow (P:=P) w t ty0 ty i z (bE ht) g1 g2 ⟨g,0,none⟩ es.length cap xs (by rw[eu.1,hi]) holds a new.length c _ (by rw[hlen,hi]) k3 ad (by simp[maxLen]at Du;omega)
         (growslice_fits ad (by rw[<- SX];omega))
        rw[<- h3]at hr
        refine done (m:=fun _=>False) hr ⟨rfl,rfl,rfl,aj,fun k hk _=>RowKit.Below.heap_alloc w.drew _ k hk⟩ (fun _ h=>h.elim) (fun b hb=> .inr (by simp[eK]at hb;omega)) ?_ k1 k2
        have AF:=grownCap_ge w (es.length+new.length) cap ty
        refine⟨by rw[List.length_append,eu.1,hlen,List.length_append,Nat.add_mul], .inr ⟨w.heap.size,_,_,by rw[List.length_append],Nat.zero_le _,heap_alloc_new w.drew _,by rw[List.length_append];exact AF,
         grownCap_le_maxLen w _ cap ty Du, ?_, ?_⟩⟩
        ·simp only[Array.size_append,List.size_toArray,size_zeroCells,g3,eu.1,hlen,hi, <- Nat.add_mul]
         congr 1
         omega
        ·have:(xs++evs.flatMap (·.cells.toList)).length=(es++new).length*P.cellsOf ty:=by rw[List.length_append,eu.1,hlen,List.length_append,Nat.add_mul]
         simp only[Array.toList_append,List.append_assoc]
         rw[<- List.append_assoc, <- this]
         exact List.take_left
    ·exact h.elim
   ·exact h.elim
  ·exact h.elim
 ·exact h.elim
end
end Go.Proofs.YtonbelhklnmjnaaGreat
namespace Go.Proofs.YtonbelhklnmjnaaGreat
section
variable {P:Program}{M:Nat->Prop}{φ:Place}{H:Hp}{w w':World}{fr:Nat}{K:V->List (Nat×ab)->List Nat->Prop}
theorem sy{t:TypeId}{b off:Nat}{ty:TypeId}{cur:Array Value}(hb:w.heap[b]? =some (.cells cur ty (0,0)))(v:Value)(hs:v.cells.size=P.cellsOf t)(fV:0<v.cells.size\/(P.info? t).isSome=true)
 (hle:off+v.cells.size<=cur.size) (hf:Flat v.cells.toList):
 (Instr.storeAt t (.pointer (some ⟨b,off,none⟩)) v).run P w= .ok () (w.setRow b (cur.toList.take off++v.cells.toList++cur.toList.drop (off+v.cells.size)).toArray):=by
 obtain⟨i,hi⟩:∃i,P.info? t=some i:=by
  rcases fV with fV|fV
  ·exact j7 (P:=P) (e:=t) ad
  ·exact Option.isSome_iff_exists.1 fV
 have:=run_storeCells_at (P:=P) b off ty v.cells.toList 0 cur w hb (by simpa using hle) (fun u hu=>hf u hu)
 simp only[Nat.add_zero,Array.length_toList]at this
 simp[Instr.storeAt,Instr.sureAddr,storeVar,dS hi,hs,this]
theorem Bf{sz:Nat}:∀ (evs:List Value) (i off:Nat) (ev GI:Value) (us:List Value),(∀x∈evs,x.cells.size=sz)->evs[i]? =some ev->off+us.length<=sz->
 GI.cells.toList=ev.cells.toList.take off++us++ev.cells.toList.drop (off+us.length)->
 (evs.set i GI).flatMap (·.cells.toList)=(evs.flatMap (·.cells.toList)).take (i*sz+off)++us++(evs.flatMap (·.cells.toList)).drop (i*sz+off+us.length)
 |[],_,_,_,_,_,_,h,_,_=>by simp at h
 |x::evs,0,off,ev,GI,us,hs,h,hle,he=>by
  simp at h;subst h
  have hx:x.cells.toList.length=sz:=by simpa using hs x aj
  simp only[List.set_cons_zero,List.flatMap_cons,Nat.zero_mul,Nat.zero_add,he]
  rw[List.take_append_of_le_length (by omega),List.drop_append_of_le_length (by omega)]
  simp[List.append_assoc]
 |x::evs,i+1,off,ev,GI,us,hs,h,hle,he=>by
  have hx:x.cells.toList.length=sz:=by simpa using hs x aj
  have ih:=Bf evs i off ev GI us (fun y hy=>hs y AU) Gy hle he
  simp only[List.set_cons_succ,List.flatMap_cons,ih]
  rw[show(i+1)*sz+off=x.cells.toList.length+(i*sz+off) by rw[Nat.add_mul,hx];omega,List.take_length_add_append,
   show x.cells.toList.length+(i*sz+off)+us.length=x.cells.toList.length+(i*sz+off+us.length) by omega,List.drop_length_add_append]
  simp[List.append_assoc]
theorem Bg{α:Type}(l v:List α)(k m n:Nat)(hn:n=v.length)(h:k+n<=m)(hm:m<=l.length):(l.take k++v++l.drop (k+n)).take m=(l.take m).take k++v++(l.take m).drop (k+n):=by
 subst hn
 apply List.ext_getElem?
 intro i
 simp only[List.getElem?_append,List.getElem?_take,List.getElem?_drop,List.length_append,List.length_take]
 repeat' split
 all_goals first
  |rfl
  |omega
  |(congr 1;omega)
  |(symm;apply List.getElem?_eq_none;omega)
  |(apply List.getElem?_eq_none;omega)
  |skip
theorem Jf{B:Nat->Prop}{e e':D}{off:Nat}{ds:List D}(h:e.put off ds=some e'){ev:Value}(he:D.den B w e ev){us:List Value}(hu:D.aM B w ds us)(hf:Flat us):
 ∃GI,D.den B w e' GI/\GI.cells.toList=ev.cells.toList.take off++us++ev.cells.toList.drop (off+us.length)/\off+us.length<=ev.cells.size:=by
 have hl:=D.aH _ _ hu
 rcases D.nR _ _ he with⟨cs,a,rfl,rfl⟩|⟨h1,h2,h3⟩
 ·obtain⟨a',ha,h4,h5⟩:=he
  injection ha with ha;subst ha
  have hl4:=D.aH _ _ h4
  simp only[Array.length_toList]at hl4
  simp only[D.put]at h
  split at h
  ·rename_i hle
   injection h with h;subst h
   refine⟨.agg (a.toList.take off++us++a.toList.drop (off+us.length)).toArray,⟨_,rfl, ?_, ?_⟩,by simp[Value.cells],by simp[Value.cells];omega⟩
   ·simp only
    rw[hl]
    exact D.bI _ _ _ _ (D.bI _ _ _ _ (D.dQ _ _ _ h4) hu) (D.eL _ _ _ h4)
   ·intro x hx
    simp only[List.mem_append]at hx
    rcases hx with(hx|hx)|hx
    ·exact h5 x (List.mem_of_mem_take hx)
    ·exact hf x hx
    ·exact h5 x (List.mem_of_mem_drop hx)
  ·cases h
 ·have kY:off=0/\∃u,ds=[u]/\e'=u:=by
   cases e<;>simp only[D.put]at h<;>first
    |(split at h
      ·rename_i u;injection h with h;exact⟨rfl,u,rfl,h.symm⟩
      ·cases h)
    |(simp[D.cells]at h2;done)
    |skip
   obtain⟨a,rfl,_⟩:=he
   simp[Value.oneCell']at h1
  obtain⟨rfl,u,rfl,rfl⟩:=kY
  obtain⟨x,xs,rfl,h4,h5⟩:=hu
  simp only[D.aM]at h5;subst h5
  have hx:x.cells=#[x]:=by have:=hf x aj;cases x<;>simp_all[Value.oneCell',Value.cells]
  exact⟨x,h4,by simp[hx,h3],by simp[h3]⟩
theorem GJ(hH:aC M φ H w){t:TypeId}{x v:V}{xv vv:Value}(hx:V.den (ax M φ H) φ H w x xv)(hv:V.den (ax M φ H) φ H w v vv)
 (h:uj P H.o t x v fun Δ rd=>K (.ck []) Δ rd):cV M φ H w fr ((do Instr.storeAt t xv vv;pure Next.skip:Sem Next).run P w) K:=by
 unfold uj at h
 split at h
 ·rename_i id off
  split at h
  ·rename_i cs ho
   obtain⟨cs',h1,hK⟩:=h
   obtain⟨_,fG,hp⟩:=hx
   obtain⟨b,eW,rfl⟩:=hp eV
   have bn:=hH.ok id
   simp only[ba,ho]at bn
   obtain⟨b',dO,ty,g1,g2,g3,g4⟩:=bn
   rw[eW]at g1;simp at g1;subst g1
   unfold yU at h1
   split at h1
   ·rename_i us hc
    split at h1
    ·rename_i hle
     injection h1 with h1;subst h1
     obtain⟨k1,k2⟩:=V.nR _ _ _ hc hv
     have l1:=V.aH _ _ k1
     have l2:=V.aH _ _ g3
     simp only[Array.length_toList]at l1 l2
     have hr:=sy (P:=P) (t:=t) (off:=off) g2 vv ad (hle.2.1.imp (fun h=>ad) (fun h=>h)) ad k2
     obtain⟨t1,t2⟩:=A5 (cs':=cs.take off++us++cs.drop (off+us.length)) hH fG ho eW g2 (dO.toList.take off++vv.cells.toList++dO.toList.drop (off+vv.cells.size)).toArray (by
      simp only
      rw[l1]
      exact V.bI _ _ _ _ (V.bI _ _ _ _ (V.dQ _ _ _ g3) k1) (V.eL _ _ _ g3)) (by
      intro u hu
      simp only[List.mem_append]at hu
      rcases hu with(hu|hu)|hu
      ·exact g4 u (List.mem_of_mem_take hu)
      ·exact k2 u hu
      ·exact g4 u (List.mem_of_mem_drop hu))
     exact⟨_,_,_,_,_,_,_,hK,by simp only[Sem.run_bind,hr,Result.andThen_ok];rfl, .inr ⟨rfl,rfl⟩,t1,t2,⟨#[],rfl,rfl⟩,by simp[fG]⟩
    ·cases h1
   ·cases h1
  ·exact h.elim
 ·rename_i id ep i qU off
  split at h
  ·rename_i jj ty sz es ho
   obtain⟨rfl,rfl,e,he,y,hy,hyl,hyp,iD,e',kY,hK⟩:=h
   obtain⟨_,fG,hp⟩:=hx
   obtain⟨b,n,c,eW,rfl⟩:=(hp ep eV).2 rfl
   obtain⟨f1,f2,f3,f4,f5⟩:=du hH v.ids (dn v _ hv)
   have mM:id∉v.ids:=fun hm=>by have:=List.all_eq_true.1 iD id hm;simp at this
   have wh:=(f4 id mM).trans ho
   have hvd:=gr f1 v y vv f3 hy (V.aS f2 _ _ hv)
   obtain⟨k1,k2⟩:=D.ft _ _ hvd
   have l1:=D.aH _ _ k1
   simp only[Array.length_toList]at l1
   have bn:=f1.ok id
   simp only[ba,wh]at bn
   obtain⟨h0,xs,⟨hl,bX⟩,evs,rfl,h2,h3⟩:=bn
   rcases bX with⟨h4,h5⟩|⟨g,cap,cur,h4,h5,h6,h7,h8,h9,Pk⟩
   ·rw[eW]at h4;simp at h4
   ·rw[eW]at h4;simp at h4
    obtain⟨rfl,rfl,rfl⟩:=h4
    obtain⟨ev,dI,hde⟩:=D.dP _ _ _ _ h3 he
    obtain⟨GI,p1,p2,p3⟩:=Jf kY hde k1 k2
    simp only[Array.length_toList]at p2 p3
    have ac6:=h2 ev (List.mem_of_getElem? dI)
    have abn:i<es.length:=(List.getElem?_eq_some_iff.1 he).1
    have Jg:i*qU+qU<=es.length*qU:=by
     rw[<- Nat.succ_mul];exact Nat.mul_le_mul_right _ abn
    have abo:es.length*qU<=cur.size:=by rw[h9];exact Nat.mul_le_mul_right _ h7
    have hr:=sy (P:=P) (t:=t) (off:=i*qU+off) h6 vv ad (.inl ad) ad k2
    have Na:=Bf evs i off ev GI vv.cells.toList h2 dI (by simpa using(by omega:off+vv.cells.size<=qU)) (by simpa using p2)
    simp only[Array.length_toList]at Na
    have c0:((H.put (dk H.o v.ids)).o id).live=true:=by rw[wh];rfl
    have yW:eK (φ id)=some b:=by rw[eW];rfl
    have XK:=(f5 id).2 fG
    have ht:=fe (w:=w) (w':=w.setRow b (cur.toList.take (i*qU+off)++vv.cells.toList++cur.toList.drop (i*qU+off+vv.cells.size)).toArray) XK c0 yW (kI w b _) (.arr ep ty qU (es.set i e')) AP AP
    have hh:=iL f1 XK c0 yW (kI w b (cur.toList.take (i*qU+off)++vv.cells.toList++cur.toList.drop (i*qU+off+vv.cells.size)).toArray) (.arr ep ty qU (es.set i e')) AP AP (by
     unfold ba
     simp only[bO,aR,if_true]
     refine⟨h0,(evs.set i GI).flatMap (·.cells.toList),⟨?_, .inr ⟨b,c,_,by rw[List.length_set];exact eW,Nat.zero_le _,setRow_heap w b cur _ ty (0,0) h6,by rw[List.length_set];exact h7,h8, ?_, ?_⟩⟩,evs.set i GI,rfl, ?_, ?_⟩
     ·rw[Na,List.length_set]
      simp only[List.length_append,List.length_take,List.length_drop,Array.length_toList,hl]
      omega
     ·simp only[List.size_toArray,List.length_append,List.length_take,List.length_drop,Array.length_toList]
      omega
     ·rw[Na,List.length_set, <- Pk]
      exact Bg cur.toList vv.cells.toList _ _ _ aj ad (by simpa using abo)
     ·intro x hx
      rcases List.mem_or_eq_of_mem_set hx with hx|rfl
      ·exact h2 x hx
      ·have:=congrArg List.length p2
       simp only[Array.length_toList,List.length_append,List.length_take,List.length_drop]at this
       omega
     ·exact D.a8 (ht.blocks (M:=M)) _ _ (D.A3 i es evs e' GI h3 p1))
    rw[<- eo]at hh ht
    refine⟨_,_,_,_,_,_,_,hK,by simp only[Sem.run_bind,hr,Result.andThen_ok];rfl, .inr ⟨rfl,rfl⟩,hh,f2.trans ht,⟨#[],rfl,rfl⟩,fun j hj=> ?_⟩
    simp only[List.map_append,List.mem_append,List.map_cons,List.map_nil,List.mem_singleton]at hj
    rcases hj with hj|hj
    ·left
     refine dn v _ hv j ?_
     rw[l4]at hj
     simpa[Function.comp_def]using hj
    ·exact .inl (hj ▸ fG)
  ·exact h.elim
 ·exact h.elim
end
end Go.Proofs.YtonbelhklnmjnaaGreat
namespace Go.Proofs.YtonbelhklnmjnaaGreat
section
variable {P:Program}{B:Nat->Prop}{w:World}
theorem gM{t:TypeId}{xs:List D}{off:Nat}{x:D}(h:jZ P t xs off=some x){arr:Array Value}(hd:D.aM B w xs arr.toList)(hf:Flat arr.toList):
 ∃u,(∀w',(part t arr off).run P w'= .ok u w')/\D.den B w x u:=by
 unfold jZ at h
 split at h
 ·rename_i ha
  split at h
  ·rename_i hl
   injection h with h;subst h
   obtain⟨i,hi⟩:=rq ha
   refine⟨.agg (arr.extract off (off+P.cellsOf t)),fun w'=> ?_,_,rfl, ?_, ?_⟩
   ·simp only[part,Sem.run_bind,rp ha w',Result.andThen_ok,if_true,dS hi w',Sem.run_pure]
   ·have:=D.dQ (P.cellsOf t) _ _ (D.eL off _ _ hd)
    simpa[Array.toList_extract,List.extract]using this
   ·intro u hu
    simp only[Array.toList_extract,List.extract]at hu
    exact hf u (List.mem_of_mem_drop (List.mem_of_mem_take hu))
  ·cases h
 ·rename_i ha
  obtain⟨u,hu,M4⟩:=D.dP _ _ _ _ hd h
  refine⟨u,fun w'=> ?_,M4⟩
  have wD:arr[off]? =some u:=by simpa using hu
  simp only[part,Sem.run_bind,oQ ha w',Result.andThen_ok,Bool.false_eq_true,if_false,wD,Sem.run_pure]
 ·cases h
theorem xe{a b:Option Bool}{r:Bool}(h:I6 a b=some r):∃x y,a=some x/\b=some y/\r=(x&&y):=by
 unfold I6 at h
 split at h
 ·injection h with h;exact⟨_,_,rfl,rfl,h.symm⟩
 ·cases h
def EqD(P:Program)(m:Nat)(t:TypeId)(x y:D)(r:Bool):Prop:=
 ∀ (B:Nat->Prop) (w:World) (u v:Value),D.den B w x u->D.den B w y v->(Op.equalIn m t u v).run P w= .ok r w
theorem pY{d m:Nat}(IH:∀t x y r,qV P d t x y=some r->EqD P m t x y r){xs ys:List D}{cp bs:Array Value}(ha:D.aM B w xs cp.toList)(C9:Flat cp.toList)(hb:D.aM B w ys bs.toList)(Nb:Flat bs.toList):
 ∀ (fs:List Field) (r:Bool),(∀f∈fs,f.name≠ "_")->A1 (fun u off=>SS (qV P d u) (jZ P u xs off) (jZ P u ys off)) (fs.map fun f=>(f.type,f.offset))=some r->
   (Op.eqFields m cp bs fs).run P w= .ok r w
 |[],r,_,h=>by simp[A1]at h;subst h;simp[Op.eqFields]
 |f::fs,r,hn,h=>by
  obtain⟨x,y,h1,h2,rfl⟩:=xe h
  simp only[SS]at h1
  split at h1
  ·rename_i p q hp hq
   obtain⟨u,k1,k2⟩:=gM hp ha C9
   obtain⟨v,k3,k4⟩:=gM hq hb Nb
   have h3:=IH _ _ _ _ h1 B w u v k2 k4
   have h4:=pY IH ha C9 hb Nb fs y (fun g hg=>hn g (by simp[hg])) h2
   have iD:=hn f aj
   simp only[Op.eqFields,iD,ne_eq,not_false_eq_true,if_true,Sem.run_bind,k1,k3,h3,Result.andThen_ok]
   cases x
   ·simp
   ·simpa using h4
  ·cases h1
theorem sA{d m:Nat}{e:TypeId}(IH:∀t x y r,qV P d t x y=some r->EqD P m t x y r){xs ys:List D}{cp bs:Array Value}(ha:D.aM B w xs cp.toList)(C9:Flat cp.toList)(hb:D.aM B w ys bs.toList)(Nb:Flat bs.toList):
 ∀ (n i:Nat) (r:Bool),ER (fun i=>SS (qV P d e) (jZ P e xs (i*P.cellsOf e)) (jZ P e ys (i*P.cellsOf e))) n i=some r->
   (Op.eqItems m e (P.cellsOf e) cp bs (List.range' i n)).run P w= .ok r w
 |0,i,r,h=>by simp[ER]at h;subst h;simp[Op.eqItems]
 |n+1,i,r,h=>by
  obtain⟨x,y,h1,h2,rfl⟩:=xe h
  simp only[SS]at h1
  split at h1
  ·rename_i p q hp hq
   obtain⟨u,k1,k2⟩:=gM hp ha C9
   obtain⟨v,k3,k4⟩:=gM hq hb Nb
   have h3:=IH _ _ _ _ h1 B w u v k2 k4
   have h4:=sA IH ha C9 hb Nb n (i+1) y h2
   simp only[List.range'_succ,Op.eqItems,Sem.run_bind,k1,k3,h3,Result.andThen_ok]
   cases x
   ·simp
   ·simpa using h4
  ·cases h1
theorem tJ:∀ (d:Nat) (t:TypeId) (x y:D) (r:Bool),qV P d t x y=some r->∀m,d<=m->EqD P m t x y r
 |0,_,_,_,_,h=>by simp[qV]at h
 |d+1,t,x,y,r,h=>by
  intro m hm B w u v hu hv
  obtain⟨m,rfl⟩:∃k,m=k+1:=⟨m - 1,ad⟩
  have IH:∀t x y r,qV P d t x y=some r->EqD P m t x y r:=fun t x y r h=>tJ d t x y r h m ad
  unfold qV at h
  cases hs:cj P t with
  |none=>rw[hs]at h;cases h
  |some sh=>
   rw[hs]at h
   unfold cj at hs
   cases ht:P.underlying t with
   |none=>rw[ht]at hs;cases hs
   |some td=>
    rw[ht]at hs
    cases td<;>simp only[Option.some.injEq,reduceCtorEq]at hs
    case int k0=>
     subst hs
     simp only at h
     split at h
     ·split at h
      ·rename_i e;subst e;injection h with h;subst h
       simp only[D.den]at hu hv;subst hu;subst hv
       exact run_equalIn_int w m t _ _ _ _ ht
      ·cases h
     ·cases h
    case bool=>
     subst hs
     simp only at h
     split at h
     ·injection h with h;subst h
      simp only[D.den]at hu hv;subst hu;subst hv
      exact run_equalIn_bool' w m t _ _ ht
     ·cases h
    case string=>
     subst hs
     simp only at h
     split at h
     ·injection h with h;subst h
      obtain⟨s1,rfl,rfl⟩:=hu
      obtain⟨s2,rfl,rfl⟩:=hv
      rw[run_equalIn_string w m t _ _ ht]
      rw[ByteArray.toList_eq,ByteArray.toList_eq]
     ·cases h
    case struct fs=>
     split at hs
     ·rename_i hc
      injection hs with hs;subst hs
      simp only[Bool.and_eq_true,Bool.not_eq_true',List.all_eq_true,bne_iff_ne]at hc
      simp only at h
      split at h
      ·obtain⟨cp,rfl,ha,C9⟩:=hu
       obtain⟨bs,rfl,hb,Nb⟩:=hv
       have hfs:P.fieldsOf t=fs:=by simp[Program.fieldsOf,ht]
       rw[run_equalIn_struct w m t cp bs (by rw[hfs];exact ht) hc.1,hfs]
       exact pY IH ha C9 hb Nb _ _ hc.2 h
      ·cases h
     ·cases hs
    case array n e=>
     split at hs
     ·rename_i hc
      injection hs with hs;subst hs
      simp only at h
      split at h
      ·obtain⟨cp,rfl,ha,C9⟩:=hu
       obtain⟨bs,rfl,hb,Nb⟩:=hv
       obtain⟨i,hi⟩:=Option.isSome_iff_exists.1 hc
       rw[run_equalIn_array w m cp bs ht hi,List.range_eq_range']
       exact sA IH ha C9 hb Nb _ _ _ h
      ·cases h
     ·cases hs
theorem Jh{t:TypeId}{cp bs:List D}{r:Bool}(h:qV P 100 t (.agg cp) (.agg bs)=some r)(hg:P.eqGuardType P.depth t=false):I3 P t (.agg cp) (.agg bs) r:=by
 intro B w u v hu hv
 refine⟨tJ 100 t _ _ _ h _ aV B w u v hu hv,fun op a b=> ?_⟩
 obtain⟨cp,rfl,_⟩:=hu
 obtain⟨bs,rfl,_⟩:=hv
 exact run_eqGuard_agg w op t a b cp bs hg
end
end Go.Proofs.YtonbelhklnmjnaaGreat
namespace Go.Proofs.YtonbelhklnmjnaaGreat
section
variable {P:Program}{M:Nat->Prop}{φ:Place}{H:Hp}{w:World}{fr:Nat}{K:V->List (Nat×ab)->List Nat->Prop}
theorem dF{x:Option gB}(h:dm x K):∃v Δ rd,x=some (v,Δ,rd)/\K v Δ rd:=by
 unfold dm at h;split at h
 ·exact⟨_,_,_,rfl,h⟩
 ·exact h.elim
theorem Bh{o:Nat->ab}{x:V}{id off:Nat}(h:oM o x=some (id,off)):x= .ptr id off/\(o id).cy=true:=by
 unfold oM at h
 split at h
 ·split at h
  ·simp only[Option.some.injEq,Prod.mk.injEq]at h;obtain⟨rfl,rfl⟩:=h;exact⟨rfl,by assumption⟩
  ·cases h
 ·cases h
theorem Bi{o:Nat->ab}{x:V}{id off n:Nat}{cs:List V}(h:oN o x=some (id,off,n,cs)):x= .wY id off n/\o id= .row cs:=by
 unfold oN at h
 split at h
 ·split at h
  ·rename_i ho
   simp only[Option.some.injEq,Prod.mk.injEq]at h;obtain⟨rfl,rfl,rfl,rfl⟩:=h;exact⟨rfl,ho⟩
  ·cases h
 ·cases h
theorem pZ{x:Option V}{val:Option Value}{d n:Nat}(hx:match x,val with|none,none=>True|some v,some u=>V.den (ax M φ H) φ H w v u|_,_=>False)(h:GD x d=some n):
 (x=none/\val=none/\n=d)\/∃k,val=some (.int k n)/\x≠none:=by
 unfold GD at h
 split at h
 ·injection h with h
  left
  cases val with
  |none=>exact⟨rfl,rfl,h.symm⟩
  |some u=>exact hx.elim
 ·rename_i k i
  split at h
  ·injection h with h;subst h
   right
   cases val with
   |none=>exact hx.elim
   |some u=>
    simp only[V.den,D.den]at hx
    refine⟨k, ?_,aj⟩
    rw[hx,Int.toNat_of_nonneg (by assumption)]
  ·cases h
 ·cases h
theorem E0{B:Nat->Prop}{es:List D}{base:Option Addr}{len cap l h:Nat}(hd:D.den B w (.sl es) (.slice base len cap))(hl:l<=h)(hh:h<=es.length){m:Nat}(hm:m=cap\/h<=m/\m<=es.length){WB:Nat}(ec:l=0\/∀y∈es,y.cells.length=WB):
 D.den B w (.sl ((es.take h).drop l)) (.slice (if m=l then base else base.map (·.add (l*WB))) (h - l) (m - l)):=by
 obtain⟨b',ac7,ac8,he,h1,h2,h3,sz,h4⟩:=hd
 injection he with e1 e2 e3
 subst e1;subst e2;subst e3
 refine⟨_,_,_,rfl,by simp;omega,ad,fun hb=> ?_,sz,fun a ha=> ?_⟩
 ·split at hb
  ·omega
  ·cases base with
   |none=>have:=h3 rfl;omega
   |some a=>simp at hb
 ·have key:∀ (es:List D) (i:Nat) (a:Addr),D.elems B w sz a i es->∀l h,D.elems B w sz a (i+l) ((es.take h).drop l):=by
   intro es
   induction es with
   |nil=>intro i a _ l h;simp[D.elems]
   |cons e es ih=>
    intro i a he l h
    cases h with
    |zero=>simp[D.elems]
    |succ h=>
     cases l with
     |zero=>
      refine⟨he.1, ?_⟩
      simpa using ih (i+1) a he.2 0 h
     |succ l=>
      have:=ih (i+1) a he.2 l h
      rw[show i+1+l=i+(l+1) by omega]at this
      simpa using this
  split at ha
  ·
    rename_i Nc
    have acW:h - l=0:=ad
    have SZ:(es.take h).drop l=[]:=List.eq_nil_of_length_eq_zero AS
    rw[SZ]
    cases base with
    |none=>cases ha
    |some b=>injection ha with ha;subst ha;exact⟨fun hc=>ad,trivial⟩
  ·cases base with
   |none=>simp at ha
   |some b=>
    simp only[Option.map_some,Option.some.injEq]at ha
    subst ha
    obtain⟨h5,h6⟩:=h4 b rfl
    replace h5:=h5 ad
    refine⟨fun _=>A7 b h5 _, ?_⟩
    have h7:=key es 0 b h6 l h
    rw[Nat.zero_add]at h7
    have shift:∀ (ds:List D) (i:Nat),(∀y∈ds,y.cells.length=WB\/l=0)->D.elems B w sz b (l+i) ds->D.elems B w sz (b.add (l*WB)) i ds:=by
     intro ds
     induction ds with
     |nil=>intro i _ _;trivial
     |cons y ds ih=>
      intro i hy hd
      obtain⟨⟨ev,g1,g2,g3⟩,g4⟩:=hd
      have abp:l*WB=l*sz:=by
       rcases hy y aj with hy|hy
       ·have:=D.aH _ _ (D.ft _ _ g3).1
        rw[hy]at this
        have e:ev.cells.size=WB:=by simpa using this
        rw[<- e,g1]
       ·rw[hy];simp
      refine⟨⟨ev,g1, ?_,g3⟩,ih (i+1) (fun z hz=>hy z (by simp[hz])) (by rw[show l+(i+1)=l+i+1 by omega];exact g4)⟩
      rw[add_add b h5,abp, <- Nat.add_mul]
      exact g2
    refine shift _ 0 (fun y hy=> ?_) (by simpa using h7)
    rcases ec with ec|ec
    ·exact .inr ec
    ·exact .inl (ec y (List.mem_of_mem_take (List.mem_of_mem_drop hy)))
theorem oS{len cap:Nat}{lo hi mx:Option Value}{l h m:Nat}(GK:lo=none/\l=0\/∃k,lo=some (.int k l))(Dv:hi=none/\h=len/\mx=none\/∃k,hi=some (.int k h))(Ji:mx=none/\m=cap\/∃k,mx=some (.int k m))(h1:l<=h)(h2:h<=m)(h3:m<=cap):
 (Instr.sliceBounds true len cap lo hi mx).run P w= .ok (l,h,m) w:=by
 rcases GK with⟨rfl,rfl⟩|⟨kl,rfl⟩<;>rcases Dv with⟨rfl,rfl,rfl⟩|⟨kh,rfl⟩<;>rcases Ji with⟨e,rfl⟩|⟨km,e⟩<;>subst_vars<;>
  first
  |(simp[Instr.sliceBounds,run_sliceBound,h1,h2,h3];done)
  |(cases e;done)
  |(cases e;simp[Instr.sliceBounds,run_sliceBound,h1,h2,h3])
theorem Dw(hH:aC M φ H w){t:TypeId}{x:V}{xv:Value}{lo hi mx:Option V}{lov hiv mxv:Option Value}(hx:V.den (ax M φ H) φ H w x xv)
 (GK:match lo,lov with|none,none=>True|some v,some u=>V.den (ax M φ H) φ H w v u|_,_=>False) (Dv:match hi,hiv with|none,none=>True|some v,some u=>V.den (ax M φ H) φ H w v u|_,_=>False)
 (Ji:match mx,mxv with|none,none=>True|some v,some u=>V.den (ax M φ H) φ H w v u|_,_=>False) (h:dm (pN P H.o t x lo hi mx) K):
 cV M φ H w fr ((do let z <- Instr.sliceAt t xv lov hiv mxv;pure (Next.value z):Sem Next).run P w) K:=by
 have hg:=dF h
 clear h
 obtain⟨v,Δ,rd,h,hK⟩:=hg
 unfold pN at h
 split at h
 ·rename_i e ht
  have nT:=bE ht
  split at h
  ·rename_i es l Da hl
   split at h
   ·rename_i hh hhh
    split at h
    ·rename_i hc
     obtain⟨c1,c2,c3,c4⟩:=hc
     obtain⟨i,S0⟩:=Option.isSome_iff_exists.1 c3
     have hD:dZ H.o x=some (.sl es):=by
      unfold e8 at Da
      split at Da
      ·rename_i es' hD;injection Da with Da;subst Da;exact hD
      ·cases Da
     obtain⟨f1,f2,f3,f4,f5⟩:=du hH x.ids (dn x _ hx)
     have hd:=gr f1 x (.sl es) xv f3 hD (V.aS f2 _ _ hx)
     obtain⟨base,len,cap,wk,hlen,fw,_⟩:=id hd
     subst wk
     have ec:l=0\/∀y∈es,y.cells.length=P.cellsOf e:=by
      rcases c4 with c4|c4
      ·exact .inl c4
      ·exact .inr fun y hy=>by simpa using List.all_eq_true.1 c4 y hy
     have elem:P.elem t=e:=by simp[Program.elem,nT]
     have fu:∀ {m:Nat},(Instr.sliceBounds true len cap lov hiv mxv).run P w= .ok (l,hh,m) w->
      (Instr.sliceAt t (.slice base len cap) lov hiv mxv).run P w= .ok (.slice (if m=l then base else base.map (·.add (l*P.cellsOf e))) (hh - l) (m - l)) w:=by
      intro m hm
      rw[run_sliceAt_slice w t _ _ _ _ (by rw[elem];exact nT),run_slice_any w t base len cap (by rw[elem];exact nT),hm]
      simp only[Result.andThen_ok,elem,dS S0,sliced]
     have fin:∀ {val:Value} {v:V},(Instr.sliceAt t (.slice base len cap) lov hiv mxv).run P w= .ok val w->V.den (ax M φ (H.put (dk H.o x.ids))) φ (H.put (dk H.o x.ids)) w v val->K v (dk H.o x.ids) x.ids->
      cV M φ H w fr ((do let z <- Instr.sliceAt t (.slice base len cap) lov hiv mxv;pure (Next.value z):Sem Next).run P w) K:=by
      intro val v r1 r2 r3
      exact⟨_,val,w,φ,v,_,_,r3,by simp only[Sem.run_bind,r1,Result.andThen_ok];rfl, .inl rfl,f1,f2,r2,fun id aB=> .inl (by
       have e:(dk H.o x.ids).map (·.1)=x.ids:=by rw[l4];simp[Function.comp_def]
       rw[e]at aB
       exact dn x _ hx id aB)⟩
     have bl:lov=none/\l=0\/∃k,lov=some (.int k l):=by
      rcases pZ GK hl with⟨_,a,b⟩|⟨k,a,_⟩
      ·exact .inl ⟨a,b⟩
      ·exact .inr ⟨k,a⟩
     split at h
     ·injection h with h;injection h with e1 e2;injection e2 with e2 e3;subst e1;subst e2;subst e3
      have bm:mxv=none:=by
       cases mxv with
       |none=>rfl
       |some u=>exact Ji.elim
      subst bm
      have bh:hiv=none/\hh=len/\(none:Option Value)=none\/∃k,hiv=some (.int k hh):=by
       rcases pZ Dv hhh with⟨_,a,b⟩|⟨k,a,_⟩
       ·exact .inl ⟨a,ad,rfl⟩
       ·exact .inr ⟨k,a⟩
      refine fin (fu (oS (m:=cap) bl bh (.inl ⟨rfl,rfl⟩) c1 ad (Nat.le_refl _))) ?_ hK
      exact E0 hd c1 c2 (.inl rfl) ec
     ·rename_i mv
      split at h
      ·rename_i hv m hm
       split at h
       ·rename_i tj
        injection h with h;injection h with e1 e2;injection e2 with e2 e3;subst e1;subst e2;subst e3
        have bm:∃k,mxv=some (.int k m):=by
         rcases pZ Ji hm with⟨a,_⟩|⟨k,a,_⟩
         ·cases a
         ·exact⟨k,a⟩
        have bh:∃k,hiv=some (.int k hh):=by
         rcases pZ Dv hhh with⟨a,_⟩|⟨k,a,_⟩
         ·cases a
         ·exact⟨k,a⟩
        have hp:=E0 (m:=m) hd c1 c2 (.inr tj) ec
        refine fin (fu (oS (m:=m) bl (.inr bh) (.inr bm) c1 tj.1 ad)) ?_ hK
        split
        ·rename_i e;subst e
         exact⟨hp,_,_,rfl⟩
        ·exact hp
       ·cases h
      ·cases h
    ·cases h
   ·cases h
  ·cases h
 ·cases ha:AX P t with
  |none=>rw[ha]at h;cases h
  |some p=>
  obtain⟨n,e⟩:=p
  rw[ha]at h
  split at h
  ·rename_i n' e' heq
   have e0:n=n'/\e=e':=by simpa using heq
   obtain⟨rfl,rfl⟩:=e0
   split at h
   ·rename_i id off tK
    obtain⟨rfl,bX⟩:=Bh tK
    split at h
    ·rename_i hc
     injection h with h;injection h with e1 e2;injection e2 with e2 e3;subst e1;subst e2;subst e3
     obtain⟨i,S0⟩:=Option.isSome_iff_exists.1 hc
     have e1:lov=none:=by cases lov with|none=>rfl|some u=>exact GK.elim
     have e2:hiv=none:=by cases hiv with|none=>rfl|some u=>exact Dv.elim
     have e3:mxv=none:=by cases mxv with|none=>rfl|some u=>exact Ji.elim
     subst e1;subst e2;subst e3
     obtain⟨g1,g2,g3⟩:=hx
     obtain⟨b,k1,k2⟩:=g3 bX
     subst k2
     have hat:=xa ha
     have elem:P.elem t=e:=by simp[Program.elem,hat]
     have len:P.arrayLen t=n:=by simp[Program.arrayLen,hat]
     refine cV.same hH (.slice (some ⟨b,off,none⟩) n n) hK ?_ ⟨rfl,g2,fun _=>⟨b,k1,rfl⟩⟩
     have:=run_sliceAt_array_all (P:=P) w t ⟨b,off,none⟩ (by rw[elem,len];exact hat)
     simp only[Sem.run_bind,this,elem,dS S0,Result.andThen_ok,slicedAt,len]
     by_cases hn:n=0
     ·subst hn;rfl
     ·simp[hn,Addr.add]
    ·cases h
   ·cases h
  ·cases h
theorem GL(g:Nat):(⟨g,0,none⟩:Addr).add 0=⟨g,0,none⟩:=rfl
theorem Nd(hH:aC M φ H w){t:TypeId}{x:V}{xv:Value}{lo hi mx:Option V}{lov hiv mxv:Option Value}(hx:V.den (ax M φ H) φ H w x xv)
 (GK:match lo,lov with|none,none=>True|some v,some u=>V.den (ax M φ H) φ H w v u|_,_=>False) (Dv:match hi,hiv with|none,none=>True|some v,some u=>V.den (ax M φ H) φ H w v u|_,_=>False)
 (Ji:match mx,mxv with|none,none=>True|some v,some u=>V.den (ax M φ H) φ H w v u|_,_=>False) {v:V} {Δ:List (Nat×ab)} {rd:List Nat} (h:Dq P H.o t x lo hi mx=some (v,Δ,rd)) (hK:K v Δ rd):
 cV M φ H w fr ((do let z <- Instr.sliceAt t xv lov hiv mxv;pure (Next.value z):Sem Next).run P w) K:=by
 have bounds:∀ {kk:IntKind} {e:TypeId} {base:Option Addr} {len cap:Nat},cI P t=some e->(P.info? e).isSome=true->base=none\/(∃g,base=some ⟨g,0,none⟩)->
  (Instr.sliceAt t (.slice base len cap) none (some (.int kk 0)) none).run P w= .ok (.slice base 0 cap) w:=by
  intro kk e base len cap ht hi hb
  obtain⟨i,S0⟩:=Option.isSome_iff_exists.1 hi
  have nT:=bE ht
  have elem:P.elem t=e:=by simp[Program.elem,nT]
  have hm:=oS (P:=P) (w:=w) (len:=len) (cap:=cap) (lo:=none) (hi:=some (.int kk 0)) (mx:=none) (l:=0) (h:=0) (m:=cap) (.inl ⟨rfl,rfl⟩) (.inr ⟨kk,rfl⟩) (.inl ⟨rfl,rfl⟩) (Nat.le_refl _) (Nat.zero_le _) (Nat.le_refl _)
  rw[run_sliceAt_slice w t _ _ _ _ (by rw[elem];exact nT),run_slice_any w t base len cap (by rw[elem];exact nT),hm]
  simp only[Result.andThen_ok,elem,dS S0,sliced]
  rcases hb with rfl|⟨g,rfl⟩
  ·simp
  ·simp[GL]
 unfold Dq at h
 split at h
 ·split at h
  ·rename_i kk k
   split at h
   ·rename_i e ht
    split at h
    ·rename_i hc
     simp only[Option.some.injEq,Prod.mk.injEq]at h;obtain⟨rfl,rfl,rfl⟩:=h
     obtain⟨rfl,hc⟩:=hc
     simp only[V.den]at hx;subst hx
     have e1:lov=none:=by cases lov with|none=>rfl|some u=>exact GK.elim
     have e2:mxv=none:=by cases mxv with|none=>rfl|some u=>exact Ji.elim
     have e3:hiv=some (.int kk 0):=by
      cases hiv with
      |none=>exact Dv.elim
      |some u=>simp only[V.den,D.den]at Dv;rw[Dv]
     subst e1;subst e2;subst e3
     exact cV.same hH (.slice none 0 0) hK (by simp only[Sem.run_bind,bounds (base:=none) (len:=0) (cap:=0) ht hc (.inl rfl),Result.andThen_ok];rfl) rfl
    ·cases h
   ·cases h
  ·cases h
 ·rename_i id ep
  split at h
  ·rename_i kk k
   split at h
   ·rename_i e jj ty sz es ht ho
    split at h
    ·rename_i hc
     simp only[Option.some.injEq,Prod.mk.injEq]at h;obtain⟨rfl,rfl,rfl⟩:=h
     obtain⟨rfl,rfl,hc⟩:=hc
     have e1:lov=none:=by cases lov with|none=>rfl|some u=>exact GK.elim
     have e2:mxv=none:=by cases mxv with|none=>rfl|some u=>exact Ji.elim
     have e3:hiv=some (.int kk 0):=by
      cases hiv with
      |none=>exact Dv.elim
      |some u=>simp only[V.den,D.den]at Dv;rw[Dv]
     subst e1;subst e2;subst e3
     obtain⟨_,fG,wy⟩:=hx
     have hv:=(wy ep eV).2 rfl
     subst hv
     have bn:=hH.ok id
     simp only[ba,ho]at bn
     obtain⟨ec,xs,eu,mL⟩:=bn
     have XL:gz (ax M φ H) w sz [] []:=⟨[],rfl,aj,rfl⟩
     rcases eu.2 with⟨h3,h4⟩|⟨g,cap,cur,h3,h4,h5,h6,h7,h8,h9⟩
     ·have Be:w.ownsRow 0 ty sz (.slice none 0 0) ([]:List D).length []:=⟨aj, .inl ⟨rfl,rfl⟩⟩
      obtain⟨s1,s2,s3⟩:=uv (m:=fun _=>False) hH fG ho (eF.refl _ _) (fun _ h=>h.elim) (fun b hb=>by simp[eK]at hb) Be XL
      rw[h3]
      exact⟨_,_,_,_,_,_,_,hK,by simp only[Sem.run_bind,bounds (base:=none) (len:=0) (cap:=0) ht hc (.inl rfl),Result.andThen_ok];rfl, .inl rfl,s1,s2,s3,by simp[fG]⟩
     ·have Be:w.ownsRow 0 ty sz (.slice (some ⟨g,0,none⟩) 0 cap) ([]:List D).length []:=⟨aj, .inr ⟨g,cap,cur,rfl,h4,h5,Nat.zero_le _,h7,h8,aj⟩⟩
      obtain⟨s1,s2,s3⟩:=uv (m:=fun _=>False) hH fG ho (eF.refl _ _) (fun _ h=>h.elim) (fun b hb=> .inl (by rw[h3];exact hb)) Be XL
      rw[h3]
      exact⟨_,_,_,_,_,_,_,hK,by simp only[Sem.run_bind,bounds (base:=some ⟨g,0,none⟩) ht hc (.inr ⟨g,rfl⟩),Result.andThen_ok];rfl, .inl rfl,s1,s2,s3,by simp[fG]⟩
    ·cases h
   ·cases h
  ·cases h
 ·cases h
theorem GM(hH:aC M φ H w){t:TypeId}{x:V}{xv:Value}{lo hi mx:Option V}{lov hiv mxv:Option Value}(hx:V.den (ax M φ H) φ H w x xv)
 (GK:match lo,lov with|none,none=>True|some v,some u=>V.den (ax M φ H) φ H w v u|_,_=>False) (Dv:match hi,hiv with|none,none=>True|some v,some u=>V.den (ax M φ H) φ H w v u|_,_=>False)
 (Ji:match mx,mxv with|none,none=>True|some v,some u=>V.den (ax M φ H) φ H w v u|_,_=>False) (h:dm (rj P H.o t x lo hi mx) K):
 cV M φ H w fr ((do let z <- Instr.sliceAt t xv lov hiv mxv;pure (Next.value z):Sem Next).run P w) K:=by
 unfold rj at h
 split at h
 ·rename_i r hr
  obtain⟨v,Δ,rd⟩:=r
  exact Nd hH hx GK Dv Ji hr h
 ·exact Dw hH hx GK Dv Ji h
theorem Jj(hH:aC M φ H w){ts:Array TypeId}{ty0:TypeId}{x y:V}{xv yv:Value}(hx:V.den (ax M φ H) φ H w x xv)(hy:V.den (ax M φ H) φ H w y yv)(h:dm (w7 P H.o ts x y) K):
 cV M φ H w fr ((do let z <- Builtin.copy_ ts ty0 #[xv,yv];pure (Next.value z):Sem Next).run P w) K:=by
 have hg:=dF h
 clear h
 obtain⟨v,Δ,rd,h,hK⟩:=hg
 unfold w7 at h
 split at h
 ·rename_i t t' th
  have th:ts=#[t,t']:=by apply Array.ext';simpa using th
  subst th
  split at h
  ·rename_i e ht
   split at h
   ·rename_i id off n cs es XM Da
    obtain⟨rfl,ho⟩:=Bi XM
    ·split at h
     ·rename_i hc
      obtain⟨c1,c2,c3,c4⟩:=hc
      injection h with h;injection h with e1 e2;injection e2 with e2 e3;subst e1;subst e2;subst e3
      have c3:∀z∈es,z.cells.length=1:=fun z hz=>by simpa using List.all_eq_true.1 c3 z hz
      obtain⟨i,hi⟩:=j7 (P:=P) (e:=e) ad
      have ec:(P.info? e).map (·.size)=some 1:=by rw[hi];simp[<- b9 hi,c1]
      obtain⟨_,fG,hp⟩:=hx
      obtain⟨b,eW,rfl⟩:=hp eV
      have mM:id∉y.ids:=fun hm=>by have:=List.all_eq_true.1 c4 id hm;simp at this
      obtain⟨f1,f2,f3,f4,f5⟩:=du hH y.ids (dn y _ hy)
      have wh:=(f4 id mM).trans ho
      have bn:=f1.ok id
      simp only[ba,wh]at bn
      obtain⟨b',dO,ty,g1,g2,g3,g4⟩:=bn
      rw[eW]at g1;simp at g1;subst g1
      have l2:=V.aH _ _ g3
      simp only[Array.length_toList]at l2
      have Nf:(dk H.o y.ids).map (·.1)=y.ids:=by rw[l4];simp[Function.comp_def]
      rcases oR hH hy Da c3 with⟨rfl,rfl⟩|⟨a,c,evs,rfl,k1,k2,k3,k4⟩
      ·have hr:=run_copy_nil (P:=P) w t t' ty0 e ⟨b,off,none⟩ n n (bE ht) (by rw[ec];rfl)
       have same:H.put (dk H.o y.ids++[(id,ab.row (cs.take off++(([]:List D).take n |>.flatMap D.cells).map .d++cs.drop (off+(([]:List D).take n).length)))])=H.put (dk H.o y.ids):=by
        rw[eo]
        refine ur _ ((f5 id).2 fG) ?_
        rw[wh]
        simp
       refine⟨_,goInt 0,w,φ,_,_,_,hK,by simp only[Sem.run_bind,hr,Result.andThen_ok];rfl, .inl rfl,by rw[same];exact f1,by rw[same];exact f2,by simp[V.den,D.den,goInt],fun j hj=> .inl ?_⟩
       rw[List.map_append,Nf]at hj
       simp only[List.map_cons,List.map_nil,List.mem_append,List.mem_singleton]at hj
       rcases hj with hj|rfl
       ·exact dn y _ hy j hj
       ·exact fG
      ·have hlen:evs.length=es.length:=D.aH _ _ k1
       have k1':=D.a8 (f2.blocks (M:=M)) _ _ k1
       have Db:D.aM (ax M φ (H.put (dk H.o y.ids))) w (es.take n) (evs.take n):=D.dQ n _ _ k1'
       have Ng:∀ev∈evs.take n,ev.cells.size=1:=fun ev dI=>by
        have:=k2 ev (List.mem_of_mem_take dI);omega
       have pE:((evs.take n).flatMap (·.cells.toList)).length=Nat.min es.length n:=by
        rw[dp (sz:=1) _ Ng];simp[hlen,Nat.min_comm]
       have pre:∀ (j:Nat) (u:Value),((evs.take n).flatMap (·.cells.toList))[j]? =some u->(evs.flatMap (·.cells.toList))[j]? =some u:=by
        intro j u hj
        have:evs.flatMap (·.cells.toList)=(evs.take n).flatMap (·.cells.toList)++(evs.drop n).flatMap (·.cells.toList):=by rw[<- List.flatMap_append,List.take_append_drop]
        rw[this]
        have cU:j<((evs.take n).flatMap (·.cells.toList)).length:=by
         rcases Nat.lt_or_ge j ((evs.take n).flatMap (·.cells.toList)).length with cU|AF
         ·exact cU
         ·rw[List.getElem?_eq_none AF]at hj;cases hj
        rw[List.getElem?_append_left cU];exact hj
       have pD:Flat ((evs.take n).flatMap (·.cells.toList)):=by
        intro u hu
        simp only[List.mem_flatMap]at hu
        obtain⟨ev,h1,h2⟩:=hu
        exact k4 u (by simp only[List.mem_flatMap];exact⟨ev,List.mem_of_mem_take h1,h2⟩)
       have hr:=run_copy_row (P:=P) w t t' ty0 e b off n n a es.length c dO ty (List.flatMap (fun x:Value=>x.cells.toList) (evs.take n)) (bE ht) ec g2 pE (fun j u hj=>k3 j u (pre j u hj)) (by rw[pE];have:Nat.min es.length n<=n:=Nat.min_le_right _ _;omega) pD
       have M9:V.aM (ax M φ (H.put (dk H.o y.ids))) φ (H.put (dk H.o y.ids)) w (((es.take n).flatMap D.cells).map .d) ((evs.take n).flatMap (·.cells.toList)):=by
        have flat:∀ (ds:List D) (us:List Value),D.aM (ax M φ (H.put (dk H.o y.ids))) w ds us->D.aM (ax M φ (H.put (dk H.o y.ids))) w (ds.flatMap D.cells) (us.flatMap (·.cells.toList)):=by
         intro ds
         induction ds with
         |nil=>intro us h;simp[D.aM]at h;subst h;rfl
         |cons d ds ih=>
          intro us h
          obtain⟨u,us,rfl,q1,q2⟩:=h
          simp only[List.flatMap_cons]
          exact D.bI _ _ _ _ (D.ft _ _ q1).1 (ih us q2)
        exact(V.cA _ _).2 (flat _ _ Db)
       have xf:((evs.take n).flatMap (·.cells.toList)).length=(es.take n).length:=by rw[pE];simp[Nat.min_comm]
       obtain⟨t1,t2⟩:=A5 (cs':=cs.take off++((es.take n).flatMap D.cells).map .d++cs.drop (off+(es.take n).length)) f1 ((f5 id).2 fG) wh eW g2
        (dO.toList.take off++(evs.take n).flatMap (·.cells.toList)++dO.toList.drop (off+((evs.take n).flatMap (·.cells.toList)).length)).toArray (by
        simp only
        rw[xf]
        exact V.bI _ _ _ _ (V.bI _ _ _ _ (V.dQ _ _ _ g3) M9) (V.eL _ _ _ g3)) (by
        intro u hu
        simp only[List.mem_append]at hu
        rcases hu with(hu|hu)|hu
        ·exact g4 u (List.mem_of_mem_take hu)
        ·exact pD u hu
        ·exact g4 u (List.mem_of_mem_drop hu))
       refine⟨_,_,_,φ,_,_,_,hK,by simp only[Sem.run_bind,hr,Result.andThen_ok];rfl, .inl rfl,by rw[eo];exact t1,by rw[eo];exact f2.trans t2, ?_,fun j hj=> .inl ?_⟩
       ·simp only[V.den,D.den,goInt,pE]
       ·rw[List.map_append,Nf]at hj
        simp only[List.map_cons,List.map_nil,List.mem_append,List.mem_singleton]at hj
        rcases hj with hj|rfl
        ·exact dn y _ hy j hj
        ·exact fG
     ·cases h
   ·cases h
  ·cases h
 ·cases h
theorem yY{t u:TypeId}{f off:Nat}(h:yV P t f=some (off,u)):∃fs fd,P.underlying t=some (.struct fs)/\fs[f]? =some fd/\fd.offset=off/\fd.type=u:=by
 unfold yV at h
 split at h
 ·rename_i fs hu
  split at h
  ·rename_i fd hf
   injection h with h;injection h with h1 h2
   exact⟨fs,fd,hu,hf,h1,h2⟩
  ·cases h
 ·cases h
theorem xg{t:TypeId}{cs:List V}{off:Nat}{x:V}(h:e7 P t cs off=some x){arr:Array Value}(hd:V.aM (ax M φ H) φ H w cs arr.toList)(hf:Flat arr.toList):
 ∃u,(part t arr off).run P w= .ok u w/\V.den (ax M φ H) φ H w x u:=by
 unfold e7 at h
 split at h
 ·rename_i ha
  split at h
  ·rename_i hl
   injection h with h;subst h
   obtain⟨i,hi⟩:=rq ha
   refine⟨.agg (arr.extract off (off+P.cellsOf t)), ?_,lB _ _ ?_ ?_⟩
   ·simp only[part,Sem.run_bind,rp ha w,Result.andThen_ok,if_true,dS hi w,Sem.run_pure]
   ·have:=V.dQ (P.cellsOf t) _ _ (V.eL off _ _ hd)
    simpa[Array.toList_extract,List.extract]using this
   ·intro u hu
    simp only[Array.toList_extract,List.extract]at hu
    exact hf u (List.mem_of_mem_drop (List.mem_of_mem_take hu))
  ·cases h
 ·rename_i ha
  obtain⟨u,hu,M4⟩:=V.dP _ _ _ _ hd h
  refine⟨u, ?_,M4⟩
  have wD:arr[off]? =some u:=by simpa using hu
  simp only[part,Sem.run_bind,oQ ha w,Result.andThen_ok,Bool.false_eq_true,if_false,wD,Sem.run_pure]
 ·cases h
theorem GN(hH:aC M φ H w){t:TypeId}{x:V}{xv:Value}{f:Nat}(hx:V.den (ax M φ H) φ H w x xv)(h:dm ((uk P t x f).map fun v=>(v,[],[])) K):
 cV M φ H w fr ((do let z <- Instr.field t xv f;pure (Next.value z):Sem Next).run P w) K:=by
 have hg:=dF h
 clear h
 obtain⟨v,Δ,rd,h,hK⟩:=hg
 simp only[Option.map_eq_some_iff,Prod.mk.injEq]at h
 have hg:=h
 clear h
 obtain⟨v',h,rfl,rfl,rfl⟩:=hg
 unfold uk at h
 split at h
 ·rename_i off u hf
  obtain⟨fs,fd,hu,hfd,rfl,rfl⟩:=yY hf
  have fin:∀ {arr:Array Value} {val:Value},(part fd.type arr fd.offset).run P w= .ok val w->V.den (ax M φ H) φ H w v' val->cV M φ H w fr ((do let z <- Instr.field t (.agg arr) f;pure (Next.value z):Sem Next).run P w) K:=by
   intro arr val r1 r2
   refine cV.same hH val hK ?_ r2
   simp[Instr.field,run_underlying hu,hfd,asAgg,r1]
  split at h
  ·rename_i cs
   simp only[Option.map_eq_some_iff]at h
   obtain⟨d,h1,rfl⟩:=h
   obtain⟨arr,rfl,g1,g2⟩:=hx
   obtain⟨val,r1,r2⟩:=gM h1 g1 g2
   exact fin (r1 w) r2
  ·rename_i cs
   obtain⟨arr,rfl,g1,g2⟩:=hx
   obtain⟨val,r1,r2⟩:=xg h g1 g2
   exact fin r1 r2
  ·cases h
 ·cases h
theorem GO(s:ByteArray)(n:Nat):s[n]? =s.data.toList[n]? :=by
 rw[getElem?_def]
 split
 ·rename_i h
  have h':n<s.data.toList.length:=by simpa using h
  rw[List.getElem?_eq_getElem h']
  rfl
 ·rename_i h
  have h':s.data.toList.length<=n:=by
   have: ¬n<s.data.size:=h
   simpa using this
  rw[List.getElem?_eq_none h']
theorem GP(hH:aC M φ H w){t:TypeId}{x i:V}{xv iv:Value}(hx:V.den (ax M φ H) φ H w x xv)(hi:V.den (ax M φ H) φ H w i iv)(h:dm ((um P t x i).map fun v=>(v,[],[])) K):
 cV M φ H w fr ((do let z <- Instr.index t xv iv;pure (Next.value z):Sem Next).run P w) K:=by
 have hg:=dF h
 clear h
 obtain⟨v,Δ,rd,h,hK⟩:=hg
 simp only[Option.map_eq_some_iff,Prod.mk.injEq]at h
 have hg:=h
 clear h
 obtain⟨v',h,rfl,rfl,rfl⟩:=hg
 unfold um at h
 split at h
 ·rename_i k i
  simp only[V.den,D.den]at hi
  subst hi
  split at h
  ·rename_i h0
   split at h
   ·rename_i hu
    split at h
    ·rename_i l
     split at h
     ·rename_i b hb
      injection h with h;subst h
      obtain⟨s,rfl,rfl⟩:=hx
      refine cV.same hH (.int .u8 b.toNat) hK ?_ rfl
      have EV:s[i.toNat]? =some b:=by rw[GO];exact hb
      simp[Instr.index,asIntOf,run_underlying hu,h0,EV]
     ·cases h
    ·cases h
   ·rename_i n e hu
    split at h
    ·rename_i hn
     obtain⟨h1,h2⟩:=hn
     obtain⟨ie,hie⟩:=Option.isSome_iff_exists.1 h2
     have hc:0<=i/\i<(n:Int):=⟨h0,h1⟩
     have fin:∀ {arr:Array Value} {val:Value},(part e arr (i.toNat*P.cellsOf e)).run P w= .ok val w->V.den (ax M φ H) φ H w v' val->cV M φ H w fr ((do let z <- Instr.index t (.agg arr) (.int k i);pure (Next.value z):Sem Next).run P w) K:=by
      intro arr val r1 r2
      refine cV.same hH val hK ?_ r2
      simp[Instr.index,asIntOf,run_underlying hu,hc,dS hie,r1]
     split at h
     ·rename_i cs
      simp only[Option.map_eq_some_iff]at h
      obtain⟨d,h1,rfl⟩:=h
      obtain⟨arr,rfl,g1,g2⟩:=hx
      obtain⟨val,r1,r2⟩:=gM h1 g1 g2
      exact fin (r1 w) r2
     ·rename_i cs
      obtain⟨arr,rfl,g1,g2⟩:=hx
      obtain⟨val,r1,r2⟩:=xg h g1 g2
      exact fin r1 r2
     ·cases h
    ·cases h
   ·cases h
  ·cases h
 ·cases h
theorem Bj{t:TypeId}(h:oO P t=true):∃d,P.underlying t=some d/\∀ms,d≠ .interface ms:=by
 unfold oO at h
 split at h
 ·cases h
 ·rename_i d hn hd
  exact⟨d,hd,fun ms e=>hn ms e⟩
 ·cases h
theorem rv{t:TypeId}{z:V}(hz:zeroV P t=some z):∃val,(zeroValue t).run P w= .ok val w/\V.den (ax M φ H) φ H w z val:=by
 unfold zeroV at hz
 split at hz
 ·rename_i i hi
  have hr:∀v,i.zero=some v->(zeroValue t).run P w= .ok v w:=fun v hv=>by simp[zeroValue,typeInfo,hi,hv]
  split at hz
  ·rename_i a hv
   split at hz
   ·rename_i hf
    injection hz with hz;subst hz
    have gX:Flat a.toList:=fun u hu=>List.all_eq_true.1 hf u hu
    exact⟨_,hr _ hv,lB _ _ (dR _ gX) gX⟩
   ·cases hz
  ·rename_i v _ hv
   split at hz
   ·rename_i h1
    injection hz with hz;subst hz
    exact⟨_,hr _ hv,lY _ h1⟩
   ·cases hz
  ·cases hz
 ·cases hz
theorem Dx(hH:aC M φ H w){t xt:TypeId}{ok:Bool}{x:V}{xv:Value}(hx:V.den (ax M φ H) φ H w x xv)(h:dm ((pO P t ok x).map fun v=>(v,[],[])) K):
 cV M φ H w fr ((do let z <- Instr.typeAssert xv xt t ok;pure (Next.value z):Sem Next).run P w) K:=by
 have hg:=dF h
 clear h
 obtain⟨v,Δ,rd,h,hK⟩:=hg
 simp only[Option.map_eq_some_iff,Prod.mk.injEq]at h
 have hg:=h
 clear h
 obtain⟨v',h,rfl,rfl,rfl⟩:=hg
 unfold pO at h
 split at h
 ·rename_i hp
  obtain⟨d,hd,mM⟩:=Bj hp
  split at h
  ·rename_i u y
   obtain⟨val,rfl,hdy⟩:=hx
   split at h
   ·rename_i e
    subst e
    injection h with h
    have hr:(Instr.typeAssert (.iface u val) xt u ok).run P w= .ok (if ok=true then .tuple #[val, .bool true]else val) w:=by
     cases d<;>first|exact absurd rfl (mM _)|(cases ok<;>simp[Instr.typeAssert,run_underlying hd])
    refine cV.same hH _ hK MF ?_
    subst h
    cases ok
    ·exact hdy
    ·exact⟨_,rfl,val,[.bool true],rfl,hdy, .bool true,[],rfl,rfl,rfl⟩
   ·rename_i iD
    split at h
    ·rename_i bn
     simp only[Option.map_eq_some_iff]at h
     obtain⟨z,hz,rfl⟩:=h
     obtain⟨zv,r1,r2⟩:=rv (w:=w) (M:=M) (φ:=φ) (H:=H) hz
     have hr:(Instr.typeAssert (.iface u val) xt t ok).run P w= .ok (.tuple #[zv, .bool false]) w:=by
      cases d<;>first|exact absurd rfl (mM _)|simp[Instr.typeAssert,run_underlying hd,iD,bn,r1]
     exact cV.same hH _ hK MF ⟨_,rfl,zv,[.bool false],rfl,r2, .bool false,[],rfl,rfl,rfl⟩
    ·cases h
  ·simp only[V.den,D.den]at hx
   subst hx
   split at h
   ·rename_i bn
    simp only[Option.map_eq_some_iff]at h
    obtain⟨z,hz,rfl⟩:=h
    obtain⟨zv,r1,r2⟩:=rv (w:=w) (M:=M) (φ:=φ) (H:=H) hz
    have hr:(Instr.typeAssert .nilIface xt t ok).run P w= .ok (.tuple #[zv, .bool false]) w:=by
     cases d<;>first|exact absurd rfl (mM _)|simp[Instr.typeAssert,run_underlying hd,bn,r1]
    exact cV.same hH _ hK MF ⟨_,rfl,zv,[.bool false],rfl,r2, .bool false,[],rfl,rfl,rfl⟩
   ·cases h
  ·cases h
 ·cases h
end
end Go.Proofs.YtonbelhklnmjnaaGreat
