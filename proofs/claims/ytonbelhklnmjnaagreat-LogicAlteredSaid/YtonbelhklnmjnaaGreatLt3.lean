/-
  A PART OF THE PROOF. Conditions: none.
-/
import Derived.ChangeKeysEq
import Derived.Laws.CopyRow
import Derived.Test.YtonbelhklnmjnaaGreatLt2
set_option linter.unusedSimpArgs false
set_option linter.unusedVariables false
namespace Go.Proofs.YtonbelhklnmjnaaGreat
section
variable {P:Program}{M:Nat->Prop}{φ:Place}{H:Hp}{w w':World}{fr:Nat}{K:V->List (Nat×ab)->List Nat->Prop}
theorem p8{base:Nat}{e:TypeId}{sz n:Nat}{v:Value}{xs:List Value}(h:w.ownsRow base e sz v n xs):w.ownsRow 0 e sz v n xs:=by
 obtain⟨h1,h2⟩:=h
 refine⟨h1, ?_⟩
 rcases h2 with h2|⟨g,cap,cur,a,_,b⟩
 ·exact .inl h2
 ·exact .inr ⟨g,cap,cur,a,Nat.zero_le _,b⟩
theorem kP{base:Nat}{e:TypeId}{sz n:Nat}{v:Value}{xs:List Value}(h:w.ownsRow base e sz v n xs)(b:Nat)(hb:eQ v=some b):base<=b/\b<w.heap.size:=by
 rcases h.2 with⟨rfl,_⟩|⟨g,cap,cur,rfl,h1,h2,_⟩
 ·cases hb
 ·simp[eQ]at hb;subst hb
  exact⟨h1,(Array.getElem?_eq_some_iff.1 h2).1⟩
theorem gJ.mono {B B':Nat->Prop}(hb:∀b,dw w b-> ¬B b->w'.heap[b]? =w.heap[b]? /\ ¬B' b){sz:Nat}{es:List D}{xs:List Value}(h:gJ B w sz es xs):gJ B' w' sz es xs:=by
 obtain⟨evs,h1,h2,h3⟩:=h
 exact⟨evs,h1,h2,D.ba hb es evs h3⟩
theorem Fb(hH:aD M φ H w)(dc: ¬H.us fr)(hk:eK (fun _=>False) w w'){val:Value}{ty:TypeId}{sz:Nat}{es:List D}{xs:List Value}(eh:0<sz)
 (eA:w'.ownsRow w.heap.size ty sz val es.length xs) (hd:gJ (ay M φ H) w sz es xs):
 let aQ:=aM φ fr val;let H':=H.put [(fr, .arr 0 ty sz es)]
 aD M aQ H' w'/\Trans φ H w aQ H' w'/\V.den (ay M aQ H') aQ H' w' (.osl fr 0) val:=by
 intro aQ H'
 have ht:Trans φ H w aQ H' w':=eS hk dc _ _ fun b hb=>(kP eA b hb).1
 refine⟨jt hH hk dc _ _ (kP eA) ?_,ht, ?_,by simp[H'],fun e he=> ?_⟩
 ·unfold bc
  simp only[bQ,aS,if_true]
  exact⟨eh,xs,p8 eA,hd.mono (ht.blocks (M:=M))⟩
 ·rcases eA.2 with⟨rfl,_⟩|⟨g,cap,cur,rfl,_⟩<;>rfl
 ·simp[H',ab.cy]at he
  subst he
  exact⟨Nat.le_refl _,fun _=>by simp[aQ]⟩
theorem fl(hH:aD M φ H w)(dc: ¬H.us fr)(hk:eK (fun _=>False) w w'){s:Sem Value}{val:Value}{ty:TypeId}{sz:Nat}{es:List D}{xs:List Value}{rd:List Nat}(eh:0<sz)
 (hK:K (.osl fr 0) [(fr, .arr 0 ty sz es)] rd) (hr:s.run P w= .ok val w') (eA:w'.ownsRow w.heap.size ty sz val es.length xs) (hd:gJ (ay M φ H) w sz es xs):
 cX M φ H w fr ((do let y <- s;pure (Next.value y):Sem Next).run P w) K:=by
 obtain⟨h1,h2,h3⟩:=Fb hH dc hk eh eA hd
 exact⟨_,_,_,_,_,_,_,hK,by simp[hr], .inl rfl,h1,h2,h3,aj⟩
theorem kj{e:TypeId}(h:0<P.cellsOf e):∃i,P.info? e=some i:=by
 cases hi:P.info? e with
 |none=>simp[Program.cellsOf,hi]at h
 |some i=>exact⟨i,rfl⟩
theorem Bi(parts:List (Nat×Value))(n:Nat)(h:parts.map (·.1)=List.range n):parts=((parts.map (·.2)).zipIdx 0).map fun x=>(x.2,x.1):=by
 apply List.ext_getElem?
 intro i
 have hl:parts.length=n:=by have:=congrArg List.length h;simpa using this
 rw[List.getElem?_map,List.getElem?_zipIdx,List.getElem?_map]
 cases hp:parts[i]? with
 |none=>simp
 |some p=>
  have h1:(parts.map (·.1))[i]? =some p.1:=by simp[hp]
  rw[h,List.getElem?_range (by have:=(List.getElem?_eq_some_iff.1 hp).1;omega)]at h1
  simp at h1
  obtain⟨p1,p2⟩:=p
  simp_all
theorem tf{t e:TypeId}(ht:P.underlying t=some (.slice e))(fP:0<P.cellsOf e):(Instr.buildSlice t 0 #[]).run P w= .ok (.slice (some ⟨w.heap.size,0,none⟩) 0 0) (w.alloc (.cells #[] e)):=by
 obtain⟨i,hi⟩:=kj fP
 have h1:(underlying t).run P w= .ok (.slice e) w:=by simp[Go.underlying,ht]
 have h2:(sizeOf e).run P w= .ok i.size w:=by simp[Go.sizeOf,Go.typeInfo,hi]
 simp[Instr.buildSlice,h1,h2,Instr.fill,newRow]
 congr 2
 exact Array.eq_empty_of_size_eq_zero aj
theorem uw(hH:aD M φ H w)(dc: ¬H.us fr){t:TypeId}{len:Nat}{parts:Array (Nat×Operand)}{s:S}{a:Act}(eL:∀i,V.den (ay M φ H) φ H w (s.env i) (a.tmps.getD i undef))
 (h:js P H.o fr t len (parts.toList.map fun p=>(p.1,s.ev p.2)) K):
 cX M φ H w fr ((do let y <- Instr.buildSlice t len (parts.map fun(i,x)=>(i,a.eval x));pure (Next.value y):Sem Next).run P w) K:=by
 unfold js at h
 split at h
 ·rename_i e ht
  rcases h with⟨rfl,WZ,fP,hK⟩|⟨fQ,hz,hlen,fP,hsm,ds,fe,hw,hK⟩
  ·have IZ:parts=#[]:=by
    have:=congrArg List.length WZ
    simp at this
    exact this
   subst IZ
   have eA:=World.ownsRow_lit (base:=w.heap.size) (e:=e) (size:=P.cellsOf e) w #[] 0 (Nat.le_refl _) (Nat.zero_le _) aj
   exact fl hH dc (cU w _) fP hK (by simpa using tf (w:=w) (bE ht) fP) eA ⟨[],rfl,aj,rfl⟩
  obtain⟨z,hz⟩:=Option.isSome_iff_exists.1 hz
  obtain⟨ie,zv,h1,h2,h3,h4,_⟩:=ki hz
  have hd:V.aN (ay M φ H) φ H w ((parts.toList.map fun p=>(p.1,s.ev p.2)).map (·.2)) ((parts.map fun(i,x)=>(i,a.eval x)).toList.map (·.2)):=by
   have:=kO s a eL (parts.toList.map (·.2))
   simpa[Function.comp_def]using this
  have Jz:(parts.map fun(i,x)=>(i,a.eval x)).toList.map (·.1)=List.range len:=by
   rw[<- fQ];simp[Function.comp_def]
  generalize hvp:(parts.map fun(i,x)=>(i,a.eval x)).toList=vp at hd Jz
  generalize ux:(parts.toList.map fun p=>(p.1,s.ev p.2)).map (·.2)=sp at hd fe hK
  obtain⟨f1,f2,f3,f4,f5⟩:=dx hH (V.bF sp) (dm sp _ hd)
  have hd1:=V.ba f2 _ _ hd
  have xj:=dH f1 sp ds _ f3 fe hd1
  have eh:∀v∈vp.map (·.2),v.cells.size=P.cellsOf e:=by
   intro v hv
   obtain⟨i,hi⟩:=List.mem_iff_getElem?.1 hv
   have hl:=D.aH _ _ xj
   have cJ:i<ds.length:=by rw[<- hl];exact(List.getElem?_eq_some_iff.1 hi).1
   obtain⟨v',tg,Nz⟩:=D.dV _ _ i ds[i] xj (by simp[cJ])
   rw[hi]at tg;injection tg with tg;subst tg
   have:=D.aH _ _ (D.fE _ _ Nz).1
   rw[hw _ (List.getElem_mem cJ)]at this
   simpa using this
  have PI:vp.length=len:=by have:=congrArg List.length Jz;simpa using this
  have Yd:Instr.fill (fun i=>some (i*ie.size,ie.size)) ((Array.range (len*ie.size)).map (zv.cells[· %zv.cells.size]!)) vp=some ((vp.map (·.2)).flatMap fun v=>v.cells.toList).toArray:=by
   rw[<- cg h1]
   have:=Great.fill_whole fP (vp.map (·.2)) ((Array.range (len*P.cellsOf e)).map (zv.cells[· %zv.cells.size]!)) eh (by simp[PI])
   rwa [<- Bi vp len Jz]at this
  have fF:=run_buildSlice (P:=P) w t e len (parts.map fun(i,x)=>(i,a.eval x)) _ ie zv (bE ht) h1 h2 (by rw[<- cg h1];omega) (by rw[<- cg h1];have:=Nat.mul_pos hlen fP;omega) (by rw[hvp];exact Yd)
  have hdl:=D.aH _ _ xj
  have eA:=World.ownsRow_lit (base:=w.heap.size) (e:=e) (size:=P.cellsOf e) w ((vp.map (·.2)).flatMap fun v=>v.cells.toList).toArray len (Nat.le_refl _) (by have:=Nat.le_mul_of_pos_right len fP;simp[maxLen];omega) (by
   have:∀l:List Value,(∀v∈l,v.cells.size=P.cellsOf e)->(l.flatMap fun v=>v.cells.toList).length=l.length*P.cellsOf e:=by
    intro l
    induction l with
    |nil=>simp
    |cons x l ih=>intro hx;simp[hx x (by simp),ih (fun v hv=>hx v (by simp[hv])),Nat.add_mul,Nat.add_comm]
   have:=this (vp.map (·.2)) eh
   simpa[PI]using this)
  have xl:len=ds.length:=by rw[<- hdl];simp[PI]
  obtain⟨g1,g2,g3⟩:=Fb (ty:=e) (sz:=P.cellsOf e) (es:=ds) f1 (fr:=fr) (fun hu=>dc ((f5 fr).1 hu)) (cU w _) fP (by rw[<- xl];exact eA) ⟨vp.map (·.2),aj,eh,xj⟩
  rw[<- ey]at g1 g2 g3
  refine⟨_,_,_,_,_,_,_,hK,by simp only[Sem.run_bind,fF,Result.andThen_ok];rfl, .inl rfl,g1,f2.trans g2,g3,fun id aC=> ?_⟩
  simp only[List.map_append,List.mem_append,List.map_cons,List.map_nil,List.mem_singleton]at aC
  rcases aC with aC|aC
  ·left
   refine dm sp _ hd id ?_
   rw[l7]at aC
   simpa[Function.comp_def]using aC
  ·exact .inr aC
 ·exact h.elim
theorem nb:∀ (vs:List Value),V.bF (vs.map V.dG)=[]
 |[]=>rfl
 |v::vs=>by
  have h:(V.dG v).ids=[]:=by cases v<;>simp only[V.dG,V.ids]<;>split<;>rfl
  simp[V.bF,h,nb vs]
theorem xm(hH:aD M φ H w){e:TypeId}{x:D}(h:A5 P e=some x):∃i z ev,P.info? e=some i/\i.zero=some z/\z.cells.size=i.size/\Flat z.cells.toList/\ev.cells=z.cells/\D.den (ay M φ H) w x ev:=by
 unfold A5 at h
 split at h
 ·rename_i zs hz
  obtain⟨i,z,h1,h2,h3,h4,rfl⟩:=ki hz
  have key:∀ds,ct (fun _=> .no) (z.cells.toList.map V.dG)=some ds->D.aN (ay M φ H) w ds z.cells.toList:=fun ds fe=>
   dH hH _ _ _ (by rw[nb];simp) fe (dX _ h4)
  split at h
  ·rename_i ds fe DE
   injection h with h;subst h
   exact⟨i,z, .agg z.cells,h1,h2,h3,h4,rfl,z.cells,rfl,key ds fe,h4⟩
  ·rename_i y fe DE
   injection h with h;subst h
   obtain⟨u,us,h5,h6,h7⟩:=key _ fe
   simp only[D.aN]at h7;subst h7
   have Nv:=h4 u (by rw[h5];simp)
   have hu:u.cells=#[u]:=by cases u<;>simp_all[Value.oneCell',Value.cells]
   refine⟨i,z,u,h1,h2,h3,h4, ?_,h6⟩
   rw[hu];apply Array.ext';simpa using h5.symm
  ·cases h
 ·cases h
theorem ng(z:Value)(n:Nat):(madeCells z.cells (n*z.cells.size)).toList=(List.replicate n z).flatMap (·.cells.toList):=by
 apply List.ext_getElem?
 intro i
 by_cases h0:z.cells.size=0
 ·have:z.cells.toList=[]:=by simpa using h0
  simp[madeCells,h0]
 ·have fP:0<z.cells.size:=ad
  by_cases hi:i<n*z.cells.size
  ·have hd:i/z.cells.size<n:=Nat.div_lt_of_lt_mul (by rwa [Nat.mul_comm]at hi)
   have hm:=Nat.mod_lt i fP
   have:=na z.cells.size (List.replicate n z) (i/z.cells.size) (i%z.cells.size) z z.cells[i%z.cells.size] (fun x hx=>by rw[(List.mem_replicate.1 hx).2]) (by simp[hd]) (by simp[hm])
   rw[Nat.mul_comm,Nat.div_add_mod]at this
   rw[this]
   simp[madeCells,List.getElem?_range hi,hm]
  ·have h1:(madeCells z.cells (n*z.cells.size)).toList.length=n*z.cells.size:=by simp[madeCells]
   have h2:((List.replicate n z).flatMap (·.cells.toList)).length=n*z.cells.size:=by simp[List.flatMap_replicate]
   rw[List.getElem?_eq_none (by omega),List.getElem?_eq_none (by omega)]
theorem wJ(hH:aD M φ H w)(dc: ¬H.us fr){t:TypeId}{l c:V}{lv cv:Value}(hl:V.den (ay M φ H) φ H w l lv)(hc:V.den (ay M φ H) φ H w c cv)
 (h:j9 P fr t l c fun v Δ=>K v Δ []):cX M φ H w fr ((do let y <- Instr.makeSlice t lv cv;pure (Next.value y):Sem Next).run P w) K:=by
 unfold j9 at h
 split at h
 ·rename_i e kl n kc m ht
  obtain⟨rfl,h0,fP,hb,hn,x,hx,hK⟩:=h
  simp only[V.den,D.den]at hl hc;subst hl;subst hc
  obtain⟨i,z,ev,h1,h2,h3,h4,h5,h6⟩:=xm hH hx
  obtain⟨k,rfl⟩:=Int.eq_ofNat_of_zero_le h0
  simp only[Int.toNat_natCast]at hb hn hK
  rw[l6 h1]at hb
  obtain⟨w',r1,r2,r3⟩:=run_make_full (P:=P) w w.heap.size t e i z (P.cellsOf e) (bE ht) h1 h2 (cg h1).symm kl kc k ad (by simp[maxLen];omega) (Nat.le_refl _)
  refine fl hH dc (l5 r3) fP hK r1 Nl ⟨List.replicate k ev, ?_, ?_, ?_⟩
  ·rw[cg h1, <- h3,ng]
   simp[List.flatMap_replicate,h5]
  ·intro v hv
   rw[(List.mem_replicate.1 hv).2,h5,h3,cg h1]
  ·clear r1 r2 hK hb hn
   induction k with
   |zero=>rfl
   |succ k ih=>exact⟨ev,List.replicate k ev,rfl,h6,ih ad⟩
 ·exact h.elim
theorem th(w:World)(t u ty e:TypeId)(i:TypeInfo)(z:Value)(ht:P.underlying t=some (.slice e)){k0:IntKind}(hu:P.underlying u=some (.int k0))(hi:P.info? e=some i)(hz:i.zero=some z)(fP:0<i.size)
 (k:IntKind) (n:Nat) (h0:0<n) (h63:n<=1099511627776) (h48:n*i.bytes<=1099511627776):
 (Builtin.append_ #[t,u] ty #[.slice none 0 0, .int k n]).run P w=
  .ok (.slice (some ⟨w.heap.size,0,none⟩) n (grownCap w n 0 e)) (w.drew.alloc (.cells (Builtin.zeroCells z.cells n++Builtin.zeroCells z.cells (grownCap w n 0 e - n)) e)):=by
 have hn:n≠0:=ad
 have MG: ¬ (n*i.size=0):=by
  intro h
  rcases Nat.mul_eq_zero.1 h with h|h<;>omega
 have hwr:IntKind.i64.wrap (n:Int)=n:=by
  unfold IntKind.wrap
  have e1:((2:Int)^IntKind.i64.bits)=18446744073709551616:=aZ
  have e2:((2:Int)^(IntKind.i64.bits - 1))=9223372036854775808:=aZ
  have e3:IntKind.i64.signed=true:=rfl
  simp only[e1,e2,e3]
  have h1:(n:Int)%18446744073709551616=n:=Int.emod_eq_of_lt ad ad
  rw[h1]
  split<;>simp_all<;>omega
 have abN: ¬ (9223372036854775807<(n:Int)):=ad
 have Tl: ¬ (281474976710656<(n:Int)*(i.bytes:Int)):=by
  have h5:((n*i.bytes:Nat):Int)<=(1099511627776:Nat):=Int.ofNat_le.2 h48
  rw[Int.natCast_mul]at h5;omega
 have abO: ¬ (281474976710656<Builtin.nextslicecap n 0*i.bytes):=by rw[nextslicecap_zero h0];omega
 simp[Builtin.append_,run_underlying ht,run_underlying hu,sizeOf,typeInfo,zeroValue,hi,hz,Builtin.lenOf,hn,MG,hwr,abN,abO,Tl,Question.forced,run_firstCells_none,newRow,grownCap,asInt,asIntOf]
 intro h;omega
theorem JA(hH:aD M φ H w)(dc: ¬H.us fr){ts:Array TypeId}{ty0:TypeId}{x y:V}{xv yv:Value}(hx:V.den (ay M φ H) φ H w x xv)(hy:V.den (ay M φ H) φ H w y yv)
 (h:dp (xg P fr ts x y) K):cX M φ H w fr ((do let z <- Builtin.append_ ts ty0 #[xv,yv];pure (Next.value z):Sem Next).run P w) K:=by
 unfold xg at h
 split at h
 ·rename_i t t' tj
  have tj:ts=#[t,t']:=by apply Array.ext';simpa using tj
  subst tj
  split at h
  ·exact h.elim
  ·split at h
   ·rename_i e ht
    split at h
    ·rename_i k0 kk n hu
     split at h
     ·rename_i hc
      obtain⟨c1,c2,c3,c4⟩:=hc
      split at h
      ·rename_i x0 rB
       simp only[V.den,D.den]at hx hy;subst hx;subst hy
       obtain⟨i,z,ev,h1,h2,h3,h4,h5,h6⟩:=xm hH rB
       obtain⟨k,rfl⟩:=Int.eq_ofNat_of_zero_le (Int.le_of_lt c1)
       simp only[Int.toNat_natCast]at c3 c4 h
       have wK:P.underlying t'=some (.int k0):=by
        unfold uj at hu
        split at hu
        ·rename_i k1 hk;injection hu with hu;subst hu;exact hk
        ·cases hu
       have hr:=th (P:=P) w t t' ty0 e i z (bE ht) wK h1 h2 (by rw[<- cg h1];exact c2) kk k ad ad (by rw[<- l6 h1];omega)
       have AO:=grownCap_ge w k 0 e
       have eh:z.cells.size=P.cellsOf e:=by rw[cg h1, <- h3]
       have JB:(Builtin.zeroCells z.cells k).toList=(List.replicate k ev).flatMap (·.cells.toList):=by
        have e1:(Builtin.zeroCells z.cells k).toList=(madeCells z.cells (k*z.cells.size)).toList:=by simp[Builtin.zeroCells,madeCells]
        rw[e1,ng]
        simp[List.flatMap_replicate,h5]
       refine fl hH dc (w':=w.drew.alloc (.cells (Builtin.zeroCells z.cells k++Builtin.zeroCells z.cells (grownCap w k 0 e - k)) e)) (xs:=(List.replicate k ev).flatMap (·.cells.toList)) ⟨rfl,rfl,rfl,aj,fun j hj _=>RowKit.Below.heap_alloc w.drew _ j hj⟩ c2 h hr ?_ ⟨List.replicate k ev,rfl, ?_, ?_⟩
       ·refine⟨?_, .inr ⟨w.heap.size,_,_,by rw[List.length_replicate],Nat.le_refl _,heap_alloc_new w.drew _,by rw[List.length_replicate];exact AO,grownCap_le_maxLen w k 0 e (by simp[maxLen];omega), ?_, ?_⟩⟩
        ·rw[<- JB,Array.length_toList,size_zeroCells,eh,List.length_replicate]
        ·rw[Array.size_append,size_zeroCells,size_zeroCells,eh, <- Nat.add_mul];congr 1;omega
        ·rw[Array.toList_append, <- JB,List.take_append_of_le_length (by simp[size_zeroCells,eh]),List.take_of_length_le (by simp[size_zeroCells,eh])]
       ·intro v hv
        rw[(List.mem_replicate.1 hv).2,h5,eh]
       ·clear hr h c1 c3 c4 AO JB
        induction k with
        |zero=>rfl
        |succ k ih=>exact⟨ev,List.replicate k ev,rfl,h6,ih⟩
      ·exact h.elim
     ·exact h.elim
    ·exact h.elim
   ·exact h.elim
 ·exact h.elim
theorem o6(hH:aD M φ H w){y:V}{yv:Value}{new:List D}{sz:Nat}(hy:V.den (ay M φ H) φ H w y yv)(h:fj H.o y=some new)(hw:∀z∈new,z.cells.length=sz):
 (yv= .slice none 0 0/\new=[])\/∃a c evs,yv= .slice (some a) new.length c/\D.aN (ay M φ H) w new evs/\(∀ev∈evs,ev.cells.size=sz)/\
  (∀j u,(evs.flatMap (·.cells.toList))[j]? =some u->w.cell? (a.add j)=some u)/\Flat (evs.flatMap (·.cells.toList)):=by
 have PJ:∀ {evs:List Value},D.aN (ay M φ H) w new evs->(∀ev∈evs,ev.cells.size=sz)/\Flat (evs.flatMap (·.cells.toList)):=by
  intro evs hd
  have key:∀ev∈evs,ev.cells.size=sz/\Flat ev.cells.toList:=by
   intro ev dM
   obtain⟨i,hi⟩:=List.mem_iff_getElem?.1 dM
   have hl:=D.aH _ _ hd
   have cJ:i<new.length:=by rw[<- hl];exact(List.getElem?_eq_some_iff.1 hi).1
   obtain⟨v',tg,Nz⟩:=D.dV _ _ i new[i] hd (by simp[cJ])
   rw[hi]at tg;injection tg with tg;subst tg
   have h1:=D.fE _ _ Nz
   have h2:=D.aH _ _ h1.1
   rw[hw _ (List.getElem_mem cJ)]at h2
   exact⟨by simpa using h2,h1.2⟩
  refine⟨fun ev dM=>(key ev dM).1,fun u hu=> ?_⟩
  obtain⟨ev,h1,h2⟩:=List.mem_flatMap.1 hu
  exact(key ev h1).2 u h2
 have Fc:D.den (ay M φ H) w (.sl new) yv->(yv= .slice none 0 0/\new=[])\/∃a c evs,yv= .slice (some a) new.length c/\D.aN (ay M φ H) w new evs/\(∀ev∈evs,ev.cells.size=sz)/\
  (∀j u,(evs.flatMap (·.cells.toList))[j]? =some u->w.cell? (a.add j)=some u)/\Flat (evs.flatMap (·.cells.toList)):=by
  rintro⟨base,len,cap,rfl,rfl,h2,h3,ra,h4⟩
  cases base with
  |none=>
   left
   have h5:=h3 rfl;subst h5
   have:new=[]:=by simpa using h2
   subst this;exact⟨rfl,rfl⟩
  |some a=>
   right
   obtain⟨h5,h6⟩:=h4 a rfl
   by_cases hc0:cap=0
   ·have:new=[]:=List.eq_nil_of_length_eq_zero ad
    subst this
    exact⟨a,cap,[],rfl,rfl,aj,aj,by simp[Flat]⟩
   replace h5:=h5 hc0
   have key:∀ (es:List D) (i:Nat),(∀z∈es,z.cells.length=sz)->D.elems (ay M φ H) w ra a i es->
    ∃evs,D.aN (ay M φ H) w es evs/\∀j u,(evs.flatMap (·.cells.toList))[j]? =some u->w.cell? (a.add (i*sz+j))=some u:=by
    intro es
    induction es with
    |nil=>intro i _ _;exact⟨[],rfl,aj⟩
    |cons e es ih=>
     intro i hz h
     obtain⟨⟨ev,k1,k2,k3⟩,k4⟩:=h
     obtain⟨evs,g1,g2⟩:=ih (i+1) (fun z hz'=>hz z (by simp[hz'])) k4
     have k5:ev.cells.size=sz:=by
      have:=D.aH _ _ (D.fE _ _ k3).1
      rw[hz e (by simp)]at this
      simpa using this
     refine⟨ev::evs,⟨ev,evs,rfl,k3,g1⟩,fun j u hj=> ?_⟩
     rw[List.flatMap_cons]at hj
     by_cases cJ:j<sz
     ·rw[List.getElem?_append_left (by simp;omega)]at hj
      have:=(k2 j u la).1
      rw[add_add a h5]at this
      rwa [<- k1,k5]at this
     ·rw[List.getElem?_append_right (by simp;omega)]at hj
      have:=g2 (j - sz) u (by simpa[k5]using hj)
      rwa [show(i+1)*sz+(j - sz)=i*sz+j by rw[Nat.add_mul];omega]at this
   obtain⟨evs,g1,g2⟩:=key new 0 hw h6
   obtain⟨s1,s2⟩:=PJ g1
   exact⟨a,cap,evs,rfl,g1,s1,fun j u hj=>by simpa using g2 j u hj,s2⟩
 unfold fj at h
 split at h
 ·rename_i es hD
  injection h with h;subst h
  cases y with
  |d x=>simp only[eg,Option.some.injEq]at hD;subst hD;exact Fc hy
  |bO=>simp only[eg,Option.some.injEq,D.sl.injEq]at hD;subst hD;exact .inl ⟨hy,rfl⟩
  |osl id ep=>
   obtain⟨_,_,wF⟩:=hy
   have bp:=hH.ok id
   simp only[eg]at hD
   cases hx:H.o id with
   |no=>simp[hx]at hD
   |row cs=>simp[hx]at hD
   |map kt vt l=>simp[hx]at hD
   |loop nf n env ps iQ eJ st GY=>simp[hx]at hD
   |iP l=>simp[hx]at hD
   |mW l last=>simp[hx]at hD
   |za s pos=>simp[hx]at hD
   |arr jr ty ra es'=>
    simp only[hx]at hD
    split at hD
    ·rename_i e;subst e
     simp only[Option.some.injEq,D.sl.injEq]at hD;subst hD
     simp only[bc,hx]at bp
     have hv:=(wF ep AY).2 rfl
     obtain⟨h0,xs,⟨hl,bZ⟩,evs,rfl,h2,h3⟩:=bp
     obtain⟨s1,s2⟩:=PJ h3
     rw[hv]
     rcases bZ with⟨h4,h5⟩|⟨g,cap,cur,h4,_,h5,h6,h7,h8,h9⟩
     ·exact .inl ⟨h4,by simpa using h5⟩
     ·right
      refine⟨_,cap,evs,h4,h3,s1,fun j u hj=> ?_,s2⟩
      refine p6 h5 j u ?_
      rw[<- h9,List.getElem?_take]at hj
      split at hj
      ·simpa using hj
      ·cases hj
    ·cases hD
   |sv jr es'=>
    simp only[hx]at hD
    split at hD
    ·rename_i e;subst e
     simp only[Option.some.injEq,D.sl.injEq]at hD;subst hD
     simp only[bc,hx]at bp
     have hv:=(wF ep AY).2 rfl
     rw[hv]at Fc|-
     exact Fc bp
    ·cases hD
  |agg cs=>simp[eg]at hD
  |iface t x=>simp[eg]at hD
  |qZ es'=>simp only[eg,Option.some.injEq,D.sl.injEq]at hD;subst hD;exact Fc hy.1
  |mp id=>simp only[eg]at hD;split at hD<;>simp at hD
  |_=>simp[eg]at hD
 ·cases h
theorem uy(hH:aD M φ H w){id ep:Nat}(fL:H.us id){ty:TypeId}{sz:Nat}{es es':List D}(ho:H.o id= .arr ep ty sz es){val:Value}{xs':List Value}{m:Nat->Prop}(hk:eK m w w')
 (hm:∀b,m b->eQ (φ id)=some b) (fO:∀b,eQ val=some b->eQ (φ id)=some b\/w.heap.size<=b) (eA:w'.ownsRow 0 ty sz val es'.length xs') (hd:gJ (ay M φ H) w sz es' xs'):
 let aQ:=aM φ id val;let H':=H.put [(id, .arr (ep+1) ty sz es')]
 aD M aQ H' w'/\Trans φ H w aQ H' w'/\V.den (ay M aQ H') aQ H' w' (.osl id (ep+1)) val:=by
 intro aQ H'
 have hl:(H.o id).live=true:=by rw[ho];rfl
 have ht:Trans φ H w aQ H' w':={
  cA:=⟨hk.os,hk.tape,hk.output,hk.size,fun k h W0=>hk.block k h (fun e=>W0 ⟨id,hl,hm k e⟩)⟩
  grow:=by
   rintro b ⟨j,h1,h2⟩
   by_cases hj:j=id
   ·subst hj
    simp only[aQ,aS,if_true]at h2
    rcases fO b h2 with h3|h3
    ·exact .inl ⟨j,hl,h3⟩
    ·exact .inr h3
   ·simp[H',aQ,hj]at h1 h2;exact .inl ⟨j,h1,h2⟩
  rel:={
   us:=fun j h=>by simp[H',h]
   row:=fun j hu hr=>by
    by_cases hj:j=id
    ·subst hj;simp[H',ab.cC]at hr
    ·simp[H',aQ,hj]at hr|-;exact hr
   ep:=fun j e' hu he=>by
    by_cases hj:j=id
    ·subst hj;simp[H',ab.cy]at he;subst he;exact⟨ep,by rw[ho];rfl,Nat.le_succ _,fun h=>ad⟩
    ·simp[H',aQ,hj]at he|-;exact⟨e',he,Nat.le_refl _⟩}}
 have h0:=hH.ok id
 simp only[bc,ho]at h0
 refine⟨hH.of ht (· =id) (fun j h=> ?_) (fun j h=> ?_) (fun j h=> ?_) (fun i j b hi hj bi bj=> ?_) (fun b=> ?_),ht, ?_,by simp[H'],fun e he=> ?_⟩
 ·subst h
  unfold bc
  simp only[H',bQ,aS,if_true]
  exact⟨h0.1,xs',by simpa[aQ]using eA,hd.mono (ht.blocks (M:=M))⟩
 ·refine⟨by simp[H',h],by simp[aQ,h],fun hlj b hb=>hk.block b (hH.ours b ⟨j,hlj,hb⟩).2 fun e=>h ?_⟩
  exact hH.apart j id b hlj hl hb (hm b e)
 ·rw[ez]at h
  have h1:j≠id:=fun e=>h (.inr e)
  simp only[H',bQ,aS,h1,if_false]
  exact hH.fresh j fun hu=>h (.inl hu)
 ·by_cases e1:i=id<;>by_cases e2:j=id
  ·exact e1.trans e2.symm
  ·subst e1
   simp[H',aQ,e2]at hj bj bi
   rcases fO b bi with h3|h3
   ·exact hH.apart i j b hl hj h3 bj
   ·have:=(hH.ours b ⟨j,hj,bj⟩).2;omega
  ·subst e2
   simp[H',aQ,e1]at hi bi bj
   rcases fO b bj with h3|h3
   ·exact hH.apart i j b hi hl bi h3
   ·have:=(hH.ours b ⟨i,hi,bi⟩).2;omega
  ·simp[H',aQ,e1,e2]at hi hj bi bj
   exact hH.apart i j b hi hj bi bj
 ·rintro⟨j,h1,h2⟩
  by_cases hj:j=id
  ·subst hj;simp only[aQ,aS,if_true]at h2;exact(kP eA b h2).2
  ·simp[H',aQ,hj]at h1 h2
   exact Nat.lt_of_lt_of_le (hH.ours b ⟨j,h1,h2⟩).2 hk.size
 ·rcases eA.2 with⟨rfl,_⟩|⟨g,cap,cur,rfl,_⟩<;>rfl
 ·simp[H',ab.cy]at he
  subst he
  exact⟨Nat.le_refl _,fun _=>by simp[aQ]⟩
theorem gJ.append {B:Nat->Prop}{sz:Nat}{es new:List D}{xs:List Value}{evs:List Value}(h:gJ B w sz es xs)(h1:D.aN B w new evs)(h2:∀ev∈evs,ev.cells.size=sz):
 gJ B w sz (es++new) (xs++evs.flatMap (·.cells.toList)):=by
 obtain⟨abP,rfl,h3,h4⟩:=h
 refine⟨abP++evs,aj,fun ev dM=> ?_,D.bI _ _ _ _ h4 h1⟩
 rcases List.mem_append.1 dM with h|h
 ·exact h3 ev h
 ·exact h2 ev h
theorem dt{sz:Nat}:∀ (evs:List Value),(∀ev∈evs,ev.cells.size=sz)->(evs.flatMap (·.cells.toList)).length=evs.length*sz
 |[],_=>aj
 |x::l,hx=>by
  have:=dt l fun v hv=>hx v (by simp[hv])
  simp[this,hx x (by simp),Nat.add_mul,Nat.add_comm]
theorem DG(hH:aD M φ H w)(dc: ¬H.us fr){ts:Array TypeId}{ty0:TypeId}{x y:V}{xv yv:Value}(hx:V.den (ay M φ H) φ H w x xv)(hy:V.den (ay M φ H) φ H w y yv)
 (h:pR P H.o fr ts x y K):cX M φ H w fr ((do let z <- Builtin.append_ ts ty0 #[xv,yv];pure (Next.value z):Sem Next).run P w) K:=by
 unfold pR at h
 split at h
 ·rename_i t t' tj
  obtain⟨rfl,h⟩:=h
  have tj:ts=#[t,t]:=by apply Array.ext';simpa using tj
  subst tj
  split at h
  ·rename_i e ht
   obtain⟨new,Tn,fP,hz,hw,h⟩:=h
   obtain⟨zz,hz⟩:=Option.isSome_iff_exists.1 hz
   obtain⟨i,z,g1,g2,g3,g4,_⟩:=ki hz
   have hi:=cg g1
   have Tl:=l6 g1
   have Fe:=o6 hH hy Tn hw
   split at h
   ·obtain⟨h1,h2,hK⟩:=h
    simp only[V.den]at hx;subst hx
    rcases Fe with⟨rfl,rfl⟩|⟨a,c,evs,rfl,k1,k2,k3,k4⟩
    ·refine fl hH dc (eK.refl _ _) fP hK (run_append_owned_none (P:=P) w 0 t ty0 e i i.size (bE ht) g1 _ 0 [] (World.ownsRow_nil w 0 e i.size)) ?_ ⟨[],rfl,aj,rfl⟩
     exact World.ownsRow_nil w _ e _
    ·obtain⟨v',w',r1,r2,r3,_⟩:=run_append_own (P:=P) w w.heap.size t ty0 e i z (P.cellsOf e) (P.bytesOf e) (bE ht) g1 g2 hi.symm Tl.symm (by rw[g3,hi]) fP _ 0 [] (World.ownsRow_nil w _ e _) a new.length c
      (evs.flatMap fun v:Value=>v.cells.toList) (by rw[dt evs k2,D.aH _ _ k1]) k3 (fun u hu=>k4 u hu) (by simp[maxLen];omega) Dy (Nat.le_refl _)
     refine fl hH dc (l5 r3) fP hK r1 Nl ⟨evs,rfl,k2,k1⟩
   ·rename_i es
    obtain⟨hw2,h⟩:=h
    have DH:=o6 (sz:=P.cellsOf e) hH (y:= .d (.sl es)) (new:=es) (show V.den (ay M φ H) φ H w (.d (.sl es)) xv from hx.1) (by simp[fj,eg]) hw2
    obtain⟨b,n,wz⟩:=hx.2
    subst wz
    split at h
    ·rename_i hn;subst hn
     have hsm:(sizeOf e).run P w= .ok i.size w:=by rw[dY g1,hi]
     have hr:(Builtin.append_ #[t,t] ty0 #[.slice b n n,yv]).run P w= .ok (.slice b n n) w:=by
      rcases Fe with⟨rfl,_⟩|⟨a,c,evs,rfl,_⟩
      ·cases b<;>simp[Builtin.append_,run_underlying (bE ht),hsm,Builtin.lenOf,Builtin.firstCells,storeCells]
      ·cases b<;>simp[Builtin.append_,run_underlying (bE ht),hsm,Builtin.lenOf,Builtin.firstCells,storeCells,loadCells,loadCellsFrom]
     exact cX.same hH _ h M4 hx
    ·rename_i iJ
     obtain⟨h1,h2,hK⟩:=h
     rcases Fe with⟨rfl,rfl⟩|⟨a,c,evs,rfl,k1,k2,k3,k4⟩
     ·exact absurd rfl iJ
     ·have hlen:(evs.flatMap (·.cells.toList)).length=new.length*P.cellsOf e:=by rw[dt evs k2,D.aH _ _ k1]
      rcases DH with⟨e1,rfl⟩|⟨a',c',JC,e1,q1,q2,q3,q4⟩
      ·injection e1 with e1 e2 e3
       subst e1;subst e2
       obtain⟨v',w',r1,r2,r3,_⟩:=run_append_own (P:=P) w w.heap.size t ty0 e i z (P.cellsOf e) (P.bytesOf e) (bE ht) g1 g2 hi.symm Tl.symm (by rw[g3,hi]) fP _ 0 [] (World.ownsRow_nil w _ e _) a new.length c
        (evs.flatMap fun v:Value=>v.cells.toList) (by rw[dt evs k2,D.aH _ _ k1]) k3 (fun u hu=>k4 u hu) (by simp[maxLen];simp at h1;omega) (by simp at h2|-;omega) (Nat.le_refl _)
       refine fl hH dc (l5 r3) fP hK r1 Nl ⟨evs,rfl,k2,k1⟩
      ·injection e1 with e1 e2 e3
       subst e1;subst e2
       have xl:(JC.flatMap (·.cells.toList)).length=es.length*P.cellsOf e:=by rw[dt JC q2,D.aH _ _ q1]
       have adr:0<new.length:=by cases new with|nil=>exact absurd rfl iJ|cons _ _=>simp
       have DI:es.length+new.length<=maxLen:=by simp[maxLen];omega
       have hr:=run_append_grow (P:=P) w t ty0 e i z (bE ht) g1 g2 a' es.length es.length _ (by rw[xl,hi]) q3 a new.length c _ (by rw[hlen,hi]) k3 ad ad
        (growslice_fits ad (by rw[<- Tl];omega))
       refine fl (xs:=JC.flatMap (·.cells.toList)++evs.flatMap (·.cells.toList)) hH dc ?_ fP hK hr ?_ ⟨JC++evs,aj,fun ev dM=> ?_,D.bI _ _ _ _ q1 k1⟩
       ·exact⟨rfl,rfl,rfl,aj,fun k hk _=>RowKit.Below.heap_alloc w.drew _ k hk⟩
       ·have AO:=grownCap_ge w (es.length+new.length) es.length e
        refine⟨by rw[List.length_append,xl,hlen,List.length_append,Nat.add_mul], .inr ⟨w.heap.size,_,_,by rw[List.length_append],Nat.le_refl _,heap_alloc_new w.drew _,by rw[List.length_append];exact AO,
         grownCap_le_maxLen w _ _ e DI, ?_, ?_⟩⟩
        ·simp only[Array.size_append,List.size_toArray,size_zeroCells,g3,xl,hlen,hi, <- Nat.add_mul]
         congr 1
         omega
        ·have:(JC.flatMap (·.cells.toList)++evs.flatMap (·.cells.toList)).length=(es++new).length*P.cellsOf e:=by rw[List.length_append,xl,hlen,List.length_append,Nat.add_mul]
         simp only[Array.toList_append]
         rw[<- this]
         exact List.take_left
       ·rcases List.mem_append.1 dM with dM|dM
        ·exact q2 ev dM
        ·exact k2 ev dM
   ·rename_i id ep
    split at h
    ·rename_i jr ty sz es ho
     obtain⟨rfl,rfl,rfl,h1,h2,hK⟩:=h
     obtain⟨_,fL,wF⟩:=hx
     have hv:=(wF ep e8).2 rfl
     subst hv
     have bp:=hH.ok id
     simp only[bc,ho]at bp
     obtain⟨_,xs,eA,mS⟩:=bp
     have done:∀ {val:Value} {w':World} {m:Nat->Prop} {evs:List Value},(Builtin.append_ #[t,t] ty0 #[φ id,yv]).run P w= .ok val w'->eK m w w'->(∀b,m b->eQ (φ id)=some b)->
      (∀b,eQ val=some b->eQ (φ id)=some b\/w.heap.size<=b)->w'.ownsRow 0 ty (P.cellsOf ty) val (es++new).length (xs++evs.flatMap (·.cells.toList))->D.aN (ay M φ H) w new evs->
      (∀ev∈evs,ev.cells.size=P.cellsOf ty)->cX M φ H w fr ((do let z <- Builtin.append_ #[t,t] ty0 #[φ id,yv];pure (Next.value z):Sem Next).run P w) K:=by
      intro val w' m evs r1 r2 r3 r4 r5 r6 r7
      obtain⟨s1,s2,s3⟩:=uy hH fL ho r2 r3 r4 r5 (mS.append r6 r7)
      exact⟨_,_,_,_,_,_,_,hK,by simp only[Sem.run_bind,r1,Result.andThen_ok];rfl, .inl rfl,s1,s2,s3,by simp[fL]⟩
     rcases Fe with⟨rfl,rfl⟩|⟨a,c,evs,rfl,k1,k2,k3,k4⟩
     ·refine done (evs:=[]) (run_append_owned_none (P:=P) w 0 t ty0 ty i (P.cellsOf ty) (bE ht) g1 _ _ xs eA) (eK.refl (fun _=>False) _) (fun _ h=>h.elim) (fun b hb=> .inl hb) (by simpa using eA) rfl aj
     ·have hlen:(evs.flatMap (·.cells.toList)).length=new.length*P.cellsOf ty:=by rw[dt evs k2,D.aH _ _ k1]
      have DI:es.length+new.length<=maxLen:=by simp[maxLen];omega
      rcases eA.2 with⟨h3,h4⟩|⟨g,cap,cur,h3,h4,h5,h6,h7,h8,h9⟩
      ·have Bj:w.ownsRow w.heap.size ty (P.cellsOf ty) (φ id) es.length xs:=⟨eA.1, .inl ⟨h3,h4⟩⟩
       obtain⟨v',w',r1,r2,r3,_⟩:=run_append_own (P:=P) w w.heap.size t ty0 ty i z (P.cellsOf ty) (P.bytesOf ty) (bE ht) g1 g2 hi.symm Tl.symm (by rw[g3,hi]) fP _ _ xs Bj a new.length c
        (evs.flatMap fun v:Value=>v.cells.toList) hlen k3 (fun u hu=>k4 u hu) DI h2 (Nat.le_refl _)
       refine done r1 (l5 (by rw[h3]at r3;exact r3)) (fun _ h=>h.elim) (fun b hb=> .inr (kP r2 b hb).1) (by simpa using p8 r2) k1 k2
      ·by_cases PK:es.length+new.length<=cap
       ·rw[h3]at eA
        obtain⟨w',r1,r2,r3⟩:=run_append_fits (P:=P) w 0 t ty0 ty i (P.cellsOf ty) (bE ht) g1 hi.symm g es.length cap xs eA a new.length c (evs.flatMap fun v:Value=>v.cells.toList) hlen k3 (fun u hu=>k4 u hu) PK
        rw[<- h3]at r1
        exact done (m:=(· =g)) r1 ⟨r3.os,r3.tape,r3.output,r3.size,fun k hk iJ=>r3.block k hk (by simpa using iJ)⟩ (fun b hb=>by subst hb;rw[h3];rfl) (fun b hb=> .inl (by rw[h3];exact hb)) Nl k1 k2
       ·have holds:∀j u,xs[j]? =some u->w.cell? ((⟨g,0,none⟩:Addr).add j)=some u:=eA.cells (g:=g) (by rw[h3];rfl)
        have hr:=run_append_grow (P:=P) w t ty0 ty i z (bE ht) g1 g2 ⟨g,0,none⟩ es.length cap xs (by rw[eA.1,hi]) holds a new.length c _ (by rw[hlen,hi]) k3 ad (by simp[maxLen]at DI;omega)
         (growslice_fits ad (by rw[<- Tl];omega))
        rw[<- h3]at hr
        refine done (m:=fun _=>False) hr ⟨rfl,rfl,rfl,aj,fun k hk _=>RowKit.Below.heap_alloc w.drew _ k hk⟩ (fun _ h=>h.elim) (fun b hb=> .inr (by simp[eQ]at hb;omega)) ?_ k1 k2
        have AO:=grownCap_ge w (es.length+new.length) cap ty
        refine⟨by rw[List.length_append,eA.1,hlen,List.length_append,Nat.add_mul], .inr ⟨w.heap.size,_,_,by rw[List.length_append],Nat.zero_le _,heap_alloc_new w.drew _,by rw[List.length_append];exact AO,
         grownCap_le_maxLen w _ cap ty DI, ?_, ?_⟩⟩
        ·simp only[Array.size_append,List.size_toArray,size_zeroCells,g3,eA.1,hlen,hi, <- Nat.add_mul]
         congr 1
         omega
        ·have:(xs++evs.flatMap (·.cells.toList)).length=(es++new).length*P.cellsOf ty:=by rw[List.length_append,eA.1,hlen,List.length_append,Nat.add_mul]
         simp only[Array.toList_append,List.append_assoc]
         rw[<- List.append_assoc, <- this]
         exact List.take_left
    ·exact h.elim
   ·exact h.elim
  ·exact h.elim
 ·exact h.elim
end
end Go.Proofs.YtonbelhklnmjnaaGreat
namespace Go.Proofs.YtonbelhklnmjnaaGreat
section
variable {P:Program}{M:Nat->Prop}{φ:Place}{H:Hp}{w w':World}{fr:Nat}{K:V->List (Nat×ab)->List Nat->Prop}
theorem sB{t:TypeId}{b off:Nat}{ty:TypeId}{cur:Array Value}(hb:w.heap[b]? =some (.cells cur ty (0,0)))(v:Value)(hs:v.cells.size=P.cellsOf t)(fP:0<v.cells.size\/(P.info? t).isSome=true)
 (hle:off+v.cells.size<=cur.size) (hf:Flat v.cells.toList):
 (Instr.storeAt t (.pointer (some ⟨b,off,none⟩)) v).run P w= .ok () (w.setRow b (cur.toList.take off++v.cells.toList++cur.toList.drop (off+v.cells.size)).toArray):=by
 obtain⟨i,hi⟩:∃i,P.info? t=some i:=by
  rcases fP with fP|fP
  ·exact kj (P:=P) (e:=t) ad
  ·exact Option.isSome_iff_exists.1 fP
 have:=run_storeCells_at (P:=P) b off ty v.cells.toList 0 cur w hb (by simpa using hle) (fun u hu=>hf u hu)
 simp only[Nat.add_zero,Array.length_toList]at this
 simp[Instr.storeAt,Instr.sureAddr,storeVar,dY hi,hs,this]
theorem Bk{sz:Nat}:∀ (evs:List Value) (i off:Nat) (ev G3:Value) (us:List Value),(∀x∈evs,x.cells.size=sz)->evs[i]? =some ev->off+us.length<=sz->
 G3.cells.toList=ev.cells.toList.take off++us++ev.cells.toList.drop (off+us.length)->
 (evs.set i G3).flatMap (·.cells.toList)=(evs.flatMap (·.cells.toList)).take (i*sz+off)++us++(evs.flatMap (·.cells.toList)).drop (i*sz+off+us.length)
 |[],_,_,_,_,_,_,h,_,_=>by simp at h
 |x::evs,0,off,ev,G3,us,hs,h,hle,he=>by
  simp at h;subst h
  have hx:x.cells.toList.length=sz:=by simpa using hs x aj
  simp only[List.set_cons_zero,List.flatMap_cons,Nat.zero_mul,Nat.zero_add,he]
  rw[List.take_append_of_le_length (by omega),List.drop_append_of_le_length (by omega)]
  simp[List.append_assoc]
 |x::evs,i+1,off,ev,G3,us,hs,h,hle,he=>by
  have hx:x.cells.toList.length=sz:=by simpa using hs x aj
  have ih:=Bk evs i off ev G3 us (fun y hy=>hs y tc) GV hle he
  simp only[List.set_cons_succ,List.flatMap_cons,ih]
  rw[show(i+1)*sz+off=x.cells.toList.length+(i*sz+off) by rw[Nat.add_mul,hx];omega,List.take_length_add_append,
   show x.cells.toList.length+(i*sz+off)+us.length=x.cells.toList.length+(i*sz+off+us.length) by omega,List.drop_length_add_append]
  simp[List.append_assoc]
theorem Bl{α:Type}(l v:List α)(k m n:Nat)(hn:n=v.length)(h:k+n<=m)(hm:m<=l.length):(l.take k++v++l.drop (k+n)).take m=(l.take m).take k++v++(l.take m).drop (k+n):=by
 subst hn
 apply List.ext_getElem?
 intro i
 simp only[List.getElem?_append,List.getElem?_take,List.getElem?_drop,List.length_append,List.length_take]
 repeat' split
 all_goals first
  |rfl
  |omega
  |(congr 1;omega)
  |(symm;apply List.getElem?_eq_none;omega)
  |(apply List.getElem?_eq_none;omega)
  |skip
theorem JD{B:Nat->Prop}{e e':D}{off:Nat}{ds:List D}(h:e.put off ds=some e'){ev:Value}(he:D.den B w e ev){us:List Value}(hu:D.aN B w ds us)(hf:Flat us):
 ∃G3,D.den B w e' G3/\G3.cells.toList=ev.cells.toList.take off++us++ev.cells.toList.drop (off+us.length)/\off+us.length<=ev.cells.size:=by
 have hl:=D.aH _ _ hu
 rcases D.nX _ _ he with⟨cs,a,rfl,rfl⟩|⟨h1,h2,h3⟩
 ·obtain⟨a',ha,h4,h5⟩:=he
  injection ha with ha;subst ha
  have hl4:=D.aH _ _ h4
  simp only[Array.length_toList]at hl4
  simp only[D.put]at h
  split at h
  ·rename_i hle
   injection h with h;subst h
   refine⟨.agg (a.toList.take off++us++a.toList.drop (off+us.length)).toArray,⟨_,rfl, ?_, ?_⟩,by simp[Value.cells],by simp[Value.cells];omega⟩
   ·simp only
    rw[hl]
    exact D.bI _ _ _ _ (D.bI _ _ _ _ (D.dW _ _ _ h4) hu) (D.eR _ _ _ h4)
   ·intro x hx
    simp only[List.mem_append]at hx
    rcases hx with(hx|hx)|hx
    ·exact h5 x (List.mem_of_mem_take hx)
    ·exact hf x hx
    ·exact h5 x (List.mem_of_mem_drop hx)
  ·cases h
 ·have lg:off=0/\∃u,ds=[u]/\e'=u:=by
   cases e<;>simp only[D.put]at h<;>first
    |(split at h
      ·rename_i u;injection h with h;exact⟨rfl,u,rfl,h.symm⟩
      ·cases h)
    |(simp[D.cells]at h2;done)
    |skip
   obtain⟨a,rfl,_⟩:=he
   simp[Value.oneCell']at h1
  obtain⟨rfl,u,rfl,rfl⟩:=lg
  obtain⟨x,xs,rfl,h4,h5⟩:=hu
  simp only[D.aN]at h5;subst h5
  have hx:x.cells=#[x]:=by have:=hf x aj;cases x<;>simp_all[Value.oneCell',Value.cells]
  exact⟨x,h4,by simp[hx,h3],by simp[h3]⟩
theorem G4(hH:aD M φ H w){t:TypeId}{x v:V}{xv vv:Value}(hx:V.den (ay M φ H) φ H w x xv)(hv:V.den (ay M φ H) φ H w v vv)
 (h:um P H.o t x v fun Δ rd=>K (.cp []) Δ rd):cX M φ H w fr ((do Instr.storeAt t xv vv;pure Next.skip:Sem Next).run P w) K:=by
 unfold um at h
 split at h
 ·rename_i id off
  split at h
  ·rename_i cs ho
   obtain⟨cs',h1,hK⟩:=h
   obtain⟨_,fL,hp⟩:=hx
   obtain⟨b,fb,rfl⟩:=hp e8
   have bp:=hH.ok id
   simp only[bc,ho]at bp
   obtain⟨b',dU,ty,g1,g2,g3,g4⟩:=bp
   rw[fb]at g1;simp at g1;subst g1
   unfold zc at h1
   split at h1
   ·rename_i us hc
    split at h1
    ·rename_i hle
     injection h1 with h1;subst h1
     obtain⟨k1,k2⟩:=V.nX _ _ _ hc hv
     have l1:=V.aH _ _ k1
     have l2:=V.aH _ _ g3
     simp only[Array.length_toList]at l1 l2
     have hr:=sB (P:=P) (t:=t) (off:=off) g2 vv ad (hle.2.1.imp (fun h=>ad) (fun h=>h)) ad k2
     obtain⟨t1,t2⟩:=Ba (cs':=cs.take off++us++cs.drop (off+us.length)) hH fL ho fb g2 (dU.toList.take off++vv.cells.toList++dU.toList.drop (off+vv.cells.size)).toArray (by
      simp only
      rw[l1]
      exact V.bI _ _ _ _ (V.bI _ _ _ _ (V.dW _ _ _ g3) k1) (V.eR _ _ _ g3)) (by
      intro u hu
      simp only[List.mem_append]at hu
      rcases hu with(hu|hu)|hu
      ·exact g4 u (List.mem_of_mem_take hu)
      ·exact k2 u hu
      ·exact g4 u (List.mem_of_mem_drop hu))
     exact⟨_,_,_,_,_,_,_,hK,by simp only[Sem.run_bind,hr,Result.andThen_ok];rfl, .inr ⟨rfl,rfl⟩,t1,t2,⟨#[],rfl,rfl⟩,by simp[fL]⟩
    ·cases h1
   ·cases h1
  ·exact h.elim
 ·rename_i id ep i ra off
  split at h
  ·rename_i jr ty sz es ho
   obtain⟨rfl,rfl,e,he,y,hy,hyl,hyp,iJ,e',lg,hK⟩:=h
   obtain⟨_,fL,hp⟩:=hx
   obtain⟨b,n,c,fb,rfl⟩:=(hp ep e8).2 rfl
   obtain⟨f1,f2,f3,f4,f5⟩:=dx hH v.ids (dq v _ hv)
   have mT:id∉v.ids:=fun hm=>by have:=List.all_eq_true.1 iJ id hm;simp at this
   have wy:=(f4 id mT).trans ho
   have hvd:=gA f1 v y vv f3 hy (V.aT f2 _ _ hv)
   obtain⟨k1,k2⟩:=D.fE _ _ hvd
   have l1:=D.aH _ _ k1
   simp only[Array.length_toList]at l1
   have bp:=f1.ok id
   simp only[bc,wy]at bp
   obtain⟨h0,xs,⟨hl,bZ⟩,evs,rfl,h2,h3⟩:=bp
   rcases bZ with⟨h4,h5⟩|⟨g,cap,cur,h4,h5,h6,h7,h8,h9,PH⟩
   ·rw[fb]at h4;simp at h4
   ·rw[fb]at h4;simp at h4
    obtain⟨rfl,rfl,rfl⟩:=h4
    obtain⟨ev,dM,hde⟩:=D.dV _ _ _ _ h3 he
    obtain⟨G3,p1,p2,p3⟩:=JD lg hde k1 k2
    simp only[Array.length_toList]at p2 p3
    have adB:=h2 ev (List.mem_of_getElem? dM)
    have abQ:i<es.length:=(List.getElem?_eq_some_iff.1 he).1
    have JE:i*ra+ra<=es.length*ra:=by
     rw[<- Nat.succ_mul];exact Nat.mul_le_mul_right _ abQ
    have abR:es.length*ra<=cur.size:=by rw[h9];exact Nat.mul_le_mul_right _ h7
    have hr:=sB (P:=P) (t:=t) (off:=i*ra+off) h6 vv ad (.inl ad) ad k2
    have NA:=Bk evs i off ev G3 vv.cells.toList h2 dM (by simpa using(by omega:off+vv.cells.size<=ra)) (by simpa using p2)
    simp only[Array.length_toList]at NA
    have c7:((H.put (dn H.o v.ids)).o id).live=true:=by rw[wy];rfl
    have ze:eQ (φ id)=some b:=by rw[fb];rfl
    have Ye:=(f5 id).2 fL
    have ht:=fk (w:=w) (w':=w.setRow b (cur.toList.take (i*ra+off)++vv.cells.toList++cur.toList.drop (i*ra+off+vv.cells.size)).toArray) Ye c7 ze (kN w b _) (.arr ep ty ra (es.set i e')) AW AW
    have hh:=iR f1 Ye c7 ze (kN w b (cur.toList.take (i*ra+off)++vv.cells.toList++cur.toList.drop (i*ra+off+vv.cells.size)).toArray) (.arr ep ty ra (es.set i e')) AW AW (by
     unfold bc
     simp only[bQ,aS,if_true]
     refine⟨h0,(evs.set i G3).flatMap (·.cells.toList),⟨?_, .inr ⟨b,c,_,by rw[List.length_set];exact fb,Nat.zero_le _,setRow_heap w b cur _ ty (0,0) h6,by rw[List.length_set];exact h7,h8, ?_, ?_⟩⟩,evs.set i G3,rfl, ?_, ?_⟩
     ·rw[NA,List.length_set]
      simp only[List.length_append,List.length_take,List.length_drop,Array.length_toList,hl]
      omega
     ·simp only[List.size_toArray,List.length_append,List.length_take,List.length_drop,Array.length_toList]
      omega
     ·rw[NA,List.length_set, <- PH]
      exact Bl cur.toList vv.cells.toList _ _ _ aj ad (by simpa using abR)
     ·intro x hx
      rcases List.mem_or_eq_of_mem_set hx with hx|rfl
      ·exact h2 x hx
      ·have:=congrArg List.length p2
       simp only[Array.length_toList,List.length_append,List.length_take,List.length_drop]at this
       omega
     ·exact D.ba (ht.blocks (M:=M)) _ _ (D.A8 i es evs e' G3 h3 p1))
    rw[<- ey]at hh ht
    refine⟨_,_,_,_,_,_,_,hK,by simp only[Sem.run_bind,hr,Result.andThen_ok];rfl, .inr ⟨rfl,rfl⟩,hh,f2.trans ht,⟨#[],rfl,rfl⟩,fun j hj=> ?_⟩
    simp only[List.map_append,List.mem_append,List.map_cons,List.map_nil,List.mem_singleton]at hj
    rcases hj with hj|hj
    ·left
     refine dq v _ hv j ?_
     rw[l7]at hj
     simpa[Function.comp_def]using hj
    ·exact .inl (hj ▸ fL)
  ·exact h.elim
 ·exact h.elim
end
end Go.Proofs.YtonbelhklnmjnaaGreat
namespace Go.Proofs.YtonbelhklnmjnaaGreat
section
variable {P:Program}{B:Nat->Prop}{w:World}
theorem gX{t:TypeId}{xs:List D}{off:Nat}{x:D}(h:ke P t xs off=some x){arr:Array Value}(hd:D.aN B w xs arr.toList)(hf:Flat arr.toList):
 ∃u,(∀w',(part t arr off).run P w'= .ok u w')/\D.den B w x u:=by
 unfold ke at h
 split at h
 ·rename_i ha
  split at h
  ·rename_i hl
   injection h with h;subst h
   obtain⟨i,hi⟩:=rA ha
   refine⟨.agg (arr.extract off (off+P.cellsOf t)),fun w'=> ?_,_,rfl, ?_, ?_⟩
   ·simp only[part,Sem.run_bind,rz ha w',Result.andThen_ok,if_true,dY hi w',Sem.run_pure]
   ·have:=D.dW (P.cellsOf t) _ _ (D.eR off _ _ hd)
    simpa[Array.toList_extract,List.extract]using this
   ·intro u hu
    simp only[Array.toList_extract,List.extract]at hu
    exact hf u (List.mem_of_mem_drop (List.mem_of_mem_take hu))
  ·cases h
 ·rename_i ha
  obtain⟨u,hu,Nu⟩:=D.dV _ _ _ _ hd h
  refine⟨u,fun w'=> ?_,Nu⟩
  have wK:arr[off]? =some u:=by simpa using hu
  simp only[part,Sem.run_bind,oZ ha w',Result.andThen_ok,Bool.false_eq_true,if_false,wK,Sem.run_pure]
 ·cases h
theorem xp{a b:Option Bool}{r:Bool}(h:Ju a b=some r):∃x y,a=some x/\b=some y/\r=(x&&y):=by
 unfold Ju at h
 split at h
 ·injection h with h;exact⟨_,_,rfl,rfl,h.symm⟩
 ·cases h
def EqD(P:Program)(m:Nat)(t:TypeId)(x y:D)(r:Bool):Prop:=
 ∀ (B:Nat->Prop) (w:World) (u v:Value),D.den B w x u->D.den B w y v->(Op.equalIn m t u v).run P w= .ok r w
theorem p9{d m:Nat}(IH:∀t x y r,rb P d t x y=some r->EqD P m t x y r){xs ys:List D}{cu bs:Array Value}(ha:D.aN B w xs cu.toList)(Dl:Flat cu.toList)(hb:D.aN B w ys bs.toList)(NB:Flat bs.toList):
 ∀ (fs:List Field) (r:Bool),(∀f∈fs,f.name≠ "_")->A6 (fun u off=>Tg (rb P d u) (ke P u xs off) (ke P u ys off)) (fs.map fun f=>(f.type,f.offset))=some r->
   (Op.eqFields m cu bs fs).run P w= .ok r w
 |[],r,_,h=>by simp[A6]at h;subst h;simp[Op.eqFields]
 |f::fs,r,hn,h=>by
  obtain⟨x,y,h1,h2,rfl⟩:=xp h
  simp only[Tg]at h1
  split at h1
  ·rename_i p q hp hq
   obtain⟨u,k1,k2⟩:=gX hp ha Dl
   obtain⟨v,k3,k4⟩:=gX hq hb NB
   have h3:=IH _ _ _ _ h1 B w u v k2 k4
   have h4:=p9 IH ha Dl hb NB fs y (fun g hg=>hn g (by simp[hg])) h2
   have iJ:=hn f aj
   simp only[Op.eqFields,iJ,ne_eq,not_false_eq_true,if_true,Sem.run_bind,k1,k3,h3,Result.andThen_ok]
   cases x
   ·simp
   ·simpa using h4
  ·cases h1
theorem sC{d m:Nat}{e:TypeId}(IH:∀t x y r,rb P d t x y=some r->EqD P m t x y r){xs ys:List D}{cu bs:Array Value}(ha:D.aN B w xs cu.toList)(Dl:Flat cu.toList)(hb:D.aN B w ys bs.toList)(NB:Flat bs.toList):
 ∀ (n i:Nat) (r:Bool),E6 (fun i=>Tg (rb P d e) (ke P e xs (i*P.cellsOf e)) (ke P e ys (i*P.cellsOf e))) n i=some r->
   (Op.eqItems m e (P.cellsOf e) cu bs (List.range' i n)).run P w= .ok r w
 |0,i,r,h=>by simp[E6]at h;subst h;simp[Op.eqItems]
 |n+1,i,r,h=>by
  obtain⟨x,y,h1,h2,rfl⟩:=xp h
  simp only[Tg]at h1
  split at h1
  ·rename_i p q hp hq
   obtain⟨u,k1,k2⟩:=gX hp ha Dl
   obtain⟨v,k3,k4⟩:=gX hq hb NB
   have h3:=IH _ _ _ _ h1 B w u v k2 k4
   have h4:=sC IH ha Dl hb NB n (i+1) y h2
   simp only[List.range'_succ,Op.eqItems,Sem.run_bind,k1,k3,h3,Result.andThen_ok]
   cases x
   ·simp
   ·simpa using h4
  ·cases h1
theorem tK:∀ (d:Nat) (t:TypeId) (x y:D) (r:Bool),rb P d t x y=some r->∀m,d<=m->EqD P m t x y r
 |0,_,_,_,_,h=>by simp[rb]at h
 |d+1,t,x,y,r,h=>by
  intro m hm B w u v hu hv
  obtain⟨m,rfl⟩:∃k,m=k+1:=⟨m - 1,ad⟩
  have IH:∀t x y r,rb P d t x y=some r->EqD P m t x y r:=fun t x y r h=>tK d t x y r h m ad
  unfold rb at h
  cases hs:cn P t with
  |none=>rw[hs]at h;cases h
  |some sh=>
   rw[hs]at h
   unfold cn at hs
   cases ht:P.underlying t with
   |none=>rw[ht]at hs;cases hs
   |some td=>
    rw[ht]at hs
    cases td<;>simp only[Option.some.injEq,reduceCtorEq]at hs
    case int k0=>
     subst hs
     simp only at h
     split at h
     ·split at h
      ·rename_i e;subst e;injection h with h;subst h
       simp only[D.den]at hu hv;subst hu;subst hv
       exact run_equalIn_int w m t _ _ _ _ ht
      ·cases h
     ·cases h
    case bool=>
     subst hs
     simp only at h
     split at h
     ·injection h with h;subst h
      simp only[D.den]at hu hv;subst hu;subst hv
      exact run_equalIn_bool' w m t _ _ ht
     ·cases h
    case string=>
     subst hs
     simp only at h
     split at h
     ·injection h with h;subst h
      obtain⟨s1,rfl,rfl⟩:=hu
      obtain⟨s2,rfl,rfl⟩:=hv
      rw[run_equalIn_string w m t _ _ ht]
      rw[ByteArray.toList_eq,ByteArray.toList_eq]
     ·cases h
    case struct fs=>
     split at hs
     ·rename_i hc
      injection hs with hs;subst hs
      simp only[Bool.and_eq_true,Bool.not_eq_true',List.all_eq_true,bne_iff_ne]at hc
      simp only at h
      split at h
      ·obtain⟨cu,rfl,ha,Dl⟩:=hu
       obtain⟨bs,rfl,hb,NB⟩:=hv
       have hfs:P.fieldsOf t=fs:=by simp[Program.fieldsOf,ht]
       rw[run_equalIn_struct w m t cu bs (by rw[hfs];exact ht) hc.1,hfs]
       exact p9 IH ha Dl hb NB _ _ hc.2 h
      ·cases h
     ·cases hs
    case array n e=>
     split at hs
     ·rename_i hc
      injection hs with hs;subst hs
      simp only at h
      split at h
      ·obtain⟨cu,rfl,ha,Dl⟩:=hu
       obtain⟨bs,rfl,hb,NB⟩:=hv
       obtain⟨i,hi⟩:=Option.isSome_iff_exists.1 hc
       rw[run_equalIn_array w m cu bs ht hi,List.range_eq_range']
       exact sC IH ha Dl hb NB _ _ _ h
      ·cases h
     ·cases hs
theorem JF{t:TypeId}{cu bs:List D}{r:Bool}(h:rb P 100 t (.agg cu) (.agg bs)=some r)(hg:P.eqGuardType P.depth t=false):Jr P t (.agg cu) (.agg bs) r:=by
 intro B w u v hu hv
 refine⟨tK 100 t _ _ _ h _ aZ B w u v hu hv,fun op a b=> ?_⟩
 obtain⟨cu,rfl,_⟩:=hu
 obtain⟨bs,rfl,_⟩:=hv
 exact run_eqGuard_agg w op t a b cu bs hg
end
end Go.Proofs.YtonbelhklnmjnaaGreat
namespace Go.Proofs.YtonbelhklnmjnaaGreat
section
variable {P:Program}{M:Nat->Prop}{φ:Place}{H:Hp}{w:World}{fr:Nat}{K:V->List (Nat×ab)->List Nat->Prop}
theorem dI{x:Option gL}(h:dp x K):∃v Δ rd,x=some (v,Δ,rd)/\K v Δ rd:=by
 unfold dp at h;split at h
 ·exact⟨_,_,_,rfl,h⟩
 ·exact h.elim
theorem Bm{o:Nat->ab}{x:V}{id off:Nat}(h:oV o x=some (id,off)):x= .ptr id off/\(o id).cC=true:=by
 unfold oV at h
 split at h
 ·split at h
  ·simp only[Option.some.injEq,Prod.mk.injEq]at h;obtain⟨rfl,rfl⟩:=h;exact⟨rfl,by assumption⟩
  ·cases h
 ·cases h
theorem Bn{o:Nat->ab}{x:V}{id off n:Nat}{cs:List V}(h:oW o x=some (id,off,n,cs)):x= .xd id off n/\o id= .row cs:=by
 unfold oW at h
 split at h
 ·split at h
  ·rename_i ho
   simp only[Option.some.injEq,Prod.mk.injEq]at h;obtain⟨rfl,rfl,rfl,rfl⟩:=h;exact⟨rfl,ho⟩
  ·cases h
 ·cases h
theorem qa{x:Option V}{val:Option Value}{d n:Nat}(hx:match x,val with|none,none=>True|some v,some u=>V.den (ay M φ H) φ H w v u|_,_=>False)(h:GZ x d=some n):
 (x=none/\val=none/\n=d)\/∃k,val=some (.int k n)/\x≠none:=by
 unfold GZ at h
 split at h
 ·injection h with h
  left
  cases val with
  |none=>exact⟨rfl,rfl,h.symm⟩
  |some u=>exact hx.elim
 ·rename_i k i
  split at h
  ·injection h with h;subst h
   right
   cases val with
   |none=>exact hx.elim
   |some u=>
    simp only[V.den,D.den]at hx
    refine⟨k, ?_,aj⟩
    rw[hx,Int.toNat_of_nonneg (by assumption)]
  ·cases h
 ·cases h
theorem Ff{B:Nat->Prop}{es:List D}{base:Option Addr}{len cap l h:Nat}(hd:D.den B w (.sl es) (.slice base len cap))(hl:l<=h)(hh:h<=es.length){m:Nat}(hm:m=cap\/h<=m/\m<=es.length){W1:Nat}(eh:l=0\/∀y∈es,y.cells.length=W1):
 D.den B w (.sl ((es.take h).drop l)) (.slice (if m=l then base else base.map (·.add (l*W1))) (h - l) (m - l)):=by
 obtain⟨b',adC,adD,he,h1,h2,h3,sz,h4⟩:=hd
 injection he with e1 e2 e3
 subst e1;subst e2;subst e3
 refine⟨_,_,_,rfl,by simp;omega,ad,fun hb=> ?_,sz,fun a ha=> ?_⟩
 ·split at hb
  ·omega
  ·cases base with
   |none=>have:=h3 rfl;omega
   |some a=>simp at hb
 ·have key:∀ (es:List D) (i:Nat) (a:Addr),D.elems B w sz a i es->∀l h,D.elems B w sz a (i+l) ((es.take h).drop l):=by
   intro es
   induction es with
   |nil=>intro i a _ l h;simp[D.elems]
   |cons e es ih=>
    intro i a he l h
    cases h with
    |zero=>simp[D.elems]
    |succ h=>
     cases l with
     |zero=>
      refine⟨he.1, ?_⟩
      simpa using ih (i+1) a he.2 0 h
     |succ l=>
      have:=ih (i+1) a he.2 l h
      rw[show i+1+l=i+(l+1) by omega]at this
      simpa using this
  split at ha
  ·
    rename_i NC
    have ads:h - l=0:=ad
    have To:(es.take h).drop l=[]:=List.eq_nil_of_length_eq_zero AZ
    rw[To]
    cases base with
    |none=>cases ha
    |some b=>injection ha with ha;subst ha;exact⟨fun hc=>ad,trivial⟩
  ·cases base with
   |none=>simp at ha
   |some b=>
    simp only[Option.map_some,Option.some.injEq]at ha
    subst ha
    obtain⟨h5,h6⟩:=h4 b rfl
    replace h5:=h5 ad
    refine⟨fun _=>Bc b h5 _, ?_⟩
    have h7:=key es 0 b h6 l h
    rw[Nat.zero_add]at h7
    have shift:∀ (ds:List D) (i:Nat),(∀y∈ds,y.cells.length=W1\/l=0)->D.elems B w sz b (l+i) ds->D.elems B w sz (b.add (l*W1)) i ds:=by
     intro ds
     induction ds with
     |nil=>intro i _ _;trivial
     |cons y ds ih=>
      intro i hy hd
      obtain⟨⟨ev,g1,g2,g3⟩,g4⟩:=hd
      have abS:l*W1=l*sz:=by
       rcases hy y aj with hy|hy
       ·have:=D.aH _ _ (D.fE _ _ g3).1
        rw[hy]at this
        have e:ev.cells.size=W1:=by simpa using this
        rw[<- e,g1]
       ·rw[hy];simp
      refine⟨⟨ev,g1, ?_,g3⟩,ih (i+1) (fun z hz=>hy z (by simp[hz])) (by rw[show l+(i+1)=l+i+1 by omega];exact g4)⟩
      rw[add_add b h5,abS, <- Nat.add_mul]
      exact g2
    refine shift _ 0 (fun y hy=> ?_) (by simpa using h7)
    rcases eh with eh|eh
    ·exact .inr eh
    ·exact .inl (eh y (List.mem_of_mem_take (List.mem_of_mem_drop hy)))
theorem o7{len cap:Nat}{lo hi mx:Option Value}{l h m:Nat}(G5:lo=none/\l=0\/∃k,lo=some (.int k l))(DJ:hi=none/\h=len/\mx=none\/∃k,hi=some (.int k h))(JG:mx=none/\m=cap\/∃k,mx=some (.int k m))(h1:l<=h)(h2:h<=m)(h3:m<=cap):
 (Instr.sliceBounds true len cap lo hi mx).run P w= .ok (l,h,m) w:=by
 rcases G5 with⟨rfl,rfl⟩|⟨kl,rfl⟩<;>rcases DJ with⟨rfl,rfl,rfl⟩|⟨kh,rfl⟩<;>rcases JG with⟨e,rfl⟩|⟨km,e⟩<;>subst_vars<;>
  first
  |(simp[Instr.sliceBounds,run_sliceBound,h1,h2,h3];done)
  |(cases e;done)
  |(cases e;simp[Instr.sliceBounds,run_sliceBound,h1,h2,h3])
theorem DK(hH:aD M φ H w){t:TypeId}{x:V}{xv:Value}{lo hi mx:Option V}{lov hiv mxv:Option Value}(hx:V.den (ay M φ H) φ H w x xv)
 (G5:match lo,lov with|none,none=>True|some v,some u=>V.den (ay M φ H) φ H w v u|_,_=>False) (DJ:match hi,hiv with|none,none=>True|some v,some u=>V.den (ay M φ H) φ H w v u|_,_=>False)
 (JG:match mx,mxv with|none,none=>True|some v,some u=>V.den (ay M φ H) φ H w v u|_,_=>False) (h:dp (pS P H.o t x lo hi mx) K):
 cX M φ H w fr ((do let z <- Instr.sliceAt t xv lov hiv mxv;pure (Next.value z):Sem Next).run P w) K:=by
 have hg:=dI h
 clear h
 obtain⟨v,Δ,rd,h,hK⟩:=hg
 unfold pS at h
 split at h
 ·rename_i e ht
  have l9:=bE ht
  split at h
  ·rename_i es l Dm hl
   split at h
   ·rename_i hh hhh
    split at h
    ·rename_i hc
     obtain⟨c1,c2,c3,c4⟩:=hc
     obtain⟨i,JH⟩:=Option.isSome_iff_exists.1 c3
     have hD:eg H.o x=some (.sl es):=by
      unfold fj at Dm
      split at Dm
      ·rename_i es' hD;injection Dm with Dm;subst Dm;exact hD
      ·cases Dm
     obtain⟨f1,f2,f3,f4,f5⟩:=dx hH x.ids (dq x _ hx)
     have hd:=gA f1 x (.sl es) xv f3 hD (V.aT f2 _ _ hx)
     obtain⟨base,len,cap,wz,hlen,fG,_⟩:=id hd
     subst wz
     have eh:l=0\/∀y∈es,y.cells.length=P.cellsOf e:=by
      rcases c4 with c4|c4
      ·exact .inl c4
      ·exact .inr fun y hy=>by simpa using List.all_eq_true.1 c4 y hy
     have elem:P.elem t=e:=by simp[Program.elem,l9]
     have fF:∀ {m:Nat},(Instr.sliceBounds true len cap lov hiv mxv).run P w= .ok (l,hh,m) w->
      (Instr.sliceAt t (.slice base len cap) lov hiv mxv).run P w= .ok (.slice (if m=l then base else base.map (·.add (l*P.cellsOf e))) (hh - l) (m - l)) w:=by
      intro m hm
      rw[run_sliceAt_slice w t _ _ _ _ (by rw[elem];exact l9),run_slice_any w t base len cap (by rw[elem];exact l9),hm]
      simp only[Result.andThen_ok,elem,dY JH,sliced]
     have fin:∀ {val:Value} {v:V},(Instr.sliceAt t (.slice base len cap) lov hiv mxv).run P w= .ok val w->V.den (ay M φ (H.put (dn H.o x.ids))) φ (H.put (dn H.o x.ids)) w v val->K v (dn H.o x.ids) x.ids->
      cX M φ H w fr ((do let z <- Instr.sliceAt t (.slice base len cap) lov hiv mxv;pure (Next.value z):Sem Next).run P w) K:=by
      intro val v r1 r2 r3
      exact⟨_,val,w,φ,v,_,_,r3,by simp only[Sem.run_bind,r1,Result.andThen_ok];rfl, .inl rfl,f1,f2,r2,fun id aC=> .inl (by
       have e:(dn H.o x.ids).map (·.1)=x.ids:=by rw[l7];simp[Function.comp_def]
       rw[e]at aC
       exact dq x _ hx id aC)⟩
     have bl:lov=none/\l=0\/∃k,lov=some (.int k l):=by
      rcases qa G5 hl with⟨_,a,b⟩|⟨k,a,_⟩
      ·exact .inl ⟨a,b⟩
      ·exact .inr ⟨k,a⟩
     split at h
     ·injection h with h;injection h with e1 e2;injection e2 with e2 e3;subst e1;subst e2;subst e3
      have bm:mxv=none:=by
       cases mxv with
       |none=>rfl
       |some u=>exact JG.elim
      subst bm
      have bh:hiv=none/\hh=len/\(none:Option Value)=none\/∃k,hiv=some (.int k hh):=by
       rcases qa DJ hhh with⟨_,a,b⟩|⟨k,a,_⟩
       ·exact .inl ⟨a,ad,rfl⟩
       ·exact .inr ⟨k,a⟩
      refine fin (fF (o7 (m:=cap) bl bh (.inl ⟨rfl,rfl⟩) c1 ad (Nat.le_refl _))) ?_ hK
      exact Ff hd c1 c2 (.inl rfl) eh
     ·rename_i mv
      split at h
      ·rename_i hv m hm
       split at h
       ·rename_i tl
        injection h with h;injection h with e1 e2;injection e2 with e2 e3;subst e1;subst e2;subst e3
        have bm:∃k,mxv=some (.int k m):=by
         rcases qa JG hm with⟨a,_⟩|⟨k,a,_⟩
         ·cases a
         ·exact⟨k,a⟩
        have bh:∃k,hiv=some (.int k hh):=by
         rcases qa DJ hhh with⟨a,_⟩|⟨k,a,_⟩
         ·cases a
         ·exact⟨k,a⟩
        have hp:=Ff (m:=m) hd c1 c2 (.inr tl) eh
        refine fin (fF (o7 (m:=m) bl (.inr bh) (.inr bm) c1 tl.1 ad)) ?_ hK
        split
        ·rename_i e;subst e
         exact⟨hp,_,_,rfl⟩
        ·exact hp
       ·cases h
      ·cases h
    ·cases h
   ·cases h
  ·cases h
 ·cases ha:A2 P t with
  |none=>rw[ha]at h;cases h
  |some p=>
  obtain⟨n,e⟩:=p
  rw[ha]at h
  split at h
  ·rename_i n' e' heq
   have e0:n=n'/\e=e':=by simpa using heq
   obtain⟨rfl,rfl⟩:=e0
   split at h
   ·rename_i id off tL
    obtain⟨rfl,bZ⟩:=Bm tL
    split at h
    ·rename_i hc
     injection h with h;injection h with e1 e2;injection e2 with e2 e3;subst e1;subst e2;subst e3
     obtain⟨i,JH⟩:=Option.isSome_iff_exists.1 hc
     have e1:lov=none:=by cases lov with|none=>rfl|some u=>exact G5.elim
     have e2:hiv=none:=by cases hiv with|none=>rfl|some u=>exact DJ.elim
     have e3:mxv=none:=by cases mxv with|none=>rfl|some u=>exact JG.elim
     subst e1;subst e2;subst e3
     obtain⟨g1,g2,g3⟩:=hx
     obtain⟨b,k1,k2⟩:=g3 bZ
     subst k2
     have hat:=xi ha
     have elem:P.elem t=e:=by simp[Program.elem,hat]
     have len:P.arrayLen t=n:=by simp[Program.arrayLen,hat]
     refine cX.same hH (.slice (some ⟨b,off,none⟩) n n) hK ?_ ⟨rfl,g2,fun _=>⟨b,k1,rfl⟩⟩
     have:=run_sliceAt_array_all (P:=P) w t ⟨b,off,none⟩ (by rw[elem,len];exact hat)
     simp only[Sem.run_bind,this,elem,dY JH,Result.andThen_ok,slicedAt,len]
     by_cases hn:n=0
     ·subst hn;rfl
     ·simp[hn,Addr.add]
    ·cases h
   ·cases h
  ·cases h
theorem G6(g:Nat):(⟨g,0,none⟩:Addr).add 0=⟨g,0,none⟩:=rfl
theorem ND(hH:aD M φ H w){t:TypeId}{x:V}{xv:Value}{lo hi mx:Option V}{lov hiv mxv:Option Value}(hx:V.den (ay M φ H) φ H w x xv)
 (G5:match lo,lov with|none,none=>True|some v,some u=>V.den (ay M φ H) φ H w v u|_,_=>False) (DJ:match hi,hiv with|none,none=>True|some v,some u=>V.den (ay M φ H) φ H w v u|_,_=>False)
 (JG:match mx,mxv with|none,none=>True|some v,some u=>V.den (ay M φ H) φ H w v u|_,_=>False) {v:V} {Δ:List (Nat×ab)} {rd:List Nat} (h:DD P H.o t x lo hi mx=some (v,Δ,rd)) (hK:K v Δ rd):
 cX M φ H w fr ((do let z <- Instr.sliceAt t xv lov hiv mxv;pure (Next.value z):Sem Next).run P w) K:=by
 have bounds:∀ {kk:IntKind} {e:TypeId} {base:Option Addr} {len cap:Nat},cK P t=some e->(P.info? e).isSome=true->base=none\/(∃g,base=some ⟨g,0,none⟩)->
  (Instr.sliceAt t (.slice base len cap) none (some (.int kk 0)) none).run P w= .ok (.slice base 0 cap) w:=by
  intro kk e base len cap ht hi hb
  obtain⟨i,JH⟩:=Option.isSome_iff_exists.1 hi
  have l9:=bE ht
  have elem:P.elem t=e:=by simp[Program.elem,l9]
  have hm:=o7 (P:=P) (w:=w) (len:=len) (cap:=cap) (lo:=none) (hi:=some (.int kk 0)) (mx:=none) (l:=0) (h:=0) (m:=cap) (.inl ⟨rfl,rfl⟩) (.inr ⟨kk,rfl⟩) (.inl ⟨rfl,rfl⟩) (Nat.le_refl _) (Nat.zero_le _) (Nat.le_refl _)
  rw[run_sliceAt_slice w t _ _ _ _ (by rw[elem];exact l9),run_slice_any w t base len cap (by rw[elem];exact l9),hm]
  simp only[Result.andThen_ok,elem,dY JH,sliced]
  rcases hb with rfl|⟨g,rfl⟩
  ·simp
  ·simp[G6]
 unfold DD at h
 split at h
 ·split at h
  ·rename_i kk k
   split at h
   ·rename_i e ht
    split at h
    ·rename_i hc
     simp only[Option.some.injEq,Prod.mk.injEq]at h;obtain⟨rfl,rfl,rfl⟩:=h
     obtain⟨rfl,hc⟩:=hc
     simp only[V.den]at hx;subst hx
     have e1:lov=none:=by cases lov with|none=>rfl|some u=>exact G5.elim
     have e2:mxv=none:=by cases mxv with|none=>rfl|some u=>exact JG.elim
     have e3:hiv=some (.int kk 0):=by
      cases hiv with
      |none=>exact DJ.elim
      |some u=>simp only[V.den,D.den]at DJ;rw[DJ]
     subst e1;subst e2;subst e3
     exact cX.same hH (.slice none 0 0) hK (by simp only[Sem.run_bind,bounds (base:=none) (len:=0) (cap:=0) ht hc (.inl rfl),Result.andThen_ok];rfl) rfl
    ·cases h
   ·cases h
  ·cases h
 ·rename_i id ep
  split at h
  ·rename_i kk k
   split at h
   ·rename_i e jr ty sz es ht ho
    split at h
    ·rename_i hc
     simp only[Option.some.injEq,Prod.mk.injEq]at h;obtain⟨rfl,rfl,rfl⟩:=h
     obtain⟨rfl,rfl,hc⟩:=hc
     have e1:lov=none:=by cases lov with|none=>rfl|some u=>exact G5.elim
     have e2:mxv=none:=by cases mxv with|none=>rfl|some u=>exact JG.elim
     have e3:hiv=some (.int kk 0):=by
      cases hiv with
      |none=>exact DJ.elim
      |some u=>simp only[V.den,D.den]at DJ;rw[DJ]
     subst e1;subst e2;subst e3
     obtain⟨_,fL,wF⟩:=hx
     have hv:=(wF ep e8).2 rfl
     subst hv
     have bp:=hH.ok id
     simp only[bc,ho]at bp
     obtain⟨eh,xs,eA,mS⟩:=bp
     have Yf:gJ (ay M φ H) w sz [] []:=⟨[],rfl,aj,rfl⟩
     rcases eA.2 with⟨h3,h4⟩|⟨g,cap,cur,h3,h4,h5,h6,h7,h8,h9⟩
     ·have Bj:w.ownsRow 0 ty sz (.slice none 0 0) ([]:List D).length []:=⟨aj, .inl ⟨rfl,rfl⟩⟩
      obtain⟨s1,s2,s3⟩:=uy (m:=fun _=>False) hH fL ho (eK.refl _ _) (fun _ h=>h.elim) (fun b hb=>by simp[eQ]at hb) Bj Yf
      rw[h3]
      exact⟨_,_,_,_,_,_,_,hK,by simp only[Sem.run_bind,bounds (base:=none) (len:=0) (cap:=0) ht hc (.inl rfl),Result.andThen_ok];rfl, .inl rfl,s1,s2,s3,by simp[fL]⟩
     ·have Bj:w.ownsRow 0 ty sz (.slice (some ⟨g,0,none⟩) 0 cap) ([]:List D).length []:=⟨aj, .inr ⟨g,cap,cur,rfl,h4,h5,Nat.zero_le _,h7,h8,aj⟩⟩
      obtain⟨s1,s2,s3⟩:=uy (m:=fun _=>False) hH fL ho (eK.refl _ _) (fun _ h=>h.elim) (fun b hb=> .inl (by rw[h3];exact hb)) Bj Yf
      rw[h3]
      exact⟨_,_,_,_,_,_,_,hK,by simp only[Sem.run_bind,bounds (base:=some ⟨g,0,none⟩) ht hc (.inr ⟨g,rfl⟩),Result.andThen_ok];rfl, .inl rfl,s1,s2,s3,by simp[fL]⟩
    ·cases h
   ·cases h
  ·cases h
 ·cases h
theorem G7(hH:aD M φ H w){t:TypeId}{x:V}{xv:Value}{lo hi mx:Option V}{lov hiv mxv:Option Value}(hx:V.den (ay M φ H) φ H w x xv)
 (G5:match lo,lov with|none,none=>True|some v,some u=>V.den (ay M φ H) φ H w v u|_,_=>False) (DJ:match hi,hiv with|none,none=>True|some v,some u=>V.den (ay M φ H) φ H w v u|_,_=>False)
 (JG:match mx,mxv with|none,none=>True|some v,some u=>V.den (ay M φ H) φ H w v u|_,_=>False) (h:dp (rq P H.o t x lo hi mx) K):
 cX M φ H w fr ((do let z <- Instr.sliceAt t xv lov hiv mxv;pure (Next.value z):Sem Next).run P w) K:=by
 unfold rq at h
 split at h
 ·rename_i r hr
  obtain⟨v,Δ,rd⟩:=r
  exact ND hH hx G5 DJ JG hr h
 ·exact DK hH hx G5 DJ JG h
theorem JI(hH:aD M φ H w){ts:Array TypeId}{ty0:TypeId}{x y:V}{xv yv:Value}(hx:V.den (ay M φ H) φ H w x xv)(hy:V.den (ay M φ H) φ H w y yv)(h:dp (xf P H.o ts x y) K):
 cX M φ H w fr ((do let z <- Builtin.copy_ ts ty0 #[xv,yv];pure (Next.value z):Sem Next).run P w) K:=by
 have hg:=dI h
 clear h
 obtain⟨v,Δ,rd,h,hK⟩:=hg
 unfold xf at h
 split at h
 ·rename_i t t' tj
  have tj:ts=#[t,t']:=by apply Array.ext';simpa using tj
  subst tj
  split at h
  ·rename_i e ht
   split at h
   ·rename_i id off n cs es Yg Dm
    obtain⟨rfl,ho⟩:=Bn Yg
    ·split at h
     ·rename_i hc
      obtain⟨c1,c2,c3,c4⟩:=hc
      injection h with h;injection h with e1 e2;injection e2 with e2 e3;subst e1;subst e2;subst e3
      have c3:∀z∈es,z.cells.length=1:=fun z hz=>by simpa using List.all_eq_true.1 c3 z hz
      obtain⟨i,hi⟩:=kj (P:=P) (e:=e) ad
      have eh:(P.info? e).map (·.size)=some 1:=by rw[hi];simp[<- cg hi,c1]
      obtain⟨_,fL,hp⟩:=hx
      obtain⟨b,fb,rfl⟩:=hp e8
      have mT:id∉y.ids:=fun hm=>by have:=List.all_eq_true.1 c4 id hm;simp at this
      obtain⟨f1,f2,f3,f4,f5⟩:=dx hH y.ids (dq y _ hy)
      have wy:=(f4 id mT).trans ho
      have bp:=f1.ok id
      simp only[bc,wy]at bp
      obtain⟨b',dU,ty,g1,g2,g3,g4⟩:=bp
      rw[fb]at g1;simp at g1;subst g1
      have l2:=V.aH _ _ g3
      simp only[Array.length_toList]at l2
      have NF:(dn H.o y.ids).map (·.1)=y.ids:=by rw[l7];simp[Function.comp_def]
      rcases o6 hH hy Dm c3 with⟨rfl,rfl⟩|⟨a,c,evs,rfl,k1,k2,k3,k4⟩
      ·have hr:=run_copy_nil (P:=P) w t t' ty0 e ⟨b,off,none⟩ n n (bE ht) (by rw[eh];rfl)
       have same:H.put (dn H.o y.ids++[(id,ab.row (cs.take off++(([]:List D).take n |>.flatMap D.cells).map .d++cs.drop (off+(([]:List D).take n).length)))])=H.put (dn H.o y.ids):=by
        rw[ey]
        refine uv _ ((f5 id).2 fL) ?_
        rw[wy]
        simp
       refine⟨_,goInt 0,w,φ,_,_,_,hK,by simp only[Sem.run_bind,hr,Result.andThen_ok];rfl, .inl rfl,by rw[same];exact f1,by rw[same];exact f2,by simp[V.den,D.den,goInt],fun j hj=> .inl ?_⟩
       rw[List.map_append,NF]at hj
       simp only[List.map_cons,List.map_nil,List.mem_append,List.mem_singleton]at hj
       rcases hj with hj|rfl
       ·exact dq y _ hy j hj
       ·exact fL
      ·have hlen:evs.length=es.length:=D.aH _ _ k1
       have k1':=D.ba (f2.blocks (M:=M)) _ _ k1
       have Dn:D.aN (ay M φ (H.put (dn H.o y.ids))) w (es.take n) (evs.take n):=D.dW n _ _ k1'
       have NG:∀ev∈evs.take n,ev.cells.size=1:=fun ev dM=>by
        have:=k2 ev (List.mem_of_mem_take dM);omega
       have pL:((evs.take n).flatMap (·.cells.toList)).length=Nat.min es.length n:=by
        rw[dt (sz:=1) _ NG];simp[hlen,Nat.min_comm]
       have pre:∀ (j:Nat) (u:Value),((evs.take n).flatMap (·.cells.toList))[j]? =some u->(evs.flatMap (·.cells.toList))[j]? =some u:=by
        intro j u hj
        have:evs.flatMap (·.cells.toList)=(evs.take n).flatMap (·.cells.toList)++(evs.drop n).flatMap (·.cells.toList):=by rw[<- List.flatMap_append,List.take_append_drop]
        rw[this]
        have cJ:j<((evs.take n).flatMap (·.cells.toList)).length:=by
         rcases Nat.lt_or_ge j ((evs.take n).flatMap (·.cells.toList)).length with cJ|AO
         ·exact cJ
         ·rw[List.getElem?_eq_none AO]at hj;cases hj
        rw[List.getElem?_append_left cJ];exact hj
       have pK:Flat ((evs.take n).flatMap (·.cells.toList)):=by
        intro u hu
        simp only[List.mem_flatMap]at hu
        obtain⟨ev,h1,h2⟩:=hu
        exact k4 u (by simp only[List.mem_flatMap];exact⟨ev,List.mem_of_mem_take h1,h2⟩)
       have hr:=run_copy_row (P:=P) w t t' ty0 e b off n n a es.length c dU ty (List.flatMap (fun x:Value=>x.cells.toList) (evs.take n)) (bE ht) eh g2 pL (fun j u hj=>k3 j u (pre j u hj)) (by rw[pL];have:Nat.min es.length n<=n:=Nat.min_le_right _ _;omega) pK
       have Nz:V.aN (ay M φ (H.put (dn H.o y.ids))) φ (H.put (dn H.o y.ids)) w (((es.take n).flatMap D.cells).map .d) ((evs.take n).flatMap (·.cells.toList)):=by
        have flat:∀ (ds:List D) (us:List Value),D.aN (ay M φ (H.put (dn H.o y.ids))) w ds us->D.aN (ay M φ (H.put (dn H.o y.ids))) w (ds.flatMap D.cells) (us.flatMap (·.cells.toList)):=by
         intro ds
         induction ds with
         |nil=>intro us h;simp[D.aN]at h;subst h;rfl
         |cons d ds ih=>
          intro us h
          obtain⟨u,us,rfl,q1,q2⟩:=h
          simp only[List.flatMap_cons]
          exact D.bI _ _ _ _ (D.fE _ _ q1).1 (ih us q2)
        exact(V.cE _ _).2 (flat _ _ Dn)
       have xq:((evs.take n).flatMap (·.cells.toList)).length=(es.take n).length:=by rw[pL];simp[Nat.min_comm]
       obtain⟨t1,t2⟩:=Ba (cs':=cs.take off++((es.take n).flatMap D.cells).map .d++cs.drop (off+(es.take n).length)) f1 ((f5 id).2 fL) wy fb g2
        (dU.toList.take off++(evs.take n).flatMap (·.cells.toList)++dU.toList.drop (off+((evs.take n).flatMap (·.cells.toList)).length)).toArray (by
        simp only
        rw[xq]
        exact V.bI _ _ _ _ (V.bI _ _ _ _ (V.dW _ _ _ g3) Nz) (V.eR _ _ _ g3)) (by
        intro u hu
        simp only[List.mem_append]at hu
        rcases hu with(hu|hu)|hu
        ·exact g4 u (List.mem_of_mem_take hu)
        ·exact pK u hu
        ·exact g4 u (List.mem_of_mem_drop hu))
       refine⟨_,_,_,φ,_,_,_,hK,by simp only[Sem.run_bind,hr,Result.andThen_ok];rfl, .inl rfl,by rw[ey];exact t1,by rw[ey];exact f2.trans t2, ?_,fun j hj=> .inl ?_⟩
       ·simp only[V.den,D.den,goInt,pL]
       ·rw[List.map_append,NF]at hj
        simp only[List.map_cons,List.map_nil,List.mem_append,List.mem_singleton]at hj
        rcases hj with hj|rfl
        ·exact dq y _ hy j hj
        ·exact fL
     ·cases h
   ·cases h
  ·cases h
 ·cases h
theorem zg{t u:TypeId}{f off:Nat}(h:zd P t f=some (off,u)):∃fs fd,P.underlying t=some (.struct fs)/\fs[f]? =some fd/\fd.offset=off/\fd.type=u:=by
 unfold zd at h
 split at h
 ·rename_i fs hu
  split at h
  ·rename_i fd hf
   injection h with h;injection h with h1 h2
   exact⟨fs,fd,hu,hf,h1,h2⟩
  ·cases h
 ·cases h
theorem xu{t:TypeId}{cs:List V}{off:Nat}{x:V}(h:fi P t cs off=some x){arr:Array Value}(hd:V.aN (ay M φ H) φ H w cs arr.toList)(hf:Flat arr.toList):
 ∃u,(part t arr off).run P w= .ok u w/\V.den (ay M φ H) φ H w x u:=by
 unfold fi at h
 split at h
 ·rename_i ha
  split at h
  ·rename_i hl
   injection h with h;subst h
   obtain⟨i,hi⟩:=rA ha
   refine⟨.agg (arr.extract off (off+P.cellsOf t)), ?_,lF _ _ ?_ ?_⟩
   ·simp only[part,Sem.run_bind,rz ha w,Result.andThen_ok,if_true,dY hi w,Sem.run_pure]
   ·have:=V.dW (P.cellsOf t) _ _ (V.eR off _ _ hd)
    simpa[Array.toList_extract,List.extract]using this
   ·intro u hu
    simp only[Array.toList_extract,List.extract]at hu
    exact hf u (List.mem_of_mem_drop (List.mem_of_mem_take hu))
  ·cases h
 ·rename_i ha
  obtain⟨u,hu,Nu⟩:=V.dV _ _ _ _ hd h
  refine⟨u, ?_,Nu⟩
  have wK:arr[off]? =some u:=by simpa using hu
  simp only[part,Sem.run_bind,oZ ha w,Result.andThen_ok,Bool.false_eq_true,if_false,wK,Sem.run_pure]
 ·cases h
theorem G8(hH:aD M φ H w){t:TypeId}{x:V}{xv:Value}{f:Nat}(hx:V.den (ay M φ H) φ H w x xv)(h:dp ((uo P t x f).map fun v=>(v,[],[])) K):
 cX M φ H w fr ((do let z <- Instr.field t xv f;pure (Next.value z):Sem Next).run P w) K:=by
 have hg:=dI h
 clear h
 obtain⟨v,Δ,rd,h,hK⟩:=hg
 simp only[Option.map_eq_some_iff,Prod.mk.injEq]at h
 have hg:=h
 clear h
 obtain⟨v',h,rfl,rfl,rfl⟩:=hg
 unfold uo at h
 split at h
 ·rename_i off u hf
  obtain⟨fs,fd,hu,hfd,rfl,rfl⟩:=zg hf
  have fin:∀ {arr:Array Value} {val:Value},(part fd.type arr fd.offset).run P w= .ok val w->V.den (ay M φ H) φ H w v' val->cX M φ H w fr ((do let z <- Instr.field t (.agg arr) f;pure (Next.value z):Sem Next).run P w) K:=by
   intro arr val r1 r2
   refine cX.same hH val hK ?_ r2
   simp[Instr.field,run_underlying hu,hfd,asAgg,r1]
  split at h
  ·rename_i cs
   simp only[Option.map_eq_some_iff]at h
   obtain⟨d,h1,rfl⟩:=h
   obtain⟨arr,rfl,g1,g2⟩:=hx
   obtain⟨val,r1,r2⟩:=gX h1 g1 g2
   exact fin (r1 w) r2
  ·rename_i cs
   obtain⟨arr,rfl,g1,g2⟩:=hx
   obtain⟨val,r1,r2⟩:=xu h g1 g2
   exact fin r1 r2
  ·cases h
 ·cases h
theorem G9(s:ByteArray)(n:Nat):s[n]? =s.data.toList[n]? :=by
 rw[getElem?_def]
 split
 ·rename_i h
  have h':n<s.data.toList.length:=by simpa using h
  rw[List.getElem?_eq_getElem h']
  rfl
 ·rename_i h
  have h':s.data.toList.length<=n:=by
   have: ¬n<s.data.size:=h
   simpa using this
  rw[List.getElem?_eq_none h']
theorem Ha(hH:aD M φ H w){t:TypeId}{x i:V}{xv iv:Value}(hx:V.den (ay M φ H) φ H w x xv)(hi:V.den (ay M φ H) φ H w i iv)(h:dp ((uq P t x i).map fun v=>(v,[],[])) K):
 cX M φ H w fr ((do let z <- Instr.index t xv iv;pure (Next.value z):Sem Next).run P w) K:=by
 have hg:=dI h
 clear h
 obtain⟨v,Δ,rd,h,hK⟩:=hg
 simp only[Option.map_eq_some_iff,Prod.mk.injEq]at h
 have hg:=h
 clear h
 obtain⟨v',h,rfl,rfl,rfl⟩:=hg
 unfold uq at h
 split at h
 ·rename_i k i
  simp only[V.den,D.den]at hi
  subst hi
  split at h
  ·rename_i h0
   split at h
   ·rename_i hu
    split at h
    ·rename_i l
     split at h
     ·rename_i b hb
      injection h with h;subst h
      obtain⟨s,rfl,rfl⟩:=hx
      refine cX.same hH (.int .u8 b.toNat) hK ?_ rfl
      have IX:s[i.toNat]? =some b:=by rw[G9];exact hb
      simp[Instr.index,asIntOf,run_underlying hu,h0,IX]
     ·cases h
    ·cases h
   ·rename_i n e hu
    split at h
    ·rename_i hn
     obtain⟨h1,h2⟩:=hn
     obtain⟨ie,hie⟩:=Option.isSome_iff_exists.1 h2
     have hc:0<=i/\i<(n:Int):=⟨h0,h1⟩
     have fin:∀ {arr:Array Value} {val:Value},(part e arr (i.toNat*P.cellsOf e)).run P w= .ok val w->V.den (ay M φ H) φ H w v' val->cX M φ H w fr ((do let z <- Instr.index t (.agg arr) (.int k i);pure (Next.value z):Sem Next).run P w) K:=by
      intro arr val r1 r2
      refine cX.same hH val hK ?_ r2
      simp[Instr.index,asIntOf,run_underlying hu,hc,dY hie,r1]
     split at h
     ·rename_i cs
      simp only[Option.map_eq_some_iff]at h
      obtain⟨d,h1,rfl⟩:=h
      obtain⟨arr,rfl,g1,g2⟩:=hx
      obtain⟨val,r1,r2⟩:=gX h1 g1 g2
      exact fin (r1 w) r2
     ·rename_i cs
      obtain⟨arr,rfl,g1,g2⟩:=hx
      obtain⟨val,r1,r2⟩:=xu h g1 g2
      exact fin r1 r2
     ·cases h
    ·cases h
   ·cases h
  ·cases h
 ·cases h
theorem Bo{t:TypeId}(h:oX P t=true):∃d,P.underlying t=some d/\∀ms,d≠ .interface ms:=by
 unfold oX at h
 split at h
 ·cases h
 ·rename_i d hn hd
  exact⟨d,hd,fun ms e=>hn ms e⟩
 ·cases h
theorem rC{t:TypeId}{z:V}(hz:zeroV P t=some z):∃val,(zeroValue t).run P w= .ok val w/\V.den (ay M φ H) φ H w z val:=by
 unfold zeroV at hz
 split at hz
 ·rename_i i hi
  have hr:∀v,i.zero=some v->(zeroValue t).run P w= .ok v w:=fun v hv=>by simp[zeroValue,typeInfo,hi,hv]
  split at hz
  ·rename_i a hv
   split at hz
   ·rename_i hf
    injection hz with hz;subst hz
    have fm:Flat a.toList:=fun u hu=>List.all_eq_true.1 hf u hu
    exact⟨_,hr _ hv,lF _ _ (dX _ fm) fm⟩
   ·cases hz
  ·rename_i v _ hv
   split at hz
   ·rename_i h1
    injection hz with hz;subst hz
    exact⟨_,hr _ hv,l4 _ h1⟩
   ·cases hz
  ·cases hz
 ·cases hz
theorem DL(hH:aD M φ H w){t xt:TypeId}{ok:Bool}{x:V}{xv:Value}(hx:V.den (ay M φ H) φ H w x xv)(h:dp ((pT P t ok x).map fun v=>(v,[],[])) K):
 cX M φ H w fr ((do let z <- Instr.typeAssert xv xt t ok;pure (Next.value z):Sem Next).run P w) K:=by
 have hg:=dI h
 clear h
 obtain⟨v,Δ,rd,h,hK⟩:=hg
 simp only[Option.map_eq_some_iff,Prod.mk.injEq]at h
 have hg:=h
 clear h
 obtain⟨v',h,rfl,rfl,rfl⟩:=hg
 unfold pT at h
 split at h
 ·rename_i hp
  obtain⟨d,hd,mT⟩:=Bo hp
  split at h
  ·rename_i u y
   obtain⟨val,rfl,hdy⟩:=hx
   split at h
   ·rename_i e
    subst e
    injection h with h
    have hr:(Instr.typeAssert (.iface u val) xt u ok).run P w= .ok (if ok=true then .tuple #[val, .bool true]else val) w:=by
     cases d<;>first|exact absurd rfl (mT _)|(cases ok<;>simp[Instr.typeAssert,run_underlying hd])
    refine cX.same hH _ hK M4 ?_
    subst h
    cases ok
    ·exact hdy
    ·exact⟨_,rfl,val,[.bool true],rfl,hdy, .bool true,[],rfl,rfl,rfl⟩
   ·rename_i iJ
    split at h
    ·rename_i bp
     simp only[Option.map_eq_some_iff]at h
     obtain⟨z,hz,rfl⟩:=h
     obtain⟨zv,r1,r2⟩:=rC (w:=w) (M:=M) (φ:=φ) (H:=H) hz
     have hr:(Instr.typeAssert (.iface u val) xt t ok).run P w= .ok (.tuple #[zv, .bool false]) w:=by
      cases d<;>first|exact absurd rfl (mT _)|simp[Instr.typeAssert,run_underlying hd,iJ,bp,r1]
     exact cX.same hH _ hK M4 ⟨_,rfl,zv,[.bool false],rfl,r2, .bool false,[],rfl,rfl,rfl⟩
    ·cases h
  ·simp only[V.den,D.den]at hx
   subst hx
   split at h
   ·rename_i bp
    simp only[Option.map_eq_some_iff]at h
    obtain⟨z,hz,rfl⟩:=h
    obtain⟨zv,r1,r2⟩:=rC (w:=w) (M:=M) (φ:=φ) (H:=H) hz
    have hr:(Instr.typeAssert .nilIface xt t ok).run P w= .ok (.tuple #[zv, .bool false]) w:=by
     cases d<;>first|exact absurd rfl (mT _)|simp[Instr.typeAssert,run_underlying hd,bp,r1]
    exact cX.same hH _ hK M4 ⟨_,rfl,zv,[.bool false],rfl,r2, .bool false,[],rfl,rfl,rfl⟩
   ·cases h
  ·cases h
 ·cases h
end
end Go.Proofs.YtonbelhklnmjnaaGreat
