/-
  A PART OF THE PROOF. Conditions: none.
-/
import Derived.ChangeKeysEq
import Derived.Laws.CopyRow
import Derived.Test.YtonbelhklnmjnaaGreatLa2
set_option linter.unusedSimpArgs false
set_option linter.unusedVariables false
namespace Go.Proofs.YtonbelhklnmjnaaGreat
section
variable {P:Program}{M:Nat->Prop}{φ:Place}{H:Hp}{w w':World}{fr:Nat}{K:V->List (Nat×ae)->List Nat->Prop}
theorem qF{base:Nat}{e:TypeId}{sz n:Nat}{v:Value}{xs:List Value}(h:w.ownsRow base e sz v n xs):w.ownsRow 0 e sz v n xs:=by
 obtain⟨h1,h2⟩:=h
 refine⟨h1, ?_⟩
 rcases h2 with h2|⟨g,cap,cur,a,_,b⟩
 ·exact .inl h2
 ·exact .inr ⟨g,cap,cur,a,Nat.zero_le _,b⟩
theorem kX{base:Nat}{e:TypeId}{sz n:Nat}{v:Value}{xs:List Value}(h:w.ownsRow base e sz v n xs)(b:Nat)(hb:eT v=some b):base<=b/\b<w.heap.size:=by
 rcases h.2 with⟨rfl,_⟩|⟨g,cap,cur,rfl,h1,h2,_⟩
 ·cases hb
 ·simp[eT]at hb;subst hb
  exact⟨h1,(Array.getElem?_eq_some_iff.1 h2).1⟩
theorem gM.mono {B B':Nat->Prop}(hb:∀b,dG w b-> ¬B b->w'.heap[b]? =w.heap[b]? /\ ¬B' b){sz:Nat}{es:List D}{xs:List Value}(h:gM B w sz es xs):gM B' w' sz es xs:=by
 obtain⟨evs,h1,h2,h3⟩:=h
 exact⟨evs,h1,h2,D.bg hb es evs h3⟩
theorem FZ(hH:aF M φ H w)(dh: ¬H.us fr)(hk:eO (fun _=>False) w w'){val:Value}{ty:TypeId}{sz:Nat}{es:List D}{xs:List Value}(ed:0<sz)
 (eF:w'.ownsRow w.heap.size ty sz val es.length xs) (hd:gM (az M φ H) w sz es xs):
 let aS:=aK φ fr val;let H':=H.put [(fr, .arr 0 ty sz es)]
 aF M aS H' w'/\Trans φ H w aS H' w'/\V.den (az M aS H') aS H' w' (.osl fr 0) val:=by
 intro aS H'
 have ht:Trans φ H w aS H' w':=eV hk dh _ _ fun b hb=>(kX eF b hb).1
 refine⟨jw hH hk dh _ _ (kX eF) ?_,ht, ?_,by simp[H'],fun e he=> ?_⟩
 ·unfold bn
  simp only[bX,aW,if_true]
  exact⟨ed,xs,qF eF,hd.mono (ht.blocks (M:=M))⟩
 ·rcases eF.2 with⟨rfl,_⟩|⟨g,cap,cur,rfl,_⟩<;>rfl
 ·simp[H',ae.cH]at he
  subst he
  exact⟨Nat.le_refl _,fun _=>by simp[aS]⟩
theorem fw(hH:aF M φ H w)(dh: ¬H.us fr)(hk:eO (fun _=>False) w w'){s:Sem Value}{val:Value}{ty:TypeId}{sz:Nat}{es:List D}{xs:List Value}{rd:List Nat}(ed:0<sz)
 (hK:K (.osl fr 0) [(fr, .arr 0 ty sz es)] rd) (hr:s.run P w= .ok val w') (eF:w'.ownsRow w.heap.size ty sz val es.length xs) (hd:gM (az M φ H) w sz es xs):
 dc M φ H w fr ((do let y <- s;pure (Next.value y):Sem Next).run P w) K:=by
 obtain⟨h1,h2,h3⟩:=FZ hH dh hk ed eF hd
 exact⟨_,_,_,_,_,_,_,hK,by simp[hr], .inl rfl,h1,h2,h3,au⟩
theorem ky{e:TypeId}(h:0<P.cellsOf e):∃i,P.info? e=some i:=by
 cases hi:P.info? e with
 |none=>simp[Program.cellsOf,hi]at h
 |some i=>exact⟨i,rfl⟩
theorem B3(parts:List (Nat×Value))(n:Nat)(h:parts.map (·.1)=List.range n):parts=((parts.map (·.2)).zipIdx 0).map fun x=>(x.2,x.1):=by
 apply List.ext_getElem?
 intro i
 have hl:parts.length=n:=by have:=congrArg List.length h;simpa using this
 rw[List.getElem?_map,List.getElem?_zipIdx,List.getElem?_map]
 cases hp:parts[i]? with
 |none=>simp
 |some p=>
  have h1:(parts.map (·.1))[i]? =some p.1:=by simp[hp]
  rw[h,List.getElem?_range (by have:=(List.getElem?_eq_some_iff.1 hp).1;omega)]at h1
  simp at h1
  obtain⟨p1,p2⟩:=p
  simp_all
theorem tY{t e:TypeId}(ht:P.underlying t=some (.slice e))(gu:0<P.cellsOf e):(Instr.buildSlice t 0 #[]).run P w= .ok (.slice (some ⟨w.heap.size,0,none⟩) 0 0) (w.alloc (.cells #[] e)):=by
 obtain⟨i,hi⟩:=ky gu
 have h1:(underlying t).run P w= .ok (.slice e) w:=by simp[Go.underlying,ht]
 have h2:(sizeOf e).run P w= .ok i.size w:=by simp[Go.sizeOf,Go.typeInfo,hi]
 simp[Instr.buildSlice,h1,h2,Instr.fill,newRow]
 congr 2
 exact Array.eq_empty_of_size_eq_zero au
theorem va(hH:aF M φ H w)(dh: ¬H.us fr){t:TypeId}{len:Nat}{parts:Array (Nat×Operand)}{s:S}{a:Act}(eP:∀i,V.den (az M φ H) φ H w (s.env i) (a.tmps.getD i undef))
 (h:jv P H.o fr t len (parts.toList.map fun p=>(p.1,s.ev p.2)) K):
 dc M φ H w fr ((do let y <- Instr.buildSlice t len (parts.map fun(i,x)=>(i,a.eval x));pure (Next.value y):Sem Next).run P w) K:=by
 unfold jv at h
 split at h
 ·rename_i e ht
  rcases h with⟨rfl,X6,gu,hK⟩|⟨fW,hz,hlen,gu,hsm,ds,fk,hw,hK⟩
  ·have F0:parts=#[]:=by
    have:=congrArg List.length X6
    simp at this
    exact this
   subst F0
   have eF:=World.ownsRow_lit (base:=w.heap.size) (e:=e) (size:=P.cellsOf e) w #[] 0 (Nat.le_refl _) (Nat.zero_le _) au
   exact fw hH dh (c0 w _) gu hK (by simpa using tY (w:=w) (bN ht) gu) eF ⟨[],rfl,au,rfl⟩
  obtain⟨z,hz⟩:=Option.isSome_iff_exists.1 hz
  obtain⟨ie,zv,h1,h2,h3,h4,_⟩:=kx hz
  have hd:V.aP (az M φ H) φ H w ((parts.toList.map fun p=>(p.1,s.ev p.2)).map (·.2)) ((parts.map fun(i,x)=>(i,a.eval x)).toList.map (·.2)):=by
   have:=kW s a eP (parts.toList.map (·.2))
   simpa[Function.comp_def]using this
  have Km:(parts.map fun(i,x)=>(i,a.eval x)).toList.map (·.1)=List.range len:=by
   rw[<- fW];simp[Function.comp_def]
  generalize hvp:(parts.map fun(i,x)=>(i,a.eval x)).toList=vp at hd Km
  generalize vc:(parts.toList.map fun p=>(p.1,s.ev p.2)).map (·.2)=sp at hd fk hK
  obtain⟨f1,f2,f3,f4,f5⟩:=dH hH (V.bO sp) (dw sp _ hd)
  have hd1:=V.bg f2 _ _ hd
  have x7:=dN f1 sp ds _ f3 fk hd1
  have ed:∀v∈vp.map (·.2),v.cells.size=P.cellsOf e:=by
   intro v hv
   obtain⟨i,hi⟩:=List.mem_iff_getElem?.1 hv
   have hl:=D.aM _ _ x7
   have db:i<ds.length:=by rw[<- hl];exact(List.getElem?_eq_some_iff.1 hi).1
   obtain⟨v',tZ,Oy⟩:=D.dY _ _ i ds[i] x7 (by simp[db])
   rw[hi]at tZ;injection tZ with tZ;subst tZ
   have:=D.aM _ _ (D.fL _ _ Oy).1
   rw[hw _ (List.getElem_mem db)]at this
   simpa using this
  have Oz:vp.length=len:=by have:=congrArg List.length Km;simpa using this
  have Zg:Instr.fill (fun i=>some (i*ie.size,ie.size)) ((Array.range (len*ie.size)).map (zv.cells[· %zv.cells.size]!)) vp=some ((vp.map (·.2)).flatMap fun v=>v.cells.toList).toArray:=by
   rw[<- cn h1]
   have:=Great.fill_whole gu (vp.map (·.2)) ((Array.range (len*P.cellsOf e)).map (zv.cells[· %zv.cells.size]!)) ed (by simp[Oz])
   rwa [<- B3 vp len Km]at this
  have fM:=run_buildSlice (P:=P) w t e len (parts.map fun(i,x)=>(i,a.eval x)) _ ie zv (bN ht) h1 h2 (by rw[<- cn h1];omega) (by rw[<- cn h1];have:=Nat.mul_pos hlen gu;omega) (by rw[hvp];exact Zg)
  have hdl:=D.aM _ _ x7
  have eF:=World.ownsRow_lit (base:=w.heap.size) (e:=e) (size:=P.cellsOf e) w ((vp.map (·.2)).flatMap fun v=>v.cells.toList).toArray len (Nat.le_refl _) (by have:=Nat.le_mul_of_pos_right len gu;simp[maxLen];omega) (by
   have:∀l:List Value,(∀v∈l,v.cells.size=P.cellsOf e)->(l.flatMap fun v=>v.cells.toList).length=l.length*P.cellsOf e:=by
    intro l
    induction l with
    |nil=>simp
    |cons x l ih=>intro hx;simp[hx x (by simp),ih (fun v hv=>hx v (by simp[hv])),Nat.add_mul,Nat.add_comm]
   have:=this (vp.map (·.2)) ed
   simpa[Oz]using this)
  have x8:len=ds.length:=by rw[<- hdl];simp[Oz]
  obtain⟨g1,g2,g3⟩:=FZ (ty:=e) (sz:=P.cellsOf e) (es:=ds) f1 (fr:=fr) (fun hu=>dh ((f5 fr).1 hu)) (c0 w _) gu (by rw[<- x8];exact eF) ⟨vp.map (·.2),au,ed,x7⟩
  rw[<- eD]at g1 g2 g3
  refine⟨_,_,_,_,_,_,_,hK,by simp only[Sem.run_bind,fM,Result.andThen_ok];rfl, .inl rfl,g1,f2.trans g2,g3,fun id aC=> ?_⟩
  simp only[List.map_append,List.mem_append,List.map_cons,List.map_nil,List.mem_singleton]at aC
  rcases aC with aC|aC
  ·left
   refine dw sp _ hd id ?_
   rw[mm]at aC
   simpa[Function.comp_def]using aC
  ·exact .inr aC
 ·exact h.elim
theorem nz:∀ (vs:List Value),V.bO (vs.map V.dM)=[]
 |[]=>rfl
 |v::vs=>by
  have h:(V.dM v).ids=[]:=by cases v<;>simp only[V.dM,V.ids]<;>split<;>rfl
  simp[V.bO,h,nz vs]
theorem x9(hH:aF M φ H w){e:TypeId}{x:D}(h:BP P e=some x):∃i z ev,P.info? e=some i/\i.zero=some z/\z.cells.size=i.size/\Flat z.cells.toList/\ev.cells=z.cells/\D.den (az M φ H) w x ev:=by
 unfold BP at h
 split at h
 ·rename_i zs hz
  obtain⟨i,z,h1,h2,h3,h4,rfl⟩:=kx hz
  have key:∀ds,cE (fun _=> .no) (z.cells.toList.map V.dM)=some ds->D.aP (az M φ H) w ds z.cells.toList:=fun ds fk=>
   dN hH _ _ _ (by rw[nz];simp) fk (ec _ h4)
  split at h
  ·rename_i ds fk Es
   injection h with h;subst h
   exact⟨i,z, .agg z.cells,h1,h2,h3,h4,rfl,z.cells,rfl,key ds fk,h4⟩
  ·rename_i y fk Es
   injection h with h;subst h
   obtain⟨u,us,h5,h6,h7⟩:=key _ fk
   simp only[D.aP]at h7;subst h7
   have Ou:=h4 u (by rw[h5];simp)
   have hu:u.cells=#[u]:=by cases u<;>simp_all[Value.oneCell',Value.cells]
   refine⟨i,z,u,h1,h2,h3,h4, ?_,h6⟩
   rw[hu];apply Array.ext';simpa using h5.symm
  ·cases h
 ·cases h
theorem nA(z:Value)(n:Nat):(madeCells z.cells (n*z.cells.size)).toList=(List.replicate n z).flatMap (·.cells.toList):=by
 apply List.ext_getElem?
 intro i
 by_cases h0:z.cells.size=0
 ·have:z.cells.toList=[]:=by simpa using h0
  simp[madeCells,h0]
 ·have gu:0<z.cells.size:=ad
  by_cases hi:i<n*z.cells.size
  ·have hd:i/z.cells.size<n:=Nat.div_lt_of_lt_mul (by rwa [Nat.mul_comm]at hi)
   have hm:=Nat.mod_lt i gu
   have:=ny z.cells.size (List.replicate n z) (i/z.cells.size) (i%z.cells.size) z z.cells[i%z.cells.size] (fun x hx=>by rw[(List.mem_replicate.1 hx).2]) (by simp[hd]) (by simp[hm])
   rw[Nat.mul_comm,Nat.div_add_mod]at this
   rw[this]
   simp[madeCells,List.getElem?_range hi,hm]
  ·have h1:(madeCells z.cells (n*z.cells.size)).toList.length=n*z.cells.size:=by simp[madeCells]
   have h2:((List.replicate n z).flatMap (·.cells.toList)).length=n*z.cells.size:=by simp[List.flatMap_replicate]
   rw[List.getElem?_eq_none (by omega),List.getElem?_eq_none (by omega)]
theorem xD(hH:aF M φ H w)(dh: ¬H.us fr){t:TypeId}{l c:V}{lv cv:Value}(hl:V.den (az M φ H) φ H w l lv)(hc:V.den (az M φ H) φ H w c cv)
 (h:kp P fr t l c fun v Δ=>K v Δ []):dc M φ H w fr ((do let y <- Instr.makeSlice t lv cv;pure (Next.value y):Sem Next).run P w) K:=by
 unfold kp at h
 split at h
 ·rename_i e kl n kc m ht
  obtain⟨rfl,h0,gu,hb,hn,x,hx,hK⟩:=h
  simp only[V.den,D.den]at hl hc;subst hl;subst hc
  obtain⟨i,z,ev,h1,h2,h3,h4,h5,h6⟩:=x9 hH hx
  obtain⟨k,rfl⟩:=Int.eq_ofNat_of_zero_le h0
  simp only[Int.toNat_natCast]at hb hn hK
  rw[ml h1]at hb
  obtain⟨w',r1,r2,r3⟩:=run_make_full (P:=P) w w.heap.size t e i z (P.cellsOf e) (bN ht) h1 h2 (cn h1).symm kl kc k ad (by simp[maxLen];omega) (Nat.le_refl _)
  refine fw hH dh (mj r3) gu hK r1 Oi ⟨List.replicate k ev, ?_, ?_, ?_⟩
  ·rw[cn h1, <- h3,nA]
   simp[List.flatMap_replicate,h5]
  ·intro v hv
   rw[(List.mem_replicate.1 hv).2,h5,h3,cn h1]
  ·clear r1 r2 hK hb hn
   induction k with
   |zero=>rfl
   |succ k ih=>exact⟨ev,List.replicate k ev,rfl,h6,ih ad⟩
 ·exact h.elim
theorem ua(w:World)(t u ty e:TypeId)(i:TypeInfo)(z:Value)(ht:P.underlying t=some (.slice e)){k0:IntKind}(hu:P.underlying u=some (.int k0))(hi:P.info? e=some i)(hz:i.zero=some z)(gu:0<i.size)
 (k:IntKind) (n:Nat) (h0:0<n) (h63:n<=1099511627776) (h48:n*i.bytes<=1099511627776):
 (Builtin.append_ #[t,u] ty #[.slice none 0 0, .int k n]).run P w=
  .ok (.slice (some ⟨w.heap.size,0,none⟩) n (grownCap w n 0 e)) (w.drew.alloc (.cells (Builtin.zeroCells z.cells n++Builtin.zeroCells z.cells (grownCap w n 0 e - n)) e)):=by
 have hn:n≠0:=ad
 have ND: ¬ (n*i.size=0):=by
  intro h
  rcases Nat.mul_eq_zero.1 h with h|h<;>omega
 have hwr:IntKind.i64.wrap (n:Int)=n:=by
  unfold IntKind.wrap
  have e1:((2:Int)^IntKind.i64.bits)=18446744073709551616:=aT
  have e2:((2:Int)^(IntKind.i64.bits - 1))=9223372036854775808:=aT
  have e3:IntKind.i64.signed=true:=rfl
  simp only[e1,e2,e3]
  have h1:(n:Int)%18446744073709551616=n:=Int.emod_eq_of_lt ad ad
  rw[h1]
  split<;>simp_all<;>omega
 have adH: ¬ (9223372036854775807<(n:Int)):=ad
 have Un: ¬ (281474976710656<(n:Int)*(i.bytes:Int)):=by
  have h5:((n*i.bytes:Nat):Int)<=(1099511627776:Nat):=Int.ofNat_le.2 h48
  rw[Int.natCast_mul]at h5;omega
 have adI: ¬ (281474976710656<Builtin.nextslicecap n 0*i.bytes):=by rw[nextslicecap_zero h0];omega
 simp[Builtin.append_,run_underlying ht,run_underlying hu,sizeOf,typeInfo,zeroValue,hi,hz,Builtin.lenOf,hn,ND,hwr,adH,adI,Un,Question.forced,run_firstCells_none,newRow,grownCap,asInt,asIntOf]
 intro h;omega
theorem Kn(hH:aF M φ H w)(dh: ¬H.us fr){ts:Array TypeId}{ty0:TypeId}{x y:V}{xv yv:Value}(hx:V.den (az M φ H) φ H w x xv)(hy:V.den (az M φ H) φ H w y yv)
 (h:dA (xZ P fr ts x y) K):dc M φ H w fr ((do let z <- Builtin.append_ ts ty0 #[xv,yv];pure (Next.value z):Sem Next).run P w) K:=by
 unfold xZ at h
 split at h
 ·rename_i t t' rS
  have rS:ts=#[t,t']:=by apply Array.ext';simpa using rS
  subst rS
  split at h
  ·exact h.elim
  ·split at h
   ·rename_i e ht
    split at h
    ·rename_i k0 kk n hu
     split at h
     ·rename_i hc
      obtain⟨c1,c2,c3,c4⟩:=hc
      split at h
      ·rename_i x0 sr
       simp only[V.den,D.den]at hx hy;subst hx;subst hy
       obtain⟨i,z,ev,h1,h2,h3,h4,h5,h6⟩:=x9 hH sr
       obtain⟨k,rfl⟩:=Int.eq_ofNat_of_zero_le (Int.le_of_lt c1)
       simp only[Int.toNat_natCast]at c3 c4 h
       have xE:P.underlying t'=some (.int k0):=by
        unfold zZ at hu
        split at hu
        ·rename_i k1 hk;injection hu with hu;subst hu;exact hk
        ·cases hu
       have hr:=ua (P:=P) w t t' ty0 e i z (bN ht) xE h1 h2 (by rw[<- cn h1];exact c2) kk k ad ad (by rw[<- ml h1];omega)
       have Bv:=grownCap_ge w k 0 e
       have ed:z.cells.size=P.cellsOf e:=by rw[cn h1, <- h3]
       have Ko:(Builtin.zeroCells z.cells k).toList=(List.replicate k ev).flatMap (·.cells.toList):=by
        have e1:(Builtin.zeroCells z.cells k).toList=(madeCells z.cells (k*z.cells.size)).toList:=by simp[Builtin.zeroCells,madeCells]
        rw[e1,nA]
        simp[List.flatMap_replicate,h5]
       refine fw hH dh (w':=w.drew.alloc (.cells (Builtin.zeroCells z.cells k++Builtin.zeroCells z.cells (grownCap w k 0 e - k)) e)) (xs:=(List.replicate k ev).flatMap (·.cells.toList)) ⟨rfl,rfl,rfl,au,fun j hj _=>RowKit.Below.heap_alloc w.drew _ j hj⟩ c2 h hr ?_ ⟨List.replicate k ev,rfl, ?_, ?_⟩
       ·refine⟨?_, .inr ⟨w.heap.size,_,_,by rw[List.length_replicate],Nat.le_refl _,heap_alloc_new w.drew _,by rw[List.length_replicate];exact Bv,grownCap_le_maxLen w k 0 e (by simp[maxLen];omega), ?_, ?_⟩⟩
        ·rw[<- Ko,Array.length_toList,size_zeroCells,ed,List.length_replicate]
        ·rw[Array.size_append,size_zeroCells,size_zeroCells,ed, <- Nat.add_mul];congr 1;omega
        ·rw[Array.toList_append, <- Ko,List.take_append_of_le_length (by simp[size_zeroCells,ed]),List.take_of_length_le (by simp[size_zeroCells,ed])]
       ·intro v hv
        rw[(List.mem_replicate.1 hv).2,h5,ed]
       ·clear hr h c1 c3 c4 Bv Ko
        induction k with
        |zero=>rfl
        |succ k ih=>exact⟨ev,List.replicate k ev,rfl,h6,ih⟩
      ·exact h.elim
     ·exact h.elim
    ·exact h.elim
   ·exact h.elim
 ·exact h.elim
theorem pG(hH:aF M φ H w){y:V}{yv:Value}{new:List D}{sz:Nat}(hy:V.den (az M φ H) φ H w y yv)(h:ft H.o y=some new)(hw:∀z∈new,z.cells.length=sz):
 (yv= .slice none 0 0/\new=[])\/∃a c evs,yv= .slice (some a) new.length c/\D.aP (az M φ H) w new evs/\(∀ev∈evs,ev.cells.size=sz)/\
  (∀j u,(evs.flatMap (·.cells.toList))[j]? =some u->w.cell? (a.add j)=some u)/\Flat (evs.flatMap (·.cells.toList)):=by
 have QQ:∀ {evs:List Value},D.aP (az M φ H) w new evs->(∀ev∈evs,ev.cells.size=sz)/\Flat (evs.flatMap (·.cells.toList)):=by
  intro evs hd
  have key:∀ev∈evs,ev.cells.size=sz/\Flat ev.cells.toList:=by
   intro ev dR
   obtain⟨i,hi⟩:=List.mem_iff_getElem?.1 dR
   have hl:=D.aM _ _ hd
   have db:i<new.length:=by rw[<- hl];exact(List.getElem?_eq_some_iff.1 hi).1
   obtain⟨v',tZ,Oy⟩:=D.dY _ _ i new[i] hd (by simp[db])
   rw[hi]at tZ;injection tZ with tZ;subst tZ
   have h1:=D.fL _ _ Oy
   have h2:=D.aM _ _ h1.1
   rw[hw _ (List.getElem_mem db)]at h2
   exact⟨by simpa using h2,h1.2⟩
  refine⟨fun ev dR=>(key ev dR).1,fun u hu=> ?_⟩
  obtain⟨ev,h1,h2⟩:=List.mem_flatMap.1 hu
  exact(key ev h1).2 u h2
 have F1:D.den (az M φ H) w (.sl new) yv->(yv= .slice none 0 0/\new=[])\/∃a c evs,yv= .slice (some a) new.length c/\D.aP (az M φ H) w new evs/\(∀ev∈evs,ev.cells.size=sz)/\
  (∀j u,(evs.flatMap (·.cells.toList))[j]? =some u->w.cell? (a.add j)=some u)/\Flat (evs.flatMap (·.cells.toList)):=by
  rintro⟨base,len,cap,rfl,rfl,h2,h3,rQ,h4⟩
  cases base with
  |none=>
   left
   have h5:=h3 rfl;subst h5
   have:new=[]:=by simpa using h2
   subst this;exact⟨rfl,rfl⟩
  |some a=>
   right
   obtain⟨h5,h6⟩:=h4 a rfl
   by_cases hc0:cap=0
   ·have:new=[]:=List.eq_nil_of_length_eq_zero ad
    subst this
    exact⟨a,cap,[],rfl,rfl,au,au,by simp[Flat]⟩
   replace h5:=h5 hc0
   have key:∀ (es:List D) (i:Nat),(∀z∈es,z.cells.length=sz)->D.elems (az M φ H) w rQ a i es->
    ∃evs,D.aP (az M φ H) w es evs/\∀j u,(evs.flatMap (·.cells.toList))[j]? =some u->w.cell? (a.add (i*sz+j))=some u:=by
    intro es
    induction es with
    |nil=>intro i _ _;exact⟨[],rfl,au⟩
    |cons e es ih=>
     intro i hz h
     obtain⟨⟨ev,k1,k2,k3⟩,k4⟩:=h
     obtain⟨evs,g1,g2⟩:=ih (i+1) (fun z hz'=>hz z (by simp[hz'])) k4
     have k5:ev.cells.size=sz:=by
      have:=D.aM _ _ (D.fL _ _ k3).1
      rw[hz e (by simp)]at this
      simpa using this
     refine⟨ev::evs,⟨ev,evs,rfl,k3,g1⟩,fun j u hj=> ?_⟩
     rw[List.flatMap_cons]at hj
     by_cases db:j<sz
     ·rw[List.getElem?_append_left (by simp;omega)]at hj
      have:=(k2 j u ly).1
      rw[add_add a h5]at this
      rwa [<- k1,k5]at this
     ·rw[List.getElem?_append_right (by simp;omega)]at hj
      have:=g2 (j - sz) u (by simpa[k5]using hj)
      rwa [show(i+1)*sz+(j - sz)=i*sz+j by rw[Nat.add_mul];omega]at this
   obtain⟨evs,g1,g2⟩:=key new 0 hw h6
   obtain⟨s1,s2⟩:=QQ g1
   exact⟨a,cap,evs,rfl,g1,s1,fun j u hj=>by simpa using g2 j u hj,s2⟩
 unfold ft at h
 split at h
 ·rename_i es hD
  injection h with h;subst h
  cases y with
  |d x=>simp only[eu,Option.some.injEq]at hD;subst hD;exact F1 hy
  |bT=>simp only[eu,Option.some.injEq,D.sl.injEq]at hD;subst hD;exact .inl ⟨hy,rfl⟩
  |osl id ep=>
   obtain⟨_,_,xy⟩:=hy
   have bA:=hH.ok id
   simp only[eu]at hD
   cases hx:H.o id with
   |no=>simp[hx]at hD
   |row cs=>simp[hx]at hD
   |map kt vt l=>simp[hx]at hD
   |loop nf n env ps iZ eN st HJ=>simp[hx]at hD
   |iY l=>simp[hx]at hD
   |nq l last=>simp[hx]at hD
   |zX s pos=>simp[hx]at hD
   |arr ju ty rQ es'=>
    simp only[hx]at hD
    split at hD
    ·rename_i e;subst e
     simp only[Option.some.injEq,D.sl.injEq]at hD;subst hD
     simp only[bn,hx]at bA
     have hv:=(xy ep BG).2 rfl
     obtain⟨h0,xs,⟨hl,ck⟩,evs,rfl,h2,h3⟩:=bA
     obtain⟨s1,s2⟩:=QQ h3
     rw[hv]
     rcases ck with⟨h4,h5⟩|⟨g,cap,cur,h4,_,h5,h6,h7,h8,h9⟩
     ·exact .inl ⟨h4,by simpa using h5⟩
     ·right
      refine⟨_,cap,evs,h4,h3,s1,fun j u hj=> ?_,s2⟩
      refine qD h5 j u ?_
      rw[<- h9,List.getElem?_take]at hj
      split at hj
      ·simpa using hj
      ·cases hj
    ·cases hD
   |tc ju es'=>
    simp only[hx]at hD
    split at hD
    ·rename_i e;subst e
     simp only[Option.some.injEq,D.sl.injEq]at hD;subst hD
     simp only[bn,hx]at bA
     have hv:=(xy ep BG).2 rfl
     rw[hv]at F1|-
     exact F1 bA
    ·cases hD
  |agg cs=>simp[eu]at hD
  |iface t x=>simp[eu]at hD
  |rP es'=>simp only[eu,Option.some.injEq,D.sl.injEq]at hD;subst hD;exact F1 hy.1
  |mp id=>simp only[eu]at hD;split at hD<;>simp at hD
  |_=>simp[eu]at hD
 ·cases h
theorem ve(hH:aF M φ H w){id ep:Nat}(fQ:H.us id){ty:TypeId}{sz:Nat}{es es':List D}(ho:H.o id= .arr ep ty sz es){val:Value}{xs':List Value}{m:Nat->Prop}(hk:eO m w w')
 (hm:∀b,m b->eT (φ id)=some b) (fV:∀b,eT val=some b->eT (φ id)=some b\/w.heap.size<=b) (eF:w'.ownsRow 0 ty sz val es'.length xs') (hd:gM (az M φ H) w sz es' xs'):
 let aS:=aK φ id val;let H':=H.put [(id, .arr (ep+1) ty sz es')]
 aF M aS H' w'/\Trans φ H w aS H' w'/\V.den (az M aS H') aS H' w' (.osl id (ep+1)) val:=by
 intro aS H'
 have hl:(H.o id).live=true:=by rw[ho];rfl
 have ht:Trans φ H w aS H' w':={
  cJ:=⟨hk.os,hk.tape,hk.output,hk.size,fun k h X7=>hk.block k h (fun e=>X7 ⟨id,hl,hm k e⟩)⟩
  grow:=by
   rintro b ⟨j,h1,h2⟩
   by_cases hj:j=id
   ·subst hj
    simp only[aS,aW,if_true]at h2
    rcases fV b h2 with h3|h3
    ·exact .inl ⟨j,hl,h3⟩
    ·exact .inr h3
   ·simp[H',aS,hj]at h1 h2;exact .inl ⟨j,h1,h2⟩
  rel:={
   us:=fun j h=>by simp[H',h]
   row:=fun j hu hr=>by
    by_cases hj:j=id
    ·subst hj;simp[H',ae.cK]at hr
    ·simp[H',aS,hj]at hr|-;exact hr
   ep:=fun j e' hu he=>by
    by_cases hj:j=id
    ·subst hj;simp[H',ae.cH]at he;subst he;exact⟨ep,by rw[ho];rfl,Nat.le_succ _,fun h=>ad⟩
    ·simp[H',aS,hj]at he|-;exact⟨e',he,Nat.le_refl _⟩}}
 have h0:=hH.ok id
 simp only[bn,ho]at h0
 refine⟨hH.of ht (· =id) (fun j h=> ?_) (fun j h=> ?_) (fun j h=> ?_) (fun i j b hi hj bi bj=> ?_) (fun b=> ?_),ht, ?_,by simp[H'],fun e he=> ?_⟩
 ·subst h
  unfold bn
  simp only[H',bX,aW,if_true]
  exact⟨h0.1,xs',by simpa[aS]using eF,hd.mono (ht.blocks (M:=M))⟩
 ·refine⟨by simp[H',h],by simp[aS,h],fun hlj b hb=>hk.block b (hH.ours b ⟨j,hlj,hb⟩).2 fun e=>h ?_⟩
  exact hH.apart j id b hlj hl hb (hm b e)
 ·rw[eE]at h
  have h1:j≠id:=fun e=>h (.inr e)
  simp only[H',bX,aW,h1,if_false]
  exact hH.fresh j fun hu=>h (.inl hu)
 ·by_cases e1:i=id<;>by_cases e2:j=id
  ·exact e1.trans e2.symm
  ·subst e1
   simp[H',aS,e2]at hj bj bi
   rcases fV b bi with h3|h3
   ·exact hH.apart i j b hl hj h3 bj
   ·have:=(hH.ours b ⟨j,hj,bj⟩).2;omega
  ·subst e2
   simp[H',aS,e1]at hi bi bj
   rcases fV b bj with h3|h3
   ·exact hH.apart i j b hi hl bi h3
   ·have:=(hH.ours b ⟨i,hi,bi⟩).2;omega
  ·simp[H',aS,e1,e2]at hi hj bi bj
   exact hH.apart i j b hi hj bi bj
 ·rintro⟨j,h1,h2⟩
  by_cases hj:j=id
  ·subst hj;simp only[aS,aW,if_true]at h2;exact(kX eF b h2).2
  ·simp[H',aS,hj]at h1 h2
   exact Nat.lt_of_lt_of_le (hH.ours b ⟨j,h1,h2⟩).2 hk.size
 ·rcases eF.2 with⟨rfl,_⟩|⟨g,cap,cur,rfl,_⟩<;>rfl
 ·simp[H',ae.cH]at he
  subst he
  exact⟨Nat.le_refl _,fun _=>by simp[aS]⟩
theorem gM.append {B:Nat->Prop}{sz:Nat}{es new:List D}{xs:List Value}{evs:List Value}(h:gM B w sz es xs)(h1:D.aP B w new evs)(h2:∀ev∈evs,ev.cells.size=sz):
 gM B w sz (es++new) (xs++evs.flatMap (·.cells.toList)):=by
 obtain⟨adJ,rfl,h3,h4⟩:=h
 refine⟨adJ++evs,au,fun ev dR=> ?_,D.bP _ _ _ _ h4 h1⟩
 rcases List.mem_append.1 dR with h|h
 ·exact h3 ev h
 ·exact h2 ev h
theorem dD{sz:Nat}:∀ (evs:List Value),(∀ev∈evs,ev.cells.size=sz)->(evs.flatMap (·.cells.toList)).length=evs.length*sz
 |[],_=>au
 |x::l,hx=>by
  have:=dD l fun v hv=>hx v (by simp[hv])
  simp[this,hx x (by simp),Nat.add_mul,Nat.add_comm]
theorem Eu(hH:aF M φ H w)(dh: ¬H.us fr){ts:Array TypeId}{ty0:TypeId}{x y:V}{xv yv:Value}(hx:V.den (az M φ H) φ H w x xv)(hy:V.den (az M φ H) φ H w y yv)
 (h:qu P H.o fr ts x y K):dc M φ H w fr ((do let z <- Builtin.append_ ts ty0 #[xv,yv];pure (Next.value z):Sem Next).run P w) K:=by
 unfold qu at h
 split at h
 ·rename_i t t' rS
  obtain⟨rfl,h⟩:=h
  have rS:ts=#[t,t]:=by apply Array.ext';simpa using rS
  subst rS
  split at h
  ·rename_i e ht
   obtain⟨new,Uo,gu,hz,hw,h⟩:=h
   obtain⟨zz,hz⟩:=Option.isSome_iff_exists.1 hz
   obtain⟨i,z,g1,g2,g3,g4,_⟩:=kx hz
   have hi:=cn g1
   have Un:=ml g1
   have F2:=pG hH hy Uo hw
   split at h
   ·obtain⟨h1,h2,hK⟩:=h
    simp only[V.den]at hx;subst hx
    rcases F2 with⟨rfl,rfl⟩|⟨a,c,evs,rfl,k1,k2,k3,k4⟩
    ·refine fw hH dh (eO.refl _ _) gu hK (run_append_owned_none (P:=P) w 0 t ty0 e i i.size (bN ht) g1 _ 0 [] (World.ownsRow_nil w 0 e i.size)) ?_ ⟨[],rfl,au,rfl⟩
     exact World.ownsRow_nil w _ e _
    ·obtain⟨v',w',r1,r2,r3,_⟩:=run_append_own (P:=P) w w.heap.size t ty0 e i z (P.cellsOf e) (P.bytesOf e) (bN ht) g1 g2 hi.symm Un.symm (by rw[g3,hi]) gu _ 0 [] (World.ownsRow_nil w _ e _) a new.length c
      (evs.flatMap fun v:Value=>v.cells.toList) (by rw[dD evs k2,D.aM _ _ k1]) k3 (fun u hu=>k4 u hu) (by simp[maxLen];omega) Em (Nat.le_refl _)
     refine fw hH dh (mj r3) gu hK r1 Oi ⟨evs,rfl,k2,k1⟩
   ·rename_i es
    obtain⟨hw2,h⟩:=h
    have Ea:=pG (sz:=P.cellsOf e) hH (y:= .d (.sl es)) (new:=es) (show V.den (az M φ H) φ H w (.d (.sl es)) xv from hx.1) (by simp[ft,eu]) hw2
    obtain⟨b,n,oV⟩:=hx.2
    subst oV
    split at h
    ·rename_i hn;subst hn
     have hsm:(sizeOf e).run P w= .ok i.size w:=by rw[ee g1,hi]
     have hr:(Builtin.append_ #[t,t] ty0 #[.slice b n n,yv]).run P w= .ok (.slice b n n) w:=by
      rcases F2 with⟨rfl,_⟩|⟨a,c,evs,rfl,_⟩
      ·cases b<;>simp[Builtin.append_,run_underlying (bN ht),hsm,Builtin.lenOf,Builtin.firstCells,storeCells]
      ·cases b<;>simp[Builtin.append_,run_underlying (bN ht),hsm,Builtin.lenOf,Builtin.firstCells,storeCells,loadCells,loadCellsFrom]
     exact dc.same hH _ h NZ hx
    ·rename_i iQ
     obtain⟨h1,h2,hK⟩:=h
     rcases F2 with⟨rfl,rfl⟩|⟨a,c,evs,rfl,k1,k2,k3,k4⟩
     ·exact absurd rfl iQ
     ·have hlen:(evs.flatMap (·.cells.toList)).length=new.length*P.cellsOf e:=by rw[dD evs k2,D.aM _ _ k1]
      rcases Ea with⟨e1,rfl⟩|⟨a',c',Kp,e1,q1,q2,q3,q4⟩
      ·injection e1 with e1 e2 e3
       subst e1;subst e2
       obtain⟨v',w',r1,r2,r3,_⟩:=run_append_own (P:=P) w w.heap.size t ty0 e i z (P.cellsOf e) (P.bytesOf e) (bN ht) g1 g2 hi.symm Un.symm (by rw[g3,hi]) gu _ 0 [] (World.ownsRow_nil w _ e _) a new.length c
        (evs.flatMap fun v:Value=>v.cells.toList) (by rw[dD evs k2,D.aM _ _ k1]) k3 (fun u hu=>k4 u hu) (by simp[maxLen];simp at h1;omega) (by simp at h2|-;omega) (Nat.le_refl _)
       refine fw hH dh (mj r3) gu hK r1 Oi ⟨evs,rfl,k2,k1⟩
      ·injection e1 with e1 e2 e3
       subst e1;subst e2
       have x8:(Kp.flatMap (·.cells.toList)).length=es.length*P.cellsOf e:=by rw[dD Kp q2,D.aM _ _ q1]
       have afg:0<new.length:=by cases new with|nil=>exact absurd rfl iQ|cons _ _=>simp
       have Ev:es.length+new.length<=maxLen:=by simp[maxLen];omega
       have hr:=run_append_grow (P:=P) w t ty0 e i z (bN ht) g1 g2 a' es.length es.length _ (by rw[x8,hi]) q3 a new.length c _ (by rw[hlen,hi]) k3 ad ad
        (growslice_fits ad (by rw[<- Un];omega))
       refine fw (xs:=Kp.flatMap (·.cells.toList)++evs.flatMap (·.cells.toList)) hH dh ?_ gu hK hr ?_ ⟨Kp++evs,au,fun ev dR=> ?_,D.bP _ _ _ _ q1 k1⟩
       ·exact⟨rfl,rfl,rfl,au,fun k hk _=>RowKit.Below.heap_alloc w.drew _ k hk⟩
       ·have Bv:=grownCap_ge w (es.length+new.length) es.length e
        refine⟨by rw[List.length_append,x8,hlen,List.length_append,Nat.add_mul], .inr ⟨w.heap.size,_,_,by rw[List.length_append],Nat.le_refl _,heap_alloc_new w.drew _,by rw[List.length_append];exact Bv,
         grownCap_le_maxLen w _ _ e Ev, ?_, ?_⟩⟩
        ·simp only[Array.size_append,List.size_toArray,size_zeroCells,g3,x8,hlen,hi, <- Nat.add_mul]
         congr 1
         omega
        ·have:(Kp.flatMap (·.cells.toList)++evs.flatMap (·.cells.toList)).length=(es++new).length*P.cellsOf e:=by rw[List.length_append,x8,hlen,List.length_append,Nat.add_mul]
         simp only[Array.toList_append]
         rw[<- this]
         exact List.take_left
       ·rcases List.mem_append.1 dR with dR|dR
        ·exact q2 ev dR
        ·exact k2 ev dR
   ·rename_i id ep
    split at h
    ·rename_i ju ty sz es ho
     obtain⟨rfl,rfl,rfl,h1,h2,hK⟩:=h
     obtain⟨_,fQ,xy⟩:=hx
     have hv:=(xy ep fi).2 rfl
     subst hv
     have bA:=hH.ok id
     simp only[bn,ho]at bA
     obtain⟨_,xs,eF,nk⟩:=bA
     have done:∀ {val:Value} {w':World} {m:Nat->Prop} {evs:List Value},(Builtin.append_ #[t,t] ty0 #[φ id,yv]).run P w= .ok val w'->eO m w w'->(∀b,m b->eT (φ id)=some b)->
      (∀b,eT val=some b->eT (φ id)=some b\/w.heap.size<=b)->w'.ownsRow 0 ty (P.cellsOf ty) val (es++new).length (xs++evs.flatMap (·.cells.toList))->D.aP (az M φ H) w new evs->
      (∀ev∈evs,ev.cells.size=P.cellsOf ty)->dc M φ H w fr ((do let z <- Builtin.append_ #[t,t] ty0 #[φ id,yv];pure (Next.value z):Sem Next).run P w) K:=by
      intro val w' m evs r1 r2 r3 r4 r5 r6 r7
      obtain⟨s1,s2,s3⟩:=ve hH fQ ho r2 r3 r4 r5 (nk.append r6 r7)
      exact⟨_,_,_,_,_,_,_,hK,by simp only[Sem.run_bind,r1,Result.andThen_ok];rfl, .inl rfl,s1,s2,s3,by simp[fQ]⟩
     rcases F2 with⟨rfl,rfl⟩|⟨a,c,evs,rfl,k1,k2,k3,k4⟩
     ·refine done (evs:=[]) (run_append_owned_none (P:=P) w 0 t ty0 ty i (P.cellsOf ty) (bN ht) g1 _ _ xs eF) (eO.refl (fun _=>False) _) (fun _ h=>h.elim) (fun b hb=> .inl hb) (by simpa using eF) rfl au
     ·have hlen:(evs.flatMap (·.cells.toList)).length=new.length*P.cellsOf ty:=by rw[dD evs k2,D.aM _ _ k1]
      have Ev:es.length+new.length<=maxLen:=by simp[maxLen];omega
      rcases eF.2 with⟨h3,h4⟩|⟨g,cap,cur,h3,h4,h5,h6,h7,h8,h9⟩
      ·have B4:w.ownsRow w.heap.size ty (P.cellsOf ty) (φ id) es.length xs:=⟨eF.1, .inl ⟨h3,h4⟩⟩
       obtain⟨v',w',r1,r2,r3,_⟩:=run_append_own (P:=P) w w.heap.size t ty0 ty i z (P.cellsOf ty) (P.bytesOf ty) (bN ht) g1 g2 hi.symm Un.symm (by rw[g3,hi]) gu _ _ xs B4 a new.length c
        (evs.flatMap fun v:Value=>v.cells.toList) hlen k3 (fun u hu=>k4 u hu) Ev h2 (Nat.le_refl _)
       refine done r1 (mj (by rw[h3]at r3;exact r3)) (fun _ h=>h.elim) (fun b hb=> .inr (kX r2 b hb).1) (by simpa using qF r2) k1 k2
      ·by_cases QR:es.length+new.length<=cap
       ·rw[h3]at eF
        obtain⟨w',r1,r2,r3⟩:=run_append_fits (P:=P) w 0 t ty0 ty i (P.cellsOf ty) (bN ht) g1 hi.symm g es.length cap xs eF a new.length c (evs.flatMap fun v:Value=>v.cells.toList) hlen k3 (fun u hu=>k4 u hu) QR
        rw[<- h3]at r1
        exact done (m:=(· =g)) r1 ⟨r3.os,r3.tape,r3.output,r3.size,fun k hk iQ=>r3.block k hk (by simpa using iQ)⟩ (fun b hb=>by subst hb;rw[h3];rfl) (fun b hb=> .inl (by rw[h3];exact hb)) Oi k1 k2
       ·have holds:∀j u,xs[j]? =some u->w.cell? ((⟨g,0,none⟩:Addr).add j)=some u:=eF.cells (g:=g) (by rw[h3];rfl)
        have hr:=run_append_grow (P:=P) w t ty0 ty i z (bN ht) g1 g2 ⟨g,0,none⟩ es.length cap xs (by rw[eF.1,hi]) holds a new.length c _ (by rw[hlen,hi]) k3 ad (by simp[maxLen]at Ev;omega)
         (growslice_fits ad (by rw[<- Un];omega))
        rw[<- h3]at hr
        refine done (m:=fun _=>False) hr ⟨rfl,rfl,rfl,au,fun k hk _=>RowKit.Below.heap_alloc w.drew _ k hk⟩ (fun _ h=>h.elim) (fun b hb=> .inr (by simp[eT]at hb;omega)) ?_ k1 k2
        have Bv:=grownCap_ge w (es.length+new.length) cap ty
        refine⟨by rw[List.length_append,eF.1,hlen,List.length_append,Nat.add_mul], .inr ⟨w.heap.size,_,_,by rw[List.length_append],Nat.zero_le _,heap_alloc_new w.drew _,by rw[List.length_append];exact Bv,
         grownCap_le_maxLen w _ cap ty Ev, ?_, ?_⟩⟩
        ·simp only[Array.size_append,List.size_toArray,size_zeroCells,g3,eF.1,hlen,hi, <- Nat.add_mul]
         congr 1
         omega
        ·have:(xs++evs.flatMap (·.cells.toList)).length=(es++new).length*P.cellsOf ty:=by rw[List.length_append,eF.1,hlen,List.length_append,Nat.add_mul]
         simp only[Array.toList_append,List.append_assoc]
         rw[<- List.append_assoc, <- this]
         exact List.take_left
    ·exact h.elim
   ·exact h.elim
  ·exact h.elim
 ·exact h.elim
end
end Go.Proofs.YtonbelhklnmjnaaGreat
namespace Go.Proofs.YtonbelhklnmjnaaGreat
section
variable {P:Program}{M:Nat->Prop}{φ:Place}{H:Hp}{w w':World}{fr:Nat}{K:V->List (Nat×ae)->List Nat->Prop}
theorem th{t:TypeId}{b off:Nat}{ty:TypeId}{cur:Array Value}(hb:w.heap[b]? =some (.cells cur ty (0,0)))(v:Value)(hs:v.cells.size=P.cellsOf t)(gu:0<v.cells.size\/(P.info? t).isSome=true)
 (hle:off+v.cells.size<=cur.size) (hf:Flat v.cells.toList):
 (Instr.storeAt t (.pointer (some ⟨b,off,none⟩)) v).run P w= .ok () (w.setRow b (cur.toList.take off++v.cells.toList++cur.toList.drop (off+v.cells.size)).toArray):=by
 obtain⟨i,hi⟩:∃i,P.info? t=some i:=by
  rcases gu with gu|gu
  ·exact ky (P:=P) (e:=t) ad
  ·exact Option.isSome_iff_exists.1 gu
 have:=run_storeCells_at (P:=P) b off ty v.cells.toList 0 cur w hb (by simpa using hle) (fun u hu=>hf u hu)
 simp only[Nat.add_zero,Array.length_toList]at this
 simp[Instr.storeAt,Instr.sureAddr,storeVar,ee hi,hs,this]
theorem B5{sz:Nat}:∀ (evs:List Value) (i off:Nat) (ev HO:Value) (us:List Value),(∀x∈evs,x.cells.size=sz)->evs[i]? =some ev->off+us.length<=sz->
 HO.cells.toList=ev.cells.toList.take off++us++ev.cells.toList.drop (off+us.length)->
 (evs.set i HO).flatMap (·.cells.toList)=(evs.flatMap (·.cells.toList)).take (i*sz+off)++us++(evs.flatMap (·.cells.toList)).drop (i*sz+off+us.length)
 |[],_,_,_,_,_,_,h,_,_=>by simp at h
 |x::evs,0,off,ev,HO,us,hs,h,hle,he=>by
  simp at h;subst h
  have hx:x.cells.toList.length=sz:=by simpa using hs x au
  simp only[List.set_cons_zero,List.flatMap_cons,Nat.zero_mul,Nat.zero_add,he]
  rw[List.take_append_of_le_length (by omega),List.drop_append_of_le_length (by omega)]
  simp[List.append_assoc]
 |x::evs,i+1,off,ev,HO,us,hs,h,hle,he=>by
  have hx:x.cells.toList.length=sz:=by simpa using hs x au
  have ih:=B5 evs i off ev HO us (fun y hy=>hs y BI) HG hle he
  simp only[List.set_cons_succ,List.flatMap_cons,ih]
  rw[show(i+1)*sz+off=x.cells.toList.length+(i*sz+off) by rw[Nat.add_mul,hx];omega,List.take_length_add_append,
   show x.cells.toList.length+(i*sz+off)+us.length=x.cells.toList.length+(i*sz+off+us.length) by omega,List.drop_length_add_append]
  simp[List.append_assoc]
theorem B6{α:Type}(l v:List α)(k m n:Nat)(hn:n=v.length)(h:k+n<=m)(hm:m<=l.length):(l.take k++v++l.drop (k+n)).take m=(l.take m).take k++v++(l.take m).drop (k+n):=by
 subst hn
 apply List.ext_getElem?
 intro i
 simp only[List.getElem?_append,List.getElem?_take,List.getElem?_drop,List.length_append,List.length_take]
 repeat' split
 all_goals first
  |rfl
  |omega
  |(congr 1;omega)
  |(symm;apply List.getElem?_eq_none;omega)
  |(apply List.getElem?_eq_none;omega)
  |skip
theorem Kq{B:Nat->Prop}{e e':D}{off:Nat}{ds:List D}(h:e.put off ds=some e'){ev:Value}(he:D.den B w e ev){us:List Value}(hu:D.aP B w ds us)(hf:Flat us):
 ∃HO,D.den B w e' HO/\HO.cells.toList=ev.cells.toList.take off++us++ev.cells.toList.drop (off+us.length)/\off+us.length<=ev.cells.size:=by
 have hl:=D.aM _ _ hu
 rcases D.oB _ _ he with⟨cs,a,rfl,rfl⟩|⟨h1,h2,h3⟩
 ·obtain⟨a',ha,h4,h5⟩:=he
  injection ha with ha;subst ha
  have hl4:=D.aM _ _ h4
  simp only[Array.length_toList]at hl4
  simp only[D.put]at h
  split at h
  ·rename_i hle
   injection h with h;subst h
   refine⟨.agg (a.toList.take off++us++a.toList.drop (off+us.length)).toArray,⟨_,rfl, ?_, ?_⟩,by simp[Value.cells],by simp[Value.cells];omega⟩
   ·simp only
    rw[hl]
    exact D.bP _ _ _ _ (D.bP _ _ _ _ (D.dZ _ _ _ h4) hu) (D.eU _ _ _ h4)
   ·intro x hx
    simp only[List.mem_append]at hx
    rcases hx with(hx|hx)|hx
    ·exact h5 x (List.mem_of_mem_take hx)
    ·exact hf x hx
    ·exact h5 x (List.mem_of_mem_drop hx)
  ·cases h
 ·have lA:off=0/\∃u,ds=[u]/\e'=u:=by
   cases e<;>simp only[D.put]at h<;>first
    |(split at h
      ·rename_i u;injection h with h;exact⟨rfl,u,rfl,h.symm⟩
      ·cases h)
    |(simp[D.cells]at h2;done)
    |skip
   obtain⟨a,rfl,_⟩:=he
   simp[Value.oneCell']at h1
  obtain⟨rfl,u,rfl,rfl⟩:=lA
  obtain⟨x,xs,rfl,h4,h5⟩:=hu
  simp only[D.aP]at h5;subst h5
  have hx:x.cells=#[x]:=by have:=hf x au;cases x<;>simp_all[Value.oneCell',Value.cells]
  exact⟨x,h4,by simp[hx,h3],by simp[h3]⟩
theorem HP(hH:aF M φ H w){t:TypeId}{x v:V}{xv vv:Value}(hx:V.den (az M φ H) φ H w x xv)(hv:V.den (az M φ H) φ H w v vv)
 (h:u3 P H.o t x v fun Δ rd=>K (.cA []) Δ rd):dc M φ H w fr ((do Instr.storeAt t xv vv;pure Next.skip:Sem Next).run P w) K:=by
 unfold u3 at h
 split at h
 ·rename_i id off
  split at h
  ·rename_i cs ho
   obtain⟨cs',h1,hK⟩:=h
   obtain⟨_,fQ,hp⟩:=hx
   obtain⟨b,fj,rfl⟩:=hp fi
   have bA:=hH.ok id
   simp only[bn,ho]at bA
   obtain⟨b',dX,ty,g1,g2,g3,g4⟩:=bA
   rw[fj]at g1;simp at g1;subst g1
   unfold z6 at h1
   split at h1
   ·rename_i us hc
    split at h1
    ·rename_i hle
     injection h1 with h1;subst h1
     obtain⟨k1,k2⟩:=V.oB _ _ _ hc hv
     have l1:=V.aM _ _ k1
     have l2:=V.aM _ _ g3
     simp only[Array.length_toList]at l1 l2
     have hr:=th (P:=P) (t:=t) (off:=off) g2 vv ad (hle.2.1.imp (fun h=>ad) (fun h=>h)) ad k2
     obtain⟨t1,t2⟩:=BU (cs':=cs.take off++us++cs.drop (off+us.length)) hH fQ ho fj g2 (dX.toList.take off++vv.cells.toList++dX.toList.drop (off+vv.cells.size)).toArray (by
      simp only
      rw[l1]
      exact V.bP _ _ _ _ (V.bP _ _ _ _ (V.dZ _ _ _ g3) k1) (V.eU _ _ _ g3)) (by
      intro u hu
      simp only[List.mem_append]at hu
      rcases hu with(hu|hu)|hu
      ·exact g4 u (List.mem_of_mem_take hu)
      ·exact k2 u hu
      ·exact g4 u (List.mem_of_mem_drop hu))
     exact⟨_,_,_,_,_,_,_,hK,by simp only[Sem.run_bind,hr,Result.andThen_ok];rfl, .inr ⟨rfl,rfl⟩,t1,t2,⟨#[],rfl,rfl⟩,by simp[fQ]⟩
    ·cases h1
   ·cases h1
  ·exact h.elim
 ·rename_i id ep i rQ off
  split at h
  ·rename_i ju ty sz es ho
   obtain⟨rfl,rfl,e,he,y,hy,hyl,hyp,iQ,e',lA,hK⟩:=h
   obtain⟨_,fQ,hp⟩:=hx
   obtain⟨b,n,c,fj,rfl⟩:=(hp ep fi).2 rfl
   obtain⟨f1,f2,f3,f4,f5⟩:=dH hH v.ids (dC v _ hv)
   have nm:id∉v.ids:=fun hm=>by have:=List.all_eq_true.1 iQ id hm;simp at this
   have xg:=(f4 id nm).trans ho
   have hvd:=gE f1 v y vv f3 hy (V.aX f2 _ _ hv)
   obtain⟨k1,k2⟩:=D.fL _ _ hvd
   have l1:=D.aM _ _ k1
   simp only[Array.length_toList]at l1
   have bA:=f1.ok id
   simp only[bn,xg]at bA
   obtain⟨h0,xs,⟨hl,ck⟩,evs,rfl,h2,h3⟩:=bA
   rcases ck with⟨h4,h5⟩|⟨g,cap,cur,h4,h5,h6,h7,h8,h9,QP⟩
   ·rw[fj]at h4;simp at h4
   ·rw[fj]at h4;simp at h4
    obtain⟨rfl,rfl,rfl⟩:=h4
    obtain⟨ev,dR,hde⟩:=D.dY _ _ _ _ h3 he
    obtain⟨HO,p1,p2,p3⟩:=Kq lA hde k1 k2
    simp only[Array.length_toList]at p2 p3
    have afo:=h2 ev (List.mem_of_getElem? dR)
    have adK:i<es.length:=(List.getElem?_eq_some_iff.1 he).1
    have Kr:i*rQ+rQ<=es.length*rQ:=by
     rw[<- Nat.succ_mul];exact Nat.mul_le_mul_right _ adK
    have adL:es.length*rQ<=cur.size:=by rw[h9];exact Nat.mul_le_mul_right _ h7
    have hr:=th (P:=P) (t:=t) (off:=i*rQ+off) h6 vv ad (.inl ad) ad k2
    have OA:=B5 evs i off ev HO vv.cells.toList h2 dR (by simpa using(by omega:off+vv.cells.size<=rQ)) (by simpa using p2)
    simp only[Array.length_toList]at OA
    have dk:((H.put (dy H.o v.ids)).o id).live=true:=by rw[xg];rfl
    have x5:eT (φ id)=some b:=by rw[fj];rfl
    have Zh:=(f5 id).2 fQ
    have ht:=fu (w:=w) (w':=w.setRow b (cur.toList.take (i*rQ+off)++vv.cells.toList++cur.toList.drop (i*rQ+off+vv.cells.size)).toArray) Zh dk x5 (kV w b _) (.arr ep ty rQ (es.set i e')) BE BE
    have hh:=ja f1 Zh dk x5 (kV w b (cur.toList.take (i*rQ+off)++vv.cells.toList++cur.toList.drop (i*rQ+off+vv.cells.size)).toArray) (.arr ep ty rQ (es.set i e')) BE BE (by
     unfold bn
     simp only[bX,aW,if_true]
     refine⟨h0,(evs.set i HO).flatMap (·.cells.toList),⟨?_, .inr ⟨b,c,_,by rw[List.length_set];exact fj,Nat.zero_le _,setRow_heap w b cur _ ty (0,0) h6,by rw[List.length_set];exact h7,h8, ?_, ?_⟩⟩,evs.set i HO,rfl, ?_, ?_⟩
     ·rw[OA,List.length_set]
      simp only[List.length_append,List.length_take,List.length_drop,Array.length_toList,hl]
      omega
     ·simp only[List.size_toArray,List.length_append,List.length_take,List.length_drop,Array.length_toList]
      omega
     ·rw[OA,List.length_set, <- QP]
      exact B6 cur.toList vv.cells.toList _ _ _ au ad (by simpa using adL)
     ·intro x hx
      rcases List.mem_or_eq_of_mem_set hx with hx|rfl
      ·exact h2 x hx
      ·have:=congrArg List.length p2
       simp only[Array.length_toList,List.length_append,List.length_take,List.length_drop]at this
       omega
     ·exact D.bg (ht.blocks (M:=M)) _ _ (D.BS i es evs e' HO h3 p1))
    rw[<- eD]at hh ht
    refine⟨_,_,_,_,_,_,_,hK,by simp only[Sem.run_bind,hr,Result.andThen_ok];rfl, .inr ⟨rfl,rfl⟩,hh,f2.trans ht,⟨#[],rfl,rfl⟩,fun j hj=> ?_⟩
    simp only[List.map_append,List.mem_append,List.map_cons,List.map_nil,List.mem_singleton]at hj
    rcases hj with hj|hj
    ·left
     refine dC v _ hv j ?_
     rw[mm]at hj
     simpa[Function.comp_def]using hj
    ·exact .inl (hj ▸ fQ)
  ·exact h.elim
 ·exact h.elim
end
end Go.Proofs.YtonbelhklnmjnaaGreat
namespace Go.Proofs.YtonbelhklnmjnaaGreat
section
variable {P:Program}{B:Nat->Prop}{w:World}
theorem gZ{t:TypeId}{xs:List D}{off:Nat}{x:D}(h:kq P t xs off=some x){arr:Array Value}(hd:D.aP B w xs arr.toList)(hf:Flat arr.toList):
 ∃u,(∀w',(part t arr off).run P w'= .ok u w')/\D.den B w x u:=by
 unfold kq at h
 split at h
 ·rename_i ha
  split at h
  ·rename_i hl
   injection h with h;subst h
   obtain⟨i,hi⟩:=sq ha
   refine⟨.agg (arr.extract off (off+P.cellsOf t)),fun w'=> ?_,_,rfl, ?_, ?_⟩
   ·simp only[part,Sem.run_bind,sn ha w',Result.andThen_ok,if_true,ee hi w',Sem.run_pure]
   ·have:=D.dZ (P.cellsOf t) _ _ (D.eU off _ _ hd)
    simpa[Array.toList_extract,List.extract]using this
   ·intro u hu
    simp only[Array.toList_extract,List.extract]at hu
    exact hf u (List.mem_of_mem_drop (List.mem_of_mem_take hu))
  ·cases h
 ·rename_i ha
  obtain⟨u,hu,Ot⟩:=D.dY _ _ _ _ hd h
  refine⟨u,fun w'=> ?_,Ot⟩
  have xE:arr[off]? =some u:=by simpa using hu
  simp only[part,Sem.run_bind,pE ha w',Result.andThen_ok,Bool.false_eq_true,if_false,xE,Sem.run_pure]
 ·cases h
theorem ya{a b:Option Bool}{r:Bool}(h:Kh a b=some r):∃x y,a=some x/\b=some y/\r=(x&&y):=by
 unfold Kh at h
 split at h
 ·injection h with h;exact⟨_,_,rfl,rfl,h.symm⟩
 ·cases h
def EqD(P:Program)(m:Nat)(t:TypeId)(x y:D)(r:Bool):Prop:=
 ∀ (B:Nat->Prop) (w:World) (u v:Value),D.den B w x u->D.den B w y v->(Op.equalIn m t u v).run P w= .ok r w
theorem qG{d m:Nat}(IH:∀t x y r,rR P d t x y=some r->EqD P m t x y r){xs ys:List D}{cF bs:Array Value}(ha:D.aP B w xs cF.toList)(B7:Flat cF.toList)(hb:D.aP B w ys bs.toList)(OB:Flat bs.toList):
 ∀ (fs:List Field) (r:Bool),(∀f∈fs,f.name≠ "_")->BQ (fun u off=>Ui (rR P d u) (kq P u xs off) (kq P u ys off)) (fs.map fun f=>(f.type,f.offset))=some r->
   (Op.eqFields m cF bs fs).run P w= .ok r w
 |[],r,_,h=>by simp[BQ]at h;subst h;simp[Op.eqFields]
 |f::fs,r,hn,h=>by
  obtain⟨x,y,h1,h2,rfl⟩:=ya h
  simp only[Ui]at h1
  split at h1
  ·rename_i p q hp hq
   obtain⟨u,k1,k2⟩:=gZ hp ha B7
   obtain⟨v,k3,k4⟩:=gZ hq hb OB
   have h3:=IH _ _ _ _ h1 B w u v k2 k4
   have h4:=qG IH ha B7 hb OB fs y (fun g hg=>hn g (by simp[hg])) h2
   have iQ:=hn f au
   simp only[Op.eqFields,iQ,ne_eq,not_false_eq_true,if_true,Sem.run_bind,k1,k3,h3,Result.andThen_ok]
   cases x
   ·simp
   ·simpa using h4
  ·cases h1
theorem tj{d m:Nat}{e:TypeId}(IH:∀t x y r,rR P d t x y=some r->EqD P m t x y r){xs ys:List D}{cF bs:Array Value}(ha:D.aP B w xs cF.toList)(B7:Flat cF.toList)(hb:D.aP B w ys bs.toList)(OB:Flat bs.toList):
 ∀ (n i:Nat) (r:Bool),FT (fun i=>Ui (rR P d e) (kq P e xs (i*P.cellsOf e)) (kq P e ys (i*P.cellsOf e))) n i=some r->
   (Op.eqItems m e (P.cellsOf e) cF bs (List.range' i n)).run P w= .ok r w
 |0,i,r,h=>by simp[FT]at h;subst h;simp[Op.eqItems]
 |n+1,i,r,h=>by
  obtain⟨x,y,h1,h2,rfl⟩:=ya h
  simp only[Ui]at h1
  split at h1
  ·rename_i p q hp hq
   obtain⟨u,k1,k2⟩:=gZ hp ha B7
   obtain⟨v,k3,k4⟩:=gZ hq hb OB
   have h3:=IH _ _ _ _ h1 B w u v k2 k4
   have h4:=tj IH ha B7 hb OB n (i+1) y h2
   simp only[List.range'_succ,Op.eqItems,Sem.run_bind,k1,k3,h3,Result.andThen_ok]
   cases x
   ·simp
   ·simpa using h4
  ·cases h1
theorem uz:∀ (d:Nat) (t:TypeId) (x y:D) (r:Bool),rR P d t x y=some r->∀m,d<=m->EqD P m t x y r
 |0,_,_,_,_,h=>by simp[rR]at h
 |d+1,t,x,y,r,h=>by
  intro m hm B w u v hu hv
  obtain⟨m,rfl⟩:∃k,m=k+1:=⟨m - 1,ad⟩
  have IH:∀t x y r,rR P d t x y=some r->EqD P m t x y r:=fun t x y r h=>uz d t x y r h m ad
  unfold rR at h
  cases hs:cy P t with
  |none=>rw[hs]at h;cases h
  |some sh=>
   rw[hs]at h
   unfold cy at hs
   cases ht:P.underlying t with
   |none=>rw[ht]at hs;cases hs
   |some td=>
    rw[ht]at hs
    cases td<;>simp only[Option.some.injEq,reduceCtorEq]at hs
    case int k0=>
     subst hs
     simp only at h
     split at h
     ·split at h
      ·rename_i e;subst e;injection h with h;subst h
       simp only[D.den]at hu hv;subst hu;subst hv
       exact run_equalIn_int w m t _ _ _ _ ht
      ·cases h
     ·cases h
    case bool=>
     subst hs
     simp only at h
     split at h
     ·injection h with h;subst h
      simp only[D.den]at hu hv;subst hu;subst hv
      exact run_equalIn_bool' w m t _ _ ht
     ·cases h
    case string=>
     subst hs
     simp only at h
     split at h
     ·injection h with h;subst h
      obtain⟨s1,rfl,rfl⟩:=hu
      obtain⟨s2,rfl,rfl⟩:=hv
      rw[run_equalIn_string w m t _ _ ht]
      rw[ByteArray.toList_eq,ByteArray.toList_eq]
     ·cases h
    case struct fs=>
     split at hs
     ·rename_i hc
      injection hs with hs;subst hs
      simp only[Bool.and_eq_true,Bool.not_eq_true',List.all_eq_true,bne_iff_ne]at hc
      simp only at h
      split at h
      ·obtain⟨cF,rfl,ha,B7⟩:=hu
       obtain⟨bs,rfl,hb,OB⟩:=hv
       have hfs:P.fieldsOf t=fs:=by simp[Program.fieldsOf,ht]
       rw[run_equalIn_struct w m t cF bs (by rw[hfs];exact ht) hc.1,hfs]
       exact qG IH ha B7 hb OB _ _ hc.2 h
      ·cases h
     ·cases hs
    case array n e=>
     split at hs
     ·rename_i hc
      injection hs with hs;subst hs
      simp only at h
      split at h
      ·obtain⟨cF,rfl,ha,B7⟩:=hu
       obtain⟨bs,rfl,hb,OB⟩:=hv
       obtain⟨i,hi⟩:=Option.isSome_iff_exists.1 hc
       rw[run_equalIn_array w m cF bs ht hi,List.range_eq_range']
       exact tj IH ha B7 hb OB _ _ _ h
      ·cases h
     ·cases hs
theorem Ks{t:TypeId}{cF bs:List D}{r:Bool}(h:rR P 100 t (.agg cF) (.agg bs)=some r)(hg:P.eqGuardType P.depth t=false):Kd P t (.agg cF) (.agg bs) r:=by
 intro B w u v hu hv
 refine⟨uz 100 t _ _ _ h _ aT B w u v hu hv,fun op a b=> ?_⟩
 obtain⟨cF,rfl,_⟩:=hu
 obtain⟨bs,rfl,_⟩:=hv
 exact run_eqGuard_agg w op t a b cF bs hg
end
end Go.Proofs.YtonbelhklnmjnaaGreat
namespace Go.Proofs.YtonbelhklnmjnaaGreat
section
variable {P:Program}{M:Nat->Prop}{φ:Place}{H:Hp}{w:World}{fr:Nat}{K:V->List (Nat×ae)->List Nat->Prop}
theorem dO{x:Option gO}(h:dA x K):∃v Δ rd,x=some (v,Δ,rd)/\K v Δ rd:=by
 unfold dA at h;split at h
 ·exact⟨_,_,_,rfl,h⟩
 ·exact h.elim
theorem B8{o:Nat->ae}{x:V}{id off:Nat}(h:pA o x=some (id,off)):x= .ptr id off/\(o id).cK=true:=by
 unfold pA at h
 split at h
 ·split at h
  ·simp only[Option.some.injEq,Prod.mk.injEq]at h;obtain⟨rfl,rfl⟩:=h;exact⟨rfl,by assumption⟩
  ·cases h
 ·cases h
theorem B9{o:Nat->ae}{x:V}{id off n:Nat}{cs:List V}(h:pB o x=some (id,off,n,cs)):x= .xW id off n/\o id= .row cs:=by
 unfold pB at h
 split at h
 ·split at h
  ·rename_i ho
   simp only[Option.some.injEq,Prod.mk.injEq]at h;obtain⟨rfl,rfl,rfl,rfl⟩:=h;exact⟨rfl,ho⟩
  ·cases h
 ·cases h
theorem qH{x:Option V}{val:Option Value}{d n:Nat}(hx:match x,val with|none,none=>True|some v,some u=>V.den (az M φ H) φ H w v u|_,_=>False)(h:HK x d=some n):
 (x=none/\val=none/\n=d)\/∃k,val=some (.int k n)/\x≠none:=by
 unfold HK at h
 split at h
 ·injection h with h
  left
  cases val with
  |none=>exact⟨rfl,rfl,h.symm⟩
  |some u=>exact hx.elim
 ·rename_i k i
  split at h
  ·injection h with h;subst h
   right
   cases val with
   |none=>exact hx.elim
   |some u=>
    simp only[V.den,D.den]at hx
    refine⟨k, ?_,au⟩
    rw[hx,Int.toNat_of_nonneg (by assumption)]
  ·cases h
 ·cases h
theorem F3{B:Nat->Prop}{es:List D}{base:Option Addr}{len cap l h:Nat}(hd:D.den B w (.sl es) (.slice base len cap))(hl:l<=h)(hh:h<=es.length){m:Nat}(hm:m=cap\/h<=m/\m<=es.length){X8:Nat}(ed:l=0\/∀y∈es,y.cells.length=X8):
 D.den B w (.sl ((es.take h).drop l)) (.slice (if m=l then base else base.map (·.add (l*X8))) (h - l) (m - l)):=by
 obtain⟨b',afp,afq,he,h1,h2,h3,sz,h4⟩:=hd
 injection he with e1 e2 e3
 subst e1;subst e2;subst e3
 refine⟨_,_,_,rfl,by simp;omega,ad,fun hb=> ?_,sz,fun a ha=> ?_⟩
 ·split at hb
  ·omega
  ·cases base with
   |none=>have:=h3 rfl;omega
   |some a=>simp at hb
 ·have key:∀ (es:List D) (i:Nat) (a:Addr),D.elems B w sz a i es->∀l h,D.elems B w sz a (i+l) ((es.take h).drop l):=by
   intro es
   induction es with
   |nil=>intro i a _ l h;simp[D.elems]
   |cons e es ih=>
    intro i a he l h
    cases h with
    |zero=>simp[D.elems]
    |succ h=>
     cases l with
     |zero=>
      refine⟨he.1, ?_⟩
      simpa using ih (i+1) a he.2 0 h
     |succ l=>
      have:=ih (i+1) a he.2 l h
      rw[show i+1+l=i+(l+1) by omega]at this
      simpa using this
  split at ha
  ·
    rename_i OC
    have afh:h - l=0:=ad
    have Up:(es.take h).drop l=[]:=List.eq_nil_of_length_eq_zero BH
    rw[Up]
    cases base with
    |none=>cases ha
    |some b=>injection ha with ha;subst ha;exact⟨fun hc=>ad,trivial⟩
  ·cases base with
   |none=>simp at ha
   |some b=>
    simp only[Option.map_some,Option.some.injEq]at ha
    subst ha
    obtain⟨h5,h6⟩:=h4 b rfl
    replace h5:=h5 ad
    refine⟨fun _=>BV b h5 _, ?_⟩
    have h7:=key es 0 b h6 l h
    rw[Nat.zero_add]at h7
    have shift:∀ (ds:List D) (i:Nat),(∀y∈ds,y.cells.length=X8\/l=0)->D.elems B w sz b (l+i) ds->D.elems B w sz (b.add (l*X8)) i ds:=by
     intro ds
     induction ds with
     |nil=>intro i _ _;trivial
     |cons y ds ih=>
      intro i hy hd
      obtain⟨⟨ev,g1,g2,g3⟩,g4⟩:=hd
      have adM:l*X8=l*sz:=by
       rcases hy y au with hy|hy
       ·have:=D.aM _ _ (D.fL _ _ g3).1
        rw[hy]at this
        have e:ev.cells.size=X8:=by simpa using this
        rw[<- e,g1]
       ·rw[hy];simp
      refine⟨⟨ev,g1, ?_,g3⟩,ih (i+1) (fun z hz=>hy z (by simp[hz])) (by rw[show l+(i+1)=l+i+1 by omega];exact g4)⟩
      rw[add_add b h5,adM, <- Nat.add_mul]
      exact g2
    refine shift _ 0 (fun y hy=> ?_) (by simpa using h7)
    rcases ed with ed|ed
    ·exact .inr ed
    ·exact .inl (ed y (List.mem_of_mem_take (List.mem_of_mem_drop hy)))
theorem pH{len cap:Nat}{lo hi mx:Option Value}{l h m:Nat}(Eb:lo=none/\l=0\/∃k,lo=some (.int k l))(Ew:hi=none/\h=len/\mx=none\/∃k,hi=some (.int k h))(Ku:mx=none/\m=cap\/∃k,mx=some (.int k m))(h1:l<=h)(h2:h<=m)(h3:m<=cap):
 (Instr.sliceBounds true len cap lo hi mx).run P w= .ok (l,h,m) w:=by
 rcases Eb with⟨rfl,rfl⟩|⟨kl,rfl⟩<;>rcases Ew with⟨rfl,rfl,rfl⟩|⟨kh,rfl⟩<;>rcases Ku with⟨e,rfl⟩|⟨km,e⟩<;>subst_vars<;>
  first
  |(simp[Instr.sliceBounds,run_sliceBound,h1,h2,h3];done)
  |(cases e;done)
  |(cases e;simp[Instr.sliceBounds,run_sliceBound,h1,h2,h3])
theorem Ex(hH:aF M φ H w){t:TypeId}{x:V}{xv:Value}{lo hi mx:Option V}{lov hiv mxv:Option Value}(hx:V.den (az M φ H) φ H w x xv)
 (Eb:match lo,lov with|none,none=>True|some v,some u=>V.den (az M φ H) φ H w v u|_,_=>False) (Ew:match hi,hiv with|none,none=>True|some v,some u=>V.den (az M φ H) φ H w v u|_,_=>False)
 (Ku:match mx,mxv with|none,none=>True|some v,some u=>V.den (az M φ H) φ H w v u|_,_=>False) (h:dA (qv P H.o t x lo hi mx) K):
 dc M φ H w fr ((do let z <- Instr.sliceAt t xv lov hiv mxv;pure (Next.value z):Sem Next).run P w) K:=by
 have hg:=dO h
 clear h
 obtain⟨v,Δ,rd,h,hK⟩:=hg
 unfold qv at h
 split at h
 ·rename_i e ht
  have mZ:=bN ht
  split at h
  ·rename_i es l Ec hl
   split at h
   ·rename_i hh hhh
    split at h
    ·rename_i hc
     obtain⟨c1,c2,c3,c4⟩:=hc
     obtain⟨i,Uq⟩:=Option.isSome_iff_exists.1 c3
     have hD:eu H.o x=some (.sl es):=by
      unfold ft at Ec
      split at Ec
      ·rename_i es' hD;injection Ec with Ec;subst Ec;exact hD
      ·cases Ec
     obtain⟨f1,f2,f3,f4,f5⟩:=dH hH x.ids (dC x _ hx)
     have hd:=gE f1 x (.sl es) xv f3 hD (V.aX f2 _ _ hx)
     obtain⟨base,len,cap,oV,hlen,fN,_⟩:=id hd
     subst oV
     have ed:l=0\/∀y∈es,y.cells.length=P.cellsOf e:=by
      rcases c4 with c4|c4
      ·exact .inl c4
      ·exact .inr fun y hy=>by simpa using List.all_eq_true.1 c4 y hy
     have elem:P.elem t=e:=by simp[Program.elem,mZ]
     have fM:∀ {m:Nat},(Instr.sliceBounds true len cap lov hiv mxv).run P w= .ok (l,hh,m) w->
      (Instr.sliceAt t (.slice base len cap) lov hiv mxv).run P w= .ok (.slice (if m=l then base else base.map (·.add (l*P.cellsOf e))) (hh - l) (m - l)) w:=by
      intro m hm
      rw[run_sliceAt_slice w t _ _ _ _ (by rw[elem];exact mZ),run_slice_any w t base len cap (by rw[elem];exact mZ),hm]
      simp only[Result.andThen_ok,elem,ee Uq,sliced]
     have fin:∀ {val:Value} {v:V},(Instr.sliceAt t (.slice base len cap) lov hiv mxv).run P w= .ok val w->V.den (az M φ (H.put (dy H.o x.ids))) φ (H.put (dy H.o x.ids)) w v val->K v (dy H.o x.ids) x.ids->
      dc M φ H w fr ((do let z <- Instr.sliceAt t (.slice base len cap) lov hiv mxv;pure (Next.value z):Sem Next).run P w) K:=by
      intro val v r1 r2 r3
      exact⟨_,val,w,φ,v,_,_,r3,by simp only[Sem.run_bind,r1,Result.andThen_ok];rfl, .inl rfl,f1,f2,r2,fun id aC=> .inl (by
       have e:(dy H.o x.ids).map (·.1)=x.ids:=by rw[mm];simp[Function.comp_def]
       rw[e]at aC
       exact dC x _ hx id aC)⟩
     have bl:lov=none/\l=0\/∃k,lov=some (.int k l):=by
      rcases qH Eb hl with⟨_,a,b⟩|⟨k,a,_⟩
      ·exact .inl ⟨a,b⟩
      ·exact .inr ⟨k,a⟩
     split at h
     ·injection h with h;injection h with e1 e2;injection e2 with e2 e3;subst e1;subst e2;subst e3
      have bm:mxv=none:=by
       cases mxv with
       |none=>rfl
       |some u=>exact Ku.elim
      subst bm
      have bh:hiv=none/\hh=len/\(none:Option Value)=none\/∃k,hiv=some (.int k hh):=by
       rcases qH Ew hhh with⟨_,a,b⟩|⟨k,a,_⟩
       ·exact .inl ⟨a,ad,rfl⟩
       ·exact .inr ⟨k,a⟩
      refine fin (fM (pH (m:=cap) bl bh (.inl ⟨rfl,rfl⟩) c1 ad (Nat.le_refl _))) ?_ hK
      exact F3 hd c1 c2 (.inl rfl) ed
     ·rename_i mv
      split at h
      ·rename_i hv m hm
       split at h
       ·rename_i vg
        injection h with h;injection h with e1 e2;injection e2 with e2 e3;subst e1;subst e2;subst e3
        have bm:∃k,mxv=some (.int k m):=by
         rcases qH Ku hm with⟨a,_⟩|⟨k,a,_⟩
         ·cases a
         ·exact⟨k,a⟩
        have bh:∃k,hiv=some (.int k hh):=by
         rcases qH Ew hhh with⟨a,_⟩|⟨k,a,_⟩
         ·cases a
         ·exact⟨k,a⟩
        have hp:=F3 (m:=m) hd c1 c2 (.inr vg) ed
        refine fin (fM (pH (m:=m) bl (.inr bh) (.inr bm) c1 vg.1 ad)) ?_ hK
        split
        ·rename_i e;subst e
         exact⟨hp,_,_,rfl⟩
        ·exact hp
       ·cases h
      ·cases h
    ·cases h
   ·cases h
  ·cases h
 ·cases ha:BM P t with
  |none=>rw[ha]at h;cases h
  |some p=>
  obtain⟨n,e⟩:=p
  rw[ha]at h
  split at h
  ·rename_i n' e' heq
   have e0:n=n'/\e=e':=by simpa using heq
   obtain⟨rfl,rfl⟩:=e0
   split at h
   ·rename_i id off tl
    obtain⟨rfl,ck⟩:=B8 tl
    split at h
    ·rename_i hc
     injection h with h;injection h with e1 e2;injection e2 with e2 e3;subst e1;subst e2;subst e3
     obtain⟨i,Uq⟩:=Option.isSome_iff_exists.1 hc
     have e1:lov=none:=by cases lov with|none=>rfl|some u=>exact Eb.elim
     have e2:hiv=none:=by cases hiv with|none=>rfl|some u=>exact Ew.elim
     have e3:mxv=none:=by cases mxv with|none=>rfl|some u=>exact Ku.elim
     subst e1;subst e2;subst e3
     obtain⟨g1,g2,g3⟩:=hx
     obtain⟨b,k1,k2⟩:=g3 ck
     subst k2
     have hat:=x6 ha
     have elem:P.elem t=e:=by simp[Program.elem,hat]
     have len:P.arrayLen t=n:=by simp[Program.arrayLen,hat]
     refine dc.same hH (.slice (some ⟨b,off,none⟩) n n) hK ?_ ⟨rfl,g2,fun _=>⟨b,k1,rfl⟩⟩
     have:=run_sliceAt_array_all (P:=P) w t ⟨b,off,none⟩ (by rw[elem,len];exact hat)
     simp only[Sem.run_bind,this,elem,ee Uq,Result.andThen_ok,slicedAt,len]
     by_cases hn:n=0
     ·subst hn;rfl
     ·simp[hn,Addr.add]
    ·cases h
   ·cases h
  ·cases h
theorem HQ(g:Nat):(⟨g,0,none⟩:Addr).add 0=⟨g,0,none⟩:=rfl
theorem OD(hH:aF M φ H w){t:TypeId}{x:V}{xv:Value}{lo hi mx:Option V}{lov hiv mxv:Option Value}(hx:V.den (az M φ H) φ H w x xv)
 (Eb:match lo,lov with|none,none=>True|some v,some u=>V.den (az M φ H) φ H w v u|_,_=>False) (Ew:match hi,hiv with|none,none=>True|some v,some u=>V.den (az M φ H) φ H w v u|_,_=>False)
 (Ku:match mx,mxv with|none,none=>True|some v,some u=>V.den (az M φ H) φ H w v u|_,_=>False) {v:V} {Δ:List (Nat×ae)} {rd:List Nat} (h:Er P H.o t x lo hi mx=some (v,Δ,rd)) (hK:K v Δ rd):
 dc M φ H w fr ((do let z <- Instr.sliceAt t xv lov hiv mxv;pure (Next.value z):Sem Next).run P w) K:=by
 have bounds:∀ {kk:IntKind} {e:TypeId} {base:Option Addr} {len cap:Nat},cS P t=some e->(P.info? e).isSome=true->base=none\/(∃g,base=some ⟨g,0,none⟩)->
  (Instr.sliceAt t (.slice base len cap) none (some (.int kk 0)) none).run P w= .ok (.slice base 0 cap) w:=by
  intro kk e base len cap ht hi hb
  obtain⟨i,Uq⟩:=Option.isSome_iff_exists.1 hi
  have mZ:=bN ht
  have elem:P.elem t=e:=by simp[Program.elem,mZ]
  have hm:=pH (P:=P) (w:=w) (len:=len) (cap:=cap) (lo:=none) (hi:=some (.int kk 0)) (mx:=none) (l:=0) (h:=0) (m:=cap) (.inl ⟨rfl,rfl⟩) (.inr ⟨kk,rfl⟩) (.inl ⟨rfl,rfl⟩) (Nat.le_refl _) (Nat.zero_le _) (Nat.le_refl _)
  rw[run_sliceAt_slice w t _ _ _ _ (by rw[elem];exact mZ),run_slice_any w t base len cap (by rw[elem];exact mZ),hm]
  simp only[Result.andThen_ok,elem,ee Uq,sliced]
  rcases hb with rfl|⟨g,rfl⟩
  ·simp
  ·simp[HQ]
 unfold Er at h
 split at h
 ·split at h
  ·rename_i kk k
   split at h
   ·rename_i e ht
    split at h
    ·rename_i hc
     simp only[Option.some.injEq,Prod.mk.injEq]at h;obtain⟨rfl,rfl,rfl⟩:=h
     obtain⟨rfl,hc⟩:=hc
     simp only[V.den]at hx;subst hx
     have e1:lov=none:=by cases lov with|none=>rfl|some u=>exact Eb.elim
     have e2:mxv=none:=by cases mxv with|none=>rfl|some u=>exact Ku.elim
     have e3:hiv=some (.int kk 0):=by
      cases hiv with
      |none=>exact Ew.elim
      |some u=>simp only[V.den,D.den]at Ew;rw[Ew]
     subst e1;subst e2;subst e3
     exact dc.same hH (.slice none 0 0) hK (by simp only[Sem.run_bind,bounds (base:=none) (len:=0) (cap:=0) ht hc (.inl rfl),Result.andThen_ok];rfl) rfl
    ·cases h
   ·cases h
  ·cases h
 ·rename_i id ep
  split at h
  ·rename_i kk k
   split at h
   ·rename_i e ju ty sz es ht ho
    split at h
    ·rename_i hc
     simp only[Option.some.injEq,Prod.mk.injEq]at h;obtain⟨rfl,rfl,rfl⟩:=h
     obtain⟨rfl,rfl,hc⟩:=hc
     have e1:lov=none:=by cases lov with|none=>rfl|some u=>exact Eb.elim
     have e2:mxv=none:=by cases mxv with|none=>rfl|some u=>exact Ku.elim
     have e3:hiv=some (.int kk 0):=by
      cases hiv with
      |none=>exact Ew.elim
      |some u=>simp only[V.den,D.den]at Ew;rw[Ew]
     subst e1;subst e2;subst e3
     obtain⟨_,fQ,xy⟩:=hx
     have hv:=(xy ep fi).2 rfl
     subst hv
     have bA:=hH.ok id
     simp only[bn,ho]at bA
     obtain⟨ed,xs,eF,nk⟩:=bA
     have Zi:gM (az M φ H) w sz [] []:=⟨[],rfl,au,rfl⟩
     rcases eF.2 with⟨h3,h4⟩|⟨g,cap,cur,h3,h4,h5,h6,h7,h8,h9⟩
     ·have B4:w.ownsRow 0 ty sz (.slice none 0 0) ([]:List D).length []:=⟨au, .inl ⟨rfl,rfl⟩⟩
      obtain⟨s1,s2,s3⟩:=ve (m:=fun _=>False) hH fQ ho (eO.refl _ _) (fun _ h=>h.elim) (fun b hb=>by simp[eT]at hb) B4 Zi
      rw[h3]
      exact⟨_,_,_,_,_,_,_,hK,by simp only[Sem.run_bind,bounds (base:=none) (len:=0) (cap:=0) ht hc (.inl rfl),Result.andThen_ok];rfl, .inl rfl,s1,s2,s3,by simp[fQ]⟩
     ·have B4:w.ownsRow 0 ty sz (.slice (some ⟨g,0,none⟩) 0 cap) ([]:List D).length []:=⟨au, .inr ⟨g,cap,cur,rfl,h4,h5,Nat.zero_le _,h7,h8,au⟩⟩
      obtain⟨s1,s2,s3⟩:=ve (m:=fun _=>False) hH fQ ho (eO.refl _ _) (fun _ h=>h.elim) (fun b hb=> .inl (by rw[h3];exact hb)) B4 Zi
      rw[h3]
      exact⟨_,_,_,_,_,_,_,hK,by simp only[Sem.run_bind,bounds (base:=some ⟨g,0,none⟩) ht hc (.inr ⟨g,rfl⟩),Result.andThen_ok];rfl, .inl rfl,s1,s2,s3,by simp[fQ]⟩
    ·cases h
   ·cases h
  ·cases h
 ·cases h
theorem HS(hH:aF M φ H w){t:TypeId}{x:V}{xv:Value}{lo hi mx:Option V}{lov hiv mxv:Option Value}(hx:V.den (az M φ H) φ H w x xv)
 (Eb:match lo,lov with|none,none=>True|some v,some u=>V.den (az M φ H) φ H w v u|_,_=>False) (Ew:match hi,hiv with|none,none=>True|some v,some u=>V.den (az M φ H) φ H w v u|_,_=>False)
 (Ku:match mx,mxv with|none,none=>True|some v,some u=>V.den (az M φ H) φ H w v u|_,_=>False) (h:dA (sd P H.o t x lo hi mx) K):
 dc M φ H w fr ((do let z <- Instr.sliceAt t xv lov hiv mxv;pure (Next.value z):Sem Next).run P w) K:=by
 unfold sd at h
 split at h
 ·rename_i r hr
  obtain⟨v,Δ,rd⟩:=r
  exact OD hH hx Eb Ew Ku hr h
 ·exact Ex hH hx Eb Ew Ku h
theorem Kv(hH:aF M φ H w){ts:Array TypeId}{ty0:TypeId}{x y:V}{xv yv:Value}(hx:V.den (az M φ H) φ H w x xv)(hy:V.den (az M φ H) φ H w y yv)(h:dA (xY P H.o ts x y) K):
 dc M φ H w fr ((do let z <- Builtin.copy_ ts ty0 #[xv,yv];pure (Next.value z):Sem Next).run P w) K:=by
 have hg:=dO h
 clear h
 obtain⟨v,Δ,rd,h,hK⟩:=hg
 unfold xY at h
 split at h
 ·rename_i t t' rS
  have rS:ts=#[t,t']:=by apply Array.ext';simpa using rS
  subst rS
  split at h
  ·rename_i e ht
   split at h
   ·rename_i id off n cs es Zj Ec
    obtain⟨rfl,ho⟩:=B9 Zj
    ·split at h
     ·rename_i hc
      obtain⟨c1,c2,c3,c4⟩:=hc
      injection h with h;injection h with e1 e2;injection e2 with e2 e3;subst e1;subst e2;subst e3
      have c3:∀z∈es,z.cells.length=1:=fun z hz=>by simpa using List.all_eq_true.1 c3 z hz
      obtain⟨i,hi⟩:=ky (P:=P) (e:=e) ad
      have ed:(P.info? e).map (·.size)=some 1:=by rw[hi];simp[<- cn hi,c1]
      obtain⟨_,fQ,hp⟩:=hx
      obtain⟨b,fj,rfl⟩:=hp fi
      have nm:id∉y.ids:=fun hm=>by have:=List.all_eq_true.1 c4 id hm;simp at this
      obtain⟨f1,f2,f3,f4,f5⟩:=dH hH y.ids (dC y _ hy)
      have xg:=(f4 id nm).trans ho
      have bA:=f1.ok id
      simp only[bn,xg]at bA
      obtain⟨b',dX,ty,g1,g2,g3,g4⟩:=bA
      rw[fj]at g1;simp at g1;subst g1
      have l2:=V.aM _ _ g3
      simp only[Array.length_toList]at l2
      have OE:(dy H.o y.ids).map (·.1)=y.ids:=by rw[mm];simp[Function.comp_def]
      rcases pG hH hy Ec c3 with⟨rfl,rfl⟩|⟨a,c,evs,rfl,k1,k2,k3,k4⟩
      ·have hr:=run_copy_nil (P:=P) w t t' ty0 e ⟨b,off,none⟩ n n (bN ht) (by rw[ed];rfl)
       have same:H.put (dy H.o y.ids++[(id,ae.row (cs.take off++(([]:List D).take n |>.flatMap D.cells).map .d++cs.drop (off+(([]:List D).take n).length)))])=H.put (dy H.o y.ids):=by
        rw[eD]
        refine u9 _ ((f5 id).2 fQ) ?_
        rw[xg]
        simp
       refine⟨_,goInt 0,w,φ,_,_,_,hK,by simp only[Sem.run_bind,hr,Result.andThen_ok];rfl, .inl rfl,by rw[same];exact f1,by rw[same];exact f2,by simp[V.den,D.den,goInt],fun j hj=> .inl ?_⟩
       rw[List.map_append,OE]at hj
       simp only[List.map_cons,List.map_nil,List.mem_append,List.mem_singleton]at hj
       rcases hj with hj|rfl
       ·exact dC y _ hy j hj
       ·exact fQ
      ·have hlen:evs.length=es.length:=D.aM _ _ k1
       have k1':=D.bg (f2.blocks (M:=M)) _ _ k1
       have Ed:D.aP (az M φ (H.put (dy H.o y.ids))) w (es.take n) (evs.take n):=D.dZ n _ _ k1'
       have OG:∀ev∈evs.take n,ev.cells.size=1:=fun ev dR=>by
        have:=k2 ev (List.mem_of_mem_take dR);omega
       have pI:((evs.take n).flatMap (·.cells.toList)).length=Nat.min es.length n:=by
        rw[dD (sz:=1) _ OG];simp[hlen,Nat.min_comm]
       have pre:∀ (j:Nat) (u:Value),((evs.take n).flatMap (·.cells.toList))[j]? =some u->(evs.flatMap (·.cells.toList))[j]? =some u:=by
        intro j u hj
        have:evs.flatMap (·.cells.toList)=(evs.take n).flatMap (·.cells.toList)++(evs.drop n).flatMap (·.cells.toList):=by rw[<- List.flatMap_append,List.take_append_drop]
        rw[this]
        have db:j<((evs.take n).flatMap (·.cells.toList)).length:=by
         rcases Nat.lt_or_ge j ((evs.take n).flatMap (·.cells.toList)).length with db|Bv
         ·exact db
         ·rw[List.getElem?_eq_none Bv]at hj;cases hj
        rw[List.getElem?_append_left db];exact hj
       have pF:Flat ((evs.take n).flatMap (·.cells.toList)):=by
        intro u hu
        simp only[List.mem_flatMap]at hu
        obtain⟨ev,h1,h2⟩:=hu
        exact k4 u (by simp only[List.mem_flatMap];exact⟨ev,List.mem_of_mem_take h1,h2⟩)
       have hr:=run_copy_row (P:=P) w t t' ty0 e b off n n a es.length c dX ty (List.flatMap (fun x:Value=>x.cells.toList) (evs.take n)) (bN ht) ed g2 pI (fun j u hj=>k3 j u (pre j u hj)) (by rw[pI];have:Nat.min es.length n<=n:=Nat.min_le_right _ _;omega) pF
       have Oy:V.aP (az M φ (H.put (dy H.o y.ids))) φ (H.put (dy H.o y.ids)) w (((es.take n).flatMap D.cells).map .d) ((evs.take n).flatMap (·.cells.toList)):=by
        have flat:∀ (ds:List D) (us:List Value),D.aP (az M φ (H.put (dy H.o y.ids))) w ds us->D.aP (az M φ (H.put (dy H.o y.ids))) w (ds.flatMap D.cells) (us.flatMap (·.cells.toList)):=by
         intro ds
         induction ds with
         |nil=>intro us h;simp[D.aP]at h;subst h;rfl
         |cons d ds ih=>
          intro us h
          obtain⟨u,us,rfl,q1,q2⟩:=h
          simp only[List.flatMap_cons]
          exact D.bP _ _ _ _ (D.fL _ _ q1).1 (ih us q2)
        exact(V.cM _ _).2 (flat _ _ Ed)
       have xi:((evs.take n).flatMap (·.cells.toList)).length=(es.take n).length:=by rw[pI];simp[Nat.min_comm]
       obtain⟨t1,t2⟩:=BU (cs':=cs.take off++((es.take n).flatMap D.cells).map .d++cs.drop (off+(es.take n).length)) f1 ((f5 id).2 fQ) xg fj g2
        (dX.toList.take off++(evs.take n).flatMap (·.cells.toList)++dX.toList.drop (off+((evs.take n).flatMap (·.cells.toList)).length)).toArray (by
        simp only
        rw[xi]
        exact V.bP _ _ _ _ (V.bP _ _ _ _ (V.dZ _ _ _ g3) Oy) (V.eU _ _ _ g3)) (by
        intro u hu
        simp only[List.mem_append]at hu
        rcases hu with(hu|hu)|hu
        ·exact g4 u (List.mem_of_mem_take hu)
        ·exact pF u hu
        ·exact g4 u (List.mem_of_mem_drop hu))
       refine⟨_,_,_,φ,_,_,_,hK,by simp only[Sem.run_bind,hr,Result.andThen_ok];rfl, .inl rfl,by rw[eD];exact t1,by rw[eD];exact f2.trans t2, ?_,fun j hj=> .inl ?_⟩
       ·simp only[V.den,D.den,goInt,pI]
       ·rw[List.map_append,OE]at hj
        simp only[List.map_cons,List.map_nil,List.mem_append,List.mem_singleton]at hj
        rcases hj with hj|rfl
        ·exact dC y _ hy j hj
        ·exact fQ
     ·cases h
   ·cases h
  ·cases h
 ·cases h
theorem Aa{t u:TypeId}{f off:Nat}(h:z7 P t f=some (off,u)):∃fs fd,P.underlying t=some (.struct fs)/\fs[f]? =some fd/\fd.offset=off/\fd.type=u:=by
 unfold z7 at h
 split at h
 ·rename_i fs hu
  split at h
  ·rename_i fd hf
   injection h with h;injection h with h1 h2
   exact⟨fs,fd,hu,hf,h1,h2⟩
  ·cases h
 ·cases h
theorem yc{t:TypeId}{cs:List V}{off:Nat}{x:V}(h:fq P t cs off=some x){arr:Array Value}(hd:V.aP (az M φ H) φ H w cs arr.toList)(hf:Flat arr.toList):
 ∃u,(part t arr off).run P w= .ok u w/\V.den (az M φ H) φ H w x u:=by
 unfold fq at h
 split at h
 ·rename_i ha
  split at h
  ·rename_i hl
   injection h with h;subst h
   obtain⟨i,hi⟩:=sq ha
   refine⟨.agg (arr.extract off (off+P.cellsOf t)), ?_,lO _ _ ?_ ?_⟩
   ·simp only[part,Sem.run_bind,sn ha w,Result.andThen_ok,if_true,ee hi w,Sem.run_pure]
   ·have:=V.dZ (P.cellsOf t) _ _ (V.eU off _ _ hd)
    simpa[Array.toList_extract,List.extract]using this
   ·intro u hu
    simp only[Array.toList_extract,List.extract]at hu
    exact hf u (List.mem_of_mem_drop (List.mem_of_mem_take hu))
  ·cases h
 ·rename_i ha
  obtain⟨u,hu,Ot⟩:=V.dY _ _ _ _ hd h
  refine⟨u, ?_,Ot⟩
  have xE:arr[off]? =some u:=by simpa using hu
  simp only[part,Sem.run_bind,pE ha w,Result.andThen_ok,Bool.false_eq_true,if_false,xE,Sem.run_pure]
 ·cases h
theorem HT(hH:aF M φ H w){t:TypeId}{x:V}{xv:Value}{f:Nat}(hx:V.den (az M φ H) φ H w x xv)(h:dA ((u4 P t x f).map fun v=>(v,[],[])) K):
 dc M φ H w fr ((do let z <- Instr.field t xv f;pure (Next.value z):Sem Next).run P w) K:=by
 have hg:=dO h
 clear h
 obtain⟨v,Δ,rd,h,hK⟩:=hg
 simp only[Option.map_eq_some_iff,Prod.mk.injEq]at h
 have hg:=h
 clear h
 obtain⟨v',h,rfl,rfl,rfl⟩:=hg
 unfold u4 at h
 split at h
 ·rename_i off u hf
  obtain⟨fs,fd,hu,hfd,rfl,rfl⟩:=Aa hf
  have fin:∀ {arr:Array Value} {val:Value},(part fd.type arr fd.offset).run P w= .ok val w->V.den (az M φ H) φ H w v' val->dc M φ H w fr ((do let z <- Instr.field t (.agg arr) f;pure (Next.value z):Sem Next).run P w) K:=by
   intro arr val r1 r2
   refine dc.same hH val hK ?_ r2
   simp[Instr.field,run_underlying hu,hfd,asAgg,r1]
  split at h
  ·rename_i cs
   simp only[Option.map_eq_some_iff]at h
   obtain⟨d,h1,rfl⟩:=h
   obtain⟨arr,rfl,g1,g2⟩:=hx
   obtain⟨val,r1,r2⟩:=gZ h1 g1 g2
   exact fin (r1 w) r2
  ·rename_i cs
   obtain⟨arr,rfl,g1,g2⟩:=hx
   obtain⟨val,r1,r2⟩:=yc h g1 g2
   exact fin r1 r2
  ·cases h
 ·cases h
theorem HU(s:ByteArray)(n:Nat):s[n]? =s.data.toList[n]? :=by
 rw[getElem?_def]
 split
 ·rename_i h
  have h':n<s.data.toList.length:=by simpa using h
  rw[List.getElem?_eq_getElem h']
  rfl
 ·rename_i h
  have h':s.data.toList.length<=n:=by
   have: ¬n<s.data.size:=h
   simpa using this
  rw[List.getElem?_eq_none h']
theorem HV(hH:aF M φ H w){t:TypeId}{x i:V}{xv iv:Value}(hx:V.den (az M φ H) φ H w x xv)(hi:V.den (az M φ H) φ H w i iv)(h:dA ((u5 P t x i).map fun v=>(v,[],[])) K):
 dc M φ H w fr ((do let z <- Instr.index t xv iv;pure (Next.value z):Sem Next).run P w) K:=by
 have hg:=dO h
 clear h
 obtain⟨v,Δ,rd,h,hK⟩:=hg
 simp only[Option.map_eq_some_iff,Prod.mk.injEq]at h
 have hg:=h
 clear h
 obtain⟨v',h,rfl,rfl,rfl⟩:=hg
 unfold u5 at h
 split at h
 ·rename_i k i
  simp only[V.den,D.den]at hi
  subst hi
  split at h
  ·rename_i h0
   split at h
   ·rename_i hu
    split at h
    ·rename_i l
     split at h
     ·rename_i b hb
      injection h with h;subst h
      obtain⟨s,rfl,rfl⟩:=hx
      refine dc.same hH (.int .u8 b.toNat) hK ?_ rfl
      have FX:s[i.toNat]? =some b:=by rw[HU];exact hb
      simp[Instr.index,asIntOf,run_underlying hu,h0,FX]
     ·cases h
    ·cases h
   ·rename_i n e hu
    split at h
    ·rename_i hn
     obtain⟨h1,h2⟩:=hn
     obtain⟨ie,hie⟩:=Option.isSome_iff_exists.1 h2
     have hc:0<=i/\i<(n:Int):=⟨h0,h1⟩
     have fin:∀ {arr:Array Value} {val:Value},(part e arr (i.toNat*P.cellsOf e)).run P w= .ok val w->V.den (az M φ H) φ H w v' val->dc M φ H w fr ((do let z <- Instr.index t (.agg arr) (.int k i);pure (Next.value z):Sem Next).run P w) K:=by
      intro arr val r1 r2
      refine dc.same hH val hK ?_ r2
      simp[Instr.index,asIntOf,run_underlying hu,hc,ee hie,r1]
     split at h
     ·rename_i cs
      simp only[Option.map_eq_some_iff]at h
      obtain⟨d,h1,rfl⟩:=h
      obtain⟨arr,rfl,g1,g2⟩:=hx
      obtain⟨val,r1,r2⟩:=gZ h1 g1 g2
      exact fin (r1 w) r2
     ·rename_i cs
      obtain⟨arr,rfl,g1,g2⟩:=hx
      obtain⟨val,r1,r2⟩:=yc h g1 g2
      exact fin r1 r2
     ·cases h
    ·cases h
   ·cases h
  ·cases h
 ·cases h
theorem Ca{t:TypeId}(h:pC P t=true):∃d,P.underlying t=some d/\∀ms,d≠ .interface ms:=by
 unfold pC at h
 split at h
 ·cases h
 ·rename_i d hn hd
  exact⟨d,hd,fun ms e=>hn ms e⟩
 ·cases h
theorem ss{t:TypeId}{z:V}(hz:zeroV P t=some z):∃val,(zeroValue t).run P w= .ok val w/\V.den (az M φ H) φ H w z val:=by
 unfold zeroV at hz
 split at hz
 ·rename_i i hi
  have hr:∀v,i.zero=some v->(zeroValue t).run P w= .ok v w:=fun v hv=>by simp[zeroValue,typeInfo,hi,hv]
  split at hz
  ·rename_i a hv
   split at hz
   ·rename_i hf
    injection hz with hz;subst hz
    have fy:Flat a.toList:=fun u hu=>List.all_eq_true.1 hf u hu
    exact⟨_,hr _ hv,lO _ _ (ec _ fy) fy⟩
   ·cases hz
  ·rename_i v _ hv
   split at hz
   ·rename_i h1
    injection hz with hz;subst hz
    exact⟨_,hr _ hv,mi _ h1⟩
   ·cases hz
  ·cases hz
 ·cases hz
theorem Ey(hH:aF M φ H w){t xt:TypeId}{ok:Bool}{x:V}{xv:Value}(hx:V.den (az M φ H) φ H w x xv)(h:dA ((qw P t ok x).map fun v=>(v,[],[])) K):
 dc M φ H w fr ((do let z <- Instr.typeAssert xv xt t ok;pure (Next.value z):Sem Next).run P w) K:=by
 have hg:=dO h
 clear h
 obtain⟨v,Δ,rd,h,hK⟩:=hg
 simp only[Option.map_eq_some_iff,Prod.mk.injEq]at h
 have hg:=h
 clear h
 obtain⟨v',h,rfl,rfl,rfl⟩:=hg
 unfold qw at h
 split at h
 ·rename_i hp
  obtain⟨d,hd,nm⟩:=Ca hp
  split at h
  ·rename_i u y
   obtain⟨val,rfl,hdy⟩:=hx
   split at h
   ·rename_i e
    subst e
    injection h with h
    have hr:(Instr.typeAssert (.iface u val) xt u ok).run P w= .ok (if ok=true then .tuple #[val, .bool true]else val) w:=by
     cases d<;>first|exact absurd rfl (nm _)|(cases ok<;>simp[Instr.typeAssert,run_underlying hd])
    refine dc.same hH _ hK NZ ?_
    subst h
    cases ok
    ·exact hdy
    ·exact⟨_,rfl,val,[.bool true],rfl,hdy, .bool true,[],rfl,rfl,rfl⟩
   ·rename_i iQ
    split at h
    ·rename_i bA
     simp only[Option.map_eq_some_iff]at h
     obtain⟨z,hz,rfl⟩:=h
     obtain⟨zv,r1,r2⟩:=ss (w:=w) (M:=M) (φ:=φ) (H:=H) hz
     have hr:(Instr.typeAssert (.iface u val) xt t ok).run P w= .ok (.tuple #[zv, .bool false]) w:=by
      cases d<;>first|exact absurd rfl (nm _)|simp[Instr.typeAssert,run_underlying hd,iQ,bA,r1]
     exact dc.same hH _ hK NZ ⟨_,rfl,zv,[.bool false],rfl,r2, .bool false,[],rfl,rfl,rfl⟩
    ·cases h
  ·simp only[V.den,D.den]at hx
   subst hx
   split at h
   ·rename_i bA
    simp only[Option.map_eq_some_iff]at h
    obtain⟨z,hz,rfl⟩:=h
    obtain⟨zv,r1,r2⟩:=ss (w:=w) (M:=M) (φ:=φ) (H:=H) hz
    have hr:(Instr.typeAssert .nilIface xt t ok).run P w= .ok (.tuple #[zv, .bool false]) w:=by
     cases d<;>first|exact absurd rfl (nm _)|simp[Instr.typeAssert,run_underlying hd,bA,r1]
    exact dc.same hH _ hK NZ ⟨_,rfl,zv,[.bool false],rfl,r2, .bool false,[],rfl,rfl,rfl⟩
   ·cases h
  ·cases h
 ·cases h
end
end Go.Proofs.YtonbelhklnmjnaaGreat
