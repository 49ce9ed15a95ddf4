/-
  A PART OF THE PROOF. Conditions: none.
-/
import Derived.ChangeKeysEq
import Derived.Test.YtlhemmpklhhgoaaGreatQk2
set_option linter.unusedSimpArgs false
set_option linter.unusedVariables false
namespace Go.Proofs.YtlhemmpklhhgoaaGreat
section
section
variable {P:Program}{M:Nat->Prop}{φ:Place}{H:Hp}{w w':World}{fr:Nat}{K:V->List (Nat×aa)->List Nat->Prop}
theorem iK{base:Nat}{e:TypeId}{sz n:Nat}{v:Value}{xs:List Value}(h:w.ownsRow base e sz v n xs):w.ownsRow 0 e sz v n xs:=by
 obtain⟨h1,h2⟩:=h
 refine⟨h1, ?_⟩
 rcases h2 with h2|⟨g,cap,cur,a,_,b⟩
 ·exact .inl h2
 ·exact .inr ⟨g,cap,cur,a,Nat.zero_le _,b⟩
theorem ez{base:Nat}{e:TypeId}{sz n:Nat}{v:Value}{xs:List Value}(h:w.ownsRow base e sz v n xs)(b:Nat)(hb:cM v=some b):base<=b/\b<w.heap.size:=by
 rcases h.2 with⟨rfl,_⟩|⟨g,cap,cur,rfl,h1,h2,_⟩
 ·cases hb
 ·simp[cM]at hb;subst hb
  exact⟨h1,(Array.getElem?_eq_some_iff.1 h2).1⟩
theorem cu.mono {B B':Nat->Prop}(hb:∀b,bb w b-> ¬B b->w'.heap[b]? =w.heap[b]? /\ ¬B' b){sz:Nat}{es:List D}{xs:List Value}(h:cu B w sz es xs):cu B' w' sz es xs:=by
 obtain⟨evs,h1,h2,h3⟩:=h
 exact⟨evs,h1,h2,D.aw hb es evs h3⟩
theorem ra(hH:ag M φ H w)(cq: ¬H.us fr)(hk:cc (fun _=>False) w w'){val:Value}{ty:TypeId}{sz:Nat}{es:List D}{xs:List Value}(cg:0<sz)
 (bX:w'.ownsRow w.heap.size ty sz val es.length xs) (hd:cu (ae M φ H) w sz es xs):
 let ao:=cn φ fr val;let H':=H.put [(fr, .arr 0 ty sz es)]
 ag M ao H' w'/\Trans φ H w ao H' w'/\V.den (ae M ao H') ao H' w' (.osl fr 0) val:=by
 intro ao H'
 have ht:Trans φ H w ao H' w':=bN hk cq _ _ fun b hb=>(ez bX b hb).1
 refine⟨dC hH hk cq _ _ (ez bX) ?_,ht, ?_,by simp[H'],fun e he=> ?_⟩
 ·unfold au
  simp only[aH,aq,if_true]
  exact⟨cg,xs,iK bX,hd.mono (ht.blocks (M:=M))⟩
 ·rcases bX.2 with⟨rfl,_⟩|⟨g,cap,cur,rfl,_⟩<;>rfl
 ·exact C2
theorem cB(hH:ag M φ H w)(cq: ¬H.us fr)(hk:cc (fun _=>False) w w'){s:Sem Value}{val:Value}{ty:TypeId}{sz:Nat}{es:List D}{xs:List Value}{rd:List Nat}(cg:0<sz)
 (hK:K (.osl fr 0) [(fr, .arr 0 ty sz es)] rd) (hr:s.run P w= .ok val w') (bX:w'.ownsRow w.heap.size ty sz val es.length xs) (hd:cu (ae M φ H) w sz es xs):
 a6 M φ H w fr ((do let y <- s;pure (Next.value y):Sem Next).run P w) K:=by
 obtain⟨h1,h2,h3⟩:=ra hH cq hk cg bX hd
 exact Cv
theorem ed{e:TypeId}(h:0<P.cellsOf e):∃i,P.info? e=some i:=by
 cases hi:P.info? e with
 |none=>simp[Program.cellsOf,hi]at h
 |some i=>exact⟨i,rfl⟩
theorem oQ(parts:List (Nat×Value))(n:Nat)(h:parts.map (·.1)=List.range n):parts=((parts.map (·.2)).zipIdx 0).map fun x=>(x.2,x.1):=by
 apply List.ext_getElem?
 intro i
 have hl:parts.length=n:=by have:=congrArg List.length h;simpa using this
 rw[List.getElem?_map,List.getElem?_zipIdx,List.getElem?_map]
 cases hp:parts[i]? with
 |none=>simp
 |some p=>
  have h1:(parts.map (·.1))[i]? =some p.1:=by simp[hp]
  rw[h,List.getElem?_range (by have:=(List.getElem?_eq_some_iff.1 hp).1;omega)]at h1
  simp at h1
  obtain⟨p1,p2⟩:=p
  simp_all
theorem kp{t e:TypeId}(ht:P.underlying t=some (.slice e))(cU:0<P.cellsOf e):(Instr.buildSlice t 0 #[]).run P w= .ok (.slice (some ⟨w.heap.size,0,none⟩) 0 0) (w.alloc (.cells #[] e)):=by
 obtain⟨i,hi⟩:=ed cU
 have h1:(underlying t).run P w= .ok (.slice e) w:=by simp[Go.underlying,ht]
 have h2:(sizeOf e).run P w= .ok i.size w:=by simp[Go.sizeOf,Go.typeInfo,hi]
 simp[Instr.buildSlice,h1,h2,Instr.fill,newRow]
 congr 2
 exact Array.eq_empty_of_size_eq_zero aU
theorem k9(hH:ag M φ H w)(cq: ¬H.us fr){t:TypeId}{len:Nat}{parts:Array (Nat×Operand)}{s:S}{a:Act}(b5:∀i,V.den (ae M φ H) φ H w (s.env i) (a.tmps.getD i undef))
 (h:dE P H.o fr t len (parts.toList.map fun p=>(p.1,s.ev p.2)) K):
 a6 M φ H w fr ((do let y <- Instr.buildSlice t len (parts.map fun(i,x)=>(i,a.eval x));pure (Next.value y):Sem Next).run P w) K:=by
 unfold dE at h
 split at h
 ·rename_i e ht
  rcases h with⟨rfl,Hx,cU,hK⟩|⟨Io,hz,hlen,cU,Ip,ds,dh,hw,hK⟩
  ·have s8:parts=#[]:=by
    have:=congrArg List.length Hx
    simp at this
    exact this
   subst s8
   have bX:=World.ownsRow_lit (base:=w.heap.size) (e:=e) (size:=P.cellsOf e) w #[] 0 (Nat.le_refl _) (Nat.zero_le _) aU
   exact cB hH cq (aS w _) cU hK (by simpa using kp (w:=w) (aA ht) cU) bX ⟨[],rfl,aU,rfl⟩
  obtain⟨z,hz⟩:=Option.isSome_iff_exists.1 hz
  obtain⟨ie,zv,h1,h2,h3,h4,_⟩:=ec hz
  have hd:V.ai (ae M φ H) φ H w ((parts.toList.map fun p=>(p.1,s.ev p.2)).map (·.2)) ((parts.map fun(i,x)=>(i,a.eval x)).toList.map (·.2)):=by
   have:=ey s a b5 (parts.toList.map (·.2))
   simpa[Function.comp_def]using this
  have tC:(parts.map fun(i,x)=>(i,a.eval x)).toList.map (·.1)=List.range len:=by
   rw[<- Io];simp[Function.comp_def]
  generalize Mf:(parts.map fun(i,x)=>(i,a.eval x)).toList=vp at hd tC
  generalize Hy:(parts.toList.map fun p=>(p.1,s.ev p.2)).map (·.2)=sp at hd dh hK
  obtain⟨f1,f2,f3,f4,f5⟩:=bK hH (V.aC sp) (bd sp _ hd)
  have Mg:=V.aw f2 _ _ hd
  have mz:=bD f1 sp ds _ f3 dh Mg
  have cg:∀v∈vp.map (·.2),v.cells.size=P.cellsOf e:=by
   intro v hv
   obtain⟨i,hi⟩:=List.mem_iff_getElem?.1 hv
   have hl:=D.ah _ _ mz
   have cm:i<ds.length:=by rw[<- hl];exact(List.getElem?_eq_some_iff.1 hi).1
   obtain⟨v',jn,tD⟩:=D.bA _ _ i ds[i] mz (by simp[cm])
   rw[hi]at jn;injection jn with jn;subst jn
   have:=D.ah _ _ (D.cH _ _ tD).1
   rw[hw _ (List.getElem_mem cm)]at this
   simpa using this
  have Iq:vp.length=len:=by have:=congrArg List.length tC;simpa using this
  have Dd:Instr.fill (fun i=>some (i*ie.size,ie.size)) ((Array.range (len*ie.size)).map (zv.cells[· %zv.cells.size]!)) vp=some ((vp.map (·.2)).flatMap fun v=>v.cells.toList).toArray:=by
   rw[<- aK h1]
   have:=Great.fill_whole cU (vp.map (·.2)) ((Array.range (len*P.cellsOf e)).map (zv.cells[· %zv.cells.size]!)) cg (by simp[Iq])
   rwa [<- oQ vp len tC]at this
  have cI:=run_buildSlice (P:=P) w t e len (parts.map fun(i,x)=>(i,a.eval x)) _ ie zv (aA ht) h1 h2 (by rw[<- aK h1];omega) (by rw[<- aK h1];have:=Nat.mul_pos hlen cU;omega) (by rw[Mf];exact Dd)
  have Ir:=D.ah _ _ mz
  have bX:=World.ownsRow_lit (base:=w.heap.size) (e:=e) (size:=P.cellsOf e) w ((vp.map (·.2)).flatMap fun v=>v.cells.toList).toArray len (Nat.le_refl _) (by have:=Nat.le_mul_of_pos_right len cU;simp[maxLen];omega) (by
   have:∀l:List Value,(∀v∈l,v.cells.size=P.cellsOf e)->(l.flatMap fun v=>v.cells.toList).length=l.length*P.cellsOf e:=by
    intro l
    induction l with
    |nil=>simp
    |cons x l ih=>intro hx;simp[hx x (by simp),ih (fun v hv=>hx v (by simp[hv])),Nat.add_mul,Nat.add_comm]
   have:=this (vp.map (·.2)) cg
   simpa[Iq]using this)
  have mA:len=ds.length:=by rw[<- Ir];simp[Iq]
  obtain⟨g1,g2,g3⟩:=ra (ty:=e) (sz:=P.cellsOf e) (es:=ds) f1 (fr:=fr) (fun hu=>cq ((f5 fr).1 hu)) (aS w _) cU (by rw[<- mA];exact bX) ⟨vp.map (·.2),aU,cg,mz⟩
  rw[<- bV]at g1 g2 g3
  refine⟨_,_,_,_,_,_,_,hK,by simp only[Sem.run_bind,cI,Result.andThen_ok];rfl, .inl rfl,g1,f2.trans g2,g3,fun id aj=> ?_⟩
  simp only[List.map_append,List.mem_append,List.map_cons,List.map_nil,List.mem_singleton]at aj
  rcases aj with aj|aj
  ·left
   refine bd sp _ hd id ?_
   rw[fg]at aj
   simpa[Function.comp_def]using aj
  ·exact .inr aj
 ·exact h.elim
theorem fO:∀ (vs:List Value),V.aC (vs.map V.bB)=[]
 |[]=>rfl
 |v::vs=>by
  have h:(V.bB v).ids=[]:=by cases v<;>simp only[V.bB,V.ids]<;>split<;>rfl
  simp[V.aC,h,fO vs]
theorem mB(hH:ag M φ H w){e:TypeId}{x:D}(h:oF P e=some x):∃i z ev,P.info? e=some i/\i.zero=some z/\z.cells.size=i.size/\Flat z.cells.toList/\ev.cells=z.cells/\D.den (ae M φ H) w x ev:=by
 unfold oF at h
 split at h
 ·rename_i zs hz
  obtain⟨i,z,h1,h2,h3,h4,rfl⟩:=ec hz
  have key:∀ds,aT (fun _=> .no) (z.cells.toList.map V.bB)=some ds->D.ai (ae M φ H) w ds z.cells.toList:=fun ds dh=>
   bD hH _ _ _ (by rw[fO];simp) dh (bM _ h4)
  split at h
  ·rename_i ds dh qb
   injection h with h;subst h
   exact⟨i,z, .agg z.cells,h1,h2,h3,h4,rfl,z.cells,rfl,key ds dh,h4⟩
  ·rename_i y dh qb
   injection h with h;subst h
   obtain⟨u,us,h5,h6,h7⟩:=key _ dh
   simp only[D.ai]at h7;subst h7
   have vQ:=h4 u (by rw[h5];simp)
   have hu:u.cells=#[u]:=by cases u<;>simp_all[Value.oneCell',Value.cells]
   refine⟨i,z,u,h1,h2,h3,h4, ?_,h6⟩
   rw[hu];apply Array.ext';simpa using h5.symm
  ·cases h
 ·cases h
theorem fP(z:Value)(n:Nat):(madeCells z.cells (n*z.cells.size)).toList=(List.replicate n z).flatMap (·.cells.toList):=by
 apply List.ext_getElem?
 intro i
 by_cases h0:z.cells.size=0
 ·have:z.cells.toList=[]:=by simpa using h0
  simp[madeCells,h0]
 ·have cU:0<z.cells.size:=aN
  by_cases hi:i<n*z.cells.size
  ·have hd:i/z.cells.size<n:=Nat.div_lt_of_lt_mul (by rwa [Nat.mul_comm]at hi)
   have hm:=Nat.mod_lt i cU
   have:=fN z.cells.size (List.replicate n z) (i/z.cells.size) (i%z.cells.size) z z.cells[i%z.cells.size] (fun x hx=>by rw[(List.mem_replicate.1 hx).2]) (by simp[hd]) (by simp[hm])
   rw[Nat.mul_comm,Nat.div_add_mod]at this
   rw[this]
   simp[madeCells,List.getElem?_range hi,hm]
  ·have h1:(madeCells z.cells (n*z.cells.size)).toList.length=n*z.cells.size:=by simp[madeCells]
   have h2:((List.replicate n z).flatMap (·.cells.toList)).length=n*z.cells.size:=by simp[List.flatMap_replicate]
   rw[List.getElem?_eq_none (by omega),List.getElem?_eq_none (by omega)]
theorem mg(hH:ag M φ H w)(cq: ¬H.us fr){t:TypeId}{l c:V}{lv cv:Value}(hl:V.den (ae M φ H) φ H w l lv)(hc:V.den (ae M φ H) φ H w c cv)
 (h:ea P fr t l c fun v Δ=>K v Δ []):a6 M φ H w fr ((do let y <- Instr.makeSlice t lv cv;pure (Next.value y):Sem Next).run P w) K:=by
 unfold ea at h
 split at h
 ·rename_i e kl n kc m ht
  obtain⟨rfl,h0,cU,hb,hn,x,hx,hK⟩:=h
  simp only[V.den,D.den]at hl hc;subst hl;subst hc
  obtain⟨i,z,ev,h1,h2,h3,h4,h5,h6⟩:=mB hH hx
  obtain⟨k,rfl⟩:=Int.eq_ofNat_of_zero_le h0
  simp only[Int.toNat_natCast]at hb hn hK
  rw[ff h1]at hb
  obtain⟨w',r1,r2,r3⟩:=run_make_full (P:=P) w w.heap.size t e i z (P.cellsOf e) (aA ht) h1 h2 (aK h1).symm kl kc k aN (by simp[maxLen];omega) (Nat.le_refl _)
  refine cB hH cq (fe r3) cU hK r1 (by simpa using r2) ⟨List.replicate k ev, ?_, ?_, ?_⟩
  ·rw[aK h1, <- h3,fP]
   simp[List.flatMap_replicate,h5]
  ·intro v hv
   rw[(List.mem_replicate.1 hv).2,h5,h3,aK h1]
  ·clear r1 r2 hK hb hn
   induction k with
   |zero=>rfl
   |succ k ih=>exact⟨ev,List.replicate k ev,rfl,h6,ih aN⟩
 ·exact h.elim
theorem kq(w:World)(t u ty e:TypeId)(i:TypeInfo)(z:Value)(ht:P.underlying t=some (.slice e)){k0:IntKind}(hu:P.underlying u=some (.int k0))(hi:P.info? e=some i)(hz:i.zero=some z)(cU:0<i.size)
 (k:IntKind) (n:Nat) (h0:0<n) (NA:n<=1099511627776) (Mh:n*i.bytes<=1099511627776):
 (Builtin.append_ #[t,u] ty #[.slice none 0 0, .int k n]).run P w=
  .ok (.slice (some ⟨w.heap.size,0,none⟩) n (grownCap w n 0 e)) (w.drew.alloc (.cells (Builtin.zeroCells z.cells n++Builtin.zeroCells z.cells (grownCap w n 0 e - n)) e)):=by
 have hn:n≠0:=aN
 have Is: ¬ (n*i.size=0):=by
  intro h
  rcases Nat.mul_eq_zero.1 h with h|h<;>omega
 have It:IntKind.i64.wrap (n:Int)=n:=by
  unfold IntKind.wrap
  have e1:((2:Int)^IntKind.i64.bits)=18446744073709551616:=ke
  have e2:((2:Int)^(IntKind.i64.bits - 1))=9223372036854775808:=ke
  have e3:IntKind.i64.signed=true:=rfl
  simp only[e1,e2,e3]
  have h1:(n:Int)%18446744073709551616=n:=Int.emod_eq_of_lt aN aN
  rw[h1]
  split<;>simp_all<;>omega
 have Iu: ¬ (9223372036854775807<(n:Int)):=aN
 have zc: ¬ (281474976710656<(n:Int)*(i.bytes:Int)):=by
  have h5:((n*i.bytes:Nat):Int)<=(1099511627776:Nat):=Int.ofNat_le.2 Mh
  rw[Int.natCast_mul]at h5;omega
 have Iv: ¬ (281474976710656<Builtin.nextslicecap n 0*i.bytes):=by rw[nextslicecap_zero h0];omega
 simp[Builtin.append_,run_underlying ht,run_underlying hu,sizeOf,typeInfo,zeroValue,hi,hz,Builtin.lenOf,hn,Is,It,Iu,Iv,zc,Question.forced,run_firstCells_none,newRow,grownCap,asInt,asIntOf]
 intro h;omega
theorem tE(hH:ag M φ H w)(cq: ¬H.us fr){ts:Array TypeId}{ty0:TypeId}{x y:V}{xv yv:Value}(hx:V.den (ae M φ H) φ H w x xv)(hy:V.den (ae M φ H) φ H w y yv)
 (h:bf (mu P fr ts x y) K):a6 M φ H w fr ((do let z <- Builtin.append_ ts ty0 #[xv,yv];pure (Next.value z):Sem Next).run P w) K:=by
 unfold mu at h
 split at h
 ·rename_i t t' mh
  have mh:ts=#[t,t']:=by apply Array.ext';simpa using mh
  subst mh
  split at h
  ·exact h.elim
  ·split at h
   ·rename_i e ht
    split at h
    ·rename_i k0 kk n hu
     split at h
     ·rename_i hc
      obtain⟨c1,c2,c3,c4⟩:=hc
      split at h
      ·rename_i x0 Mi
       simp only[V.den,D.den]at hx hy;subst hx;subst hy
       obtain⟨i,z,ev,h1,h2,h3,h4,h5,h6⟩:=mB hH Mi
       obtain⟨k,rfl⟩:=Int.eq_ofNat_of_zero_le (Int.le_of_lt c1)
       simp only[Int.toNat_natCast]at c3 c4 h
       have ov:P.underlying t'=some (.int k0):=by
        unfold sd at hu
        split at hu
        ·rename_i k1 hk;injection hu with hu;subst hu;exact hk
        ·cases hu
       have hr:=kq (P:=P) w t t' ty0 e i z (aA ht) ov h1 h2 (by rw[<- aK h1];exact c2) kk k aN aN (by rw[<- ff h1];omega)
       have rb:=grownCap_ge w k 0 e
       have cg:z.cells.size=P.cellsOf e:=by rw[aK h1, <- h3]
       have tF:(Builtin.zeroCells z.cells k).toList=(List.replicate k ev).flatMap (·.cells.toList):=by
        have e1:(Builtin.zeroCells z.cells k).toList=(madeCells z.cells (k*z.cells.size)).toList:=by simp[Builtin.zeroCells,madeCells]
        rw[e1,fP]
        simp[List.flatMap_replicate,h5]
       refine cB hH cq (w':=w.drew.alloc (.cells (Builtin.zeroCells z.cells k++Builtin.zeroCells z.cells (grownCap w k 0 e - k)) e)) (xs:=(List.replicate k ev).flatMap (·.cells.toList)) ⟨rfl,rfl,rfl,aU,fun j hj _=>RowKit.Below.heap_alloc w.drew _ j hj⟩ c2 h hr ?_ ⟨List.replicate k ev,rfl, ?_, ?_⟩
       ·refine⟨?_, .inr ⟨w.heap.size,_,_,by rw[List.length_replicate],Nat.le_refl _,heap_alloc_new w.drew _,by rw[List.length_replicate];exact rb,grownCap_le_maxLen w k 0 e (by simp[maxLen];omega), ?_, ?_⟩⟩
        ·rw[<- tF,Array.length_toList,size_zeroCells,cg,List.length_replicate]
        ·rw[Array.size_append,size_zeroCells,size_zeroCells,cg, <- Nat.add_mul];congr 1;omega
        ·rw[Array.toList_append, <- tF,List.take_append_of_le_length (by simp[size_zeroCells,cg]),List.take_of_length_le (by simp[size_zeroCells,cg])]
       ·intro v hv
        rw[(List.mem_replicate.1 hv).2,h5,cg]
       ·clear hr h c1 c3 c4 rb tF
        induction k with
        |zero=>rfl
        |succ k ih=>exact⟨ev,List.replicate k ev,rfl,h6,ih⟩
      ·exact h.elim
     ·exact h.elim
    ·exact h.elim
   ·exact h.elim
 ·exact h.elim
theorem hO(hH:ag M φ H w){y:V}{yv:Value}{new:List D}{sz:Nat}(hy:V.den (ae M φ H) φ H w y yv)(h:cz H.o y=some new)(hw:∀z∈new,z.cells.length=sz):
 (yv= .slice none 0 0/\new=[])\/∃a c evs,yv= .slice (some a) new.length c/\D.ai (ae M φ H) w new evs/\(∀ev∈evs,ev.cells.size=sz)/\
  (∀j u,(evs.flatMap (·.cells.toList))[j]? =some u->w.cell? (a.add j)=some u)/\Flat (evs.flatMap (·.cells.toList)):=by
 have xw:∀ {evs:List Value},D.ai (ae M φ H) w new evs->(∀ev∈evs,ev.cells.size=sz)/\Flat (evs.flatMap (·.cells.toList)):=by
  intro evs hd
  have key:∀ev∈evs,ev.cells.size=sz/\Flat ev.cells.toList:=by
   intro ev bC
   obtain⟨i,hi⟩:=List.mem_iff_getElem?.1 bC
   have hl:=D.ah _ _ hd
   have cm:i<new.length:=by rw[<- hl];exact(List.getElem?_eq_some_iff.1 hi).1
   obtain⟨v',jn,tD⟩:=D.bA _ _ i new[i] hd (by simp[cm])
   rw[hi]at jn;injection jn with jn;subst jn
   have h1:=D.cH _ _ tD
   have h2:=D.ah _ _ h1.1
   rw[hw _ (List.getElem_mem cm)]at h2
   exact⟨by simpa using h2,h1.2⟩
  refine⟨fun ev bC=>(key ev bC).1,fun u hu=> ?_⟩
  obtain⟨ev,h1,h2⟩:=List.mem_flatMap.1 hu
  exact(key ev h1).2 u h2
 have re:D.den (ae M φ H) w (.sl new) yv->(yv= .slice none 0 0/\new=[])\/∃a c evs,yv= .slice (some a) new.length c/\D.ai (ae M φ H) w new evs/\(∀ev∈evs,ev.cells.size=sz)/\
  (∀j u,(evs.flatMap (·.cells.toList))[j]? =some u->w.cell? (a.add j)=some u)/\Flat (evs.flatMap (·.cells.toList)):=by
  rintro⟨base,len,cap,rfl,rfl,h2,h3,jm,h4⟩
  cases base with
  |none=>
   left
   have h5:=h3 rfl;subst h5
   have:new=[]:=by simpa using h2
   subst this;exact⟨rfl,rfl⟩
  |some a=>
   right
   obtain⟨h5,h6⟩:=h4 a rfl
   by_cases Hz:cap=0
   ·have:new=[]:=List.eq_nil_of_length_eq_zero aN
    subst this
    exact⟨a,cap,[],rfl,rfl,aU,aU,by simp[Flat]⟩
   replace h5:=h5 Hz
   have key:∀ (es:List D) (i:Nat),(∀z∈es,z.cells.length=sz)->D.elems (ae M φ H) w jm a i es->
    ∃evs,D.ai (ae M φ H) w es evs/\∀j u,(evs.flatMap (·.cells.toList))[j]? =some u->w.cell? (a.add (i*sz+j))=some u:=by
    intro es
    induction es with
    |nil=>intro i _ _;exact⟨[],rfl,aU⟩
    |cons e es ih=>
     intro i hz h
     obtain⟨⟨ev,k1,k2,k3⟩,k4⟩:=h
     obtain⟨evs,g1,g2⟩:=ih (i+1) (fun z Mj=>hz z (by simp[Mj])) k4
     have k5:ev.cells.size=sz:=by
      have:=D.ah _ _ (D.cH _ _ k3).1
      rw[hz e (by simp)]at this
      simpa using this
     refine⟨ev::evs,⟨ev,evs,rfl,k3,g1⟩,fun j u hj=> ?_⟩
     rw[List.flatMap_cons]at hj
     by_cases cm:j<sz
     ·rw[List.getElem?_append_left (by simp;omega)]at hj
      have:=(k2 j u fG).1
      rw[add_add a h5]at this
      rwa [<- k1,k5]at this
     ·rw[List.getElem?_append_right (by simp;omega)]at hj
      have:=g2 (j - sz) u (by simpa[k5]using hj)
      rwa [show(i+1)*sz+(j - sz)=i*sz+j by rw[Nat.add_mul];omega]at this
   obtain⟨evs,g1,g2⟩:=key new 0 hw h6
   obtain⟨s1,s2⟩:=xw g1
   exact⟨a,cap,evs,rfl,g1,s1,fun j u hj=>by simpa using g2 j u hj,s2⟩
 unfold cz at h
 split at h
 ·rename_i es hD
  injection h with h;subst h
  cases y with
  |d x=>simp only[cN,Option.some.injEq]at hD;subst hD;exact re hy
  |cG=>simp only[cN,Option.some.injEq,D.sl.injEq]at hD;subst hD;exact .inl ⟨hy,rfl⟩
  |osl id ep=>
   obtain⟨_,_,mb⟩:=hy
   have aI:=hH.ok id
   simp only[cN]at hD
   cases hx:H.o id with
   |no=>simp[hx]at hD
   |row cs=>simp[hx]at hD
   |map kt vt l=>simp[hx]at hD
   |loop nf n env ps gU eY st sc=>simp[hx]at hD
   |dm l=>simp[hx]at hD
   |l8 l last=>simp[hx]at hD
   |pX s pos=>simp[hx]at hD
   |arr dL ty jm es'=>
    simp only[hx]at hD
    split at hD
    ·rename_i e;subst e
     simp only[Option.some.injEq,D.sl.injEq]at hD;subst hD
     simp only[au,hx]at aI
     have hv:=(mb ep oz).2 rfl
     obtain⟨h0,xs,⟨hl,bZ⟩,evs,rfl,h2,h3⟩:=aI
     obtain⟨s1,s2⟩:=xw h3
     rw[hv]
     rcases bZ with⟨h4,h5⟩|⟨g,cap,cur,h4,_,h5,h6,h7,h8,h9⟩
     ·exact .inl ⟨h4,by simpa using h5⟩
     ·right
      refine⟨_,cap,evs,h4,h3,s1,fun j u hj=> ?_,s2⟩
      refine iI h5 j u ?_
      rw[<- h9,List.getElem?_take]at hj
      split at hj
      ·simpa using hj
      ·cases hj
    ·cases hD
   |l5 dL es'=>
    simp only[hx]at hD
    split at hD
    ·rename_i e;subst e
     simp only[Option.some.injEq,D.sl.injEq]at hD;subst hD
     simp only[au,hx]at aI
     have hv:=(mb ep oz).2 rfl
     rw[hv]at re|-
     exact re aI
    ·cases hD
  |agg cs=>simp[cN]at hD
  |iface t x=>simp[cN]at hD
  |jN es'=>simp only[cN,Option.some.injEq,D.sl.injEq]at hD;subst hD;exact re hy.1
  |mp id=>simp only[cN]at hD;split at hD<;>simp at hD
  |_=>simp[cN]at hD
 ·cases h
theorem iL(hH:ag M φ H w){id ep:Nat}(cR:H.us id){ty:TypeId}{sz:Nat}{es es':List D}(ho:H.o id= .arr ep ty sz es){val:Value}{Iw:List Value}{m:Nat->Prop}(hk:cc m w w')
 (hm:∀b,m b->cM (φ id)=some b) (dI:∀b,cM val=some b->cM (φ id)=some b\/w.heap.size<=b) (bX:w'.ownsRow 0 ty sz val es'.length Iw) (hd:cu (ae M φ H) w sz es' Iw):
 let ao:=cn φ id val;let H':=H.put [(id, .arr (ep+1) ty sz es')]
 ag M ao H' w'/\Trans φ H w ao H' w'/\V.den (ae M ao H') ao H' w' (.osl id (ep+1)) val:=by
 intro ao H'
 have hl:(H.o id).live=true:=by rw[ho];rfl
 have ht:Trans φ H w ao H' w':={
  keep:=⟨hk.os,hk.tape,hk.output,hk.size,fun k h Be=>hk.block k h (fun e=>Be ⟨id,hl,hm k e⟩)⟩
  grow:=by
   rintro b ⟨j,h1,h2⟩
   by_cases hj:j=id
   ·subst hj
    simp only[ao,aq,if_true]at h2
    rcases dI b h2 with h3|h3
    ·exact .inl ⟨j,hl,h3⟩
    ·exact .inr h3
   ·simp[H',ao,hj]at h1 h2;exact .inl ⟨j,h1,h2⟩
  rel:={
   us:=fun j h=>by simp[H',h]
   row:=fun j hu hr=>by
    by_cases hj:j=id
    ·subst hj;simp[H',aa.aY]at hr
    ·simp[H',ao,hj]at hr|-;exact hr
   ep:=fun j e' hu he=>by
    by_cases hj:j=id
    ·subst hj;simp[H',aa.bz]at he;subst he;exact⟨ep,by rw[ho];rfl,Nat.le_succ _,fun h=>aN⟩
    ·simp[H',ao,hj]at he|-;exact⟨e',he,Nat.le_refl _⟩}}
 have h0:=hH.ok id
 simp only[au,ho]at h0
 refine⟨hH.of ht (· =id) (fun j h=> ?_) (fun j h=> ?_) (fun j h=> ?_) (fun i j b hi hj bi bj=> ?_) (fun b=> ?_),ht, ?_,by simp[H'],fun e he=> ?_⟩
 ·subst h
  unfold au
  simp only[H',aH,aq,if_true]
  exact⟨h0.1,Iw,by simpa[ao]using bX,hd.mono (ht.blocks (M:=M))⟩
 ·refine⟨by simp[H',h],by simp[ao,h],fun K5 b hb=>hk.block b (hH.ours b ⟨j,K5,hb⟩).2 fun e=>h ?_⟩
  exact hH.apart j id b K5 hl hb (hm b e)
 ·rw[bW]at h
  have h1:j≠id:=fun e=>h (.inr e)
  simp only[H',aH,aq,h1,if_false]
  exact Ct
 ·by_cases e1:i=id<;>by_cases e2:j=id
  ·exact e1.trans e2.symm
  ·subst e1
   simp[H',ao,e2]at hj bj bi
   rcases dI b bi with h3|h3
   ·exact hH.apart i j b hl hj h3 bj
   ·have:=(hH.ours b ⟨j,hj,bj⟩).2;omega
  ·subst e2
   simp[H',ao,e1]at hi bi bj
   rcases dI b bj with h3|h3
   ·exact hH.apart i j b hi hl bi h3
   ·have:=(hH.ours b ⟨i,hi,bi⟩).2;omega
  ·simp[H',ao,e1,e2]at hi hj bi bj
   exact hH.apart i j b hi hj bi bj
 ·rintro⟨j,h1,h2⟩
  by_cases hj:j=id
  ·subst hj;simp only[ao,aq,if_true]at h2;exact(ez bX b h2).2
  ·simp[H',ao,hj]at h1 h2
   exact Nat.lt_of_lt_of_le (hH.ours b ⟨j,h1,h2⟩).2 hk.size
 ·rcases bX.2 with⟨rfl,_⟩|⟨g,cap,cur,rfl,_⟩<;>rfl
 ·exact C2
theorem cu.append {B:Nat->Prop}{sz:Nat}{es new:List D}{xs:List Value}{evs:List Value}(h:cu B w sz es xs)(h1:D.ai B w new evs)(h2:∀ev∈evs,ev.cells.size=sz):
 cu B w sz (es++new) (xs++evs.flatMap (·.cells.toList)):=by
 obtain⟨Ix,rfl,h3,h4⟩:=h
 refine⟨Ix++evs,aU,fun ev bC=> ?_,D.aB _ _ _ _ h4 h1⟩
 rcases List.mem_append.1 bC with h|h
 ·exact h3 ev h
 ·exact h2 ev h
theorem bg{sz:Nat}:∀ (evs:List Value),(∀ev∈evs,ev.cells.size=sz)->(evs.flatMap (·.cells.toList)).length=evs.length*sz
 |[],_=>aU
 |x::l,hx=>by
  have:=bg l fun v hv=>hx v (by simp[hv])
  simp[this,hx x (by simp),Nat.add_mul,Nat.add_comm]
theorem qd(hH:ag M φ H w)(cq: ¬H.us fr){ts:Array TypeId}{ty0:TypeId}{x y:V}{xv yv:Value}(hx:V.den (ae M φ H) φ H w x xv)(hy:V.den (ae M φ H) φ H w y yv)
 (h:iw P H.o fr ts x y K):a6 M φ H w fr ((do let z <- Builtin.append_ ts ty0 #[xv,yv];pure (Next.value z):Sem Next).run P w) K:=by
 unfold iw at h
 split at h
 ·rename_i t t' mh
  obtain⟨rfl,h⟩:=h
  have mh:ts=#[t,t]:=by apply Array.ext';simpa using mh
  subst mh
  split at h
  ·rename_i e ht
   obtain⟨new,Iy,cU,hz,hw,h⟩:=h
   obtain⟨zz,hz⟩:=Option.isSome_iff_exists.1 hz
   obtain⟨i,z,g1,g2,g3,g4,_⟩:=ec hz
   have hi:=aK g1
   have zc:=ff g1
   have rf:=hO hH hy Iy hw
   split at h
   ·obtain⟨h1,h2,hK⟩:=h
    simp only[V.den]at hx;subst hx
    rcases rf with⟨rfl,rfl⟩|⟨a,c,evs,rfl,k1,k2,k3,k4⟩
    ·refine cB hH cq (cc.refl _ _) cU hK (run_append_owned_none (P:=P) w 0 t ty0 e i i.size (aA ht) g1 _ 0 [] (World.ownsRow_nil w 0 e i.size)) ?_ ⟨[],rfl,aU,rfl⟩
     exact World.ownsRow_nil w _ e _
    ·obtain⟨v',w',r1,r2,r3,_⟩:=run_append_own (P:=P) w w.heap.size t ty0 e i z (P.cellsOf e) (P.bytesOf e) (aA ht) g1 g2 hi.symm zc.symm (by rw[g3,hi]) cU _ 0 [] (World.ownsRow_nil w _ e _) a new.length c
      (evs.flatMap fun v:Value=>v.cells.toList) (by rw[bg evs k2,D.ah _ _ k1]) k3 (fun u hu=>k4 u hu) (by simp[maxLen];omega) r8 (Nat.le_refl _)
     refine cB hH cq (fe r3) cU hK r1 (by simpa using r2) ⟨evs,rfl,k2,k1⟩
   ·rename_i es
    obtain⟨Mk,h⟩:=h
    have xy:=hO (sz:=P.cellsOf e) hH (y:= .d (.sl es)) (new:=es) (show V.den (ae M φ H) φ H w (.d (.sl es)) xv from hx.1) (by simp[cz,cN]) Mk
    obtain⟨b,n,Iz⟩:=hx.2
    subst Iz
    split at h
    ·rename_i hn;subst hn
     have Ip:(sizeOf e).run P w= .ok i.size w:=by rw[bO g1,hi]
     have hr:(Builtin.append_ #[t,t] ty0 #[.slice b n n,yv]).run P w= .ok (.slice b n n) w:=by
      rcases rf with⟨rfl,_⟩|⟨a,c,evs,rfl,_⟩
      ·cases b<;>simp[Builtin.append_,run_underlying (aA ht),Ip,Builtin.lenOf,Builtin.firstCells,storeCells]
      ·cases b<;>simp[Builtin.append_,run_underlying (aA ht),Ip,Builtin.lenOf,Builtin.firstCells,storeCells,loadCells,loadCellsFrom]
     exact a6.same hH _ h Cl hx
    ·rename_i iM
     obtain⟨h1,h2,hK⟩:=h
     rcases rf with⟨rfl,rfl⟩|⟨a,c,evs,rfl,k1,k2,k3,k4⟩
     ·exact absurd rfl iM
     ·have hlen:(evs.flatMap (·.cells.toList)).length=new.length*P.cellsOf e:=by rw[bg evs k2,D.ah _ _ k1]
      rcases xy with⟨e1,rfl⟩|⟨a',c',tG,e1,q1,q2,q3,q4⟩
      ·injection e1 with e1 e2 e3
       subst e1;subst e2
       obtain⟨v',w',r1,r2,r3,_⟩:=run_append_own (P:=P) w w.heap.size t ty0 e i z (P.cellsOf e) (P.bytesOf e) (aA ht) g1 g2 hi.symm zc.symm (by rw[g3,hi]) cU _ 0 [] (World.ownsRow_nil w _ e _) a new.length c
        (evs.flatMap fun v:Value=>v.cells.toList) (by rw[bg evs k2,D.ah _ _ k1]) k3 (fun u hu=>k4 u hu) (by simp[maxLen];simp at h1;omega) (by simp at h2|-;omega) (Nat.le_refl _)
       refine cB hH cq (fe r3) cU hK r1 (by simpa using r2) ⟨evs,rfl,k2,k1⟩
      ·injection e1 with e1 e2 e3
       subst e1;subst e2
       have mA:(tG.flatMap (·.cells.toList)).length=es.length*P.cellsOf e:=by rw[bg tG q2,D.ah _ _ q1]
       have K6:0<new.length:=by cases new with|nil=>exact absurd rfl iM|cons _ _=>simp
       have tH:es.length+new.length<=maxLen:=by simp[maxLen];omega
       have hr:=run_append_grow (P:=P) w t ty0 e i z (aA ht) g1 g2 a' es.length es.length _ (by rw[mA,hi]) q3 a new.length c _ (by rw[hlen,hi]) k3 aN aN
        (growslice_fits aN (by rw[<- zc];omega))
       refine cB (xs:=tG.flatMap (·.cells.toList)++evs.flatMap (·.cells.toList)) hH cq ?_ cU hK hr ?_ ⟨tG++evs,aU,fun ev bC=> ?_,D.aB _ _ _ _ q1 k1⟩
       ·exact⟨rfl,rfl,rfl,aU,fun k hk _=>RowKit.Below.heap_alloc w.drew _ k hk⟩
       ·have rb:=grownCap_ge w (es.length+new.length) es.length e
        refine⟨by rw[List.length_append,mA,hlen,List.length_append,Nat.add_mul], .inr ⟨w.heap.size,_,_,by rw[List.length_append],Nat.le_refl _,heap_alloc_new w.drew _,by rw[List.length_append];exact rb,
         grownCap_le_maxLen w _ _ e tH, ?_, ?_⟩⟩
        ·simp only[Array.size_append,List.size_toArray,size_zeroCells,g3,mA,hlen,hi, <- Nat.add_mul]
         congr 1
         omega
        ·have:(tG.flatMap (·.cells.toList)++evs.flatMap (·.cells.toList)).length=(es++new).length*P.cellsOf e:=by rw[List.length_append,mA,hlen,List.length_append,Nat.add_mul]
         simp only[Array.toList_append]
         rw[<- this]
         exact List.take_left
       ·rcases List.mem_append.1 bC with bC|bC
        ·exact q2 ev bC
        ·exact k2 ev bC
   ·rename_i id ep
    split at h
    ·rename_i dL ty sz es ho
     obtain⟨rfl,rfl,rfl,h1,h2,hK⟩:=h
     obtain⟨_,cR,mb⟩:=hx
     have hv:=(mb ep fC).2 rfl
     subst hv
     have aI:=hH.ok id
     simp only[au,ho]at aI
     obtain⟨_,xs,bX,gQ⟩:=aI
     have done:∀ {val:Value} {w':World} {m:Nat->Prop} {evs:List Value},(Builtin.append_ #[t,t] ty0 #[φ id,yv]).run P w= .ok val w'->cc m w w'->(∀b,m b->cM (φ id)=some b)->
      (∀b,cM val=some b->cM (φ id)=some b\/w.heap.size<=b)->w'.ownsRow 0 ty (P.cellsOf ty) val (es++new).length (xs++evs.flatMap (·.cells.toList))->D.ai (ae M φ H) w new evs->
      (∀ev∈evs,ev.cells.size=P.cellsOf ty)->a6 M φ H w fr ((do let z <- Builtin.append_ #[t,t] ty0 #[φ id,yv];pure (Next.value z):Sem Next).run P w) K:=by
      intro val w' m evs r1 r2 r3 r4 r5 r6 r7
      obtain⟨s1,s2,s3⟩:=iL hH cR ho r2 r3 r4 r5 (gQ.append r6 r7)
      exact⟨_,_,_,_,_,_,_,hK,by simp only[Sem.run_bind,r1,Result.andThen_ok];rfl, .inl rfl,s1,s2,s3,by simp[cR]⟩
     rcases rf with⟨rfl,rfl⟩|⟨a,c,evs,rfl,k1,k2,k3,k4⟩
     ·refine done (evs:=[]) (run_append_owned_none (P:=P) w 0 t ty0 ty i (P.cellsOf ty) (aA ht) g1 _ _ xs bX) (cc.refl (fun _=>False) _) (fun _ h=>h.elim) (fun b hb=> .inl hb) (by simpa using bX) rfl aU
     ·have hlen:(evs.flatMap (·.cells.toList)).length=new.length*P.cellsOf ty:=by rw[bg evs k2,D.ah _ _ k1]
      have tH:es.length+new.length<=maxLen:=by simp[maxLen];omega
      rcases bX.2 with⟨h3,h4⟩|⟨g,cap,cur,h3,h4,h5,h6,h7,h8,h9⟩
      ·have la:w.ownsRow w.heap.size ty (P.cellsOf ty) (φ id) es.length xs:=⟨bX.1, .inl ⟨h3,h4⟩⟩
       obtain⟨v',w',r1,r2,r3,_⟩:=run_append_own (P:=P) w w.heap.size t ty0 ty i z (P.cellsOf ty) (P.bytesOf ty) (aA ht) g1 g2 hi.symm zc.symm (by rw[g3,hi]) cU _ _ xs la a new.length c
        (evs.flatMap fun v:Value=>v.cells.toList) hlen k3 (fun u hu=>k4 u hu) tH h2 (Nat.le_refl _)
       refine done r1 (fe (by rw[h3]at r3;exact r3)) (fun _ h=>h.elim) (fun b hb=> .inr (ez r2 b hb).1) (by simpa using iK r2) k1 k2
      ·by_cases xz:es.length+new.length<=cap
       ·rw[h3]at bX
        obtain⟨w',r1,r2,r3⟩:=run_append_fits (P:=P) w 0 t ty0 ty i (P.cellsOf ty) (aA ht) g1 hi.symm g es.length cap xs bX a new.length c (evs.flatMap fun v:Value=>v.cells.toList) hlen k3 (fun u hu=>k4 u hu) xz
        rw[<- h3]at r1
        exact done (m:=(· =g)) r1 ⟨r3.os,r3.tape,r3.output,r3.size,fun k hk iM=>r3.block k hk (by simpa using iM)⟩ (fun b hb=>by subst hb;rw[h3];rfl) (fun b hb=> .inl (by rw[h3];exact hb)) (by simpa using r2) k1 k2
       ·have holds:∀j u,xs[j]? =some u->w.cell? ((⟨g,0,none⟩:Addr).add j)=some u:=bX.cells (g:=g) (by rw[h3];rfl)
        have hr:=run_append_grow (P:=P) w t ty0 ty i z (aA ht) g1 g2 ⟨g,0,none⟩ es.length cap xs (by rw[bX.1,hi]) holds a new.length c _ (by rw[hlen,hi]) k3 aN (by simp[maxLen]at tH;omega)
         (growslice_fits aN (by rw[<- zc];omega))
        rw[<- h3]at hr
        refine done (m:=fun _=>False) hr ⟨rfl,rfl,rfl,aU,fun k hk _=>RowKit.Below.heap_alloc w.drew _ k hk⟩ (fun _ h=>h.elim) (fun b hb=> .inr (by simp[cM]at hb;omega)) ?_ k1 k2
        have rb:=grownCap_ge w (es.length+new.length) cap ty
        refine⟨by rw[List.length_append,bX.1,hlen,List.length_append,Nat.add_mul], .inr ⟨w.heap.size,_,_,by rw[List.length_append],Nat.zero_le _,heap_alloc_new w.drew _,by rw[List.length_append];exact rb,
         grownCap_le_maxLen w _ cap ty tH, ?_, ?_⟩⟩
        ·simp only[Array.size_append,List.size_toArray,size_zeroCells,g3,bX.1,hlen,hi, <- Nat.add_mul]
         congr 1
         omega
        ·have:(xs++evs.flatMap (·.cells.toList)).length=(es++new).length*P.cellsOf ty:=by rw[List.length_append,bX.1,hlen,List.length_append,Nat.add_mul]
         simp only[Array.toList_append,List.append_assoc]
         rw[<- List.append_assoc, <- this]
         exact List.take_left
    ·exact h.elim
   ·exact h.elim
  ·exact h.elim
 ·exact h.elim
end
end
section
section
variable {P:Program}{M:Nat->Prop}{φ:Place}{H:Hp}{w w':World}{fr:Nat}{K:V->List (Nat×aa)->List Nat->Prop}
theorem jS{t:TypeId}{b off:Nat}{ty:TypeId}{cur:Array Value}(hb:w.heap[b]? =some (.cells cur ty (0,0)))(v:Value)(hs:v.cells.size=P.cellsOf t)(cU:0<v.cells.size\/(P.info? t).isSome=true)
 (hle:off+v.cells.size<=cur.size) (hf:Flat v.cells.toList):
 (Instr.storeAt t (.pointer (some ⟨b,off,none⟩)) v).run P w= .ok () (w.setRow b (cur.toList.take off++v.cells.toList++cur.toList.drop (off+v.cells.size)).toArray):=by
 obtain⟨i,hi⟩:∃i,P.info? t=some i:=by
  rcases cU with cU|cU
  ·exact ed (P:=P) (e:=t) aN
  ·exact Option.isSome_iff_exists.1 cU
 have:=run_storeCells_at (P:=P) b off ty v.cells.toList 0 cur w hb (by simpa using hle) (fun u hu=>hf u hu)
 simp only[Nat.add_zero,Array.length_toList]at this
 simp[Instr.storeAt,Instr.sureAddr,storeVar,bO hi,hs,this]
theorem oR{sz:Nat}:∀ (evs:List Value) (i off:Nat) (ev sn:Value) (us:List Value),(∀x∈evs,x.cells.size=sz)->evs[i]? =some ev->off+us.length<=sz->
 sn.cells.toList=ev.cells.toList.take off++us++ev.cells.toList.drop (off+us.length)->
 (evs.set i sn).flatMap (·.cells.toList)=(evs.flatMap (·.cells.toList)).take (i*sz+off)++us++(evs.flatMap (·.cells.toList)).drop (i*sz+off+us.length)
 |[],_,_,_,_,_,_,h,_,_=>by simp at h
 |x::evs,0,off,ev,sn,us,hs,h,hle,he=>by
  simp at h;subst h
  have hx:x.cells.toList.length=sz:=by simpa using hs x aU
  simp only[List.set_cons_zero,List.flatMap_cons,Nat.zero_mul,Nat.zero_add,he]
  rw[List.take_append_of_le_length (by omega),List.drop_append_of_le_length (by omega)]
  simp[List.append_assoc]
 |x::evs,i+1,off,ev,sn,us,hs,h,hle,he=>by
  have hx:x.cells.toList.length=sz:=by simpa using hs x aU
  have ih:=oR evs i off ev sn us (fun y hy=>hs y (by simp[hy])) (by simpa using h) hle he
  simp only[List.set_cons_succ,List.flatMap_cons,ih]
  rw[show(i+1)*sz+off=x.cells.toList.length+(i*sz+off) by rw[Nat.add_mul,hx];omega,List.take_length_add_append,
   show x.cells.toList.length+(i*sz+off)+us.length=x.cells.toList.length+(i*sz+off+us.length) by omega,List.drop_length_add_append]
  simp[List.append_assoc]
theorem oS{α:Type}(l v:List α)(k m n:Nat)(hn:n=v.length)(h:k+n<=m)(hm:m<=l.length):(l.take k++v++l.drop (k+n)).take m=(l.take m).take k++v++(l.take m).drop (k+n):=by
 subst hn
 apply List.ext_getElem?
 intro i
 simp only[List.getElem?_append,List.getElem?_take,List.getElem?_drop,List.length_append,List.length_take]
 repeat' split
 all_goals first
  |rfl
  |omega
  |(congr 1;omega)
  |(symm;apply List.getElem?_eq_none;omega)
  |(apply List.getElem?_eq_none;omega)
  |skip
theorem tI{B:Nat->Prop}{e e':D}{off:Nat}{ds:List D}(h:e.put off ds=some e'){ev:Value}(he:D.den B w e ev){us:List Value}(hu:D.ai B w ds us)(hf:Flat us):
 ∃sn,D.den B w e' sn/\sn.cells.toList=ev.cells.toList.take off++us++ev.cells.toList.drop (off+us.length)/\off+us.length<=ev.cells.size:=by
 have hl:=D.ah _ _ hu
 rcases D.gB _ _ he with⟨cs,a,rfl,rfl⟩|⟨h1,h2,h3⟩
 ·obtain⟨a',ha,h4,h5⟩:=he
  injection ha with ha;subst ha
  have Ml:=D.ah _ _ h4
  simp only[Array.length_toList]at Ml
  simp only[D.put]at h
  split at h
  ·rename_i hle
   injection h with h;subst h
   refine⟨.agg (a.toList.take off++us++a.toList.drop (off+us.length)).toArray,⟨_,rfl, ?_, ?_⟩,by simp[Value.cells],by simp[Value.cells];omega⟩
   ·simp only
    rw[hl]
    exact D.aB _ _ _ _ (D.aB _ _ _ _ (D.a8 _ _ _ h4) hu) (D.b8 _ _ _ h4)
   ·intro x hx
    simp only[List.mem_append]at hx
    rcases hx with(hx|hx)|hx
    ·exact h5 x (List.mem_of_mem_take hx)
    ·exact hf x hx
    ·exact h5 x (List.mem_of_mem_drop hx)
  ·cases h
 ·have fi:off=0/\∃u,ds=[u]/\e'=u:=by
   cases e<;>simp only[D.put]at h<;>first
    |(split at h
      ·rename_i u;injection h with h;exact⟨rfl,u,rfl,h.symm⟩
      ·cases h)
    |(simp[D.cells]at h2;done)
    |skip
   obtain⟨a,rfl,_⟩:=he
   simp[Value.oneCell']at h1
  obtain⟨rfl,u,rfl,rfl⟩:=fi
  obtain⟨x,xs,rfl,h4,h5⟩:=hu
  simp only[D.ai]at h5;subst h5
  have hx:x.cells=#[x]:=by have:=hf x aU;cases x<;>simp_all[Value.oneCell',Value.cells]
  exact⟨x,h4,by simp[hx,h3],by simp[h3]⟩
theorem sq(hH:ag M φ H w){t:TypeId}{x v:V}{xv vv:Value}(hx:V.den (ae M φ H) φ H w x xv)(hv:V.den (ae M φ H) φ H w v vv)
 (h:kV P H.o t x v fun Δ rd=>K (.a7 []) Δ rd):a6 M φ H w fr ((do Instr.storeAt t xv vv;pure Next.skip:Sem Next).run P w) K:=by
 unfold kV at h
 split at h
 ·rename_i id off
  split at h
  ·rename_i cs ho
   obtain⟨cs',h1,hK⟩:=h
   obtain⟨_,cR,hp⟩:=hx
   obtain⟨b,cL,rfl⟩:=hp fC
   have aI:=hH.ok id
   simp only[au,ho]at aI
   obtain⟨b',cw,ty,g1,g2,g3,g4⟩:=aI
   rw[cL]at g1;simp at g1;subst g1
   unfold nr at h1
   split at h1
   ·rename_i us hc
    split at h1
    ·rename_i hle
     injection h1 with h1;subst h1
     obtain⟨k1,k2⟩:=V.gB _ _ _ hc hv
     have l1:=V.ah _ _ k1
     have l2:=V.ah _ _ g3
     simp only[Array.length_toList]at l1 l2
     have hr:=jS (P:=P) (t:=t) (off:=off) g2 vv aN (hle.2.1.imp (fun h=>aN) (fun h=>h)) aN k2
     obtain⟨t1,t2⟩:=oJ (cs':=cs.take off++us++cs.drop (off+us.length)) hH cR ho cL g2 (cw.toList.take off++vv.cells.toList++cw.toList.drop (off+vv.cells.size)).toArray (by
      simp only
      rw[l1]
      exact V.aB _ _ _ _ (V.aB _ _ _ _ (V.a8 _ _ _ g3) k1) (V.b8 _ _ _ g3)) (by
      intro u hu
      simp only[List.mem_append]at hu
      rcases hu with(hu|hu)|hu
      ·exact g4 u (List.mem_of_mem_take hu)
      ·exact k2 u hu
      ·exact g4 u (List.mem_of_mem_drop hu))
     exact⟨_,_,_,_,_,_,_,hK,by simp only[Sem.run_bind,hr,Result.andThen_ok];rfl, .inr ⟨rfl,rfl⟩,t1,t2,⟨#[],rfl,rfl⟩,by simp[cR]⟩
    ·cases h1
   ·cases h1
  ·exact h.elim
 ·rename_i id ep i jm off
  split at h
  ·rename_i dL ty sz es ho
   obtain⟨rfl,rfl,e,he,y,hy,NB,hyp,iM,e',fi,hK⟩:=h
   obtain⟨_,cR,hp⟩:=hx
   obtain⟨b,n,c,cL,rfl⟩:=(hp ep fC).2 rfl
   obtain⟨f1,f2,f3,f4,f5⟩:=bK hH v.ids (bP v _ hv)
   have fF:id∉v.ids:=fun hm=>by have:=List.all_eq_true.1 iM id hm;simp at this
   have l3:=(f4 id fF).trans ho
   have IA:=dA f1 v y vv f3 hy (V.ax f2 _ _ hv)
   obtain⟨k1,k2⟩:=D.cH _ _ IA
   have l1:=D.ah _ _ k1
   simp only[Array.length_toList]at l1
   have aI:=f1.ok id
   simp only[au,l3]at aI
   obtain⟨h0,xs,⟨hl,bZ⟩,evs,rfl,h2,h3⟩:=aI
   rcases bZ with⟨h4,h5⟩|⟨g,cap,cur,h4,h5,h6,h7,h8,h9,xu⟩
   ·rw[cL]at h4;simp at h4
   ·rw[cL]at h4;simp at h4
    obtain⟨rfl,rfl,rfl⟩:=h4
    obtain⟨ev,bC,Mm⟩:=D.bA _ _ _ _ h3 he
    obtain⟨sn,p1,p2,p3⟩:=tI fi Mm k1 k2
    simp only[Array.length_toList]at p2 p3
    have Mn:=h2 ev (List.mem_of_getElem? bC)
    have IB:i<es.length:=(List.getElem?_eq_some_iff.1 he).1
    have ID:i*jm+jm<=es.length*jm:=by
     rw[<- Nat.succ_mul];exact Nat.mul_le_mul_right _ IB
    have IE:es.length*jm<=cur.size:=by rw[h9];exact Nat.mul_le_mul_right _ h7
    have hr:=jS (P:=P) (t:=t) (off:=i*jm+off) h6 vv aN (.inl aN) aN k2
    have vU:=oR evs i off ev sn vv.cells.toList h2 bC (by simpa using(by omega:off+vv.cells.size<=jm)) (by simpa using p2)
    simp only[Array.length_toList]at vU
    have cA:((H.put (bH H.o v.ids)).o id).live=true:=by rw[l3];rfl
    have oq:cM (φ id)=some b:=by rw[cL];rfl
    have De:=(f5 id).2 cR
    have ht:=cT (w:=w) (w':=w.setRow b (cur.toList.take (i*jm+off)++vv.cells.toList++cur.toList.drop (i*jm+off+vv.cells.size)).toArray) De cA oq (ew w b _) (.arr ep ty jm (es.set i e')) ox ox
    have hh:=dR f1 De cA oq (ew w b (cur.toList.take (i*jm+off)++vv.cells.toList++cur.toList.drop (i*jm+off+vv.cells.size)).toArray) (.arr ep ty jm (es.set i e')) ox ox (by
     unfold au
     simp only[aH,aq,if_true]
     refine⟨h0,(evs.set i sn).flatMap (·.cells.toList),⟨?_, .inr ⟨b,c,_,by rw[List.length_set];exact cL,Nat.zero_le _,setRow_heap w b cur _ ty (0,0) h6,by rw[List.length_set];exact h7,h8, ?_, ?_⟩⟩,evs.set i sn,rfl, ?_, ?_⟩
     ·rw[vU,List.length_set]
      simp only[List.length_append,List.length_take,List.length_drop,Array.length_toList,hl]
      omega
     ·simp only[List.size_toArray,List.length_append,List.length_take,List.length_drop,Array.length_toList]
      omega
     ·rw[vU,List.length_set, <- xu]
      exact oS cur.toList vv.cells.toList _ _ _ aU aN (by simpa using IE)
     ·intro x hx
      rcases List.mem_or_eq_of_mem_set hx with hx|rfl
      ·exact h2 x hx
      ·have:=congrArg List.length p2
       simp only[Array.length_toList,List.length_append,List.length_take,List.length_drop]at this
       omega
     ·exact D.aw (ht.blocks (M:=M)) _ _ (D.oH i es evs e' sn h3 p1))
    rw[<- bV]at hh ht
    refine⟨_,_,_,_,_,_,_,hK,by simp only[Sem.run_bind,hr,Result.andThen_ok];rfl, .inr ⟨rfl,rfl⟩,hh,f2.trans ht,⟨#[],rfl,rfl⟩,fun j hj=> ?_⟩
    simp only[List.map_append,List.mem_append,List.map_cons,List.map_nil,List.mem_singleton]at hj
    rcases hj with hj|hj
    ·left
     refine bP v _ hv j ?_
     rw[fg]at hj
     simpa[Function.comp_def]using hj
    ·exact .inl (hj ▸ cR)
  ·exact h.elim
 ·exact h.elim
end
end
section
section
variable {P:Program}{B:Nat->Prop}{w:World}
theorem dp{t:TypeId}{xs:List D}{off:Nat}{x:D}(h:et P t xs off=some x){arr:Array Value}(hd:D.ai B w xs arr.toList)(hf:Flat arr.toList):
 ∃u,(∀w',(part t arr off).run P w'= .ok u w')/\D.den B w x u:=by
 unfold et at h
 split at h
 ·rename_i ha
  split at h
  ·rename_i hl
   injection h with h;subst h
   obtain⟨i,hi⟩:=jz ha
   refine⟨.agg (arr.extract off (off+P.cellsOf t)),fun w'=> ?_,_,rfl, ?_, ?_⟩
   ·simp only[part,Sem.run_bind,jy ha w',Result.andThen_ok,if_true,bO hi w',Sem.run_pure]
   ·have:=D.a8 (P.cellsOf t) _ _ (D.b8 off _ _ hd)
    simpa[Array.toList_extract,List.extract]using this
   ·exact CM
  ·cases h
 ·rename_i ha
  obtain⟨u,hu,vP⟩:=D.bA _ _ _ _ hd h
  refine⟨u,fun w'=> ?_,vP⟩
  have ov:arr[off]? =some u:=by simpa using hu
  simp only[part,Sem.run_bind,hG ha w',Result.andThen_ok,Bool.false_eq_true,if_false,ov,Sem.run_pure]
 ·cases h
theorem mC{a b:Option Bool}{r:Bool}(h:vJ a b=some r):∃x y,a=some x/\b=some y/\r=(x&&y):=by
 unfold vJ at h
 split at h
 ·injection h with h;exact⟨_,_,rfl,rfl,h.symm⟩
 ·cases h
def HA(P:Program)(m:Nat)(t:TypeId)(x y:D)(r:Bool):Prop:=
 ∀ (B:Nat->Prop) (w:World) (u v:Value),D.den B w x u->D.den B w y v->(Op.equalIn m t u v).run P w= .ok r w
theorem iN{d m:Nat}(IH:∀t x y r,l9 P d t x y=some r->HA P m t x y r){xs ys:List D}{aR bs:Array Value}(ha:D.ai B w xs aR.toList)(qY:Flat aR.toList)(hb:D.ai B w ys bs.toList)(vV:Flat bs.toList):
 ∀ (fs:List Field) (r:Bool),(∀f∈fs,f.name≠ "_")->qZ (fun u off=>Bd (l9 P d u) (et P u xs off) (et P u ys off)) (fs.map fun f=>(f.type,f.offset))=some r->
   (Op.eqFields m aR bs fs).run P w= .ok r w
 |[],r,_,h=>by simp[qZ]at h;subst h;simp[Op.eqFields]
 |f::fs,r,hn,h=>by
  obtain⟨x,y,h1,h2,rfl⟩:=mC h
  simp only[Bd]at h1
  split at h1
  ·rename_i p q hp hq
   obtain⟨u,k1,k2⟩:=dp hp ha qY
   obtain⟨v,k3,k4⟩:=dp hq hb vV
   have h3:=IH _ _ _ _ h1 B w u v k2 k4
   have h4:=iN IH ha qY hb vV fs y (fun g hg=>hn g (by simp[hg])) h2
   have iM:=hn f aU
   simp only[Op.eqFields,iM,ne_eq,not_false_eq_true,if_true,Sem.run_bind,k1,k3,h3,Result.andThen_ok]
   cases x
   ·simp
   ·simpa using h4
  ·cases h1
theorem jT{d m:Nat}{e:TypeId}(IH:∀t x y r,l9 P d t x y=some r->HA P m t x y r){xs ys:List D}{aR bs:Array Value}(ha:D.ai B w xs aR.toList)(qY:Flat aR.toList)(hb:D.ai B w ys bs.toList)(vV:Flat bs.toList):
 ∀ (n i:Nat) (r:Bool),q0 (fun i=>Bd (l9 P d e) (et P e xs (i*P.cellsOf e)) (et P e ys (i*P.cellsOf e))) n i=some r->
   (Op.eqItems m e (P.cellsOf e) aR bs (List.range' i n)).run P w= .ok r w
 |0,i,r,h=>by simp[q0]at h;subst h;simp[Op.eqItems]
 |n+1,i,r,h=>by
  obtain⟨x,y,h1,h2,rfl⟩:=mC h
  simp only[Bd]at h1
  split at h1
  ·rename_i p q hp hq
   obtain⟨u,k1,k2⟩:=dp hp ha qY
   obtain⟨v,k3,k4⟩:=dp hq hb vV
   have h3:=IH _ _ _ _ h1 B w u v k2 k4
   have h4:=jT IH ha qY hb vV n (i+1) y h2
   simp only[List.range'_succ,Op.eqItems,Sem.run_bind,k1,k3,h3,Result.andThen_ok]
   cases x
   ·simp
   ·simpa using h4
  ·cases h1
theorem kI:∀ (d:Nat) (t:TypeId) (x y:D) (r:Bool),l9 P d t x y=some r->∀m,d<=m->HA P m t x y r
 |0,_,_,_,_,h=>by simp[l9]at h
 |d+1,t,x,y,r,h=>by
  intro m hm B w u v hu hv
  obtain⟨m,rfl⟩:∃k,m=k+1:=⟨m - 1,aN⟩
  have IH:∀t x y r,l9 P d t x y=some r->HA P m t x y r:=fun t x y r h=>kI d t x y r h m aN
  unfold l9 at h
  cases hs:c8 P t with
  |none=>rw[hs]at h;cases h
  |some sh=>
   rw[hs]at h
   unfold c8 at hs
   cases ht:P.underlying t with
   |none=>rw[ht]at hs;cases hs
   |some td=>
    rw[ht]at hs
    cases td<;>simp only[Option.some.injEq,reduceCtorEq]at hs
    case int k0=>
     subst hs
     simp only at h
     split at h
     ·split at h
      ·rename_i e;subst e;injection h with h;subst h
       simp only[D.den]at hu hv;subst hu;subst hv
       exact run_equalIn_int w m t _ _ _ _ ht
      ·cases h
     ·cases h
    case bool=>
     subst hs
     simp only at h
     split at h
     ·injection h with h;subst h
      simp only[D.den]at hu hv;subst hu;subst hv
      exact run_equalIn_bool' w m t _ _ ht
     ·cases h
    case string=>
     subst hs
     simp only at h
     split at h
     ·injection h with h;subst h
      obtain⟨s1,rfl,rfl⟩:=hu
      obtain⟨s2,rfl,rfl⟩:=hv
      rw[run_equalIn_string w m t _ _ ht]
      rw[ByteArray.toList_eq,ByteArray.toList_eq]
     ·cases h
    case struct fs=>
     split at hs
     ·rename_i hc
      injection hs with hs;subst hs
      simp only[Bool.and_eq_true,Bool.not_eq_true',List.all_eq_true,bne_iff_ne]at hc
      simp only at h
      split at h
      ·obtain⟨aR,rfl,ha,qY⟩:=hu
       obtain⟨bs,rfl,hb,vV⟩:=hv
       have K7:P.fieldsOf t=fs:=by simp[Program.fieldsOf,ht]
       rw[run_equalIn_struct w m t aR bs (by rw[K7];exact ht) hc.1,K7]
       exact iN IH ha qY hb vV _ _ hc.2 h
      ·cases h
     ·cases hs
    case array n e=>
     split at hs
     ·rename_i hc
      injection hs with hs;subst hs
      simp only at h
      split at h
      ·obtain⟨aR,rfl,ha,qY⟩:=hu
       obtain⟨bs,rfl,hb,vV⟩:=hv
       obtain⟨i,hi⟩:=Option.isSome_iff_exists.1 hc
       rw[run_equalIn_array w m aR bs ht hi,List.range_eq_range']
       exact jT IH ha qY hb vV _ _ _ h
      ·cases h
     ·cases hs
theorem yZ{t:TypeId}{aR bs:List D}{r:Bool}(h:l9 P 100 t (.agg aR) (.agg bs)=some r)(hg:P.eqGuardType P.depth t=false):tu P t (.agg aR) (.agg bs) r:=by
 intro B w u v hu hv
 refine⟨kI 100 t _ _ _ h _ ke B w u v hu hv,fun op a b=> ?_⟩
 obtain⟨aR,rfl,_⟩:=hu
 obtain⟨bs,rfl,_⟩:=hv
 exact run_eqGuard_agg w op t a b aR bs hg
end
end
end Go.Proofs.YtlhemmpklhhgoaaGreat
