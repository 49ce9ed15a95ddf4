/-
  A PART OF THE PROOF. Conditions: none.
-/
import Derived.Great.BuildSlice
import Derived.Great.FillDense
import Derived.Test.YtpkobkdgcanmjaaGreatLk1
set_option linter.unusedSimpArgs false
set_option linter.unusedVariables false
namespace Go.Proofs.YtpkobkdgcanmjaaGreat
def a9(M:Nat->Prop)(φ:Place)(H:Hp)(w:World)(fr:Nat)(r:Result Next)(K:V->List (Nat×ab)->List Nat->Prop):Prop:=
 ∃nx val w' aj v Δ rd,K v Δ rd/\r= .ok nx w'/\(nx= .value val\/nx= .skip/\val=undef)/\af M aj (H.put Δ) w'/\Trans φ H w aj (H.put Δ) w'/\
  V.den (ad M aj (H.put Δ)) aj (H.put Δ) w' v val/\(∀id∈Δ.map (·.1),H.us id\/id=fr)
section
variable {P:Program}{M:Nat->Prop}{φ:Place}{H:Hp}{w:World}{fr:Nat}{K:V->List (Nat×ab)->List Nat->Prop}
theorem a9.same (hH:af M φ H w){r:Result Next}{v:V}{rd:List Nat}(val:Value)(hK:K v [] rd)(hr:r= .ok (.value val) w)(hd:V.den (ad M φ H) φ H w v val):a9 M φ H w fr r K:=
 ⟨_,val,w,φ,v,[],rd,hK,hr, .inl rfl,by rw[gG];exact hH,by rw[gG];exact Trans.refl _ _ _,by rw[gG];exact hd,by simp⟩
theorem a9.mono {r:Result Next}{K':V->List (Nat×ab)->List Nat->Prop}(h:a9 M φ H w fr r K)(hk:∀v Δ rd,K v Δ rd->K' v Δ rd):a9 M φ H w fr r K':=by
 obtain⟨nx,val,w',aj,v,Δ,rd,h1,h2⟩:=h
 exact⟨nx,val,w',aj,v,Δ,rd,hk _ _ _ h1,h2⟩
theorem info_of_underlying{t:TypeId}{d:TypeDesc}(h:P.underlying t=some d):∃i,P.info? t=some i:=by
 unfold Program.underlying at h
 cases hi:P.info? t with
 |none=>simp[hi]at h
 |some i=>exact⟨i,rfl⟩
theorem aS{t:TypeId}{i:TypeInfo}(h:P.info? t=some i):P.cellsOf t=i.size:=by simp[Program.cellsOf,h]
theorem iJ{t:TypeId}{i:TypeInfo}(h:P.info? t=some i):P.bytesOf t=i.bytes:=by simp[Program.bytesOf,h]
theorem ei{t:TypeId}{z:List V}(h:eY P t=some z):∃i v,P.info? t=some i/\i.zero=some v/\v.cells.size=i.size/\Flat v.cells.toList/\z=v.cells.toList.map V.bC:=by
 unfold eY at h
 cases hi:P.info? t with
 |none=>simp[hi]at h
 |some i=>
  simp only[hi]at h
  cases hz:i.zero with
  |none=>simp[hz]at h
  |some v=>
   simp only[hz]at h
   split at h
   ·rename_i hc
    injection h with h
    exact⟨i,v,rfl,hz,hc.1,fun u hu=>List.all_eq_true.1 hc.2 u hu,h.symm⟩
   ·cases h
theorem jz{t:TypeId}(h:kj P t=some true)(w:World):(isAgg t).run P w= .ok true w:=by
 unfold kj at h
 unfold isAgg
 cases hd:P.underlying t with
 |none=>simp[hd]at h
 |some d=>cases d<;>simp_all[run_underlying hd]
theorem hG{t:TypeId}(h:kj P t=some false)(w:World):(isAgg t).run P w= .ok false w:=by
 unfold kj at h
 unfold isAgg
 cases hd:P.underlying t with
 |none=>simp[hd]at h
 |some d=>cases d<;>simp_all[run_underlying hd]
theorem b5{t:TypeId}{i:TypeInfo}(h:P.info? t=some i)(w:World):(sizeOf t).run P w= .ok (P.cellsOf t) w:=by
 simp[sizeOf,typeInfo,h,aS h]
theorem jA{t:TypeId}{b:Bool}(h:kj P t=some b):∃i,P.info? t=some i:=by
 unfold kj at h
 cases hd:P.underlying t with
 |none=>simp[hd]at h
 |some d=>exact info_of_underlying hd
theorem aD{t e:TypeId}(h:cP P t=some e):P.underlying t=some (.slice e):=by
 unfold cP at h
 cases hd:P.underlying t with
 |none=>simp[hd]at h
 |some d=>cases d<;>simp_all
theorem mz{t e:TypeId}{n:Nat}(h:pS P t=some (n,e)):P.underlying t=some (.array n e):=by
 unfold pS at h
 cases hd:P.underlying t with
 |none=>simp[hd]at h
 |some d=>cases d<;>simp_all
theorem add_zero(a:Addr):a.add 0=a:=by simp[Addr.add]
theorem add_plain(b o j:Nat):(⟨b,o,none⟩:Addr).add j=⟨b,o+j,none⟩:=by
 unfold Addr.add;split
 ·rename_i h;subst h;rfl
 ·rfl
theorem add_add(a:Addr)(h:a.spot=none)(m n:Nat):(a.add m).add n=a.add (m+n):=by
 obtain⟨b,o,s⟩:=a
 simp only at h;subst h
 simp only[add_plain,Nat.add_assoc]
theorem oy(a:Addr)(h:a.spot=none)(m:Nat):(a.add m).spot=none:=by
 unfold Addr.add;split<;>first|exact h|rfl
theorem fQ(s:S)(a:Act)(bK:∀i,V.den (ad M φ H) φ H w (s.env i) (a.tmps.getD i undef))(x:Operand):V.den (ad M φ H) φ H w (s.ev x) (a.eval x):=by
 cases x with
 |tmp t=>exact bK t
 |func f=>exact⟨#[],#[],rfl,rfl,rfl⟩
 |global g=>trivial
 |const v=>
  cases v with
  |agg c=>
   simp only[S.ev,V.ofConst,Act.eval]
   split
   ·rename_i hc
    have hf:Flat c.toList:=fun u hu=>List.all_eq_true.1 hc u hu
    exact e7 _ _ (bQ _ hf) hf
   ·trivial
  |tuple _=>trivial
  |_=>simp only[S.ev,V.ofConst,Act.eval];exact fk _ (by rfl)
theorem eE(s:S)(a:Act)(bK:∀i,V.den (ad M φ H) φ H w (s.env i) (a.tmps.getD i undef)):∀ (xs:List Operand),V.ak (ad M φ H) φ H w (xs.map s.ev) (xs.map a.eval)
 |[]=>rfl
 |x::xs=>⟨a.eval x,xs.map a.eval,rfl,fQ s a bK x,eE s a bK xs⟩
theorem fR{t:TypeId}(a:Addr)(us:List Value)(hc:∀j u,us[j]? =some u->w.cell? (a.add j)=some u):
 (kj P t=some true->us.length=P.cellsOf t->(Instr.loadAt t (.pointer (some a))).run P w= .ok (.agg us.toArray) w)/\
 (kj P t=some false->∀u,us[0]? =some u->(Instr.loadAt t (.pointer (some a))).run P w= .ok u w):=by
 constructor
 ·intro h hl
  obtain⟨i,hi⟩:=jA h
  have h1:=run_loadCells_list (P:=P) w a us hc
  rw[hl]at h1
  simp[Instr.loadAt,Instr.sureAddr,loadVar,jz h,b5 hi,h1]
 ·intro h u hu
  have h1:=hc 0 u hu
  rw[add_zero]at h1
  simp[Instr.loadAt,Instr.sureAddr,loadVar,hG h,h1]
theorem iK{t:TypeId}{cs:List V}{off:Nat}{v:V}(hg:cn P t cs off=some v)(a:Addr)(vs:List Value)(hd:V.ak (ad M φ H) φ H w cs vs)(hf:Flat vs)
 (hc:∀j u,vs[j]? =some u->w.cell? (a.add j)=some u) (ha:a.spot=none):∃val,(Instr.loadAt t (.pointer (some (a.add off)))).run P w= .ok val w/\V.den (ad M φ H) φ H w v val:=by
 have hlen:=V.ah _ _ hd
 unfold cn at hg
 cases pU:kj P t with
 |none=>simp[pU]at hg
 |some b=>
  cases b with
  |true=>
   simp only[pU]at hg
   split at hg
   ·rename_i hle
    injection hg with hg;subst hg
    refine⟨.agg ((vs.drop off).take (P.cellsOf t)).toArray,(fR (P:=P) (t:=t) (a.add off) ((vs.drop off).take (P.cellsOf t)) ?_).1 pU (by simp;omega), ?_⟩
    ·intro j u hj
     rw[add_add a ha]
     rw[List.getElem?_take]at hj
     split at hj
     ·exact hc _ _ (by simpa using hj)
     ·cases hj
    ·refine e7 _ _ ?_ ?_
     ·exact V.bP _ _ _ (V.b9 _ _ _ hd)
     ·intro u hu
      exact hf u (List.mem_of_mem_drop (List.mem_of_mem_take (by simpa using hu)))
   ·cases hg
  |false=>
   simp only[pU]at hg
   obtain⟨u,hu,vb⟩:=V.b4 _ _ _ _ hd hg
   refine⟨u,(fR (P:=P) (t:=t) (a.add off) (vs.drop off) ?_).2 pU u (by simpa using hu),vb⟩
   intro j x hj
   rw[add_add a ha]
   exact hc _ _ (by simpa using hj)
theorem fS(sz:Nat):∀ (evs:List Value) (i j:Nat) (ev:Value) (u:Value),(∀x∈evs,x.cells.size=sz)->evs[i]? =some ev->ev.cells[j]? =some u->
 (evs.flatMap (·.cells.toList))[i*sz+j]? =some u
 |[],_,_,_,_,_,h,_=>by simp at h
 |e::evs,0,j,ev,u,hs,h,hu=>by
  simp at h;subst h
  have:j<e.cells.size:=(Array.getElem?_eq_some_iff.1 hu).1
  rw[List.flatMap_cons,List.getElem?_append_left (by simp;omega)]
  simpa using hu
 |e::evs,i+1,j,ev,u,hs,h,hu=>by
  have ih:=fS sz evs i j ev u (fun x hx=>hs x (by simp[hx])) (by simpa using h) hu
  rw[List.flatMap_cons,List.getElem?_append_right (by simp[hs e (by simp),Nat.add_mul];omega)]
  simp only[Array.length_toList,hs e (by simp)]
  rw[show(i+1)*sz+j - sz=i*sz+j by rw[Nat.add_mul];omega]
  exact ih
theorem iL{g:Nat}{cd:Array Value}{ty:TypeId}{fz:Nat×Nat}(h:w.heap[g]? =some (.cells cd ty fz))(j:Nat)(u:Value)(hu:cd[j]? =some u):w.cell? ((⟨g,0,none⟩:Addr).add j)=some u:=by
 rw[add_plain,Nat.zero_add,cell_of_row w g j cd ty fz h];exact hu
theorem sX{B:Nat->Prop}{ty:TypeId}{sz:Nat}{es:List D}{v:Value}{b n c i:Nat}{e:D}
 (aI:0<sz/\∃xs,w.ownsRow 0 ty sz v es.length xs/\dx B w sz es xs) (hv:v= .slice (some ⟨b,0,none⟩) n c) (he:es[i]? =some e):
 ∃ev:Value,ev.cells.size=sz/\D.ak B w e.cells ev.cells.toList/\Flat ev.cells.toList/\(∀j u,ev.cells.toList[j]? =some u->w.cell? ((⟨b,i*sz,none⟩:Addr).add j)=some u):=by
 obtain⟨h0,xs,⟨hl,aM⟩,evs,rfl,h2,h3⟩:=aI
 obtain⟨ev,bT,hd⟩:=D.b4 _ _ _ _ h3 he
 have xR:=D.cy _ _ hd
 refine⟨ev,h2 ev (List.mem_of_getElem? bT),xR.1,xR.2,fun j u hj=> ?_⟩
 subst hv
 rcases aM with⟨h4,_⟩|⟨g,cap,cur,h4,_,h5,h6,h7,h8,h9⟩
 ·simp at h4
 ·simp at h4;obtain⟨rfl,_,rfl⟩:=h4
  have:=fS sz evs i j ev u h2 bT (by simpa using hj)
  rw[<- h9,List.getElem?_take]at this
  split at this
  ·have wD:=iL h5 (i*sz+j) u (by simpa using this)
   rw[add_plain]at wD|-
   simpa using wD
  ·cases this
theorem sY(hH:af M φ H w){t:TypeId}{x:V}{xv:Value}(hx:V.den (ad M φ H) φ H w x xv)
 (h:oq P H.o t x fun v rd=>K v [] rd):a9 M φ H w fr ((do let y <- Instr.loadAt t xv;pure (Next.value y):Sem Next).run P w) K:=by
 have fin:∀ (v:V) rd,K v [] rd->(∃val,(Instr.loadAt t xv).run P w= .ok val w/\V.den (ad M φ H) φ H w v val)->a9 M φ H w fr ((do let y <- Instr.loadAt t xv;pure (Next.value y):Sem Next).run P w) K:=by
  rintro v rd hK ⟨val,h1,h2⟩
  exact a9.same hH val hK (by simp[h1]) h2
 unfold oq at h
 split at h
 ·rename_i id off
  split at h
  ·rename_i cs ho
   obtain⟨v,h1,hK⟩:=h
   obtain⟨_,hu,hp⟩:=hx
   obtain⟨b,bJ,rfl⟩:=hp (by rw[ho];rfl)
   have aI:=hH.ok id
   simp only[aw,ho]at aI
   obtain⟨b',cd,ty,g1,g2,g3,g4⟩:=aI
   rw[bJ]at g1;simp at g1;subst g1
   refine fin v _ hK ?_
   have:=iK (P:=P) h1 ⟨b,0,none⟩ cd.toList g3 g4 (fun j u hj=>iL g2 j u (by simpa using hj)) rfl
   rwa [add_plain,Nat.zero_add]at this
  ·exact h.elim
 ·rename_i cs off
  obtain⟨v,h1,hK⟩:=h
  obtain⟨a,ev,ha,rfl,hd,hf,hc⟩:=hx
  exact fin v _ hK (iK h1 a ev ((V.aX _ _).2 hd) hf (fun j u hj=>(hc j u (by simpa using hj)).1) ha)
 ·rename_i id ep i sz off
  split at h
  ·rename_i dL ty gL es ho
   obtain⟨rfl,rfl,e,he,v,h1,hK⟩:=h
   obtain⟨_,hu,hp⟩:=hx
   obtain⟨b,n,c,bJ,rfl⟩:=(hp ep (by rw[ho];rfl)).2 rfl
   have aI:=hH.ok id
   simp only[aw,ho]at aI
   obtain⟨ev,g1,g2,g3,g4⟩:=sX aI bJ he
   refine fin v _ hK ?_
   have:=iK (P:=P) h1 ⟨b,i*sz,none⟩ ev.cells.toList ((V.aX _ _).2 g2) g3 g4 rfl
   rwa [add_plain]at this
  ·exact h.elim
 ·exact h.elim
end
end Go.Proofs.YtpkobkdgcanmjaaGreat
namespace Go.Proofs.YtpkobkdgcanmjaaGreat
section
variable {P:Program}{M:Nat->Prop}{φ:Place}{H:Hp}{w:World}{fr:Nat}{K:V->List (Nat×ab)->List Nat->Prop}
theorem a9.plain (hH:af M φ H w){s:Sem Value}{v:V}{rd:List Nat}(val:Value)(hK:K v [] rd)(hr:s.run P w= .ok val w)(hd:V.den (ad M φ H) φ H w v val):
 a9 M φ H w fr ((do let y <- s;pure (Next.value y):Sem Next).run P w) K:=a9.same hH val hK (by simp[hr]) hd
theorem oz{t:TypeId}{f q:Nat}(h:gX P t f=some q):∃fs fd,P.underlying t=some (.struct fs)/\fs[f]? =some fd/\P.cellsOf fd.type≠0/\fd.offset=q:=by
 unfold gX at h
 cases hd:P.underlying t with
 |none=>simp[hd]at h
 |some d=>
  cases d<;>simp only[hd]at h<;>try (cases h;done)
  rename_i fs
  cases hf:fs[f]? with
  |none=>simp[hf]at h
  |some fd=>
   simp only[hf]at h
   split at h
   ·cases h
   ·injection h with h
    exact⟨fs,fd,rfl,hf,by assumption,h⟩
theorem oA{t:TypeId}{f q:Nat}(h:gX P t f=some q)(a:Addr):(Instr.fieldAt t (.pointer (some a)) f).run P w= .ok (.pointer (some (a.add q))) w:=by
 obtain⟨fs,fd,h1,h2,h3,rfl⟩:=oz h
 have:∃i,P.info? fd.type=some i:=by
  cases hi:P.info? fd.type with
  |none=>simp[Program.cellsOf,hi]at h3
  |some i=>exact⟨i,rfl⟩
 obtain⟨i,hi⟩:=this
 simp[Instr.fieldAt,run_underlying h1,h2,Instr.sureAddr,fieldPlace,b5 hi,h3]
def V.step (x:V)(q:Nat):Option V:=
 match x with
 | .ptr id off=>some (.ptr id (off+q))
 | .pp cs off=>some (.pp cs (off+q))
 | .pe id ep j sz off=>some (.pe id ep j sz (off+q))
 |_=>none
def V.place (o:Nat->ab):V->Prop
 | .ptr id _=>(o id).aN=true
 | .pe id ep _ _ _=>(o id).aO=some ep
 |_=>True
theorem oB{x y:V}{q:Nat}(h:x.step q=some y){xv:Value}(hx:V.den (ad M φ H) φ H w x xv)
 (hr:x.place H.o):
 ∃a,xv= .pointer (some a)/\V.den (ad M φ H) φ H w y (.pointer (some (a.add q))):=by
 cases x with
 |ptr id off=>
  simp only[V.step,Option.some.injEq]at h;subst h
  obtain⟨h1,h2,h3⟩:=hx
  obtain⟨b,h4,rfl⟩:=h3 hr
  exact⟨_,rfl,rfl,h2,fun _=>⟨b,h4,by rw[add_plain]⟩⟩
 |pp cs off=>
  simp only[V.step,Option.some.injEq]at h;subst h
  obtain⟨a,ev,ha,rfl,hd⟩:=hx
  exact⟨_,rfl,a,ev,ha,by rw[add_add a ha],hd⟩
 |pe id ep j sz off=>
  simp only[V.step,Option.some.injEq]at h;subst h
  obtain⟨h1,h2,h3⟩:=hx
  obtain⟨b,n,c,h4,rfl⟩:=(h3 ep hr).2 rfl
  refine⟨_,rfl,rfl,h2,fun e he=>⟨(h3 e he).1,fun heq=>⟨b,n,c,h4,by rw[add_plain,Nat.add_assoc]⟩⟩⟩
 |_=>simp[V.step]at h
theorem mf(hH:af M φ H w){t:TypeId}{f:Nat}{x:V}{xv:Value}(hx:V.den (ad M φ H) φ H w x xv)(h:ee P H.o t x f fun v=>K v [] []):
 a9 M φ H w fr ((do let y <- Instr.fieldAt t xv f;pure (Next.value y):Sem Next).run P w) K:=by
 have fin:∀ (y:V) q,gX P t f=some q->x.step q=some y->x.place H.o->K y [] []->
  a9 M φ H w fr ((do let y <- Instr.fieldAt t xv f;pure (Next.value y):Sem Next).run P w) K:=by
  intro y q hq hs hr hK
  obtain⟨a,rfl,hd⟩:=oB hs hx hr
  exact a9.plain hH _ hK (oA hq a) hd
 unfold ee at h
 split at h
 ·rename_i q hq
  split at h
  ·exact fin _ q hq rfl h.1 h.2
  ·exact fin _ q hq rfl trivial h
  ·exact fin _ q hq rfl h.1 h.2
  ·exact h.elim
 ·exact h.elim
theorem pV{B:Nat->Prop}{es:List D}{xv:Value}(hx:D.den B w (.sl es) xv){i:Nat}{y:D}(hy:es[i]? =some y):
 ∃a len cap ev,xv= .slice (some a) len cap/\i<len/\a.spot=none/\D.ak B w y.cells ev/\Flat ev/\df B w (a.add (i*y.cells.length)) ev.toArray/\len=es.length:=by
 obtain⟨base,len,cap,rfl,rfl,h2,h3,sz,h4⟩:=hx
 have cm:i<es.length:=(List.getElem?_eq_some_iff.1 hy).1
 cases base with
 |none=>have:=h3 rfl;omega
 |some a=>
  obtain⟨h5,h6⟩:=h4 a rfl
  obtain⟨ev,h7,h8,h9⟩:=D.mq es 0 i y h6 hy
  have wD:=D.cy _ _ h9
  have LL:y.cells.length=sz:=by rw[<- h7, <- D.ah _ _ wD.1];simp
  refine⟨a,es.length,cap,ev.cells.toList,rfl,cm,h5 (by omega),wD.1,wD.2, ?_,rfl⟩
  rw[LL]
  simpa using h8
theorem gR{t e:TypeId}(ht:cP P t=some e)(a:Addr)(len cap:Nat)(k:IntKind)(i:Int)(h0:0<=i)(h1:i.toNat<len)(hc:0<P.cellsOf e):
 (Instr.indexAt t (.slice (some a) len cap) (.int k i)).run P w= .ok (.pointer (some (a.add (i.toNat*P.cellsOf e)))) w:=by
 have hu:=aD ht
 have:∃ie,P.info? e=some ie:=by
  cases hi:P.info? e with
  |none=>simp[Program.cellsOf,hi]at hc
  |some i=>exact⟨i,rfl⟩
 obtain⟨ie,hi⟩:=this
 have h2:0<=i/\i<(len:Int):=⟨h0,by omega⟩
 simp[Instr.indexAt,run_underlying hu,asIntOf,h2,b5 hi]
theorem mg{t e:TypeId}{n:Nat}(ht:pS P t=some (n,e))(a:Addr)(k:IntKind)(i:Int)(h0:0<=i)(h1:i<n)(hi:∃ie,P.info? e=some ie):
 (Instr.indexAt t (.pointer (some a)) (.int k i)).run P w= .ok (.pointer (some (a.add (i.toNat*P.cellsOf e)))) w:=by
 have hu:=mz ht
 obtain⟨ie,hi⟩:=hi
 have h2:0<=i/\i<(n:Int):=⟨h0,h1⟩
 simp[Instr.indexAt,run_underlying hu,asIntOf,Instr.sureAddr,h2,b5 hi]
theorem mh(hH:af M φ H w){t:TypeId}{x ix:V}{xv iv:Value}(hx:V.den (ad M φ H) φ H w x xv)(hi:V.den (ad M φ H) φ H w ix iv)
 (h:ed P H.o t x ix fun v rd=>K v [] rd):a9 M φ H w fr ((do let y <- Instr.indexAt t xv iv;pure (Next.value y):Sem Next).run P w) K:=by
 unfold ed at h
 split at h
 ·rename_i k i
  simp only[V.den,D.den]at hi;subst hi
  have nm:∀ {e:TypeId} {es:List D} {rd},cP P t=some e->D.den (ad M φ H) w (.sl es) xv->(0<=i/\∃y,es[i.toNat]? =some y/\y.cells.length=P.cellsOf e/\0<P.cellsOf e/\K (.pp y.cells 0) [] rd)->
   a9 M φ H w fr ((do let y <- Instr.indexAt t xv (.int k i);pure (Next.value y):Sem Next).run P w) K:=by
   rintro e es rd ht hd ⟨h0,y,hy,hc,db,hK⟩
   obtain⟨a,len,cap,ev,rfl,h1,h2,h3,h4,h5,_⟩:=pV hd hy
   refine a9.plain hH _ hK (gR ht a len cap k i h0 h1 db) ⟨a.add (i.toNat*P.cellsOf e),ev,oy a h2 _,by rw[add_zero],h3,h4, ?_⟩
   rw[<- hc];exact h5
  split at h
  ·rename_i e ht
   split at h
   ·exact nm ht hx h
   ·exact nm ht hx.1 h
   ·rename_i id ep
    split at h
    ·rename_i dL ty sz es ho
     obtain⟨rfl,h0,h1,rfl,db,hK⟩:=h
     obtain⟨vc,cl,ow⟩:=hx
     have hv:=(ow ep (by rw[ho];rfl)).2 rfl
     have aI:=hH.ok id
     simp only[aw,ho]at aI
     obtain⟨h3,xs,⟨_,aM⟩,_⟩:=aI
     rcases aM with⟨_,h5⟩|⟨g,cap,cur,h4,_⟩
     ·omega
     ·subst hv
      rw[h4]
      refine a9.plain hH _ hK (gR ht _ _ cap k i h0 h1 db) ⟨rfl,cl,fun e' qI=>⟨(ow e' qI).1,fun heq=>⟨g,es.length,cap,h4,by rw[add_plain];simp⟩⟩⟩
    ·rename_i dL es ho
     obtain⟨rfl,h⟩:=h
     obtain⟨vc,cl,ow⟩:=hx
     have hv:=(ow ep (by rw[ho];rfl)).2 rfl
     have aI:=hH.ok id
     simp only[aw,ho]at aI
     exact nm ht (hv ▸ aI) h
    ·exact h.elim
   ·exact h.elim
  ·split at h
   ·rename_i n e ht
    obtain⟨h0,h1,Gj,h⟩:=h
    have fin:∀ (y:V),x.step (i.toNat*P.cellsOf e)=some y->x.place H.o->K y [] []->
     a9 M φ H w fr ((do let y <- Instr.indexAt t xv (.int k i);pure (Next.value y):Sem Next).run P w) K:=by
     intro y hs hr hK
     obtain⟨a,rfl,hd⟩:=oB hs hx hr
     refine a9.plain hH _ hK (mg ht a k i h0 h1 (Option.isSome_iff_exists.1 Gj)) hd
    split at h
    ·exact fin _ rfl h.1 h.2
    ·exact fin _ rfl trivial h
    ·exact fin _ rfl h.1 h.2
    ·exact h.elim
   ·exact h.elim
 ·exact h.elim
theorem xS(hH:af M φ H w){op:UnOp}{x:V}{xv:Value}(hx:V.den (ad M φ H) φ H w x xv)(h:Ax op x fun v=>K v [] []):
 a9 M φ H w fr ((do let y <- Op.unary op xv;pure (Next.value y):Sem Next).run P w) K:=by
 unfold Ax at h
 split at h
 ·simp only[V.den,D.den]at hx;subst hx
  exact a9.plain hH _ h (by simp[Op.unary,Op.intArith]) rfl
 ·simp only[V.den,D.den]at hx;subst hx
  exact a9.plain hH _ h (by simp[Op.unary]) rfl
 ·exact h.elim
theorem eF{op:BinOp}{k:IntKind}{a b r:Int}(h:kT op k a b=some r):(Op.intBits op k a b).run P w= .ok (.int k r) w:=by
 unfold kT at h
 cases op<;>simp at h<;>subst h<;>simp[Op.intBits]
theorem jQ{t:TypeId}(hu:P.underlying t=some .bool)(a b:Bool)(d:Nat):(Op.equalIn (d+1) t (.bool a) (.bool b)).run P w= .ok (a==b) w:=by
 simp[Op.equalIn,run_underlying hu]
theorem ve(hH:af M φ H w){op:BinOp}{t:TypeId}{p q:Operand}{x y:V}{xv yv:Value}(hx:V.den (ad M φ H) φ H w x xv)(hy:V.den (ad M φ H) φ H w y yv)
 (h:sT P op t x y fun v=>K v [] []):
 a9 M φ H w fr ((do let y <- (do eqGuard op t p q xv yv;binOp op t xv yv);pure (Next.value y):Sem Next).run P w) K:=by
 unfold sT at h
 split at h
 ·rename_i k a k' b
  obtain⟨rfl,h⟩:=h
  simp only[V.den,D.den]at hx hy;subst hx;subst hy
  have hg:(eqGuard op t p q (.int k a) (.int k b)).run P w= .ok () w:=by
   unfold eqGuard;cases op<;>simp
  have fin:∀ (v:V) (val:Value),K v [] []->(binOp op t (.int k a) (.int k b)).run P w= .ok val w->V.den (ad M φ H) φ H w v val->
   a9 M φ H w fr ((do let y <- (do eqGuard op t p q (.int k a) (.int k b);binOp op t (.int k a) (.int k b));pure (Next.value y):Sem Next).run P w) K:=by
   intro v val hK hr hd
   exact a9.plain hH val hK (by simp[hg,hr]) hd
  cases op<;>simp only[u4]at h
  case add=>exact fin _ _ h (by simp[binOp,Op.intArith]) rfl
  case sub=>exact fin _ _ h (by simp[binOp,Op.intArith]) rfl
  case mul=>exact fin _ _ h (by simp[binOp,Op.intArith]) rfl
  case quo=>exact fin _ _ h.2 (by simp[binOp,Op.intDiv,h.1]) rfl
  case rem=>exact fin _ _ h.2 (by simp[binOp,Op.intDiv,h.1]) rfl
  case and=>obtain⟨r,hr,hK⟩:=h;exact fin _ _ hK (by simp[binOp,eF hr]) rfl
  case or=>obtain⟨r,hr,hK⟩:=h;exact fin _ _ hK (by simp[binOp,eF hr]) rfl
  case xor=>obtain⟨r,hr,hK⟩:=h;exact fin _ _ hK (by simp[binOp,eF hr]) rfl
  case andNot=>obtain⟨r,hr,hK⟩:=h;exact fin _ _ hK (by simp[binOp,eF hr]) rfl
  all_goals
   obtain⟨r,hr,hK⟩:=h
   simp only[Aw,Option.some.injEq]at hr
   subst hr
   exact fin _ _ hK (by simp[binOp,Op.intCmp];rfl) (by simp[V.den,D.den])
 ·rename_i a b
  simp only[V.den,D.den]at hx hy;subst hx;subst hy
  have hg:(eqGuard op t p q (.bool a) (.bool b)).run P w= .ok () w:=by
   unfold eqGuard;cases op<;>simp
  split at h
  ·obtain⟨hu,hK⟩:=h
   have h1:(Op.equal t (.bool a) (.bool b)).run P w= .ok (a==b) w:=jQ hu a b 9999
   exact a9.plain hH (.bool (a==b)) hK (by simp[hg,binOp,h1]) rfl
  ·obtain⟨hu,hK⟩:=h
   have h1:(Op.equal t (.bool a) (.bool b)).run P w= .ok (a==b) w:=jQ hu a b 9999
   exact a9.plain hH (.bool (a !=b)) hK (by simp[hg,binOp,h1,bne]) rfl
  ·exact h.elim
 ·rename_i a b
  obtain⟨u,rfl,rfl⟩:=hx
  obtain⟨v,rfl,rfl⟩:=hy
  have hg:(eqGuard op t p q (.string u) (.string v)).run P w= .ok () w:=by
   unfold eqGuard;cases op<;>simp
  split at h
  ·exact a9.plain hH (.bool (u.data.toList==v.data.toList)) h (by simp[hg,binOp,Op.stringOp,ByteArray.toList_eq]) rfl
  ·exact a9.plain hH (.bool (u.data.toList !=v.data.toList)) h (by simp[hg,binOp,Op.stringOp,ByteArray.toList_eq,bne]) rfl
  ·exact h.elim
 ·rename_i a b
  obtain⟨a',rfl,hx⟩:=hx
  obtain⟨b',rfl,hy⟩:=hy
  split at h
  ·obtain⟨r,hr,hK⟩:=h
   obtain⟨h1,h2⟩:=hr (ad M φ H) w (.agg a') (.agg b') ⟨a',rfl,hx⟩ ⟨b',rfl,hy⟩
   exact a9.plain hH (.bool r) hK (by simp[h2,binOp,h1]) rfl
  ·obtain⟨r,hr,hK⟩:=h
   obtain⟨h1,h2⟩:=hr (ad M φ H) w (.agg a') (.agg b') ⟨a',rfl,hx⟩ ⟨b',rfl,hy⟩
   exact a9.plain hH (.bool !r) hK (by simp[h2,binOp,h1]) rfl
  ·exact h.elim
 ·exact h.elim
theorem sZ(hH:af M φ H w){c a b:V}{cv av bv:Value}(hc:V.den (ad M φ H) φ H w c cv)(ha:V.den (ad M φ H) φ H w a av)(hb:V.den (ad M φ H) φ H w b bv)
 (h:oo c a b fun v=>K v [] []):a9 M φ H w fr ((do pure (.value (if <- asBool cv then av else bv)):Sem Next).run P w) K:=by
 unfold oo at h
 split at h
 ·rename_i t
  simp only[V.den,D.den]at hc;subst hc
  have hr:((do pure (.value (if <- asBool (.bool t)then av else bv)):Sem Next).run P w)= .ok (.value (if t then av else bv)) w:=by simp[asBool]
  have fin:∀v,K v [] []->V.den (ad M φ H) φ H w v (if t then av else bv)->a9 M φ H w fr ((do pure (.value (if <- asBool (.bool t)then av else bv)):Sem Next).run P w) K:=
   fun v hK hd=>a9.same hH _ hK hr hd
  cases t
  ·exact fin _ (h.2 rfl) (by simpa using hb)
  ·exact fin _ (h.1 rfl) (by simpa using ha)
 ·exact h.elim
theorem kF{t:TypeId}{e:TypeId}(hu:P.underlying t=some (.slice e))(base:Option Addr)(n c:Nat)(ty:TypeId):(Builtin.len_ #[t] ty #[.slice base n c]).run P w= .ok (goInt n) w:=by
 simp[Builtin.len_,run_underlying hu]
theorem vf(hH:af M φ H w){t ty:TypeId}{x:V}{xv:Value}(hx:V.den (ad M φ H) φ H w x xv)(h:sU P t H.o x fun v rd=>K v [] rd):
 a9 M φ H w fr ((do let y <- Builtin.len_ #[t] ty #[xv];pure (Next.value y):Sem Next).run P w) K:=by
 unfold sU at h
 split at h
 ·rename_i e hu
  have fin:∀ {es:List D} {rd},D.den (ad M φ H) w (.sl es) xv->K (.d (.int .i64 es.length)) [] rd->a9 M φ H w fr ((do let y <- Builtin.len_ #[t] ty #[xv];pure (Next.value y):Sem Next).run P w) K:=by
   rintro es rd ⟨base,len,cap,rfl,rfl,_⟩ hK
   exact a9.plain hH _ hK (kF hu _ _ _ _) rfl
  split at h
  ·exact fin hx h
  ·simp only[V.den]at hx;subst hx
   exact a9.plain hH _ h (kF hu _ _ _ _) rfl
  ·exact fin hx.1 h
  ·rename_i id ep
   split at h
   ·rename_i dL ty sz es ho
    obtain⟨rfl,hK⟩:=h
    obtain⟨vc,cl,ow⟩:=hx
    have hv:=(ow ep (by rw[ho];rfl)).2 rfl
    have aI:=hH.ok id
    simp only[aw,ho]at aI
    obtain⟨h3,xs,⟨_,aM⟩,_⟩:=aI
    subst hv
    rcases aM with⟨h4,h5⟩|⟨g,cap,cur,h4,_⟩
    ·rw[h4];rw[h5]at hK;exact a9.plain hH _ hK (kF hu _ _ _ _) rfl
    ·rw[h4];exact a9.plain hH _ hK (kF hu _ _ _ _) rfl
   ·rename_i dL es ho
    obtain⟨rfl,hK⟩:=h
    obtain⟨vc,cl,ow⟩:=hx
    have hv:=(ow ep (by rw[ho];rfl)).2 rfl
    have aI:=hH.ok id
    simp only[aw,ho]at aI
    exact fin (hv ▸ aI) hK
   ·exact h.elim
  ·exact h.elim
 ·rename_i hu
  split at h
  ·obtain⟨u,rfl,rfl⟩:=hx
   exact a9.plain hH (goInt u.size) h (by simp[Builtin.len_,run_underlying hu]) (by simp[V.den,D.den,goInt])
  ·exact h.elim
 ·rename_i n e hu
  exact a9.plain hH _ h (by simp[Builtin.len_,run_underlying hu];rfl) rfl
 ·exact h.elim
end
end Go.Proofs.YtpkobkdgcanmjaaGreat
namespace Go.Proofs.YtpkobkdgcanmjaaGreat
section
variable {P:Program}{M:Nat->Prop}{φ:Place}{H:Hp}{w:World}{fr:Nat}{K:V->List (Nat×ab)->List Nat->Prop}
def ab.fz:ab->ab
 | .arr ep _ _ es=> .kf ep es
 | .map _ _ l=> .dw l
 |o=>o
theorem fm(o:Nat->ab)(ids:List Nat):bH o ids=ids.map fun id=>(id,(o id).fz):=by
 unfold bH
 refine List.map_congr_left fun id _=> ?_
 cases o id<;>rfl
theorem la(H:Hp){id:Nat}(hu:H.us id){x:ab}(hx:H.o id=x):H.put [(id,x)]=H:=by
 obtain⟨o,us⟩:=H
 simp only[Hp.put,put,List.foldl_cons,List.foldl_nil,Hp.mk.injEq,List.map_cons,List.map_nil,List.mem_singleton]
 constructor
 ·funext j
  by_cases hj:j=id
  ·subst hj;simpa using hx.symm
  ·simp[hj]
 ·funext j
  simp only[eq_iff_iff]
  exact⟨fun h=>h.elim (fun h=>h) fun e=>e ▸ hu, .inl⟩
theorem iM(o:Nat->ab):∀ (ids:List Nat) (H:Hp),af M φ H w->(∀id∈ids,H.us id)->(∀id,H.o id=o id\/H.o id=(o id).fz)->
 let H':=H.put (ids.map fun id=>(id,(o id).fz));af M φ H' w/\Trans φ H w φ H' w/\(∀id∈ids,H'.o id=(o id).fz)/\(∀id,H'.o id=o id\/H'.o id=(o id).fz)/\(∀id,id∉ids->H'.o id=H.o id)/\∀id,H'.us id↔H.us id
 |[],H,hH,_,ho=>by
  simp only[List.map_nil,gG]
  exact⟨hH,Trans.refl _ _ _,by simp,ho,by simp,by simp⟩
 |id::ids,H,hH,hu,ho=>by
  have h1:af M φ (H.put [(id,(o id).fz)]) w/\Trans φ H w φ (H.put [(id,(o id).fz)]) w:=by
   rcases ho id with h|h
   ·cases hx:o id with
    |arr ep ty sz es=>exact u9 hH (hu id (by simp)) (h.trans hx)
    |map kt vt l=>exact qN hH (hu id (by simp)) (h.trans hx)
    |_=>
     rw[la H (hu id (by simp)) (h.trans (by rw[hx];rfl))]
     exact⟨hH,Trans.refl _ _ _⟩
   ·rw[la H (hu id (by simp)) h]
    exact⟨hH,Trans.refl _ _ _⟩
  have h2:∀j,(H.put [(id,(o id).fz)]).o j=o j\/(H.put [(id,(o id).fz)]).o j=(o j).fz:=by
   intro j
   by_cases hj:j=id
   ·subst hj;right;simp
   ·simpa[hj]using ho j
  have ih:=iM o ids (H.put [(id,(o id).fz)]) h1.1 (fun j hj=>by simp[hu j (by simp[hj])]) h2
  obtain⟨i1,i2,i3,i4,i5,i6⟩:=ih
  have e:H.put ((id::ids).map fun id=>(id,(o id).fz))=(H.put [(id,(o id).fz)]).put (ids.map fun id=>(id,(o id).fz)):=by
   rw[<- bW];rfl
  rw[e]
  refine⟨i1,h1.2.trans i2,fun j hj=> ?_,i4,fun j hj=> ?_,fun j=> ?_⟩
  ·rcases List.mem_cons.1 hj with rfl|hj
   ·by_cases hm:j∈ids
    ·exact i3 j hm
    ·rw[i5 j hm];simp
   ·exact i3 j hj
  ·simp only[List.mem_cons,not_or]at hj
   rw[i5 j hj.2];simp[hj.1]
  ·rw[i6 j,bX]
   exact⟨fun h=>h.elim (fun h=>h) fun e=>e ▸ hu id (by simp), .inl⟩
theorem bN(hH:af M φ H w)(ids:List Nat)(hu:∀id∈ids,H.us id):
 let H':=H.put (bH H.o ids);af M φ H' w/\Trans φ H w φ H' w/\(∀id∈ids,H'.o id=(H.o id).fz)/\(∀id,id∉ids->H'.o id=H.o id)/\∀id,H'.us id↔H.us id:=by
 rw[fm]
 obtain⟨a,b,c,_,d,e⟩:=iM H.o ids H hH hu (fun _=> .inl rfl)
 exact⟨a,b,c,d,e⟩
mutual
theorem bS:∀ (v:V) (val:Value),V.den (ad M φ H) φ H w v val->∀id∈v.ids,H.us id
 | .osl id ep,_,h,j,hj=>by simp[V.ids]at hj;subst hj;exact h.2.1
 | .mp id,_,h,j,hj=>by simp[V.ids]at hj;subst hj;exact h.2.1
 | .agg cs,_,h,j,hj=>by obtain⟨a,rfl,h,_⟩:=h;exact aY cs _ h j (by simpa[V.ids]using hj)
 | .iface t x,_,h,j,hj=>by obtain⟨u,rfl,h⟩:=h;exact bS x u h j (by simpa[V.ids]using hj)
 | .d _,_,_,_,hj| .cu,_,_,_,hj| .a8 _,_,_,_,hj| .ptr _ _,_,_,_,hj| .pe _ _ _ _ _,_,_,_,hj| .pp _ _,_,_,_,hj| .func _ _ _,_,_,_,hj| .bO,_,_,_,hj| .ir _,_,_,_,hj| .mb _ _ _,_,_,_,hj| .cJ,_,_,_,hj| .gW _,_,_,_,hj=>by simp[V.ids]at hj
theorem aY:∀ (vs:List V) (vals:List Value),V.ak (ad M φ H) φ H w vs vals->∀id∈V.aA vs,H.us id
 |[],_,_,j,hj=>by simp[V.aA]at hj
 |v::vs,_,h,j,hj=>by
  obtain⟨u,us,rfl,h1,h2⟩:=h
  rcases List.mem_append.1 (show j∈v.ids++V.aA vs from hj)with hj|hj
  ·exact bS v u h1 j hj
  ·exact aY vs us h2 j hj
end
mutual
theorem dh(hH:af M φ H w){o:Nat->ab}:∀ (v:V) (x:D) (val:Value),(∀id∈v.ids,H.o id=(o id).fz)->cD o v=some x->V.den (ad M φ H) φ H w v val->D.den (ad M φ H) w x val
 | .d y,x,val,_,h,hd=>by simp[cD]at h;subst h;exact hd
 | .cu,x,val,_,h,hd=>by
   simp[cD]at h;subst h
   simp only[V.den]at hd;subst hd
   exact⟨none,0,0,rfl,rfl,Nat.le_refl _,fun _=>rfl,0,fun a ha=>by cases ha⟩
 | .osl id ep,x,val,ho,h,hd=>by
   obtain⟨_,_,hd⟩:=hd
   have ho:=ho id (by simp[V.ids])
   have aI:=hH.ok id
   simp only[cD]at h
   cases hx:o id with
   |no=>simp[hx]at h
   |row cs=>simp[hx]at h
   |map kt vt l=>simp[hx]at h
   |loop nf n env ps iu fI st rG=>simp[hx]at h
   |dw l=>simp[hx]at h
   |kQ l last=>simp[hx]at h
   |oe s pos=>simp[hx]at h
   |arr dL ty sz es=>
    simp only[hx]at h ho
    split at h
    ·rename_i e;subst e;injection h with h;subst h
     simp only[ab.fz]at ho
     simp only[aw,ho]at aI
     rw[(hd ep (by rw[ho];rfl)).2 rfl];exact aI
    ·cases h
   |kf dL es=>
    simp only[hx]at h ho
    split at h
    ·rename_i e;subst e;injection h with h;subst h
     simp only[ab.fz]at ho
     simp only[aw,ho]at aI
     rw[(hd ep (by rw[ho];rfl)).2 rfl];exact aI
    ·cases h
 | .mp id,x,val,ho,h,hd=>by
   obtain⟨_,_,hd⟩:=hd
   have ho:=ho id (by simp[V.ids])
   have aI:=hH.ok id
   simp only[cD]at h
   cases hx:o id with
   |map kt vt l=>
    simp only[hx]at h ho
    injection h with h;subst h
    simp only[ab.fz]at ho
    simp only[aw,ho]at aI
    rw[hd (by rw[ho];rfl)];exact aI
   |dw l=>
    simp only[hx]at h ho
    injection h with h;subst h
    simp only[ab.fz]at ho
    simp only[aw,ho]at aI
    rw[hd (by rw[ho];rfl)];exact aI
   |_=>simp[hx]at h
 | .agg cs,x,val,ho,h,hd=>by
   simp only[cD,Option.map_eq_some_iff]at h
   obtain⟨ds,h1,rfl⟩:=h
   obtain⟨a,rfl,h2,h3⟩:=hd
   exact⟨a,rfl,bD hH cs ds _ (fun id ai=>ho id (by simpa[V.ids]using ai)) h1 h2,h3⟩
 | .iface t y,x,val,ho,h,hd=>by
   simp only[cD,Option.map_eq_some_iff]at h
   obtain⟨z,h1,rfl⟩:=h
   obtain⟨u,rfl,h2⟩:=hd
   exact⟨u,rfl,dh hH y z u (fun id ai=>ho id (by simpa[V.ids]using ai)) h1 h2⟩
 | .a8 _,_,_,_,h,_| .ptr _ _,_,_,_,h,_| .pe _ _ _ _ _,_,_,_,h,_| .pp _ _,_,_,_,h,_| .func _ _ _,_,_,_,h,_| .bO,_,_,_,h,_| .mb _ _ _,_,_,_,h,_| .cJ,_,_,_,h,_| .gW _,_,_,_,h,_=>by simp[cD]at h
 | .ir es,x,val,_,h,hd=>by simp[cD]at h;subst h;exact hd.1
theorem bD(hH:af M φ H w){o:Nat->ab}:∀ (vs:List V) (xs:List D) (vals:List Value),(∀id∈V.aA vs,H.o id=(o id).fz)->aR o vs=some xs->V.ak (ad M φ H) φ H w vs vals->D.ak (ad M φ H) w xs vals
 |[],xs,vals,_,h,hd=>by simp[aR]at h;subst h;exact hd
 |v::vs,xs,vals,ho,h,hd=>by
  simp only[aR,Option.bind_eq_some_iff,Option.map_eq_some_iff]at h
  obtain⟨x,h1,ys,h2,rfl⟩:=h
  obtain⟨u,us,rfl,h3,h4⟩:=hd
  exact⟨u,us,rfl,dh hH v x u (fun id ai=>ho id (by simp[V.aA,ai])) h1 h3,bD hH vs ys us (fun id ai=>ho id (by simp[V.aA,ai])) h2 h4⟩
end
theorem jR(hH:af M φ H w)(cE: ¬H.us fr){s:Sem Value}(cs:List V)(cd:Array Value)(ty:TypeId)(hK:K (.ptr fr 0) [(fr, .row cs)] [])
 (hr:s.run P w= .ok (.pointer (some ⟨w.heap.size,0,none⟩)) (w.alloc (.cells cd ty))) (hd:V.ak (ad M φ H) φ H w cs cd.toList) (hf:Flat cd.toList):
 a9 M φ H w fr ((do let y <- s;pure (Next.value y):Sem Next).run P w) K:=by
 obtain⟨h1,h2,h3⟩:=u7 hH cE cs cd ty hd hf
 exact⟨_,_,_,_,_,_,_,hK,by simp[hr], .inl rfl,h1,h2,h3,by simp⟩
theorem rJ(hH:af M φ H w)(cE: ¬H.us fr){t:TypeId}(h:∃cs,eY P t=some cs/\K (.ptr fr 0) [(fr, .row cs)] []):
 a9 M φ H w fr ((do let y <- Instr.alloc t true (.tuple #[]);pure (Next.value y):Sem Next).run P w) K:=by
 obtain⟨cs,hz,hK⟩:=h
 obtain⟨i,v,h1,h2,h3,h4,rfl⟩:=ei hz
 refine jR hH cE _ v.cells t hK ?_ (bQ _ h4) h4
 simp[Instr.alloc,zeroValue,typeInfo,h1,h2,newVar,newRow]
theorem vg(hH:af M φ H w)(cE: ¬H.us fr){t:TypeId}{x:V}{xv:Value}(hx:V.den (ad M φ H) φ H w x xv)(h:∃cs,x.cells=some cs/\K (.ptr fr 0) [(fr, .row cs)] []):
 a9 M φ H w fr ((do let y <- Instr.box t xv;pure (Next.value y):Sem Next).run P w) K:=by
 obtain⟨cs,hc,hK⟩:=h
 obtain⟨h1,h2⟩:=V.gE x xv cs hc hx
 refine jR hH cE _ xv.cells t hK ?_ h1 h2
 simp[Instr.box,newVar,newRow]
theorem rK(off:Nat):∀ (us:List Value) (cells:Array Value),off+us.length<=cells.size->
 ((us.zipIdx.foldl (fun cs (p:Value×Nat)=>cs.setIfInBounds (off+p.2) p.1) cells)).toList=cells.toList.take off++us++cells.toList.drop (off+us.length):=by
 have key:∀ (us:List Value) (k:Nat) (cells:Array Value),off+k+us.length<=cells.size->
  (((us.zipIdx k).foldl (fun cs (p:Value×Nat)=>cs.setIfInBounds (off+p.2) p.1) cells)).toList=cells.toList.take (off+k)++us++cells.toList.drop (off+k+us.length):=by
  intro us
  induction us with
  |nil=>intro k cells h;simp
  |cons u us ih=>
   intro k cells h
   simp only[List.zipIdx_cons,List.foldl_cons]
   rw[ih (k+1) _ (by simp at h|-;omega)]
   simp only[Array.toList_setIfInBounds,List.length_cons]
   have cm:off+k<cells.toList.length:=by simp at h|-;omega
   rw[show off+(k+1)=off+k+1 by omega,List.take_set,List.take_succ_eq_append_getElem cm,List.set_append_right _ _ (by simp;omega)]
   simp only[List.length_take]
   rw[show min (off+k) cells.toList.length=off+k by omega,Nat.sub_self]
   simp only[List.set_cons_zero,List.append_assoc,List.cons_append,List.nil_append]
   rw[List.drop_set_of_lt (by omega)]
   congr 3
   rw[show off+k+1+us.length=off+k+(us.length+1) by omega]
 intro us cells h
 have:=key us 0 cells (by simpa using h)
 simpa using this
theorem oC(places:List (Nat×Nat)):∀ (parts:List (Nat×V)) (fq:List (Nat×Value)) (cs cs':List V) (cells:Array Value),
 fq.map (·.1)=parts.map (·.1)->V.ak (ad M φ H) φ H w (parts.map (·.2)) (fq.map (·.2))->V.ak (ad M φ H) φ H w cs cells.toList->Flat cells.toList->jO places cs parts=some cs'->
 ∃dy,(∀place:Nat->Option (Nat×Nat),(∀i p,places[i]? =some p->place i=some p)->Instr.fill place cells fq=some dy)/\V.ak (ad M φ H) φ H w cs' dy.toList/\Flat dy.toList
 |[],fq,cs,cs',cells,h1,_,h3,h4,h=>by
  cases fq with
  |nil=>simp[jO]at h;subst h;exact⟨cells,fun _ _=>rfl,h3,h4⟩
  |cons a l=>simp at h1
 |(i,v)::parts,fq,cs,cs',cells,h1,h2,h3,h4,h=>by
  cases fq with
  |nil=>simp at h1
  |cons a fq=>
   obtain⟨i',val⟩:=a
   simp only[List.map_cons,List.cons.injEq]at h1
   obtain⟨rfl,h1⟩:=h1
   simp only[List.map_cons]at h2
   obtain⟨u,us,e,h5,h6⟩:=h2
   simp only[List.cons.injEq]at e
   obtain⟨rfl,rfl⟩:=e
   simp only[jO]at h
   split at h
   ·rename_i off size us pM hc
    split at h
    ·rename_i cG
     obtain⟨g1,g2⟩:=V.gE v _ us hc h5
     have hl:=V.ah _ _ g1
     have JB:=V.ah _ _ h3
     have hs:=rK off val.cells.toList cells (by simp at hl JB|-;omega)
     rw[Array.length_toList]at hl JB
     have ih:=oC places parts fq _ cs' (val.cells.toList.zipIdx.foldl (fun cs (p:Value×Nat)=>cs.setIfInBounds (off+p.2) p.1) cells) h1 h6 (by
      rw[hs]
      refine V.az _ _ _ _ (V.az _ _ _ _ (V.bP _ _ _ h3) g1) ?_
      rw[show val.cells.toList.length=us.length by simpa using hl]
      exact V.b9 _ _ _ h3) (by
      rw[hs]
      intro x hx
      simp only[List.mem_append]at hx
      rcases hx with(hx|hx)|hx
      ·exact h4 x (List.mem_of_mem_take hx)
      ·exact g2 x hx
      ·exact h4 x (List.mem_of_mem_drop hx)) h
     obtain⟨dy,i1,i2⟩:=ih
     refine⟨dy,fun place hp=> ?_,i2⟩
     have i1:=i1 place hp
     simp only[Instr.fill,hp _ _ pM]
     rw[if_neg (by simp;omega), <- i1]
     have e:∀ (c:Array Value),c.zipIdx.foldl (fun cs (x:Value×Nat)=>cs.setIfInBounds (off+x.2) x.1) cells=c.toList.zipIdx.foldl (fun cs (x:Value×Nat)=>cs.setIfInBounds (off+x.2) x.1) cells:=by
      intro c;rw[<- Array.foldl_toList,Array.toList_zipIdx]
     rw[<- e]
    ·cases h
   ·cases h
theorem oD{t:TypeId}{pl:List (Nat×Nat)}(h:iz P t=some pl)(parts:List (Nat×Value))(cells dy:Array Value){i:TypeInfo}{z:Value}(hi:P.info? t=some i)(hz:i.zero=some z)(hc:z.cells=cells)
 (hf:∀place:Nat->Option (Nat×Nat),(∀i p,pl[i]? =some p->place i=some p)->Instr.fill place cells parts=some dy):
 P.built t parts=some dy:=by
 subst hc
 unfold iz at h
 unfold Program.built
 cases hd:P.underlying t with
 |none=>simp[hd]at h
 |some d=>
  cases d<;>simp only[hd]at h<;>try (cases h;done)
  case struct fs=>
   simp only[Option.ite_none_right_eq_some,Option.some.injEq]at h
   obtain⟨aT,rfl⟩:=h
   have hm:fs.toList.mapM (fun f=>(P.info? f.type).map fun i=>(f.offset,i.size))=some (fs.toList.map fun f=>(f.offset,P.cellsOf f.type)):=by
    generalize fs.toList=l at aT
    clear hf
    induction l with
    |nil=>rfl
    |cons f l ih=>
     simp only[List.all_cons,Bool.and_eq_true]at aT
     obtain⟨j,hj⟩:=Option.isSome_iff_exists.1 aT.1
     simp[List.mapM_cons,ih aT.2,hj,aS hj]
   simp only[hi,hz,hm]
   exact hf _ (by simp)
  case array n e=>
   simp only[Option.ite_none_right_eq_some,Option.some.injEq]at h
   obtain⟨aT,rfl⟩:=h
   obtain⟨j,hj⟩:=Option.isSome_iff_exists.1 aT
   simp only[hi,hz,hj]
   refine hf _ fun k p hp=> ?_
   rw[List.getElem?_map]at hp
   simp only[Option.map_eq_some_iff]at hp
   obtain⟨a,h1,rfl⟩:=hp
   rw[List.getElem?_range]at h1
   ·injection h1 with h1;subst h1;rw[aS hj]
   ·rcases Nat.lt_or_ge k n with hn|hn
    ·exact hn
    ·rw[List.getElem?_eq_none (by simpa using hn)]at h1;cases h1
theorem rL(hH:af M φ H w){t:TypeId}{parts:Array (Nat×Operand)}{s:S}{a:Act}(bK:∀i,V.den (ad M φ H) φ H w (s.env i) (a.tmps.getD i undef))
 (h:∃z pl cs,eY P t=some z/\iz P t=some pl/\jO pl z (parts.toList.map fun p=>(p.1,s.ev p.2))=some cs/\K (iy cs) [] []):
 a9 M φ H w fr ((do let y <- Instr.build t (parts.map fun(i,x)=>(i,a.eval x));pure (Next.value y):Sem Next).run P w) K:=by
 obtain⟨z,pl,cs,hz,pM,im,hK⟩:=h
 obtain⟨i,zv,h1,h2,h3,h4,rfl⟩:=ei hz
 have hd:V.ak (ad M φ H) φ H w ((parts.toList.map fun p=>(p.1,s.ev p.2)).map (·.2)) ((parts.map fun(i,x)=>(i,a.eval x)).toList.map (·.2)):=by
  have:=eE s a bK (parts.toList.map (·.2))
  simpa[Function.comp_def]using this
 have he:(parts.map fun(i,x)=>(i,a.eval x)).toList.map (·.1)=(parts.toList.map fun p=>(p.1,s.ev p.2)).map (·.1):=by simp[Function.comp_def]
 obtain⟨dy,g1,g2,g3⟩:=oC (M:=M) (φ:=φ) (H:=H) (w:=w) pl _ _ _ cs zv.cells he hd (bQ _ h4) h4 im
 have hb:P.built t (parts.map fun(i,x)=>(i,a.eval x)).toList=some dy:=oD pM _ zv.cells dy h1 h2 rfl g1
 exact a9.plain hH (.agg dy) hK (run_build w t _ dy hb) (e7 _ _ g2 g3)
end
end Go.Proofs.YtpkobkdgcanmjaaGreat
namespace Go.Proofs.YtpkobkdgcanmjaaGreat
section
variable {P:Program}{M:Nat->Prop}{φ:Place}{H:Hp}{w w':World}{fr:Nat}{K:V->List (Nat×ab)->List Nat->Prop}
theorem iN{base:Nat}{e:TypeId}{sz n:Nat}{v:Value}{xs:List Value}(h:w.ownsRow base e sz v n xs):w.ownsRow 0 e sz v n xs:=by
 obtain⟨h1,h2⟩:=h
 refine⟨h1, ?_⟩
 rcases h2 with h2|⟨g,cap,cur,a,_,b⟩
 ·exact .inl h2
 ·exact .inr ⟨g,cap,cur,a,Nat.zero_le _,b⟩
theorem eG{base:Nat}{e:TypeId}{sz n:Nat}{v:Value}{xs:List Value}(h:w.ownsRow base e sz v n xs)(b:Nat)(hb:cF v=some b):base<=b/\b<w.heap.size:=by
 rcases h.2 with⟨rfl,_⟩|⟨g,cap,cur,rfl,h1,h2,_⟩
 ·cases hb
 ·simp[cF]at hb;subst hb
  exact⟨h1,(Array.getElem?_eq_some_iff.1 h2).1⟩
theorem dx.mono {B B':Nat->Prop}(hb:∀b,aU w b-> ¬B b->w'.heap[b]? =w.heap[b]? /\ ¬B' b){sz:Nat}{es:List D}{xs:List Value}(h:dx B w sz es xs):dx B' w' sz es xs:=by
 obtain⟨evs,h1,h2,h3⟩:=h
 exact⟨evs,h1,h2,D.ax hb es evs h3⟩
theorem qO(hH:af M φ H w)(cE: ¬H.us fr)(hk:cw (fun _=>False) w w'){val:Value}{ty:TypeId}{sz:Nat}{es:List D}{xs:List Value}(cG:0<sz)
 (cA:w'.ownsRow w.heap.size ty sz val es.length xs) (hd:dx (ad M φ H) w sz es xs):
 let aj:=cK φ fr val;let H':=H.put [(fr, .arr 0 ty sz es)]
 af M aj H' w'/\Trans φ H w aj H' w'/\V.den (ad M aj H') aj H' w' (.osl fr 0) val:=by
 intro aj H'
 have ht:Trans φ H w aj H' w':=cz hk cE _ _ fun b hb=>(eG cA b hb).1
 refine⟨eh hH hk cE _ _ (eG cA) ?_,ht, ?_,by simp[H'],fun e he=> ?_⟩
 ·unfold aw
  simp only[aE,ao,if_true]
  exact⟨cG,xs,iN cA,hd.mono (ht.blocks (M:=M))⟩
 ·rcases cA.2 with⟨rfl,_⟩|⟨g,cap,cur,rfl,_⟩<;>rfl
 ·simp[H',ab.aO]at he
  subst he
  exact⟨Nat.le_refl _,fun _=>by simp[aj]⟩
theorem cU(hH:af M φ H w)(cE: ¬H.us fr)(hk:cw (fun _=>False) w w'){s:Sem Value}{val:Value}{ty:TypeId}{sz:Nat}{es:List D}{xs:List Value}{rd:List Nat}(cG:0<sz)
 (hK:K (.osl fr 0) [(fr, .arr 0 ty sz es)] rd) (hr:s.run P w= .ok val w') (cA:w'.ownsRow w.heap.size ty sz val es.length xs) (hd:dx (ad M φ H) w sz es xs):
 a9 M φ H w fr ((do let y <- s;pure (Next.value y):Sem Next).run P w) K:=by
 obtain⟨h1,h2,h3⟩:=qO hH cE hk cG cA hd
 exact⟨_,_,_,_,_,_,_,hK,by simp[hr], .inl rfl,h1,h2,h3,by simp⟩
theorem ej{e:TypeId}(h:0<P.cellsOf e):∃i,P.info? e=some i:=by
 cases hi:P.info? e with
 |none=>simp[Program.cellsOf,hi]at h
 |some i=>exact⟨i,rfl⟩
theorem oE(parts:List (Nat×Value))(n:Nat)(h:parts.map (·.1)=List.range n):parts=((parts.map (·.2)).zipIdx 0).map fun x=>(x.2,x.1):=by
 apply List.ext_getElem?
 intro i
 have hl:parts.length=n:=by have:=congrArg List.length h;simpa using this
 rw[List.getElem?_map,List.getElem?_zipIdx,List.getElem?_map]
 cases hp:parts[i]? with
 |none=>simp
 |some p=>
  have h1:(parts.map (·.1))[i]? =some p.1:=by simp[hp]
  rw[h,List.getElem?_range (by have:=(List.getElem?_eq_some_iff.1 hp).1;omega)]at h1
  simp at h1
  obtain⟨p1,p2⟩:=p
  simp_all
theorem ko{t e:TypeId}(ht:P.underlying t=some (.slice e))(db:0<P.cellsOf e):(Instr.buildSlice t 0 #[]).run P w= .ok (.slice (some ⟨w.heap.size,0,none⟩) 0 0) (w.alloc (.cells #[] e)):=by
 obtain⟨i,hi⟩:=ej db
 have h1:(underlying t).run P w= .ok (.slice e) w:=by simp[Go.underlying,ht]
 have h2:(sizeOf e).run P w= .ok i.size w:=by simp[Go.sizeOf,Go.typeInfo,hi]
 simp[Instr.buildSlice,h1,h2,Instr.fill,newRow]
 congr 2
 exact Array.eq_empty_of_size_eq_zero (by simp)
theorem lb(hH:af M φ H w)(cE: ¬H.us fr){t:TypeId}{len:Nat}{parts:Array (Nat×Operand)}{s:S}{a:Act}(bK:∀i,V.den (ad M φ H) φ H w (s.env i) (a.tmps.getD i undef))
 (h:dG P H.o fr t len (parts.toList.map fun p=>(p.1,s.ev p.2)) K):
 a9 M φ H w fr ((do let y <- Instr.buildSlice t len (parts.map fun(i,x)=>(i,a.eval x));pure (Next.value y):Sem Next).run P w) K:=by
 unfold dG at h
 split at h
 ·rename_i e ht
  rcases h with⟨rfl,FO,db,hK⟩|⟨Gk,hz,hlen,db,Gl,ds,dc,hw,hK⟩
  ·have Az:parts=#[]:=by
    have:=congrArg List.length FO
    simp at this
    exact this
   subst Az
   have cA:=World.ownsRow_lit (base:=w.heap.size) (e:=e) (size:=P.cellsOf e) w #[] 0 (Nat.le_refl _) (Nat.zero_le _) (by simp)
   exact cU hH cE (bg w _) db hK (by simpa using ko (w:=w) (aD ht) db) cA ⟨[],rfl,by simp,rfl⟩
  obtain⟨z,hz⟩:=Option.isSome_iff_exists.1 hz
  obtain⟨ie,zv,h1,h2,h3,h4,_⟩:=ei hz
  have hd:V.ak (ad M φ H) φ H w ((parts.toList.map fun p=>(p.1,s.ev p.2)).map (·.2)) ((parts.map fun(i,x)=>(i,a.eval x)).toList.map (·.2)):=by
   have:=eE s a bK (parts.toList.map (·.2))
   simpa[Function.comp_def]using this
  have s5:(parts.map fun(i,x)=>(i,a.eval x)).toList.map (·.1)=List.range len:=by
   rw[<- Gk];simp[Function.comp_def]
  generalize LM:(parts.map fun(i,x)=>(i,a.eval x)).toList=vp at hd s5
  generalize FP:(parts.toList.map fun p=>(p.1,s.ev p.2)).map (·.2)=sp at hd dc hK
  obtain⟨f1,f2,f3,f4,f5⟩:=bN hH (V.aA sp) (aY sp _ hd)
  have LN:=V.ax f2 _ _ hd
  have mA:=bD f1 sp ds _ f3 dc LN
  have cG:∀v∈vp.map (·.2),v.cells.size=P.cellsOf e:=by
   intro v hv
   obtain⟨i,hi⟩:=List.mem_iff_getElem?.1 hv
   have hl:=D.ah _ _ mA
   have cm:i<ds.length:=by rw[<- hl];exact(List.getElem?_eq_some_iff.1 hi).1
   obtain⟨v',l8,xT⟩:=D.b4 _ _ i ds[i] mA (by simp[cm])
   rw[hi]at l8;injection l8 with l8;subst l8
   have:=D.ah _ _ (D.cy _ _ xT).1
   rw[hw _ (List.getElem_mem cm)]at this
   simpa using this
  have Gm:vp.length=len:=by have:=congrArg List.length s5;simpa using this
  have AA:Instr.fill (fun i=>some (i*ie.size,ie.size)) ((Array.range (len*ie.size)).map (zv.cells[· %zv.cells.size]!)) vp=some ((vp.map (·.2)).flatMap fun v=>v.cells.toList).toArray:=by
   rw[<- aS h1]
   have:=Great.fill_whole db (vp.map (·.2)) ((Array.range (len*P.cellsOf e)).map (zv.cells[· %zv.cells.size]!)) cG (by simp[Gm])
   rwa [<- oE vp len s5]at this
  have cB:=run_buildSlice (P:=P) w t e len (parts.map fun(i,x)=>(i,a.eval x)) _ ie zv (aD ht) h1 h2 (by rw[<- aS h1];omega) (by rw[<- aS h1];have:=Nat.mul_pos hlen db;omega) (by rw[LM];exact AA)
  have Gn:=D.ah _ _ mA
  have cA:=World.ownsRow_lit (base:=w.heap.size) (e:=e) (size:=P.cellsOf e) w ((vp.map (·.2)).flatMap fun v=>v.cells.toList).toArray len (Nat.le_refl _) (by have:=Nat.le_mul_of_pos_right len db;simp[maxLen];omega) (by
   have:∀l:List Value,(∀v∈l,v.cells.size=P.cellsOf e)->(l.flatMap fun v=>v.cells.toList).length=l.length*P.cellsOf e:=by
    intro l
    induction l with
    |nil=>simp
    |cons x l ih=>intro hx;simp[hx x (by simp),ih (fun v hv=>hx v (by simp[hv])),Nat.add_mul,Nat.add_comm]
   have:=this (vp.map (·.2)) cG
   simpa[Gm]using this)
  have mB:len=ds.length:=by rw[<- Gn];simp[Gm]
  obtain⟨g1,g2,g3⟩:=qO (ty:=e) (sz:=P.cellsOf e) (es:=ds) f1 (fr:=fr) (fun hu=>cE ((f5 fr).1 hu)) (bg w _) db (by rw[<- mB];exact cA) ⟨vp.map (·.2),by simp,cG,mA⟩
  rw[<- bW]at g1 g2 g3
  refine⟨_,_,_,_,_,_,_,hK,by simp only[Sem.run_bind,cB,Result.andThen_ok];rfl, .inl rfl,g1,f2.trans g2,g3,fun id ai=> ?_⟩
  simp only[List.map_append,List.mem_append,List.map_cons,List.map_nil,List.mem_singleton]at ai
  rcases ai with ai|ai
  ·left
   refine aY sp _ hd id ?_
   rw[fm]at ai
   simpa[Function.comp_def]using ai
  ·exact .inr ai
 ·exact h.elim
theorem fT:∀ (vs:List Value),V.aA (vs.map V.bC)=[]
 |[]=>rfl
 |v::vs=>by
  have h:(V.bC v).ids=[]:=by cases v<;>simp only[V.bC,V.ids]<;>split<;>rfl
  simp[V.aA,h,fT vs]
theorem rM(hH:af M φ H w){e:TypeId}{x:D}(h:qJ P e=some x):∃i z ev,P.info? e=some i/\i.zero=some z/\z.cells.size=i.size/\Flat z.cells.toList/\ev.cells=z.cells/\D.den (ad M φ H) w x ev:=by
 unfold qJ at h
 split at h
 ·rename_i zs hz
  obtain⟨i,z,h1,h2,h3,h4,rfl⟩:=ei hz
  have key:∀ds,aR (fun _=> .no) (z.cells.toList.map V.bC)=some ds->D.ak (ad M φ H) w ds z.cells.toList:=fun ds dc=>
   bD hH _ _ _ (by rw[fT];simp) dc (bQ _ h4)
  split at h
  ·rename_i ds dc pU
   injection h with h;subst h
   exact⟨i,z, .agg z.cells,h1,h2,h3,h4,rfl,z.cells,rfl,key ds dc,h4⟩
  ·rename_i y dc pU
   injection h with h;subst h
   obtain⟨u,us,h5,h6,h7⟩:=key _ dc
   simp only[D.ak]at h7;subst h7
   have vc:=h4 u (by rw[h5];simp)
   have hu:u.cells=#[u]:=by cases u<;>simp_all[Value.oneCell',Value.cells]
   refine⟨i,z,u,h1,h2,h3,h4, ?_,h6⟩
   rw[hu];apply Array.ext';simpa using h5.symm
  ·cases h
 ·cases h
theorem lf(z:Value)(n:Nat):(madeCells z.cells (n*z.cells.size)).toList=(List.replicate n z).flatMap (·.cells.toList):=by
 apply List.ext_getElem?
 intro i
 by_cases h0:z.cells.size=0
 ·have:z.cells.toList=[]:=by simpa using h0
  simp[madeCells,h0]
 ·have db:0<z.cells.size:=by omega
  by_cases hi:i<n*z.cells.size
  ·have hd:i/z.cells.size<n:=Nat.div_lt_of_lt_mul (by rwa [Nat.mul_comm]at hi)
   have hm:=Nat.mod_lt i db
   have:=fS z.cells.size (List.replicate n z) (i/z.cells.size) (i%z.cells.size) z z.cells[i%z.cells.size] (fun x hx=>by rw[(List.mem_replicate.1 hx).2]) (by simp[hd]) (by simp[hm])
   rw[Nat.mul_comm,Nat.div_add_mod]at this
   rw[this]
   simp[madeCells,List.getElem?_range hi,hm]
  ·have h1:(madeCells z.cells (n*z.cells.size)).toList.length=n*z.cells.size:=by simp[madeCells]
   have h2:((List.replicate n z).flatMap (·.cells.toList)).length=n*z.cells.size:=by simp[List.flatMap_replicate]
   rw[List.getElem?_eq_none (by omega),List.getElem?_eq_none (by omega)]
theorem mi(hH:af M φ H w)(cE: ¬H.us fr){t:TypeId}{l c:V}{lv cv:Value}(hl:V.den (ad M φ H) φ H w l lv)(hc:V.den (ad M φ H) φ H w c cv)
 (h:ef P fr t l c fun v Δ=>K v Δ []):a9 M φ H w fr ((do let y <- Instr.makeSlice t lv cv;pure (Next.value y):Sem Next).run P w) K:=by
 unfold ef at h
 split at h
 ·rename_i e kl n kc m ht
  obtain⟨rfl,h0,db,hb,hn,x,hx,hK⟩:=h
  simp only[V.den,D.den]at hl hc;subst hl;subst hc
  obtain⟨i,z,ev,h1,h2,h3,h4,h5,h6⟩:=rM hH hx
  obtain⟨k,rfl⟩:=Int.eq_ofNat_of_zero_le h0
  simp only[Int.toNat_natCast]at hb hn hK
  rw[iJ h1]at hb
  obtain⟨w',r1,r2,r3⟩:=run_make_full (P:=P) w w.heap.size t e i z (P.cellsOf e) (aD ht) h1 h2 (aS h1).symm kl kc k (by omega) (by simp[maxLen];omega) (Nat.le_refl _)
  refine cU hH cE (fl r3) db hK r1 (by simpa using r2) ⟨List.replicate k ev, ?_, ?_, ?_⟩
  ·rw[aS h1, <- h3,lf]
   simp[List.flatMap_replicate,h5]
  ·intro v hv
   rw[(List.mem_replicate.1 hv).2,h5,h3,aS h1]
  ·clear r1 r2 hK hb hn
   induction k with
   |zero=>rfl
   |succ k ih=>exact⟨ev,List.replicate k ev,rfl,h6,ih (by omega)⟩
 ·exact h.elim
theorem hO(hH:af M φ H w){y:V}{yv:Value}{new:List D}{sz:Nat}(hy:V.den (ad M φ H) φ H w y yv)(h:cp H.o y=some new)(hw:∀z∈new,z.cells.length=sz):
 (yv= .slice none 0 0/\new=[])\/∃a c evs,yv= .slice (some a) new.length c/\D.ak (ad M φ H) w new evs/\(∀ev∈evs,ev.cells.size=sz)/\
  (∀j u,(evs.flatMap (·.cells.toList))[j]? =some u->w.cell? (a.add j)=some u)/\Flat (evs.flatMap (·.cells.toList)):=by
 have wE:∀ {evs:List Value},D.ak (ad M φ H) w new evs->(∀ev∈evs,ev.cells.size=sz)/\Flat (evs.flatMap (·.cells.toList)):=by
  intro evs hd
  have key:∀ev∈evs,ev.cells.size=sz/\Flat ev.cells.toList:=by
   intro ev bT
   obtain⟨i,hi⟩:=List.mem_iff_getElem?.1 bT
   have hl:=D.ah _ _ hd
   have cm:i<new.length:=by rw[<- hl];exact(List.getElem?_eq_some_iff.1 hi).1
   obtain⟨v',l8,xT⟩:=D.b4 _ _ i new[i] hd (by simp[cm])
   rw[hi]at l8;injection l8 with l8;subst l8
   have h1:=D.cy _ _ xT
   have h2:=D.ah _ _ h1.1
   rw[hw _ (List.getElem_mem cm)]at h2
   exact⟨by simpa using h2,h1.2⟩
  refine⟨fun ev bT=>(key ev bT).1,fun u hu=> ?_⟩
  obtain⟨ev,h1,h2⟩:=List.mem_flatMap.1 hu
  exact(key ev h1).2 u h2
 have qP:D.den (ad M φ H) w (.sl new) yv->(yv= .slice none 0 0/\new=[])\/∃a c evs,yv= .slice (some a) new.length c/\D.ak (ad M φ H) w new evs/\(∀ev∈evs,ev.cells.size=sz)/\
  (∀j u,(evs.flatMap (·.cells.toList))[j]? =some u->w.cell? (a.add j)=some u)/\Flat (evs.flatMap (·.cells.toList)):=by
  rintro⟨base,len,cap,rfl,rfl,h2,h3,gL,h4⟩
  cases base with
  |none=>
   left
   have h5:=h3 rfl;subst h5
   have:new=[]:=by simpa using h2
   subst this;exact⟨rfl,rfl⟩
  |some a=>
   right
   obtain⟨h5,h6⟩:=h4 a rfl
   by_cases FQ:cap=0
   ·have:new=[]:=List.eq_nil_of_length_eq_zero (by omega)
    subst this
    exact⟨a,cap,[],rfl,rfl,by simp,by simp,by simp[Flat]⟩
   replace h5:=h5 FQ
   have key:∀ (es:List D) (i:Nat),(∀z∈es,z.cells.length=sz)->D.elems (ad M φ H) w gL a i es->
    ∃evs,D.ak (ad M φ H) w es evs/\∀j u,(evs.flatMap (·.cells.toList))[j]? =some u->w.cell? (a.add (i*sz+j))=some u:=by
    intro es
    induction es with
    |nil=>intro i _ _;exact⟨[],rfl,by simp⟩
    |cons e es ih=>
     intro i hz h
     obtain⟨⟨ev,k1,k2,k3⟩,k4⟩:=h
     obtain⟨evs,g1,g2⟩:=ih (i+1) (fun z LO=>hz z (by simp[LO])) k4
     have k5:ev.cells.size=sz:=by
      have:=D.ah _ _ (D.cy _ _ k3).1
      rw[hz e (by simp)]at this
      simpa using this
     refine⟨ev::evs,⟨ev,evs,rfl,k3,g1⟩,fun j u hj=> ?_⟩
     rw[List.flatMap_cons]at hj
     by_cases cm:j<sz
     ·rw[List.getElem?_append_left (by simp;omega)]at hj
      have:=(k2 j u (by simpa using hj)).1
      rw[add_add a h5]at this
      rwa [<- k1,k5]at this
     ·rw[List.getElem?_append_right (by simp;omega)]at hj
      have:=g2 (j - sz) u (by simpa[k5]using hj)
      rwa [show(i+1)*sz+(j - sz)=i*sz+j by rw[Nat.add_mul];omega]at this
   obtain⟨evs,g1,g2⟩:=key new 0 hw h6
   obtain⟨s1,s2⟩:=wE g1
   exact⟨a,cap,evs,rfl,g1,s1,fun j u hj=>by simpa using g2 j u hj,s2⟩
 unfold cp at h
 split at h
 ·rename_i es hD
  injection h with h;subst h
  cases y with
  |d x=>simp only[cD,Option.some.injEq]at hD;subst hD;exact qP hy
  |cu=>simp only[cD,Option.some.injEq,D.sl.injEq]at hD;subst hD;exact .inl ⟨hy,rfl⟩
  |osl id ep=>
   obtain⟨_,_,ow⟩:=hy
   have aI:=hH.ok id
   simp only[cD]at hD
   cases hx:H.o id with
   |no=>simp[hx]at hD
   |row cs=>simp[hx]at hD
   |map kt vt l=>simp[hx]at hD
   |loop nf n env ps iu fI st rG=>simp[hx]at hD
   |dw l=>simp[hx]at hD
   |kQ l last=>simp[hx]at hD
   |oe s pos=>simp[hx]at hD
   |arr dL ty gL es'=>
    simp only[hx]at hD
    split at hD
    ·rename_i e;subst e
     simp only[Option.some.injEq,D.sl.injEq]at hD;subst hD
     simp only[aw,hx]at aI
     have hv:=(ow ep (by rw[hx];rfl)).2 rfl
     obtain⟨h0,xs,⟨hl,aM⟩,evs,rfl,h2,h3⟩:=aI
     obtain⟨s1,s2⟩:=wE h3
     rw[hv]
     rcases aM with⟨h4,h5⟩|⟨g,cap,cur,h4,_,h5,h6,h7,h8,h9⟩
     ·exact .inl ⟨h4,by simpa using h5⟩
     ·right
      refine⟨_,cap,evs,h4,h3,s1,fun j u hj=> ?_,s2⟩
      refine iL h5 j u ?_
      rw[<- h9,List.getElem?_take]at hj
      split at hj
      ·simpa using hj
      ·cases hj
    ·cases hD
   |kf dL es'=>
    simp only[hx]at hD
    split at hD
    ·rename_i e;subst e
     simp only[Option.some.injEq,D.sl.injEq]at hD;subst hD
     simp only[aw,hx]at aI
     have hv:=(ow ep (by rw[hx];rfl)).2 rfl
     rw[hv]at qP|-
     exact qP aI
    ·cases hD
  |agg cs=>simp[cD]at hD
  |iface t x=>simp[cD]at hD
  |ir es'=>simp only[cD,Option.some.injEq,D.sl.injEq]at hD;subst hD;exact qP hy.1
  |mp id=>simp only[cD]at hD;split at hD<;>simp at hD
  |_=>simp[cD]at hD
 ·cases h
theorem s6(hH:af M φ H w){id ep:Nat}(cl:H.us id){ty:TypeId}{sz:Nat}{es es':List D}(ho:H.o id= .arr ep ty sz es){val:Value}{Gp:List Value}{m:Nat->Prop}(hk:cw m w w')
 (hm:∀b,m b->cF (φ id)=some b) (dO:∀b,cF val=some b->cF (φ id)=some b\/w.heap.size<=b) (cA:w'.ownsRow 0 ty sz val es'.length Gp) (hd:dx (ad M φ H) w sz es' Gp):
 let aj:=cK φ id val;let H':=H.put [(id, .arr (ep+1) ty sz es')]
 af M aj H' w'/\Trans φ H w aj H' w'/\V.den (ad M aj H') aj H' w' (.osl id (ep+1)) val:=by
 intro aj H'
 have hl:(H.o id).live=true:=by rw[ho];rfl
 have ht:Trans φ H w aj H' w':={
  aW:=⟨hk.os,hk.tape,hk.output,hk.size,fun k h uY=>hk.block k h (fun e=>uY ⟨id,hl,hm k e⟩)⟩
  grow:=by
   rintro b ⟨j,h1,h2⟩
   by_cases hj:j=id
   ·subst hj
    simp only[aj,ao,if_true]at h2
    rcases dO b h2 with h3|h3
    ·exact .inl ⟨j,hl,h3⟩
    ·exact .inr h3
   ·simp[H',aj,hj]at h1 h2;exact .inl ⟨j,h1,h2⟩
  rel:={
   us:=fun j h=>by simp[H',h]
   row:=fun j hu hr=>by
    by_cases hj:j=id
    ·subst hj;simp[H',ab.aN]at hr
    ·simp[H',aj,hj]at hr|-;exact hr
   ep:=fun j e' hu he=>by
    by_cases hj:j=id
    ·subst hj;simp[H',ab.aO]at he;subst he;exact⟨ep,by rw[ho];rfl,Nat.le_succ _,fun h=>by omega⟩
    ·simp[H',aj,hj]at he|-;exact⟨e',he,Nat.le_refl _⟩}}
 have h0:=hH.ok id
 simp only[aw,ho]at h0
 refine⟨hH.of ht (· =id) (fun j h=> ?_) (fun j h=> ?_) (fun j h=> ?_) (fun i j b hi hj bi bj=> ?_) (fun b=> ?_),ht, ?_,by simp[H'],fun e he=> ?_⟩
 ·subst h
  unfold aw
  simp only[H',aE,ao,if_true]
  exact⟨h0.1,Gp,by simpa[aj]using cA,hd.mono (ht.blocks (M:=M))⟩
 ·refine⟨by simp[H',h],by simp[aj,h],fun JC b hb=>hk.block b (hH.ours b ⟨j,JC,hb⟩).2 fun e=>h ?_⟩
  exact hH.apart j id b JC hl hb (hm b e)
 ·rw[bX]at h
  have h1:j≠id:=fun e=>h (.inr e)
  simp only[H',aE,ao,h1,if_false]
  exact hH.fresh j fun hu=>h (.inl hu)
 ·by_cases e1:i=id<;>by_cases e2:j=id
  ·exact e1.trans e2.symm
  ·subst e1
   simp[H',aj,e2]at hj bj bi
   rcases dO b bi with h3|h3
   ·exact hH.apart i j b hl hj h3 bj
   ·have:=(hH.ours b ⟨j,hj,bj⟩).2;omega
  ·subst e2
   simp[H',aj,e1]at hi bi bj
   rcases dO b bj with h3|h3
   ·exact hH.apart i j b hi hl bi h3
   ·have:=(hH.ours b ⟨i,hi,bi⟩).2;omega
  ·simp[H',aj,e1,e2]at hi hj bi bj
   exact hH.apart i j b hi hj bi bj
 ·rintro⟨j,h1,h2⟩
  by_cases hj:j=id
  ·subst hj;simp only[aj,ao,if_true]at h2;exact(eG cA b h2).2
  ·simp[H',aj,hj]at h1 h2
   exact Nat.lt_of_lt_of_le (hH.ours b ⟨j,h1,h2⟩).2 hk.size
 ·rcases cA.2 with⟨rfl,_⟩|⟨g,cap,cur,rfl,_⟩<;>rfl
 ·simp[H',ab.aO]at he
  subst he
  exact⟨Nat.le_refl _,fun _=>by simp[aj]⟩
theorem dx.append {B:Nat->Prop}{sz:Nat}{es new:List D}{xs:List Value}{evs:List Value}(h:dx B w sz es xs)(h1:D.ak B w new evs)(h2:∀ev∈evs,ev.cells.size=sz):
 dx B w sz (es++new) (xs++evs.flatMap (·.cells.toList)):=by
 obtain⟨Gq,rfl,h3,h4⟩:=h
 refine⟨Gq++evs,by simp,fun ev bT=> ?_,D.az _ _ _ _ h4 h1⟩
 rcases List.mem_append.1 bT with h|h
 ·exact h3 ev h
 ·exact h2 ev h
theorem bn{sz:Nat}:∀ (evs:List Value),(∀ev∈evs,ev.cells.size=sz)->(evs.flatMap (·.cells.toList)).length=evs.length*sz
 |[],_=>by simp
 |x::l,hx=>by
  have:=bn l fun v hv=>hx v (by simp[hv])
  simp[this,hx x (by simp),Nat.add_mul,Nat.add_comm]
theorem pW(hH:af M φ H w)(cE: ¬H.us fr){ts:Array TypeId}{ty0:TypeId}{x y:V}{xv yv:Value}(hx:V.den (ad M φ H) φ H w x xv)(hy:V.den (ad M φ H) φ H w y yv)
 (h:iA P H.o fr ts x y K):a9 M φ H w fr ((do let z <- Builtin.append_ ts ty0 #[xv,yv];pure (Next.value z):Sem Next).run P w) K:=by
 unfold iA at h
 split at h
 ·rename_i t t' pX
  obtain⟨rfl,h⟩:=h
  have pX:ts=#[t,t]:=by apply Array.ext';simpa using pX
  subst pX
  split at h
  ·rename_i e ht
   obtain⟨new,Gr,db,hz,hw,h⟩:=h
   obtain⟨zz,hz⟩:=Option.isSome_iff_exists.1 hz
   obtain⟨i,z,g1,g2,g3,g4,_⟩:=ei hz
   have hi:=aS g1
   have AB:=iJ g1
   have qQ:=hO hH hy Gr hw
   split at h
   ·obtain⟨h1,h2,hK⟩:=h
    simp only[V.den]at hx;subst hx
    rcases qQ with⟨rfl,rfl⟩|⟨a,c,evs,rfl,k1,k2,k3,k4⟩
    ·refine cU hH cE (cw.refl _ _) db hK (run_append_owned_none (P:=P) w 0 t ty0 e i i.size (aD ht) g1 _ 0 [] (World.ownsRow_nil w 0 e i.size)) ?_ ⟨[],rfl,by simp,rfl⟩
     exact World.ownsRow_nil w _ e _
    ·obtain⟨v',w',r1,r2,r3,_⟩:=run_append_own (P:=P) w w.heap.size t ty0 e i z (P.cellsOf e) (P.bytesOf e) (aD ht) g1 g2 hi.symm AB.symm (by rw[g3,hi]) db _ 0 [] (World.ownsRow_nil w _ e _) a new.length c
      (evs.flatMap fun v:Value=>v.cells.toList) (by rw[bn evs k2,D.ah _ _ k1]) k3 (fun u hu=>k4 u hu) (by simp[maxLen];omega) (by simpa using h2) (Nat.le_refl _)
     refine cU hH cE (fl r3) db hK r1 (by simpa using r2) ⟨evs,rfl,k2,k1⟩
   ·rename_i es
    obtain⟨LP,h⟩:=h
    have wF:=hO (sz:=P.cellsOf e) hH (y:= .d (.sl es)) (new:=es) (show V.den (ad M φ H) φ H w (.d (.sl es)) xv from hx.1) (by simp[cp,cD]) LP
    obtain⟨b,n,Gs⟩:=hx.2
    subst Gs
    split at h
    ·rename_i hn;subst hn
     have Gl:(sizeOf e).run P w= .ok i.size w:=by rw[b5 g1,hi]
     have hr:(Builtin.append_ #[t,t] ty0 #[.slice b n n,yv]).run P w= .ok (.slice b n n) w:=by
      rcases qQ with⟨rfl,_⟩|⟨a,c,evs,rfl,_⟩
      ·cases b<;>simp[Builtin.append_,run_underlying (aD ht),Gl,Builtin.lenOf,Builtin.firstCells,storeCells]
      ·cases b<;>simp[Builtin.append_,run_underlying (aD ht),Gl,Builtin.lenOf,Builtin.firstCells,storeCells,loadCells,loadCellsFrom]
     exact a9.same hH _ h (by simp only[Sem.run_bind,hr,Result.andThen_ok];rfl) hx
    ·rename_i iO
     obtain⟨h1,h2,hK⟩:=h
     rcases qQ with⟨rfl,rfl⟩|⟨a,c,evs,rfl,k1,k2,k3,k4⟩
     ·exact absurd rfl iO
     ·have hlen:(evs.flatMap (·.cells.toList)).length=new.length*P.cellsOf e:=by rw[bn evs k2,D.ah _ _ k1]
      rcases wF with⟨e1,rfl⟩|⟨a',c',s7,e1,q1,q2,q3,q4⟩
      ·injection e1 with e1 e2 e3
       subst e1;subst e2
       obtain⟨v',w',r1,r2,r3,_⟩:=run_append_own (P:=P) w w.heap.size t ty0 e i z (P.cellsOf e) (P.bytesOf e) (aD ht) g1 g2 hi.symm AB.symm (by rw[g3,hi]) db _ 0 [] (World.ownsRow_nil w _ e _) a new.length c
        (evs.flatMap fun v:Value=>v.cells.toList) (by rw[bn evs k2,D.ah _ _ k1]) k3 (fun u hu=>k4 u hu) (by simp[maxLen];simp at h1;omega) (by simp at h2|-;omega) (Nat.le_refl _)
       refine cU hH cE (fl r3) db hK r1 (by simpa using r2) ⟨evs,rfl,k2,k1⟩
      ·injection e1 with e1 e2 e3
       subst e1;subst e2
       have mB:(s7.flatMap (·.cells.toList)).length=es.length*P.cellsOf e:=by rw[bn s7 q2,D.ah _ _ q1]
       have JD:0<new.length:=by cases new with|nil=>exact absurd rfl iO|cons _ _=>simp
       have s8:es.length+new.length<=maxLen:=by simp[maxLen];omega
       have hr:=run_append_grow (P:=P) w t ty0 e i z (aD ht) g1 g2 a' es.length es.length _ (by rw[mB,hi]) q3 a new.length c _ (by rw[hlen,hi]) k3 (by omega) (by omega)
        (growslice_fits (by omega) (by rw[<- AB];omega))
       refine cU (xs:=s7.flatMap (·.cells.toList)++evs.flatMap (·.cells.toList)) hH cE ?_ db hK hr ?_ ⟨s7++evs,by simp,fun ev bT=> ?_,D.az _ _ _ _ q1 k1⟩
       ·exact⟨rfl,rfl,rfl,by simp,fun k hk _=>RowKit.Below.heap_alloc w.drew _ k hk⟩
       ·have s9:=grownCap_ge w (es.length+new.length) es.length e
        refine⟨by rw[List.length_append,mB,hlen,List.length_append,Nat.add_mul], .inr ⟨w.heap.size,_,_,by rw[List.length_append],Nat.le_refl _,heap_alloc_new w.drew _,by rw[List.length_append];exact s9,
         grownCap_le_maxLen w _ _ e s8, ?_, ?_⟩⟩
        ·simp only[Array.size_append,List.size_toArray,size_zeroCells,g3,mB,hlen,hi, <- Nat.add_mul]
         congr 1
         omega
        ·have:(s7.flatMap (·.cells.toList)++evs.flatMap (·.cells.toList)).length=(es++new).length*P.cellsOf e:=by rw[List.length_append,mB,hlen,List.length_append,Nat.add_mul]
         simp only[Array.toList_append]
         rw[<- this]
         exact List.take_left
       ·rcases List.mem_append.1 bT with bT|bT
        ·exact q2 ev bT
        ·exact k2 ev bT
   ·rename_i id ep
    split at h
    ·rename_i dL ty sz es ho
     obtain⟨rfl,rfl,rfl,h1,h2,hK⟩:=h
     obtain⟨_,cl,ow⟩:=hx
     have hv:=(ow ep (by rw[ho];rfl)).2 rfl
     subst hv
     have aI:=hH.ok id
     simp only[aw,ho]at aI
     obtain⟨_,xs,cA,gM⟩:=aI
     have done:∀ {val:Value} {w':World} {m:Nat->Prop} {evs:List Value},(Builtin.append_ #[t,t] ty0 #[φ id,yv]).run P w= .ok val w'->cw m w w'->(∀b,m b->cF (φ id)=some b)->
      (∀b,cF val=some b->cF (φ id)=some b\/w.heap.size<=b)->w'.ownsRow 0 ty (P.cellsOf ty) val (es++new).length (xs++evs.flatMap (·.cells.toList))->D.ak (ad M φ H) w new evs->
      (∀ev∈evs,ev.cells.size=P.cellsOf ty)->a9 M φ H w fr ((do let z <- Builtin.append_ #[t,t] ty0 #[φ id,yv];pure (Next.value z):Sem Next).run P w) K:=by
      intro val w' m evs r1 r2 r3 r4 r5 r6 r7
      obtain⟨s1,s2,s3⟩:=s6 hH cl ho r2 r3 r4 r5 (gM.append r6 r7)
      exact⟨_,_,_,_,_,_,_,hK,by simp only[Sem.run_bind,r1,Result.andThen_ok];rfl, .inl rfl,s1,s2,s3,by simp[cl]⟩
     rcases qQ with⟨rfl,rfl⟩|⟨a,c,evs,rfl,k1,k2,k3,k4⟩
     ·refine done (evs:=[]) (run_append_owned_none (P:=P) w 0 t ty0 ty i (P.cellsOf ty) (aD ht) g1 _ _ xs cA) (cw.refl (fun _=>False) _) (fun _ h=>h.elim) (fun b hb=> .inl hb) (by simpa using cA) rfl (by simp)
     ·have hlen:(evs.flatMap (·.cells.toList)).length=new.length*P.cellsOf ty:=by rw[bn evs k2,D.ah _ _ k1]
      have s8:es.length+new.length<=maxLen:=by simp[maxLen];omega
      rcases cA.2 with⟨h3,h4⟩|⟨g,cap,cur,h3,h4,h5,h6,h7,h8,h9⟩
      ·have AD:w.ownsRow w.heap.size ty (P.cellsOf ty) (φ id) es.length xs:=⟨cA.1, .inl ⟨h3,h4⟩⟩
       obtain⟨v',w',r1,r2,r3,_⟩:=run_append_own (P:=P) w w.heap.size t ty0 ty i z (P.cellsOf ty) (P.bytesOf ty) (aD ht) g1 g2 hi.symm AB.symm (by rw[g3,hi]) db _ _ xs AD a new.length c
        (evs.flatMap fun v:Value=>v.cells.toList) hlen k3 (fun u hu=>k4 u hu) s8 h2 (Nat.le_refl _)
       refine done r1 (fl (by rw[h3]at r3;exact r3)) (fun _ h=>h.elim) (fun b hb=> .inr (eG r2 b hb).1) (by simpa using iN r2) k1 k2
      ·by_cases wG:es.length+new.length<=cap
       ·rw[h3]at cA
        obtain⟨w',r1,r2,r3⟩:=run_append_fits (P:=P) w 0 t ty0 ty i (P.cellsOf ty) (aD ht) g1 hi.symm g es.length cap xs cA a new.length c (evs.flatMap fun v:Value=>v.cells.toList) hlen k3 (fun u hu=>k4 u hu) wG
        rw[<- h3]at r1
        exact done (m:=(· =g)) r1 ⟨r3.os,r3.tape,r3.output,r3.size,fun k hk iO=>r3.block k hk (by simpa using iO)⟩ (fun b hb=>by subst hb;rw[h3];rfl) (fun b hb=> .inl (by rw[h3];exact hb)) (by simpa using r2) k1 k2
       ·have holds:∀j u,xs[j]? =some u->w.cell? ((⟨g,0,none⟩:Addr).add j)=some u:=cA.cells (g:=g) (by rw[h3];rfl)
        have hr:=run_append_grow (P:=P) w t ty0 ty i z (aD ht) g1 g2 ⟨g,0,none⟩ es.length cap xs (by rw[cA.1,hi]) holds a new.length c _ (by rw[hlen,hi]) k3 (by omega) (by simp[maxLen]at s8;omega)
         (growslice_fits (by omega) (by rw[<- AB];omega))
        rw[<- h3]at hr
        refine done (m:=fun _=>False) hr ⟨rfl,rfl,rfl,by simp,fun k hk _=>RowKit.Below.heap_alloc w.drew _ k hk⟩ (fun _ h=>h.elim) (fun b hb=> .inr (by simp[cF]at hb;omega)) ?_ k1 k2
        have s9:=grownCap_ge w (es.length+new.length) cap ty
        refine⟨by rw[List.length_append,cA.1,hlen,List.length_append,Nat.add_mul], .inr ⟨w.heap.size,_,_,by rw[List.length_append],Nat.zero_le _,heap_alloc_new w.drew _,by rw[List.length_append];exact s9,
         grownCap_le_maxLen w _ cap ty s8, ?_, ?_⟩⟩
        ·simp only[Array.size_append,List.size_toArray,size_zeroCells,g3,cA.1,hlen,hi, <- Nat.add_mul]
         congr 1
         omega
        ·have:(xs++evs.flatMap (·.cells.toList)).length=(es++new).length*P.cellsOf ty:=by rw[List.length_append,cA.1,hlen,List.length_append,Nat.add_mul]
         simp only[Array.toList_append,List.append_assoc]
         rw[<- List.append_assoc, <- this]
         exact List.take_left
    ·exact h.elim
   ·exact h.elim
  ·exact h.elim
 ·exact h.elim
end
end Go.Proofs.YtpkobkdgcanmjaaGreat
namespace Go.Proofs.YtpkobkdgcanmjaaGreat
section
variable {P:Program}{M:Nat->Prop}{φ:Place}{H:Hp}{w w':World}{fr:Nat}{K:V->List (Nat×ab)->List Nat->Prop}
theorem jS{t:TypeId}{b off:Nat}{ty:TypeId}{cur:Array Value}(hb:w.heap[b]? =some (.cells cur ty (0,0)))(v:Value)(hs:v.cells.size=P.cellsOf t)(db:0<v.cells.size\/(P.info? t).isSome=true)
 (hle:off+v.cells.size<=cur.size) (hf:Flat v.cells.toList):
 (Instr.storeAt t (.pointer (some ⟨b,off,none⟩)) v).run P w= .ok () (w.setRow b (cur.toList.take off++v.cells.toList++cur.toList.drop (off+v.cells.size)).toArray):=by
 obtain⟨i,hi⟩:∃i,P.info? t=some i:=by
  rcases db with db|db
  ·exact ej (P:=P) (e:=t) (by omega)
  ·exact Option.isSome_iff_exists.1 db
 have:=run_storeCells_at (P:=P) b off ty v.cells.toList 0 cur w hb (by simpa using hle) (fun u hu=>hf u hu)
 simp only[Nat.add_zero,Array.length_toList]at this
 simp[Instr.storeAt,Instr.sureAddr,storeVar,b5 hi,hs,this]
theorem oF{sz:Nat}:∀ (evs:List Value) (i off:Nat) (ev rN:Value) (us:List Value),(∀x∈evs,x.cells.size=sz)->evs[i]? =some ev->off+us.length<=sz->
 rN.cells.toList=ev.cells.toList.take off++us++ev.cells.toList.drop (off+us.length)->
 (evs.set i rN).flatMap (·.cells.toList)=(evs.flatMap (·.cells.toList)).take (i*sz+off)++us++(evs.flatMap (·.cells.toList)).drop (i*sz+off+us.length)
 |[],_,_,_,_,_,_,h,_,_=>by simp at h
 |x::evs,0,off,ev,rN,us,hs,h,hle,he=>by
  simp at h;subst h
  have hx:x.cells.toList.length=sz:=by simpa using hs x (by simp)
  simp only[List.set_cons_zero,List.flatMap_cons,Nat.zero_mul,Nat.zero_add,he]
  rw[List.take_append_of_le_length (by omega),List.drop_append_of_le_length (by omega)]
  simp[List.append_assoc]
 |x::evs,i+1,off,ev,rN,us,hs,h,hle,he=>by
  have hx:x.cells.toList.length=sz:=by simpa using hs x (by simp)
  have ih:=oF evs i off ev rN us (fun y hy=>hs y (by simp[hy])) (by simpa using h) hle he
  simp only[List.set_cons_succ,List.flatMap_cons,ih]
  rw[show(i+1)*sz+off=x.cells.toList.length+(i*sz+off) by rw[Nat.add_mul,hx];omega,List.take_length_add_append,
   show x.cells.toList.length+(i*sz+off)+us.length=x.cells.toList.length+(i*sz+off+us.length) by omega,List.drop_length_add_append]
  simp[List.append_assoc]
theorem oG{α:Type}(l v:List α)(k m n:Nat)(hn:n=v.length)(h:k+n<=m)(hm:m<=l.length):(l.take k++v++l.drop (k+n)).take m=(l.take m).take k++v++(l.take m).drop (k+n):=by
 subst hn
 apply List.ext_getElem?
 intro i
 simp only[List.getElem?_append,List.getElem?_take,List.getElem?_drop,List.length_append,List.length_take]
 repeat' split
 all_goals first
  |rfl
  |omega
  |(congr 1;omega)
  |(symm;apply List.getElem?_eq_none;omega)
  |(apply List.getElem?_eq_none;omega)
  |skip
theorem ta{B:Nat->Prop}{e e':D}{off:Nat}{ds:List D}(h:e.put off ds=some e'){ev:Value}(he:D.den B w e ev){us:List Value}(hu:D.ak B w ds us)(hf:Flat us):
 ∃rN,D.den B w e' rN/\rN.cells.toList=ev.cells.toList.take off++us++ev.cells.toList.drop (off+us.length)/\off+us.length<=ev.cells.size:=by
 have hl:=D.ah _ _ hu
 rcases D.gE _ _ he with⟨cs,a,rfl,rfl⟩|⟨h1,h2,h3⟩
 ·obtain⟨a',ha,h4,h5⟩:=he
  injection ha with ha;subst ha
  have LQ:=D.ah _ _ h4
  simp only[Array.length_toList]at LQ
  simp only[D.put]at h
  split at h
  ·rename_i hle
   injection h with h;subst h
   refine⟨.agg (a.toList.take off++us++a.toList.drop (off+us.length)).toArray,⟨_,rfl, ?_, ?_⟩,by simp[Value.cells],by simp[Value.cells];omega⟩
   ·simp only
    rw[hl]
    exact D.az _ _ _ _ (D.az _ _ _ _ (D.bP _ _ _ h4) hu) (D.b9 _ _ _ h4)
   ·intro x hx
    simp only[List.mem_append]at hx
    rcases hx with(hx|hx)|hx
    ·exact h5 x (List.mem_of_mem_take hx)
    ·exact hf x hx
    ·exact h5 x (List.mem_of_mem_drop hx)
  ·cases h
 ·have ft:off=0/\∃u,ds=[u]/\e'=u:=by
   cases e<;>simp only[D.put]at h<;>first
    |(split at h
      ·rename_i u;injection h with h;exact⟨rfl,u,rfl,h.symm⟩
      ·cases h)
    |(simp[D.cells]at h2;done)
    |skip
   obtain⟨a,rfl,_⟩:=he
   simp[Value.oneCell']at h1
  obtain⟨rfl,u,rfl,rfl⟩:=ft
  obtain⟨x,xs,rfl,h4,h5⟩:=hu
  simp only[D.ak]at h5;subst h5
  have hx:x.cells=#[x]:=by have:=hf x (by simp);cases x<;>simp_all[Value.oneCell',Value.cells]
  exact⟨x,h4,by simp[hx,h3],by simp[h3]⟩
theorem rO(hH:af M φ H w){t:TypeId}{x v:V}{xv vv:Value}(hx:V.den (ad M φ H) φ H w x xv)(hv:V.den (ad M φ H) φ H w v vv)
 (h:kU P H.o t x v fun Δ rd=>K (.a8 []) Δ rd):a9 M φ H w fr ((do Instr.storeAt t xv vv;pure Next.skip:Sem Next).run P w) K:=by
 unfold kU at h
 split at h
 ·rename_i id off
  split at h
  ·rename_i cs ho
   obtain⟨cs',h1,hK⟩:=h
   obtain⟨_,cl,hp⟩:=hx
   obtain⟨b,bJ,rfl⟩:=hp (by rw[ho];rfl)
   have aI:=hH.ok id
   simp only[aw,ho]at aI
   obtain⟨b',cd,ty,g1,g2,g3,g4⟩:=aI
   rw[bJ]at g1;simp at g1;subst g1
   unfold nj at h1
   split at h1
   ·rename_i us hc
    split at h1
    ·rename_i hle
     injection h1 with h1;subst h1
     obtain⟨k1,k2⟩:=V.gE _ _ _ hc hv
     have l1:=V.ah _ _ k1
     have l2:=V.ah _ _ g3
     simp only[Array.length_toList]at l1 l2
     have hr:=jS (P:=P) (t:=t) (off:=off) g2 vv (by omega) (hle.2.1.imp (fun h=>by omega) (fun h=>h)) (by omega) k2
     obtain⟨t1,t2⟩:=ox (cs':=cs.take off++us++cs.drop (off+us.length)) hH cl ho bJ g2 (cd.toList.take off++vv.cells.toList++cd.toList.drop (off+vv.cells.size)).toArray (by
      simp only
      rw[l1]
      exact V.az _ _ _ _ (V.az _ _ _ _ (V.bP _ _ _ g3) k1) (V.b9 _ _ _ g3)) (by
      intro u hu
      simp only[List.mem_append]at hu
      rcases hu with(hu|hu)|hu
      ·exact g4 u (List.mem_of_mem_take hu)
      ·exact k2 u hu
      ·exact g4 u (List.mem_of_mem_drop hu))
     exact⟨_,_,_,_,_,_,_,hK,by simp only[Sem.run_bind,hr,Result.andThen_ok];rfl, .inr ⟨rfl,rfl⟩,t1,t2,⟨#[],rfl,rfl⟩,by simp[cl]⟩
    ·cases h1
   ·cases h1
  ·exact h.elim
 ·rename_i id ep i gL off
  split at h
  ·rename_i dL ty sz es ho
   obtain⟨rfl,rfl,e,he,y,hy,Nc,hyp,iO,e',ft,hK⟩:=h
   obtain⟨_,cl,hp⟩:=hx
   obtain⟨b,n,c,bJ,rfl⟩:=(hp ep (by rw[ho];rfl)).2 rfl
   obtain⟨f1,f2,f3,f4,f5⟩:=bN hH v.ids (bS v _ hv)
   have fN:id∉v.ids:=fun hm=>by have:=List.all_eq_true.1 iO id hm;simp at this
   have iP:=(f4 id fN).trans ho
   have Gt:=dh f1 v y vv f3 hy (V.au f2 _ _ hv)
   obtain⟨k1,k2⟩:=D.cy _ _ Gt
   have l1:=D.ah _ _ k1
   simp only[Array.length_toList]at l1
   have aI:=f1.ok id
   simp only[aw,iP]at aI
   obtain⟨h0,xs,⟨hl,aM⟩,evs,rfl,h2,h3⟩:=aI
   rcases aM with⟨h4,h5⟩|⟨g,cap,cur,h4,h5,h6,h7,h8,h9,wD⟩
   ·rw[bJ]at h4;simp at h4
   ·rw[bJ]at h4;simp at h4
    obtain⟨rfl,rfl,rfl⟩:=h4
    obtain⟨ev,bT,LR⟩:=D.b4 _ _ _ _ h3 he
    obtain⟨rN,p1,p2,p3⟩:=ta ft LR k1 k2
    simp only[Array.length_toList]at p2 p3
    have LS:=h2 ev (List.mem_of_getElem? bT)
    have Gu:i<es.length:=(List.getElem?_eq_some_iff.1 he).1
    have wH:i*gL+gL<=es.length*gL:=by
     rw[<- Nat.succ_mul];exact Nat.mul_le_mul_right _ Gu
    have Gv:es.length*gL<=cur.size:=by rw[h9];exact Nat.mul_le_mul_right _ h7
    have hr:=jS (P:=P) (t:=t) (off:=i*gL+off) h6 vv (by omega) (.inl (by omega)) (by omega) k2
    have vh:=oF evs i off ev rN vv.cells.toList h2 bT (by simpa using(by omega:off+vv.cells.size<=gL)) (by simpa using p2)
    simp only[Array.length_toList]at vh
    have bR:((H.put (bH H.o v.ids)).o id).live=true:=by rw[iP];rfl
    have og:cF (φ id)=some b:=by rw[bJ];rfl
    have AE:=(f5 id).2 cl
    have ht:=cQ (w:=w) (w':=w.setRow b (cur.toList.take (i*gL+off)++vv.cells.toList++cur.toList.drop (i*gL+off+vv.cells.size)).toArray) AE bR og (eD w b _) (.arr ep ty gL (es.set i e')) (by rw[iP];rfl) (by rw[iP];rfl)
    have hh:=dY f1 AE bR og (eD w b (cur.toList.take (i*gL+off)++vv.cells.toList++cur.toList.drop (i*gL+off+vv.cells.size)).toArray) (.arr ep ty gL (es.set i e')) (by rw[iP];rfl) (by rw[iP];rfl) (by
     unfold aw
     simp only[aE,ao,if_true]
     refine⟨h0,(evs.set i rN).flatMap (·.cells.toList),⟨?_, .inr ⟨b,c,_,by rw[List.length_set];exact bJ,Nat.zero_le _,setRow_heap w b cur _ ty (0,0) h6,by rw[List.length_set];exact h7,h8, ?_, ?_⟩⟩,evs.set i rN,rfl, ?_, ?_⟩
     ·rw[vh,List.length_set]
      simp only[List.length_append,List.length_take,List.length_drop,Array.length_toList,hl]
      omega
     ·simp only[List.size_toArray,List.length_append,List.length_take,List.length_drop,Array.length_toList]
      omega
     ·rw[vh,List.length_set, <- wD]
      exact oG cur.toList vv.cells.toList _ _ _ (by simp) (by omega) (by simpa using Gv)
     ·intro x hx
      rcases List.mem_or_eq_of_mem_set hx with hx|rfl
      ·exact h2 x hx
      ·have:=congrArg List.length p2
       simp only[Array.length_toList,List.length_append,List.length_take,List.length_drop]at this
       omega
     ·exact D.ax (ht.blocks (M:=M)) _ _ (D.ou i es evs e' rN h3 p1))
    rw[<- bW]at hh ht
    refine⟨_,_,_,_,_,_,_,hK,by simp only[Sem.run_bind,hr,Result.andThen_ok];rfl, .inr ⟨rfl,rfl⟩,hh,f2.trans ht,⟨#[],rfl,rfl⟩,fun j hj=> ?_⟩
    simp only[List.map_append,List.mem_append,List.map_cons,List.map_nil,List.mem_singleton]at hj
    rcases hj with hj|hj
    ·left
     refine bS v _ hv j ?_
     rw[fm]at hj
     simpa[Function.comp_def]using hj
    ·exact .inl (hj ▸ cl)
  ·exact h.elim
 ·exact h.elim
end
end Go.Proofs.YtpkobkdgcanmjaaGreat
