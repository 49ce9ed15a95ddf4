/-
  A PART OF THE PROOF. Conditions: none.
-/
import Derived.Great.BuildSlice
import Derived.Great.FillDense
import Derived.Test.YtpkobkdgcanmjaaGreatLo1
set_option linter.unusedSimpArgs false
set_option linter.unusedVariables false
namespace Go.Proofs.YtpkobkdgcanmjaaGreat
def bV(M:Nat->Prop)(φ:Place)(H:Hp)(w:World)(fr:Nat)(r:Result Next)(K:V->List (Nat×aa)->List Nat->Prop):Prop:=
 ∃nx val w' aj v Δ rd,K v Δ rd/\r= .ok nx w'/\(nx= .value val\/nx= .skip/\val=undef)/\ai M aj (H.put Δ) w'/\Trans φ H w aj (H.put Δ) w'/\
  V.den (ad M aj (H.put Δ)) aj (H.put Δ) w' v val/\(∀id∈Δ.map (·.1),H.us id\/id=fr)
section
variable {P:Program}{M:Nat->Prop}{φ:Place}{H:Hp}{w:World}{fr:Nat}{K:V->List (Nat×aa)->List Nat->Prop}
theorem bV.same (hH:ai M φ H w){r:Result Next}{v:V}{rd:List Nat}(val:Value)(hK:K v [] rd)(hr:r= .ok (.value val) w)(hd:V.den (ad M φ H) φ H w v val):bV M φ H w fr r K:=
 ⟨_,val,w,φ,v,[],rd,hK,hr, .inl rfl,by rw[jX];exact hH,by rw[jX];exact Trans.refl _ _ _,by rw[jX];exact hd,by simp⟩
theorem bV.mono {r:Result Next}{K':V->List (Nat×aa)->List Nat->Prop}(h:bV M φ H w fr r K)(hk:∀v Δ rd,K v Δ rd->K' v Δ rd):bV M φ H w fr r K':=by
 obtain⟨nx,val,w',aj,v,Δ,rd,h1,h2⟩:=h
 exact⟨nx,val,w',aj,v,Δ,rd,hk _ _ _ h1,h2⟩
theorem info_of_underlying{t:TypeId}{d:TypeDesc}(h:P.underlying t=some d):∃i,P.info? t=some i:=by
 unfold Program.underlying at h
 cases hi:P.info? t with
 |none=>simp[hi]at h
 |some i=>exact⟨i,rfl⟩
theorem bG{t:TypeId}{i:TypeInfo}(h:P.info? t=some i):P.cellsOf t=i.size:=by simp[Program.cellsOf,h]
theorem lE{t:TypeId}{i:TypeInfo}(h:P.info? t=some i):P.bytesOf t=i.bytes:=by simp[Program.bytesOf,h]
theorem fV{t:TypeId}{z:List V}(h:aL P t=some z):∃i v,P.info? t=some i/\i.zero=some v/\v.cells.size=i.size/\Flat v.cells.toList/\z=v.cells.toList.map V.cE:=by
 unfold aL at h
 cases hi:P.info? t with
 |none=>simp[hi]at h
 |some i=>
  simp only[hi]at h
  cases hz:i.zero with
  |none=>simp[hz]at h
  |some v=>
   simp only[hz]at h
   split at h
   ·rename_i hc
    injection h with h
    exact⟨i,v,rfl,hz,hc.1,fun u hu=>List.all_eq_true.1 hc.2 u hu,h.symm⟩
   ·cases h
theorem mG{t:TypeId}(h:bf P t=some true)(w:World):(isAgg t).run P w= .ok true w:=by
 unfold bf at h
 unfold isAgg
 cases hd:P.underlying t with
 |none=>simp[hd]at h
 |some d=>cases d<;>simp_all[run_underlying hd]
theorem kK{t:TypeId}(h:bf P t=some false)(w:World):(isAgg t).run P w= .ok false w:=by
 unfold bf at h
 unfold isAgg
 cases hd:P.underlying t with
 |none=>simp[hd]at h
 |some d=>cases d<;>simp_all[run_underlying hd]
theorem df{t:TypeId}{i:TypeInfo}(h:P.info? t=some i)(w:World):(sizeOf t).run P w= .ok (P.cellsOf t) w:=by
 simp[sizeOf,typeInfo,h,bG h]
theorem mH{t:TypeId}{b:Bool}(h:bf P t=some b):∃i,P.info? t=some i:=by
 unfold bf at h
 cases hd:P.underlying t with
 |none=>simp[hd]at h
 |some d=>exact info_of_underlying hd
theorem aX{t e:TypeId}(h:aE P t=some e):P.underlying t=some (.slice e):=by
 unfold aE at h
 cases hd:P.underlying t with
 |none=>simp[hd]at h
 |some d=>cases d<;>simp_all
theorem p8{t e:TypeId}{n:Nat}(h:bz P t=some (n,e)):P.underlying t=some (.array n e):=by
 unfold bz at h
 cases hd:P.underlying t with
 |none=>simp[hd]at h
 |some d=>cases d<;>simp_all
theorem add_zero(a:Addr):a.add 0=a:=by simp[Addr.add]
theorem add_plain(b o j:Nat):(⟨b,o,none⟩:Addr).add j=⟨b,o+j,none⟩:=by
 unfold Addr.add;split
 ·rename_i h;subst h;rfl
 ·rfl
theorem add_add(a:Addr)(h:a.spot=none)(m n:Nat):(a.add m).add n=a.add (m+n):=by
 obtain⟨b,o,s⟩:=a
 simp only at h;subst h
 simp only[add_plain,Nat.add_assoc]
theorem sJ(a:Addr)(h:a.spot=none)(m:Nat):(a.add m).spot=none:=by
 unfold Addr.add;split<;>first|exact h|rfl
theorem jm(s:S)(a:Act)(cN:∀i,V.den (ad M φ H) φ H w (s.env i) (a.tmps.getD i undef))(x:Operand):V.den (ad M φ H) φ H w (s.ev x) (a.eval x):=by
 cases x with
 |tmp t=>exact cN t
 |func f=>exact⟨#[],#[],rfl,rfl,rfl⟩
 |global g=>trivial
 |const v=>
  cases v with
  |agg c=>
   simp only[S.ev,V.ofConst,Act.eval]
   split
   ·rename_i hc
    have hf:Flat c.toList:=fun u hu=>List.all_eq_true.1 hc u hu
    exact g9 _ _ (cR _ hf) hf
   ·trivial
  |tuple _=>trivial
  |_=>simp only[S.ev,V.ofConst,Act.eval];exact iH _ (by rfl)
theorem gx(s:S)(a:Act)(cN:∀i,V.den (ad M φ H) φ H w (s.env i) (a.tmps.getD i undef)):∀ (xs:List Operand),V.aq (ad M φ H) φ H w (xs.map s.ev) (xs.map a.eval)
 |[]=>rfl
 |x::xs=>⟨a.eval x,xs.map a.eval,rfl,jm s a cN x,gx s a cN xs⟩
theorem jn{t:TypeId}(a:Addr)(us:List Value)(hc:∀j u,us[j]? =some u->w.cell? (a.add j)=some u):
 (bf P t=some true->us.length=P.cellsOf t->(Instr.loadAt t (.pointer (some a))).run P w= .ok (.agg us.toArray) w)/\
 (bf P t=some false->∀u,us[0]? =some u->(Instr.loadAt t (.pointer (some a))).run P w= .ok u w):=by
 constructor
 ·intro h hl
  obtain⟨i,hi⟩:=mH h
  have h1:=run_loadCells_list (P:=P) w a us hc
  rw[hl]at h1
  simp[Instr.loadAt,Instr.sureAddr,loadVar,mG h,df hi,h1]
 ·intro h u hu
  have h1:=hc 0 u hu
  rw[add_zero]at h1
  simp[Instr.loadAt,Instr.sureAddr,loadVar,kK h,h1]
theorem lF{t:TypeId}{cs:List V}{off:Nat}{v:V}(hg:dE P t cs off=some v)(a:Addr)(vs:List Value)(hd:V.aq (ad M φ H) φ H w cs vs)(hf:Flat vs)
 (hc:∀j u,vs[j]? =some u->w.cell? (a.add j)=some u) (ha:a.spot=none):∃val,(Instr.loadAt t (.pointer (some (a.add off)))).run P w= .ok val w/\V.den (ad M φ H) φ H w v val:=by
 have hlen:=V.ao _ _ hd
 unfold dE at hg
 cases uJ:bf P t with
 |none=>simp[uJ]at hg
 |some b=>
  cases b with
  |true=>
   simp only[uJ]at hg
   split at hg
   ·rename_i hle
    injection hg with hg;subst hg
    refine⟨.agg ((vs.drop off).take (P.cellsOf t)).toArray,(jn (P:=P) (t:=t) (a.add off) ((vs.drop off).take (P.cellsOf t)) ?_).1 uJ (by simp;omega), ?_⟩
    ·intro j u hj
     rw[add_add a ha]
     rw[List.getElem?_take]at hj
     split at hj
     ·exact hc _ _ (by simpa using hj)
     ·cases hj
    ·refine g9 _ _ ?_ ?_
     ·exact V.cQ _ _ _ (V.dp _ _ _ hd)
     ·intro u hu
      exact hf u (List.mem_of_mem_drop (List.mem_of_mem_take (by simpa using hu)))
   ·cases hg
  |false=>
   simp only[uJ]at hg
   obtain⟨u,hu,Be⟩:=V.dc _ _ _ _ hd hg
   refine⟨u,(jn (P:=P) (t:=t) (a.add off) (vs.drop off) ?_).2 uJ u (by simpa using hu),Be⟩
   intro j x hj
   rw[add_add a ha]
   exact hc _ _ (by simpa using hj)
theorem jo(sz:Nat):∀ (evs:List Value) (i j:Nat) (ev:Value) (u:Value),(∀x∈evs,x.cells.size=sz)->evs[i]? =some ev->ev.cells[j]? =some u->
 (evs.flatMap (·.cells.toList))[i*sz+j]? =some u
 |[],_,_,_,_,_,h,_=>by simp at h
 |e::evs,0,j,ev,u,hs,h,hu=>by
  simp at h;subst h
  have:j<e.cells.size:=(Array.getElem?_eq_some_iff.1 hu).1
  rw[List.flatMap_cons,List.getElem?_append_left (by simp;omega)]
  simpa using hu
 |e::evs,i+1,j,ev,u,hs,h,hu=>by
  have ih:=jo sz evs i j ev u (fun x hx=>hs x (by simp[hx])) (by simpa using h) hu
  rw[List.flatMap_cons,List.getElem?_append_right (by simp[hs e (by simp),Nat.add_mul];omega)]
  simp only[Array.length_toList,hs e (by simp)]
  rw[show(i+1)*sz+j - sz=i*sz+j by rw[Nat.add_mul];omega]
  exact ih
theorem lG{g:Nat}{cd:Array Value}{ty:TypeId}{fz:Nat×Nat}(h:w.heap[g]? =some (.cells cd ty fz))(j:Nat)(u:Value)(hu:cd[j]? =some u):w.cell? ((⟨g,0,none⟩:Addr).add j)=some u:=by
 rw[add_plain,Nat.zero_add,cell_of_row w g j cd ty fz h];exact hu
theorem yS{B:Nat->Prop}{ty:TypeId}{sz:Nat}{es:List D}{v:Value}{b n c i:Nat}{e:D}
 (a8:0<sz/\∃xs,w.ownsRow 0 ty sz v es.length xs/\eT B w sz es xs) (hv:v= .slice (some ⟨b,0,none⟩) n c) (he:es[i]? =some e):
 ∃ev:Value,ev.cells.size=sz/\D.aq B w e.cells ev.cells.toList/\Flat ev.cells.toList/\(∀j u,ev.cells.toList[j]? =some u->w.cell? ((⟨b,i*sz,none⟩:Addr).add j)=some u):=by
 obtain⟨h0,xs,⟨hl,aZ⟩,evs,rfl,h2,h3⟩:=a8
 obtain⟨ev,cU,hd⟩:=D.dc _ _ _ _ h3 he
 have DK:=D.dK _ _ hd
 refine⟨ev,h2 ev (List.mem_of_getElem? cU),DK.1,DK.2,fun j u hj=> ?_⟩
 subst hv
 rcases aZ with⟨h4,_⟩|⟨g,cap,cur,h4,_,h5,h6,h7,h8,h9⟩
 ·simp at h4
 ·simp at h4;obtain⟨rfl,_,rfl⟩:=h4
  have:=jo sz evs i j ev u h2 cU (by simpa using hj)
  rw[<- h9,List.getElem?_take]at this
  split at this
  ·have Cw:=lG h5 (i*sz+j) u (by simpa using this)
   rw[add_plain]at Cw|-
   simpa using Cw
  ·cases this
theorem yT(hH:ai M φ H w){t:TypeId}{x:V}{xv:Value}(hx:V.den (ad M φ H) φ H w x xv)
 (h:sC P H.o t x fun v rd=>K v [] rd):bV M φ H w fr ((do let y <- Instr.loadAt t xv;pure (Next.value y):Sem Next).run P w) K:=by
 have fin:∀ (v:V) rd,K v [] rd->(∃val,(Instr.loadAt t xv).run P w= .ok val w/\V.den (ad M φ H) φ H w v val)->bV M φ H w fr ((do let y <- Instr.loadAt t xv;pure (Next.value y):Sem Next).run P w) K:=by
  rintro v rd hK ⟨val,h1,h2⟩
  exact bV.same hH val hK (by simp[h1]) h2
 unfold sC at h
 split at h
 ·rename_i id off
  split at h
  ·rename_i cs ho
   obtain⟨v,h1,hK⟩:=h
   obtain⟨_,hu,hp⟩:=hx
   obtain⟨b,cM,rfl⟩:=hp (by rw[ho];rfl)
   have a8:=hH.ok id
   simp only[aA,ho]at a8
   obtain⟨b',cd,ty,g1,g2,g3,g4⟩:=a8
   rw[cM]at g1;simp at g1;subst g1
   refine fin v _ hK ?_
   have:=lF (P:=P) h1 ⟨b,0,none⟩ cd.toList g3 g4 (fun j u hj=>lG g2 j u (by simpa using hj)) rfl
   rwa [add_plain,Nat.zero_add]at this
  ·exact h.elim
 ·rename_i cs off
  obtain⟨v,h1,hK⟩:=h
  obtain⟨a,ev,ha,rfl,hd,hf,hc⟩:=hx
  exact fin v _ hK (lF h1 a ev ((V.bP _ _).2 hd) hf (fun j u hj=>(hc j u (by simpa using hj)).1) ha)
 ·rename_i id ep i sz off
  split at h
  ·rename_i eQ ty ki es ho
   obtain⟨rfl,rfl,e,he,v,h1,hK⟩:=h
   obtain⟨_,hu,hp⟩:=hx
   obtain⟨b,n,c,cM,rfl⟩:=(hp ep (by rw[ho];rfl)).2 rfl
   have a8:=hH.ok id
   simp only[aA,ho]at a8
   obtain⟨ev,g1,g2,g3,g4⟩:=yS a8 cM he
   refine fin v _ hK ?_
   have:=lF (P:=P) h1 ⟨b,i*sz,none⟩ ev.cells.toList ((V.bP _ _).2 g2) g3 g4 rfl
   rwa [add_plain]at this
  ·exact h.elim
 ·exact h.elim
end
end Go.Proofs.YtpkobkdgcanmjaaGreat
namespace Go.Proofs.YtpkobkdgcanmjaaGreat
section
variable {P:Program}{M:Nat->Prop}{φ:Place}{H:Hp}{w:World}{fr:Nat}{K:V->List (Nat×aa)->List Nat->Prop}
theorem bV.plain (hH:ai M φ H w){s:Sem Value}{v:V}{rd:List Nat}(val:Value)(hK:K v [] rd)(hr:s.run P w= .ok val w)(hd:V.den (ad M φ H) φ H w v val):
 bV M φ H w fr ((do let y <- s;pure (Next.value y):Sem Next).run P w) K:=bV.same hH val hK (by simp[hr]) hd
theorem sK{t:TypeId}{f q:Nat}(h:bw P t f=some q):∃fs fd,P.underlying t=some (.struct fs)/\fs[f]? =some fd/\P.cellsOf fd.type≠0/\fd.offset=q:=by
 unfold bw at h
 cases hd:P.underlying t with
 |none=>simp[hd]at h
 |some d=>
  cases d<;>simp only[hd]at h<;>try (cases h;done)
  rename_i fs
  cases hf:fs[f]? with
  |none=>simp[hf]at h
  |some fd=>
   simp only[hf]at h
   split at h
   ·cases h
   ·injection h with h
    exact⟨fs,fd,rfl,hf,by assumption,h⟩
theorem sL{t:TypeId}{f q:Nat}(h:bw P t f=some q)(a:Addr):(Instr.fieldAt t (.pointer (some a)) f).run P w= .ok (.pointer (some (a.add q))) w:=by
 obtain⟨fs,fd,h1,h2,h3,rfl⟩:=sK h
 have:∃i,P.info? fd.type=some i:=by
  cases hi:P.info? fd.type with
  |none=>simp[Program.cellsOf,hi]at h3
  |some i=>exact⟨i,rfl⟩
 obtain⟨i,hi⟩:=this
 simp[Instr.fieldAt,run_underlying h1,h2,Instr.sureAddr,fieldPlace,df hi,h3]
def V.step (x:V)(q:Nat):Option V:=
 match x with
 | .ptr id off=>some (.ptr id (off+q))
 | .pp cs off=>some (.pp cs (off+q))
 | .pe id ep j sz off=>some (.pe id ep j sz (off+q))
 |_=>none
def V.place (o:Nat->aa):V->Prop
 | .ptr id _=>(o id).bd=true
 | .pe id ep _ _ _=>(o id).aO=some ep
 |_=>True
theorem sM{x y:V}{q:Nat}(h:x.step q=some y){xv:Value}(hx:V.den (ad M φ H) φ H w x xv)
 (hr:x.place H.o):
 ∃a,xv= .pointer (some a)/\V.den (ad M φ H) φ H w y (.pointer (some (a.add q))):=by
 cases x with
 |ptr id off=>
  simp only[V.step,Option.some.injEq]at h;subst h
  obtain⟨h1,h2,h3⟩:=hx
  obtain⟨b,h4,rfl⟩:=h3 hr
  exact⟨_,rfl,rfl,h2,fun _=>⟨b,h4,by rw[add_plain]⟩⟩
 |pp cs off=>
  simp only[V.step,Option.some.injEq]at h;subst h
  obtain⟨a,ev,ha,rfl,hd⟩:=hx
  exact⟨_,rfl,a,ev,ha,by rw[add_add a ha],hd⟩
 |pe id ep j sz off=>
  simp only[V.step,Option.some.injEq]at h;subst h
  obtain⟨h1,h2,h3⟩:=hx
  obtain⟨b,n,c,h4,rfl⟩:=(h3 ep hr).2 rfl
  refine⟨_,rfl,rfl,h2,fun e he=>⟨(h3 e he).1,fun heq=>⟨b,n,c,h4,by rw[add_plain,Nat.add_assoc]⟩⟩⟩
 |_=>simp[V.step]at h
theorem pQ(hH:ai M φ H w){t:TypeId}{f:Nat}{x:V}{xv:Value}(hx:V.den (ad M φ H) φ H w x xv)(h:fQ P H.o t x f fun v=>K v [] []):
 bV M φ H w fr ((do let y <- Instr.fieldAt t xv f;pure (Next.value y):Sem Next).run P w) K:=by
 have fin:∀ (y:V) q,bw P t f=some q->x.step q=some y->x.place H.o->K y [] []->
  bV M φ H w fr ((do let y <- Instr.fieldAt t xv f;pure (Next.value y):Sem Next).run P w) K:=by
  intro y q hq hs hr hK
  obtain⟨a,rfl,hd⟩:=sM hs hx hr
  exact bV.plain hH _ hK (sL hq a) hd
 unfold fQ at h
 split at h
 ·rename_i q hq
  split at h
  ·exact fin _ q hq rfl h.1 h.2
  ·exact fin _ q hq rfl trivial h
  ·exact fin _ q hq rfl h.1 h.2
  ·exact h.elim
 ·exact h.elim
theorem uK{B:Nat->Prop}{es:List D}{xv:Value}(hx:D.den B w (.sl es) xv){i:Nat}{y:D}(hy:es[i]? =some y):
 ∃a len cap ev,xv= .slice (some a) len cap/\i<len/\a.spot=none/\D.aq B w y.cells ev/\Flat ev/\eI B w (a.add (i*y.cells.length)) ev.toArray/\len=es.length:=by
 obtain⟨base,len,cap,rfl,rfl,h2,h3,sz,h4⟩:=hx
 have br:i<es.length:=(List.getElem?_eq_some_iff.1 hy).1
 cases base with
 |none=>have:=h3 rfl;omega
 |some a=>
  obtain⟨h5,h6⟩:=h4 a rfl
  obtain⟨ev,h7,h8,h9⟩:=D.p5 es 0 i y h6 hy
  have Cw:=D.dK _ _ h9
  have Si:y.cells.length=sz:=by rw[<- h7, <- D.ao _ _ Cw.1];simp
  refine⟨a,es.length,cap,ev.cells.toList,rfl,br,h5 (by omega),Cw.1,Cw.2, ?_,rfl⟩
  rw[Si]
  simpa using h8
theorem kA{t e:TypeId}(ht:aE P t=some e)(a:Addr)(len cap:Nat)(k:IntKind)(i:Int)(h0:0<=i)(h1:i.toNat<len)(hc:0<P.cellsOf e):
 (Instr.indexAt t (.slice (some a) len cap) (.int k i)).run P w= .ok (.pointer (some (a.add (i.toNat*P.cellsOf e)))) w:=by
 have hu:=aX ht
 have:∃ie,P.info? e=some ie:=by
  cases hi:P.info? e with
  |none=>simp[Program.cellsOf,hi]at hc
  |some i=>exact⟨i,rfl⟩
 obtain⟨ie,hi⟩:=this
 have h2:0<=i/\i<(len:Int):=⟨h0,by omega⟩
 simp[Instr.indexAt,run_underlying hu,asIntOf,h2,df hi]
theorem pR{t e:TypeId}{n:Nat}(ht:bz P t=some (n,e))(a:Addr)(k:IntKind)(i:Int)(h0:0<=i)(h1:i<n)(hi:∃ie,P.info? e=some ie):
 (Instr.indexAt t (.pointer (some a)) (.int k i)).run P w= .ok (.pointer (some (a.add (i.toNat*P.cellsOf e)))) w:=by
 have hu:=p8 ht
 obtain⟨ie,hi⟩:=hi
 have h2:0<=i/\i<(n:Int):=⟨h0,h1⟩
 simp[Instr.indexAt,run_underlying hu,asIntOf,Instr.sureAddr,h2,df hi]
theorem pS(hH:ai M φ H w){t:TypeId}{x ix:V}{xv iv:Value}(hx:V.den (ad M φ H) φ H w x xv)(hi:V.den (ad M φ H) φ H w ix iv)
 (h:fP P H.o t x ix fun v rd=>K v [] rd):bV M φ H w fr ((do let y <- Instr.indexAt t xv iv;pure (Next.value y):Sem Next).run P w) K:=by
 unfold fP at h
 split at h
 ·rename_i k i
  simp only[V.den,D.den]at hi;subst hi
  have qX:∀ {e:TypeId} {es:List D} {rd},aE P t=some e->D.den (ad M φ H) w (.sl es) xv->(0<=i/\∃y,es[i.toNat]? =some y/\y.cells.length=P.cellsOf e/\0<P.cellsOf e/\K (.pp y.cells 0) [] rd)->
   bV M φ H w fr ((do let y <- Instr.indexAt t xv (.int k i);pure (Next.value y):Sem Next).run P w) K:=by
   rintro e es rd ht hd ⟨h0,y,hy,hc,eE,hK⟩
   obtain⟨a,len,cap,ev,rfl,h1,h2,h3,h4,h5,_⟩:=uK hd hy
   refine bV.plain hH _ hK (kA ht a len cap k i h0 h1 eE) ⟨a.add (i.toNat*P.cellsOf e),ev,sJ a h2 _,by rw[add_zero],h3,h4, ?_⟩
   rw[<- hc];exact h5
  split at h
  ·rename_i e ht
   split at h
   ·exact qX ht hx h
   ·exact qX ht hx.1 h
   ·rename_i id ep
    split at h
    ·rename_i eQ ty sz es ho
     obtain⟨rfl,h0,h1,rfl,eE,hK⟩:=h
     obtain⟨Bf,de,oj⟩:=hx
     have hv:=(oj ep (by rw[ho];rfl)).2 rfl
     have a8:=hH.ok id
     simp only[aA,ho]at a8
     obtain⟨h3,xs,⟨_,aZ⟩,_⟩:=a8
     rcases aZ with⟨_,h5⟩|⟨g,cap,cur,h4,_⟩
     ·omega
     ·subst hv
      rw[h4]
      refine bV.plain hH _ hK (kA ht _ _ cap k i h0 h1 eE) ⟨rfl,de,fun e' dZ=>⟨(oj e' dZ).1,fun heq=>⟨g,es.length,cap,h4,by rw[add_plain];simp⟩⟩⟩
    ·rename_i eQ es ho
     obtain⟨rfl,h⟩:=h
     obtain⟨Bf,de,oj⟩:=hx
     have hv:=(oj ep (by rw[ho];rfl)).2 rfl
     have a8:=hH.ok id
     simp only[aA,ho]at a8
     exact qX ht (hv ▸ a8) h
    ·exact h.elim
   ·exact h.elim
  ·split at h
   ·rename_i n e ht
    obtain⟨h0,h1,Nx,h⟩:=h
    have fin:∀ (y:V),x.step (i.toNat*P.cellsOf e)=some y->x.place H.o->K y [] []->
     bV M φ H w fr ((do let y <- Instr.indexAt t xv (.int k i);pure (Next.value y):Sem Next).run P w) K:=by
     intro y hs hr hK
     obtain⟨a,rfl,hd⟩:=sM hs hx hr
     refine bV.plain hH _ hK (pR ht a k i h0 h1 (Option.isSome_iff_exists.1 Nx)) hd
    split at h
    ·exact fin _ rfl h.1 h.2
    ·exact fin _ rfl trivial h
    ·exact fin _ rfl h.1 h.2
    ·exact h.elim
   ·exact h.elim
 ·exact h.elim
theorem DL(hH:ai M φ H w){op:UnOp}{x:V}{xv:Value}(hx:V.den (ad M φ H) φ H w x xv)(h:GG op x fun v=>K v [] []):
 bV M φ H w fr ((do let y <- Op.unary op xv;pure (Next.value y):Sem Next).run P w) K:=by
 unfold GG at h
 split at h
 ·simp only[V.den,D.den]at hx;subst hx
  exact bV.plain hH _ h (by simp[Op.unary,Op.intArith]) rfl
 ·simp only[V.den,D.den]at hx;subst hx
  exact bV.plain hH _ h (by simp[Op.unary]) rfl
 ·exact h.elim
theorem gy{op:BinOp}{k:IntKind}{a b r:Int}(h:n9 op k a b=some r):(Op.intBits op k a b).run P w= .ok (.int k r) w:=by
 unfold n9 at h
 cases op<;>simp at h<;>subst h<;>simp[Op.intBits]
theorem m6{t:TypeId}(hu:P.underlying t=some .bool)(a b:Bool)(d:Nat):(Op.equalIn (d+1) t (.bool a) (.bool b)).run P w= .ok (a==b) w:=by
 simp[Op.equalIn,run_underlying hu]
theorem Bg(hH:ai M φ H w){op:BinOp}{t:TypeId}{p q:Operand}{x y:V}{xv yv:Value}(hx:V.den (ad M φ H) φ H w x xv)(hy:V.den (ad M φ H) φ H w y yv)
 (h:yN P op t x y fun v=>K v [] []):
 bV M φ H w fr ((do let y <- (do eqGuard op t p q xv yv;binOp op t xv yv);pure (Next.value y):Sem Next).run P w) K:=by
 unfold yN at h
 split at h
 ·rename_i k a k' b
  obtain⟨rfl,h⟩:=h
  simp only[V.den,D.den]at hx hy;subst hx;subst hy
  have hg:(eqGuard op t p q (.int k a) (.int k b)).run P w= .ok () w:=by
   unfold eqGuard;cases op<;>simp
  have fin:∀ (v:V) (val:Value),K v [] []->(binOp op t (.int k a) (.int k b)).run P w= .ok val w->V.den (ad M φ H) φ H w v val->
   bV M φ H w fr ((do let y <- (do eqGuard op t p q (.int k a) (.int k b);binOp op t (.int k a) (.int k b));pure (Next.value y):Sem Next).run P w) K:=by
   intro v val hK hr hd
   exact bV.plain hH val hK (by simp[hg,hr]) hd
  cases op<;>simp only[A9]at h
  case add=>exact fin _ _ h (by simp[binOp,Op.intArith]) rfl
  case sub=>exact fin _ _ h (by simp[binOp,Op.intArith]) rfl
  case mul=>exact fin _ _ h (by simp[binOp,Op.intArith]) rfl
  case quo=>exact fin _ _ h.2 (by simp[binOp,Op.intDiv,h.1]) rfl
  case rem=>exact fin _ _ h.2 (by simp[binOp,Op.intDiv,h.1]) rfl
  case and=>obtain⟨r,hr,hK⟩:=h;exact fin _ _ hK (by simp[binOp,gy hr]) rfl
  case or=>obtain⟨r,hr,hK⟩:=h;exact fin _ _ hK (by simp[binOp,gy hr]) rfl
  case xor=>obtain⟨r,hr,hK⟩:=h;exact fin _ _ hK (by simp[binOp,gy hr]) rfl
  case andNot=>obtain⟨r,hr,hK⟩:=h;exact fin _ _ hK (by simp[binOp,gy hr]) rfl
  all_goals
   obtain⟨r,hr,hK⟩:=h
   simp only[GF,Option.some.injEq]at hr
   subst hr
   exact fin _ _ hK (by simp[binOp,Op.intCmp];rfl) (by simp[V.den,D.den])
 ·rename_i a b
  simp only[V.den,D.den]at hx hy;subst hx;subst hy
  have hg:(eqGuard op t p q (.bool a) (.bool b)).run P w= .ok () w:=by
   unfold eqGuard;cases op<;>simp
  split at h
  ·obtain⟨hu,hK⟩:=h
   have h1:(Op.equal t (.bool a) (.bool b)).run P w= .ok (a==b) w:=m6 hu a b 9999
   exact bV.plain hH (.bool (a==b)) hK (by simp[hg,binOp,h1]) rfl
  ·obtain⟨hu,hK⟩:=h
   have h1:(Op.equal t (.bool a) (.bool b)).run P w= .ok (a==b) w:=m6 hu a b 9999
   exact bV.plain hH (.bool (a !=b)) hK (by simp[hg,binOp,h1,bne]) rfl
  ·exact h.elim
 ·rename_i a b
  obtain⟨u,rfl,rfl⟩:=hx
  obtain⟨v,rfl,rfl⟩:=hy
  have hg:(eqGuard op t p q (.string u) (.string v)).run P w= .ok () w:=by
   unfold eqGuard;cases op<;>simp
  split at h
  ·exact bV.plain hH (.bool (u.data.toList==v.data.toList)) h (by simp[hg,binOp,Op.stringOp,ByteArray.toList_eq]) rfl
  ·exact bV.plain hH (.bool (u.data.toList !=v.data.toList)) h (by simp[hg,binOp,Op.stringOp,ByteArray.toList_eq,bne]) rfl
  ·exact h.elim
 ·rename_i a b
  obtain⟨a',rfl,hx⟩:=hx
  obtain⟨b',rfl,hy⟩:=hy
  split at h
  ·obtain⟨r,hr,hK⟩:=h
   obtain⟨h1,h2⟩:=hr (ad M φ H) w (.agg a') (.agg b') ⟨a',rfl,hx⟩ ⟨b',rfl,hy⟩
   exact bV.plain hH (.bool r) hK (by simp[h2,binOp,h1]) rfl
  ·obtain⟨r,hr,hK⟩:=h
   obtain⟨h1,h2⟩:=hr (ad M φ H) w (.agg a') (.agg b') ⟨a',rfl,hx⟩ ⟨b',rfl,hy⟩
   exact bV.plain hH (.bool !r) hK (by simp[h2,binOp,h1]) rfl
  ·exact h.elim
 ·exact h.elim
theorem yU(hH:ai M φ H w){c a b:V}{cv av bv:Value}(hc:V.den (ad M φ H) φ H w c cv)(ha:V.den (ad M φ H) φ H w a av)(hb:V.den (ad M φ H) φ H w b bv)
 (h:sB c a b fun v=>K v [] []):bV M φ H w fr ((do pure (.value (if <- asBool cv then av else bv)):Sem Next).run P w) K:=by
 unfold sB at h
 split at h
 ·rename_i t
  simp only[V.den,D.den]at hc;subst hc
  have hr:((do pure (.value (if <- asBool (.bool t)then av else bv)):Sem Next).run P w)= .ok (.value (if t then av else bv)) w:=by simp[asBool]
  have fin:∀v,K v [] []->V.den (ad M φ H) φ H w v (if t then av else bv)->bV M φ H w fr ((do pure (.value (if <- asBool (.bool t)then av else bv)):Sem Next).run P w) K:=
   fun v hK hd=>bV.same hH _ hK hr hd
  cases t
  ·exact fin _ (h.2 rfl) (by simpa using hb)
  ·exact fin _ (h.1 rfl) (by simpa using ha)
 ·exact h.elim
theorem nM{t:TypeId}{e:TypeId}(hu:P.underlying t=some (.slice e))(base:Option Addr)(n c:Nat)(ty:TypeId):(Builtin.len_ #[t] ty #[.slice base n c]).run P w= .ok (goInt n) w:=by
 simp[Builtin.len_,run_underlying hu]
theorem Bh(hH:ai M φ H w){t ty:TypeId}{x:V}{xv:Value}(hx:V.den (ad M φ H) φ H w x xv)(h:yO P t H.o x fun v rd=>K v [] rd):
 bV M φ H w fr ((do let y <- Builtin.len_ #[t] ty #[xv];pure (Next.value y):Sem Next).run P w) K:=by
 unfold yO at h
 split at h
 ·rename_i e hu
  have fin:∀ {es:List D} {rd},D.den (ad M φ H) w (.sl es) xv->K (.d (.int .i64 es.length)) [] rd->bV M φ H w fr ((do let y <- Builtin.len_ #[t] ty #[xv];pure (Next.value y):Sem Next).run P w) K:=by
   rintro es rd ⟨base,len,cap,rfl,rfl,_⟩ hK
   exact bV.plain hH _ hK (nM hu _ _ _ _) rfl
  split at h
  ·exact fin hx h
  ·simp only[V.den]at hx;subst hx
   exact bV.plain hH _ h (nM hu _ _ _ _) rfl
  ·exact fin hx.1 h
  ·rename_i id ep
   split at h
   ·rename_i eQ ty sz es ho
    obtain⟨rfl,hK⟩:=h
    obtain⟨Bf,de,oj⟩:=hx
    have hv:=(oj ep (by rw[ho];rfl)).2 rfl
    have a8:=hH.ok id
    simp only[aA,ho]at a8
    obtain⟨h3,xs,⟨_,aZ⟩,_⟩:=a8
    subst hv
    rcases aZ with⟨h4,h5⟩|⟨g,cap,cur,h4,_⟩
    ·rw[h4];rw[h5]at hK;exact bV.plain hH _ hK (nM hu _ _ _ _) rfl
    ·rw[h4];exact bV.plain hH _ hK (nM hu _ _ _ _) rfl
   ·rename_i eQ es ho
    obtain⟨rfl,hK⟩:=h
    obtain⟨Bf,de,oj⟩:=hx
    have hv:=(oj ep (by rw[ho];rfl)).2 rfl
    have a8:=hH.ok id
    simp only[aA,ho]at a8
    exact fin (hv ▸ a8) hK
   ·exact h.elim
  ·exact h.elim
 ·rename_i hu
  split at h
  ·obtain⟨u,rfl,rfl⟩:=hx
   exact bV.plain hH (goInt u.size) h (by simp[Builtin.len_,run_underlying hu]) (by simp[V.den,D.den,goInt])
  ·exact h.elim
 ·rename_i n e hu
  exact bV.plain hH _ h (by simp[Builtin.len_,run_underlying hu];rfl) rfl
 ·exact h.elim
end
end Go.Proofs.YtpkobkdgcanmjaaGreat
namespace Go.Proofs.YtpkobkdgcanmjaaGreat
section
variable {P:Program}{M:Nat->Prop}{φ:Place}{H:Hp}{w:World}{fr:Nat}{K:V->List (Nat×aa)->List Nat->Prop}
def aa.fz:aa->aa
 | .arr ep _ _ es=> .lu ep es
 | .map _ _ l=> .eg l
 |o=>o
theorem iJ(o:Nat->aa)(ids:List Nat):cg o ids=ids.map fun id=>(id,(o id).fz):=by
 unfold cg
 refine List.map_congr_left fun id _=> ?_
 cases o id<;>rfl
theorem om(H:Hp){id:Nat}(hu:H.us id){x:aa}(hx:H.o id=x):H.put [(id,x)]=H:=by
 obtain⟨o,us⟩:=H
 simp only[Hp.put,put,List.foldl_cons,List.foldl_nil,Hp.mk.injEq,List.map_cons,List.map_nil,List.mem_singleton]
 constructor
 ·funext j
  by_cases hj:j=id
  ·subst hj;simpa using hx.symm
  ·simp[hj]
 ·funext j
  simp only[eq_iff_iff]
  exact⟨fun h=>h.elim (fun h=>h) fun e=>e ▸ hu, .inl⟩
theorem lH(o:Nat->aa):∀ (ids:List Nat) (H:Hp),ai M φ H w->(∀id∈ids,H.us id)->(∀id,H.o id=o id\/H.o id=(o id).fz)->
 let H':=H.put (ids.map fun id=>(id,(o id).fz));ai M φ H' w/\Trans φ H w φ H' w/\(∀id∈ids,H'.o id=(o id).fz)/\(∀id,H'.o id=o id\/H'.o id=(o id).fz)/\(∀id,id∉ids->H'.o id=H.o id)/\∀id,H'.us id↔H.us id
 |[],H,hH,_,ho=>by
  simp only[List.map_nil,jX]
  exact⟨hH,Trans.refl _ _ _,by simp,ho,by simp,by simp⟩
 |id::ids,H,hH,hu,ho=>by
  have h1:ai M φ (H.put [(id,(o id).fz)]) w/\Trans φ H w φ (H.put [(id,(o id).fz)]) w:=by
   rcases ho id with h|h
   ·cases hx:o id with
    |arr ep ty sz es=>exact Bc hH (hu id (by simp)) (h.trans hx)
    |map kt vt l=>exact vZ hH (hu id (by simp)) (h.trans hx)
    |_=>
     rw[om H (hu id (by simp)) (h.trans (by rw[hx];rfl))]
     exact⟨hH,Trans.refl _ _ _⟩
   ·rw[om H (hu id (by simp)) h]
    exact⟨hH,Trans.refl _ _ _⟩
  have h2:∀j,(H.put [(id,(o id).fz)]).o j=o j\/(H.put [(id,(o id).fz)]).o j=(o j).fz:=by
   intro j
   by_cases hj:j=id
   ·subst hj;right;simp
   ·simpa[hj]using ho j
  have ih:=lH o ids (H.put [(id,(o id).fz)]) h1.1 (fun j hj=>by simp[hu j (by simp[hj])]) h2
  obtain⟨i1,i2,i3,i4,i5,i6⟩:=ih
  have e:H.put ((id::ids).map fun id=>(id,(o id).fz))=(H.put [(id,(o id).fz)]).put (ids.map fun id=>(id,(o id).fz)):=by
   rw[<- cX];rfl
  rw[e]
  refine⟨i1,h1.2.trans i2,fun j hj=> ?_,i4,fun j hj=> ?_,fun j=> ?_⟩
  ·rcases List.mem_cons.1 hj with rfl|hj
   ·by_cases hm:j∈ids
    ·exact i3 j hm
    ·rw[i5 j hm];simp
   ·exact i3 j hj
  ·simp only[List.mem_cons,not_or]at hj
   rw[i5 j hj.2];simp[hj.1]
  ·rw[i6 j,cY]
   exact⟨fun h=>h.elim (fun h=>h) fun e=>e ▸ hu id (by simp), .inl⟩
theorem cw(hH:ai M φ H w)(ids:List Nat)(hu:∀id∈ids,H.us id):
 let H':=H.put (cg H.o ids);ai M φ H' w/\Trans φ H w φ H' w/\(∀id∈ids,H'.o id=(H.o id).fz)/\(∀id,id∉ids->H'.o id=H.o id)/\∀id,H'.us id↔H.us id:=by
 rw[iJ]
 obtain⟨a,b,c,_,d,e⟩:=lH H.o ids H hH hu (fun _=> .inl rfl)
 exact⟨a,b,c,d,e⟩
mutual
theorem cl:∀ (v:V) (val:Value),V.den (ad M φ H) φ H w v val->∀id∈v.ids,H.us id
 | .osl id ep,_,h,j,hj=>by simp[V.ids]at hj;subst hj;exact h.2.1
 | .mp id,_,h,j,hj=>by simp[V.ids]at hj;subst hj;exact h.2.1
 | .agg cs,_,h,j,hj=>by obtain⟨a,rfl,h,_⟩:=h;exact bQ cs _ h j (by simpa[V.ids]using hj)
 | .iface t x,_,h,j,hj=>by obtain⟨u,rfl,h⟩:=h;exact cl x u h j (by simpa[V.ids]using hj)
 | .d _,_,_,_,hj| .aM,_,_,_,hj| .bM _,_,_,_,hj| .ptr _ _,_,_,_,hj| .pe _ _ _ _ _,_,_,_,hj| .pp _ _,_,_,_,hj| .func _ _ _,_,_,_,hj| .aw,_,_,_,hj| .kG _,_,_,_,hj| .n5 _ _ _,_,_,_,hj| .dC,_,_,_,hj| .jT _,_,_,_,hj=>by simp[V.ids]at hj
theorem bQ:∀ (vs:List V) (vals:List Value),V.aq (ad M φ H) φ H w vs vals->∀id∈V.aQ vs,H.us id
 |[],_,_,j,hj=>by simp[V.aQ]at hj
 |v::vs,_,h,j,hj=>by
  obtain⟨u,us,rfl,h1,h2⟩:=h
  rcases List.mem_append.1 (show j∈v.ids++V.aQ vs from hj)with hj|hj
  ·exact cl v u h1 j hj
  ·exact bQ vs us h2 j hj
end
mutual
theorem dM(hH:ai M φ H w){o:Nat->aa}:∀ (v:V) (x:D) (val:Value),(∀id∈v.ids,H.o id=(o id).fz)->dn o v=some x->V.den (ad M φ H) φ H w v val->D.den (ad M φ H) w x val
 | .d y,x,val,_,h,hd=>by simp[dn]at h;subst h;exact hd
 | .aM,x,val,_,h,hd=>by
   simp[dn]at h;subst h
   simp only[V.den]at hd;subst hd
   exact⟨none,0,0,rfl,rfl,Nat.le_refl _,fun _=>rfl,0,fun a ha=>by cases ha⟩
 | .osl id ep,x,val,ho,h,hd=>by
   obtain⟨_,_,hd⟩:=hd
   have ho:=ho id (by simp[V.ids])
   have a8:=hH.ok id
   simp only[dn]at h
   cases hx:o id with
   |no=>simp[hx]at h
   |row cs=>simp[hx]at h
   |map kt vt l=>simp[hx]at h
   |loop nf n env ps kg gv st xj=>simp[hx]at h
   |eg l=>simp[hx]at h
   |my l last=>simp[hx]at h
   |n6 s pos=>simp[hx]at h
   |arr eQ ty sz es=>
    simp only[hx]at h ho
    split at h
    ·rename_i e;subst e;injection h with h;subst h
     simp only[aa.fz]at ho
     simp only[aA,ho]at a8
     rw[(hd ep (by rw[ho];rfl)).2 rfl];exact a8
    ·cases h
   |lu eQ es=>
    simp only[hx]at h ho
    split at h
    ·rename_i e;subst e;injection h with h;subst h
     simp only[aa.fz]at ho
     simp only[aA,ho]at a8
     rw[(hd ep (by rw[ho];rfl)).2 rfl];exact a8
    ·cases h
 | .mp id,x,val,ho,h,hd=>by
   obtain⟨_,_,hd⟩:=hd
   have ho:=ho id (by simp[V.ids])
   have a8:=hH.ok id
   simp only[dn]at h
   cases hx:o id with
   |map kt vt l=>
    simp only[hx]at h ho
    injection h with h;subst h
    simp only[aa.fz]at ho
    simp only[aA,ho]at a8
    rw[hd (by rw[ho];rfl)];exact a8
   |eg l=>
    simp only[hx]at h ho
    injection h with h;subst h
    simp only[aa.fz]at ho
    simp only[aA,ho]at a8
    rw[hd (by rw[ho];rfl)];exact a8
   |_=>simp[hx]at h
 | .agg cs,x,val,ho,h,hd=>by
   simp only[dn,Option.map_eq_some_iff]at h
   obtain⟨ds,h1,rfl⟩:=h
   obtain⟨a,rfl,h2,h3⟩:=hd
   exact⟨a,rfl,cF hH cs ds _ (fun id ag=>ho id (by simpa[V.ids]using ag)) h1 h2,h3⟩
 | .iface t y,x,val,ho,h,hd=>by
   simp only[dn,Option.map_eq_some_iff]at h
   obtain⟨z,h1,rfl⟩:=h
   obtain⟨u,rfl,h2⟩:=hd
   exact⟨u,rfl,dM hH y z u (fun id ag=>ho id (by simpa[V.ids]using ag)) h1 h2⟩
 | .bM _,_,_,_,h,_| .ptr _ _,_,_,_,h,_| .pe _ _ _ _ _,_,_,_,h,_| .pp _ _,_,_,_,h,_| .func _ _ _,_,_,_,h,_| .aw,_,_,_,h,_| .n5 _ _ _,_,_,_,h,_| .dC,_,_,_,h,_| .jT _,_,_,_,h,_=>by simp[dn]at h
 | .kG es,x,val,_,h,hd=>by simp[dn]at h;subst h;exact hd.1
theorem cF(hH:ai M φ H w){o:Nat->aa}:∀ (vs:List V) (xs:List D) (vals:List Value),(∀id∈V.aQ vs,H.o id=(o id).fz)->bA o vs=some xs->V.aq (ad M φ H) φ H w vs vals->D.aq (ad M φ H) w xs vals
 |[],xs,vals,_,h,hd=>by simp[bA]at h;subst h;exact hd
 |v::vs,xs,vals,ho,h,hd=>by
  simp only[bA,Option.bind_eq_some_iff,Option.map_eq_some_iff]at h
  obtain⟨x,h1,ys,h2,rfl⟩:=h
  obtain⟨u,us,rfl,h3,h4⟩:=hd
  exact⟨u,us,rfl,dM hH v x u (fun id ag=>ho id (by simp[V.aQ,ag])) h1 h3,cF hH vs ys us (fun id ag=>ho id (by simp[V.aQ,ag])) h2 h4⟩
end
theorem m7(hH:ai M φ H w)(cZ: ¬H.us fr){s:Sem Value}(cs:List V)(cd:Array Value)(ty:TypeId)(hK:K (.ptr fr 0) [(fr, .row cs)] [])
 (hr:s.run P w= .ok (.pointer (some ⟨w.heap.size,0,none⟩)) (w.alloc (.cells cd ty))) (hd:V.aq (ad M φ H) φ H w cs cd.toList) (hf:Flat cd.toList):
 bV M φ H w fr ((do let y <- s;pure (Next.value y):Sem Next).run P w) K:=by
 obtain⟨h1,h2,h3⟩:=Bb hH cZ cs cd ty hd hf
 exact⟨_,_,_,_,_,_,_,hK,by simp[hr], .inl rfl,h1,h2,h3,by simp⟩
theorem xo(hH:ai M φ H w)(cZ: ¬H.us fr){t:TypeId}(h:∃cs,aL P t=some cs/\K (.ptr fr 0) [(fr, .row cs)] []):
 bV M φ H w fr ((do let y <- Instr.alloc t true (.tuple #[]);pure (Next.value y):Sem Next).run P w) K:=by
 obtain⟨cs,hz,hK⟩:=h
 obtain⟨i,v,h1,h2,h3,h4,rfl⟩:=fV hz
 refine m7 hH cZ _ v.cells t hK ?_ (cR _ h4) h4
 simp[Instr.alloc,zeroValue,typeInfo,h1,h2,newVar,newRow]
theorem Bi(hH:ai M φ H w)(cZ: ¬H.us fr){t:TypeId}{x:V}{xv:Value}(hx:V.den (ad M φ H) φ H w x xv)(h:∃cs,x.cells=some cs/\K (.ptr fr 0) [(fr, .row cs)] []):
 bV M φ H w fr ((do let y <- Instr.box t xv;pure (Next.value y):Sem Next).run P w) K:=by
 obtain⟨cs,hc,hK⟩:=h
 obtain⟨h1,h2⟩:=V.jW x xv cs hc hx
 refine m7 hH cZ _ xv.cells t hK ?_ h1 h2
 simp[Instr.box,newVar,newRow]
theorem xp(off:Nat):∀ (us:List Value) (cells:Array Value),off+us.length<=cells.size->
 ((us.zipIdx.foldl (fun cs (p:Value×Nat)=>cs.setIfInBounds (off+p.2) p.1) cells)).toList=cells.toList.take off++us++cells.toList.drop (off+us.length):=by
 have key:∀ (us:List Value) (k:Nat) (cells:Array Value),off+k+us.length<=cells.size->
  (((us.zipIdx k).foldl (fun cs (p:Value×Nat)=>cs.setIfInBounds (off+p.2) p.1) cells)).toList=cells.toList.take (off+k)++us++cells.toList.drop (off+k+us.length):=by
  intro us
  induction us with
  |nil=>intro k cells h;simp
  |cons u us ih=>
   intro k cells h
   simp only[List.zipIdx_cons,List.foldl_cons]
   rw[ih (k+1) _ (by simp at h|-;omega)]
   simp only[Array.toList_setIfInBounds,List.length_cons]
   have br:off+k<cells.toList.length:=by simp at h|-;omega
   rw[show off+(k+1)=off+k+1 by omega,List.take_set,List.take_succ_eq_append_getElem br,List.set_append_right _ _ (by simp;omega)]
   simp only[List.length_take]
   rw[show min (off+k) cells.toList.length=off+k by omega,Nat.sub_self]
   simp only[List.set_cons_zero,List.append_assoc,List.cons_append,List.nil_append]
   rw[List.drop_set_of_lt (by omega)]
   congr 3
   rw[show off+k+1+us.length=off+k+(us.length+1) by omega]
 intro us cells h
 have:=key us 0 cells (by simpa using h)
 simpa using this
theorem sN(places:List (Nat×Nat)):∀ (parts:List (Nat×V)) (iK:List (Nat×Value)) (cs cs':List V) (cells:Array Value),
 iK.map (·.1)=parts.map (·.1)->V.aq (ad M φ H) φ H w (parts.map (·.2)) (iK.map (·.2))->V.aq (ad M φ H) φ H w cs cells.toList->Flat cells.toList->m4 places cs parts=some cs'->
 ∃eU,(∀place:Nat->Option (Nat×Nat),(∀i p,places[i]? =some p->place i=some p)->Instr.fill place cells iK=some eU)/\V.aq (ad M φ H) φ H w cs' eU.toList/\Flat eU.toList
 |[],iK,cs,cs',cells,h1,_,h3,h4,h=>by
  cases iK with
  |nil=>simp[m4]at h;subst h;exact⟨cells,fun _ _=>rfl,h3,h4⟩
  |cons a l=>simp at h1
 |(i,v)::parts,iK,cs,cs',cells,h1,h2,h3,h4,h=>by
  cases iK with
  |nil=>simp at h1
  |cons a iK=>
   obtain⟨i',val⟩:=a
   simp only[List.map_cons,List.cons.injEq]at h1
   obtain⟨rfl,h1⟩:=h1
   simp only[List.map_cons]at h2
   obtain⟨u,us,e,h5,h6⟩:=h2
   simp only[List.cons.injEq]at e
   obtain⟨rfl,rfl⟩:=e
   simp only[m4]at h
   split at h
   ·rename_i off size us uE hc
    split at h
    ·rename_i dv
     obtain⟨g1,g2⟩:=V.jW v _ us hc h5
     have hl:=V.ao _ _ g1
     have QH:=V.ao _ _ h3
     have hs:=xp off val.cells.toList cells (by simp at hl QH|-;omega)
     rw[Array.length_toList]at hl QH
     have ih:=sN places parts iK _ cs' (val.cells.toList.zipIdx.foldl (fun cs (p:Value×Nat)=>cs.setIfInBounds (off+p.2) p.1) cells) h1 h6 (by
      rw[hs]
      refine V.aT _ _ _ _ (V.aT _ _ _ _ (V.cQ _ _ _ h3) g1) ?_
      rw[show val.cells.toList.length=us.length by simpa using hl]
      exact V.dp _ _ _ h3) (by
      rw[hs]
      intro x hx
      simp only[List.mem_append]at hx
      rcases hx with(hx|hx)|hx
      ·exact h4 x (List.mem_of_mem_take hx)
      ·exact g2 x hx
      ·exact h4 x (List.mem_of_mem_drop hx)) h
     obtain⟨eU,i1,i2⟩:=ih
     refine⟨eU,fun place hp=> ?_,i2⟩
     have i1:=i1 place hp
     simp only[Instr.fill,hp _ _ uE]
     rw[if_neg (by simp;omega), <- i1]
     have e:∀ (c:Array Value),c.zipIdx.foldl (fun cs (x:Value×Nat)=>cs.setIfInBounds (off+x.2) x.1) cells=c.toList.zipIdx.foldl (fun cs (x:Value×Nat)=>cs.setIfInBounds (off+x.2) x.1) cells:=by
      intro c;rw[<- Array.foldl_toList,Array.toList_zipIdx]
     rw[<- e]
    ·cases h
   ·cases h
theorem sO{t:TypeId}{pl:List (Nat×Nat)}(h:cu P t=some pl)(parts:List (Nat×Value))(cells eU:Array Value){i:TypeInfo}{z:Value}(hi:P.info? t=some i)(hz:i.zero=some z)(hc:z.cells=cells)
 (hf:∀place:Nat->Option (Nat×Nat),(∀i p,pl[i]? =some p->place i=some p)->Instr.fill place cells parts=some eU):
 P.built t parts=some eU:=by
 subst hc
 unfold cu at h
 unfold Program.built
 cases hd:P.underlying t with
 |none=>simp[hd]at h
 |some d=>
  cases d<;>simp only[hd]at h<;>try (cases h;done)
  case struct fs=>
   simp only[Option.ite_none_right_eq_some,Option.some.injEq]at h
   obtain⟨aF,rfl⟩:=h
   have hm:fs.toList.mapM (fun f=>(P.info? f.type).map fun i=>(f.offset,i.size))=some (fs.toList.map fun f=>(f.offset,P.cellsOf f.type)):=by
    generalize fs.toList=l at aF
    clear hf
    induction l with
    |nil=>rfl
    |cons f l ih=>
     simp only[List.all_cons,Bool.and_eq_true]at aF
     obtain⟨j,hj⟩:=Option.isSome_iff_exists.1 aF.1
     simp[List.mapM_cons,ih aF.2,hj,bG hj]
   simp only[hi,hz,hm]
   exact hf _ (by simp)
  case array n e=>
   simp only[Option.ite_none_right_eq_some,Option.some.injEq]at h
   obtain⟨aF,rfl⟩:=h
   obtain⟨j,hj⟩:=Option.isSome_iff_exists.1 aF
   simp only[hi,hz,hj]
   refine hf _ fun k p hp=> ?_
   rw[List.getElem?_map]at hp
   simp only[Option.map_eq_some_iff]at hp
   obtain⟨a,h1,rfl⟩:=hp
   rw[List.getElem?_range]at h1
   ·injection h1 with h1;subst h1;rw[bG hj]
   ·rcases Nat.lt_or_ge k n with hn|hn
    ·exact hn
    ·rw[List.getElem?_eq_none (by simpa using hn)]at h1;cases h1
theorem xq(hH:ai M φ H w){t:TypeId}{parts:Array (Nat×Operand)}{s:S}{a:Act}(cN:∀i,V.den (ad M φ H) φ H w (s.env i) (a.tmps.getD i undef))
 (h:∃z pl cs,aL P t=some z/\cu P t=some pl/\m4 pl z (parts.toList.map fun p=>(p.1,s.ev p.2))=some cs/\K (dD cs) [] []):
 bV M φ H w fr ((do let y <- Instr.build t (parts.map fun(i,x)=>(i,a.eval x));pure (Next.value y):Sem Next).run P w) K:=by
 obtain⟨z,pl,cs,hz,uE,lh,hK⟩:=h
 obtain⟨i,zv,h1,h2,h3,h4,rfl⟩:=fV hz
 have hd:V.aq (ad M φ H) φ H w ((parts.toList.map fun p=>(p.1,s.ev p.2)).map (·.2)) ((parts.map fun(i,x)=>(i,a.eval x)).toList.map (·.2)):=by
  have:=gx s a cN (parts.toList.map (·.2))
  simpa[Function.comp_def]using this
 have he:(parts.map fun(i,x)=>(i,a.eval x)).toList.map (·.1)=(parts.toList.map fun p=>(p.1,s.ev p.2)).map (·.1):=by simp[Function.comp_def]
 obtain⟨eU,g1,g2,g3⟩:=sN (M:=M) (φ:=φ) (H:=H) (w:=w) pl _ _ _ cs zv.cells he hd (cR _ h4) h4 lh
 have hb:P.built t (parts.map fun(i,x)=>(i,a.eval x)).toList=some eU:=sO uE _ zv.cells eU h1 h2 rfl g1
 exact bV.plain hH (.agg eU) hK (run_build w t _ eU hb) (g9 _ _ g2 g3)
end
end Go.Proofs.YtpkobkdgcanmjaaGreat
namespace Go.Proofs.YtpkobkdgcanmjaaGreat
section
variable {P:Program}{M:Nat->Prop}{φ:Place}{H:Hp}{w w':World}{fr:Nat}{K:V->List (Nat×aa)->List Nat->Prop}
theorem lI{base:Nat}{e:TypeId}{sz n:Nat}{v:Value}{xs:List Value}(h:w.ownsRow base e sz v n xs):w.ownsRow 0 e sz v n xs:=by
 obtain⟨h1,h2⟩:=h
 refine⟨h1, ?_⟩
 rcases h2 with h2|⟨g,cap,cur,a,_,b⟩
 ·exact .inl h2
 ·exact .inr ⟨g,cap,cur,a,Nat.zero_le _,b⟩
theorem gz{base:Nat}{e:TypeId}{sz n:Nat}{v:Value}{xs:List Value}(h:w.ownsRow base e sz v n xs)(b:Nat)(hb:dA v=some b):base<=b/\b<w.heap.size:=by
 rcases h.2 with⟨rfl,_⟩|⟨g,cap,cur,rfl,h1,h2,_⟩
 ·cases hb
 ·simp[dA]at hb;subst hb
  exact⟨h1,(Array.getElem?_eq_some_iff.1 h2).1⟩
theorem eT.mono {B B':Nat->Prop}(hb:∀b,bN w b-> ¬B b->w'.heap[b]? =w.heap[b]? /\ ¬B' b){sz:Nat}{es:List D}{xs:List Value}(h:eT B w sz es xs):eT B' w' sz es xs:=by
 obtain⟨evs,h1,h2,h3⟩:=h
 exact⟨evs,h1,h2,D.az hb es evs h3⟩
theorem v3(hH:ai M φ H w)(cZ: ¬H.us fr)(hk:dJ (fun _=>False) w w'){val:Value}{ty:TypeId}{sz:Nat}{es:List D}{xs:List Value}(dv:0<sz)
 (dN:w'.ownsRow w.heap.size ty sz val es.length xs) (hd:eT (ad M φ H) w sz es xs):
 let aj:=aV φ fr val;let H':=H.put [(fr, .arr 0 ty sz es)]
 ai M aj H' w'/\Trans φ H w aj H' w'/\V.den (ad M aj H') aj H' w' (.osl fr 0) val:=by
 intro aj H'
 have ht:Trans φ H w aj H' w':=dL hk cZ _ _ fun b hb=>(gz dN b hb).1
 refine⟨fU hH hk cZ _ _ (gz dN) ?_,ht, ?_,by simp[H'],fun e he=> ?_⟩
 ·unfold aA
  simp only[aY,aC,if_true]
  exact⟨dv,xs,lI dN,hd.mono (ht.blocks (M:=M))⟩
 ·rcases dN.2 with⟨rfl,_⟩|⟨g,cap,cur,rfl,_⟩<;>rfl
 ·simp[H',aa.aO]at he
  subst he
  exact⟨Nat.le_refl _,fun _=>by simp[aj]⟩
theorem eo(hH:ai M φ H w)(cZ: ¬H.us fr)(hk:dJ (fun _=>False) w w'){s:Sem Value}{val:Value}{ty:TypeId}{sz:Nat}{es:List D}{xs:List Value}{rd:List Nat}(dv:0<sz)
 (hK:K (.osl fr 0) [(fr, .arr 0 ty sz es)] rd) (hr:s.run P w= .ok val w') (dN:w'.ownsRow w.heap.size ty sz val es.length xs) (hd:eT (ad M φ H) w sz es xs):
 bV M φ H w fr ((do let y <- s;pure (Next.value y):Sem Next).run P w) K:=by
 obtain⟨h1,h2,h3⟩:=v3 hH cZ hk dv dN hd
 exact⟨_,_,_,_,_,_,_,hK,by simp[hr], .inl rfl,h1,h2,h3,by simp⟩
theorem fW{e:TypeId}(h:0<P.cellsOf e):∃i,P.info? e=some i:=by
 cases hi:P.info? e with
 |none=>simp[Program.cellsOf,hi]at h
 |some i=>exact⟨i,rfl⟩
theorem sP(parts:List (Nat×Value))(n:Nat)(h:parts.map (·.1)=List.range n):parts=((parts.map (·.2)).zipIdx 0).map fun x=>(x.2,x.1):=by
 apply List.ext_getElem?
 intro i
 have hl:parts.length=n:=by have:=congrArg List.length h;simpa using this
 rw[List.getElem?_map,List.getElem?_zipIdx,List.getElem?_map]
 cases hp:parts[i]? with
 |none=>simp
 |some p=>
  have h1:(parts.map (·.1))[i]? =some p.1:=by simp[hp]
  rw[h,List.getElem?_range (by have:=(List.getElem?_eq_some_iff.1 hp).1;omega)]at h1
  simp at h1
  obtain⟨p1,p2⟩:=p
  simp_all
theorem nA{t e:TypeId}(ht:P.underlying t=some (.slice e))(eE:0<P.cellsOf e):(Instr.buildSlice t 0 #[]).run P w= .ok (.slice (some ⟨w.heap.size,0,none⟩) 0 0) (w.alloc (.cells #[] e)):=by
 obtain⟨i,hi⟩:=fW eE
 have h1:(underlying t).run P w= .ok (.slice e) w:=by simp[Go.underlying,ht]
 have h2:(sizeOf e).run P w= .ok i.size w:=by simp[Go.sizeOf,Go.typeInfo,hi]
 simp[Instr.buildSlice,h1,h2,Instr.fill,newRow]
 congr 2
 exact Array.eq_empty_of_size_eq_zero (by simp)
theorem oo(hH:ai M φ H w)(cZ: ¬H.us fr){t:TypeId}{len:Nat}{parts:Array (Nat×Operand)}{s:S}{a:Act}(cN:∀i,V.den (ad M φ H) φ H w (s.env i) (a.tmps.getD i undef))
 (h:ff P H.o fr t len (parts.toList.map fun p=>(p.1,s.ev p.2)) K):
 bV M φ H w fr ((do let y <- Instr.buildSlice t len (parts.map fun(i,x)=>(i,a.eval x));pure (Next.value y):Sem Next).run P w) K:=by
 unfold ff at h
 split at h
 ·rename_i e ht
  rcases h with⟨rfl,MP,eE,hK⟩|⟨Ny,hz,hlen,eE,Nz,ds,dB,hw,hK⟩
  ·have GI:parts=#[]:=by
    have:=congrArg List.length MP
    simp at this
    exact this
   subst GI
   have dN:=World.ownsRow_lit (base:=w.heap.size) (e:=e) (size:=P.cellsOf e) w #[] 0 (Nat.le_refl _) (Nat.zero_le _) (by simp)
   exact eo hH cZ (ck w _) eE hK (by simpa using nA (w:=w) (aX ht) eE) dN ⟨[],rfl,by simp,rfl⟩
  obtain⟨z,hz⟩:=Option.isSome_iff_exists.1 hz
  obtain⟨ie,zv,h1,h2,h3,h4,_⟩:=fV hz
  have hd:V.aq (ad M φ H) φ H w ((parts.toList.map fun p=>(p.1,s.ev p.2)).map (·.2)) ((parts.map fun(i,x)=>(i,a.eval x)).toList.map (·.2)):=by
   have:=gx s a cN (parts.toList.map (·.2))
   simpa[Function.comp_def]using this
  have yV:(parts.map fun(i,x)=>(i,a.eval x)).toList.map (·.1)=List.range len:=by
   rw[<- Ny];simp[Function.comp_def]
  generalize Sj:(parts.map fun(i,x)=>(i,a.eval x)).toList=vp at hd yV
  generalize FB:(parts.toList.map fun p=>(p.1,s.ev p.2)).map (·.2)=sp at hd dB hK
  obtain⟨f1,f2,f3,f4,f5⟩:=cw hH (V.aQ sp) (bQ sp _ hd)
  have Sk:=V.az f2 _ _ hd
  have p9:=cF f1 sp ds _ f3 dB Sk
  have dv:∀v∈vp.map (·.2),v.cells.size=P.cellsOf e:=by
   intro v hv
   obtain⟨i,hi⟩:=List.mem_iff_getElem?.1 hv
   have hl:=D.ao _ _ p9
   have br:i<ds.length:=by rw[<- hl];exact(List.getElem?_eq_some_iff.1 hi).1
   obtain⟨v',pL,DM⟩:=D.dc _ _ i ds[i] p9 (by simp[br])
   rw[hi]at pL;injection pL with pL;subst pL
   have:=D.ao _ _ (D.dK _ _ DM).1
   rw[hw _ (List.getElem_mem br)]at this
   simpa using this
  have NA:vp.length=len:=by have:=congrArg List.length yV;simpa using this
  have GJ:Instr.fill (fun i=>some (i*ie.size,ie.size)) ((Array.range (len*ie.size)).map (zv.cells[· %zv.cells.size]!)) vp=some ((vp.map (·.2)).flatMap fun v=>v.cells.toList).toArray:=by
   rw[<- bG h1]
   have:=Great.fill_whole eE (vp.map (·.2)) ((Array.range (len*P.cellsOf e)).map (zv.cells[· %zv.cells.size]!)) dv (by simp[NA])
   rwa [<- sP vp len yV]at this
  have dO:=run_buildSlice (P:=P) w t e len (parts.map fun(i,x)=>(i,a.eval x)) _ ie zv (aX ht) h1 h2 (by rw[<- bG h1];omega) (by rw[<- bG h1];have:=Nat.mul_pos hlen eE;omega) (by rw[Sj];exact GJ)
  have NB:=D.ao _ _ p9
  have dN:=World.ownsRow_lit (base:=w.heap.size) (e:=e) (size:=P.cellsOf e) w ((vp.map (·.2)).flatMap fun v=>v.cells.toList).toArray len (Nat.le_refl _) (by have:=Nat.le_mul_of_pos_right len eE;simp[maxLen];omega) (by
   have:∀l:List Value,(∀v∈l,v.cells.size=P.cellsOf e)->(l.flatMap fun v=>v.cells.toList).length=l.length*P.cellsOf e:=by
    intro l
    induction l with
    |nil=>simp
    |cons x l ih=>intro hx;simp[hx x (by simp),ih (fun v hv=>hx v (by simp[hv])),Nat.add_mul,Nat.add_comm]
   have:=this (vp.map (·.2)) dv
   simpa[NA]using this)
  have qa:len=ds.length:=by rw[<- NB];simp[NA]
  obtain⟨g1,g2,g3⟩:=v3 (ty:=e) (sz:=P.cellsOf e) (es:=ds) f1 (fr:=fr) (fun hu=>cZ ((f5 fr).1 hu)) (ck w _) eE (by rw[<- qa];exact dN) ⟨vp.map (·.2),by simp,dv,p9⟩
  rw[<- cX]at g1 g2 g3
  refine⟨_,_,_,_,_,_,_,hK,by simp only[Sem.run_bind,dO,Result.andThen_ok];rfl, .inl rfl,g1,f2.trans g2,g3,fun id ag=> ?_⟩
  simp only[List.map_append,List.mem_append,List.map_cons,List.map_nil,List.mem_singleton]at ag
  rcases ag with ag|ag
  ·left
   refine bQ sp _ hd id ?_
   rw[iJ]at ag
   simpa[Function.comp_def]using ag
  ·exact .inr ag
 ·exact h.elim
theorem jq:∀ (vs:List Value),V.aQ (vs.map V.cE)=[]
 |[]=>rfl
 |v::vs=>by
  have h:(V.cE v).ids=[]:=by cases v<;>simp only[V.cE,V.ids]<;>split<;>rfl
  simp[V.aQ,h,jq vs]
theorem xr(hH:ai M φ H w){e:TypeId}{x:D}(h:aS P e=some x):∃i z ev,P.info? e=some i/\i.zero=some z/\z.cells.size=i.size/\Flat z.cells.toList/\ev.cells=z.cells/\D.den (ad M φ H) w x ev:=by
 unfold aS at h
 split at h
 ·rename_i zs hz
  obtain⟨i,z,h1,h2,h3,h4,rfl⟩:=fV hz
  have key:∀ds,bA (fun _=> .no) (z.cells.toList.map V.cE)=some ds->D.aq (ad M φ H) w ds z.cells.toList:=fun ds dB=>
   cF hH _ _ _ (by rw[jq];simp) dB (cR _ h4)
  split at h
  ·rename_i ds dB uJ
   injection h with h;subst h
   exact⟨i,z, .agg z.cells,h1,h2,h3,h4,rfl,z.cells,rfl,key ds dB,h4⟩
  ·rename_i y dB uJ
   injection h with h;subst h
   obtain⟨u,us,h5,h6,h7⟩:=key _ dB
   simp only[D.aq]at h7;subst h7
   have Bf:=h4 u (by rw[h5];simp)
   have hu:u.cells=#[u]:=by cases u<;>simp_all[Value.oneCell',Value.cells]
   refine⟨i,z,u,h1,h2,h3,h4, ?_,h6⟩
   rw[hu];apply Array.ext';simpa using h5.symm
  ·cases h
 ·cases h
theorem oq(z:Value)(n:Nat):(madeCells z.cells (n*z.cells.size)).toList=(List.replicate n z).flatMap (·.cells.toList):=by
 apply List.ext_getElem?
 intro i
 by_cases h0:z.cells.size=0
 ·have:z.cells.toList=[]:=by simpa using h0
  simp[madeCells,h0]
 ·have eE:0<z.cells.size:=by omega
  by_cases hi:i<n*z.cells.size
  ·have hd:i/z.cells.size<n:=Nat.div_lt_of_lt_mul (by rwa [Nat.mul_comm]at hi)
   have hm:=Nat.mod_lt i eE
   have:=jo z.cells.size (List.replicate n z) (i/z.cells.size) (i%z.cells.size) z z.cells[i%z.cells.size] (fun x hx=>by rw[(List.mem_replicate.1 hx).2]) (by simp[hd]) (by simp[hm])
   rw[Nat.mul_comm,Nat.div_add_mod]at this
   rw[this]
   simp[madeCells,List.getElem?_range hi,hm]
  ·have h1:(madeCells z.cells (n*z.cells.size)).toList.length=n*z.cells.size:=by simp[madeCells]
   have h2:((List.replicate n z).flatMap (·.cells.toList)).length=n*z.cells.size:=by simp[List.flatMap_replicate]
   rw[List.getElem?_eq_none (by omega),List.getElem?_eq_none (by omega)]
theorem pT(hH:ai M φ H w)(cZ: ¬H.us fr){t:TypeId}{l c:V}{lv cv:Value}(hl:V.den (ad M φ H) φ H w l lv)(hc:V.den (ad M φ H) φ H w c cv)
 (h:fR P fr t l c fun v Δ=>K v Δ []):bV M φ H w fr ((do let y <- Instr.makeSlice t lv cv;pure (Next.value y):Sem Next).run P w) K:=by
 unfold fR at h
 split at h
 ·rename_i e kl n kc m ht
  obtain⟨rfl,h0,eE,hb,hn,x,hx,hK⟩:=h
  simp only[V.den,D.den]at hl hc;subst hl;subst hc
  obtain⟨i,z,ev,h1,h2,h3,h4,h5,h6⟩:=xr hH hx
  obtain⟨k,rfl⟩:=Int.eq_ofNat_of_zero_le h0
  simp only[Int.toNat_natCast]at hb hn hK
  rw[lE h1]at hb
  obtain⟨w',r1,r2,r3⟩:=run_make_full (P:=P) w w.heap.size t e i z (P.cellsOf e) (aX ht) h1 h2 (bG h1).symm kl kc k (by omega) (by simp[maxLen];omega) (Nat.le_refl _)
  refine eo hH cZ (iI r3) eE hK r1 (by simpa using r2) ⟨List.replicate k ev, ?_, ?_, ?_⟩
  ·rw[bG h1, <- h3,oq]
   simp[List.flatMap_replicate,h5]
  ·intro v hv
   rw[(List.mem_replicate.1 hv).2,h5,h3,bG h1]
  ·clear r1 r2 hK hb hn
   induction k with
   |zero=>rfl
   |succ k ih=>exact⟨ev,List.replicate k ev,rfl,h6,ih (by omega)⟩
 ·exact h.elim
theorem kL(hH:ai M φ H w){y:V}{yv:Value}{new:List D}{sz:Nat}(hy:V.den (ad M φ H) φ H w y yv)(h:dF H.o y=some new)(hw:∀z∈new,z.cells.length=sz):
 (yv= .slice none 0 0/\new=[])\/∃a c evs,yv= .slice (some a) new.length c/\D.aq (ad M φ H) w new evs/\(∀ev∈evs,ev.cells.size=sz)/\
  (∀j u,(evs.flatMap (·.cells.toList))[j]? =some u->w.cell? (a.add j)=some u)/\Flat (evs.flatMap (·.cells.toList)):=by
 have Cy:∀ {evs:List Value},D.aq (ad M φ H) w new evs->(∀ev∈evs,ev.cells.size=sz)/\Flat (evs.flatMap (·.cells.toList)):=by
  intro evs hd
  have key:∀ev∈evs,ev.cells.size=sz/\Flat ev.cells.toList:=by
   intro ev cU
   obtain⟨i,hi⟩:=List.mem_iff_getElem?.1 cU
   have hl:=D.ao _ _ hd
   have br:i<new.length:=by rw[<- hl];exact(List.getElem?_eq_some_iff.1 hi).1
   obtain⟨v',pL,DM⟩:=D.dc _ _ i new[i] hd (by simp[br])
   rw[hi]at pL;injection pL with pL;subst pL
   have h1:=D.dK _ _ DM
   have h2:=D.ao _ _ h1.1
   rw[hw _ (List.getElem_mem br)]at h2
   exact⟨by simpa using h2,h1.2⟩
  refine⟨fun ev cU=>(key ev cU).1,fun u hu=> ?_⟩
  obtain⟨ev,h1,h2⟩:=List.mem_flatMap.1 hu
  exact(key ev h1).2 u h2
 have v5:D.den (ad M φ H) w (.sl new) yv->(yv= .slice none 0 0/\new=[])\/∃a c evs,yv= .slice (some a) new.length c/\D.aq (ad M φ H) w new evs/\(∀ev∈evs,ev.cells.size=sz)/\
  (∀j u,(evs.flatMap (·.cells.toList))[j]? =some u->w.cell? (a.add j)=some u)/\Flat (evs.flatMap (·.cells.toList)):=by
  rintro⟨base,len,cap,rfl,rfl,h2,h3,ki,h4⟩
  cases base with
  |none=>
   left
   have h5:=h3 rfl;subst h5
   have:new=[]:=by simpa using h2
   subst this;exact⟨rfl,rfl⟩
  |some a=>
   right
   obtain⟨h5,h6⟩:=h4 a rfl
   by_cases MQ:cap=0
   ·have:new=[]:=List.eq_nil_of_length_eq_zero (by omega)
    subst this
    exact⟨a,cap,[],rfl,rfl,by simp,by simp,by simp[Flat]⟩
   replace h5:=h5 MQ
   have key:∀ (es:List D) (i:Nat),(∀z∈es,z.cells.length=sz)->D.elems (ad M φ H) w ki a i es->
    ∃evs,D.aq (ad M φ H) w es evs/\∀j u,(evs.flatMap (·.cells.toList))[j]? =some u->w.cell? (a.add (i*sz+j))=some u:=by
    intro es
    induction es with
    |nil=>intro i _ _;exact⟨[],rfl,by simp⟩
    |cons e es ih=>
     intro i hz h
     obtain⟨⟨ev,k1,k2,k3⟩,k4⟩:=h
     obtain⟨evs,g1,g2⟩:=ih (i+1) (fun z Sl=>hz z (by simp[Sl])) k4
     have k5:ev.cells.size=sz:=by
      have:=D.ao _ _ (D.dK _ _ k3).1
      rw[hz e (by simp)]at this
      simpa using this
     refine⟨ev::evs,⟨ev,evs,rfl,k3,g1⟩,fun j u hj=> ?_⟩
     rw[List.flatMap_cons]at hj
     by_cases br:j<sz
     ·rw[List.getElem?_append_left (by simp;omega)]at hj
      have:=(k2 j u (by simpa using hj)).1
      rw[add_add a h5]at this
      rwa [<- k1,k5]at this
     ·rw[List.getElem?_append_right (by simp;omega)]at hj
      have:=g2 (j - sz) u (by simpa[k5]using hj)
      rwa [show(i+1)*sz+(j - sz)=i*sz+j by rw[Nat.add_mul];omega]at this
   obtain⟨evs,g1,g2⟩:=key new 0 hw h6
   obtain⟨s1,s2⟩:=Cy g1
   exact⟨a,cap,evs,rfl,g1,s1,fun j u hj=>by simpa using g2 j u hj,s2⟩
 unfold dF at h
 split at h
 ·rename_i es hD
  injection h with h;subst h
  cases y with
  |d x=>simp only[dn,Option.some.injEq]at hD;subst hD;exact v5 hy
  |aM=>simp only[dn,Option.some.injEq,D.sl.injEq]at hD;subst hD;exact .inl ⟨hy,rfl⟩
  |osl id ep=>
   obtain⟨_,_,oj⟩:=hy
   have a8:=hH.ok id
   simp only[dn]at hD
   cases hx:H.o id with
   |no=>simp[hx]at hD
   |row cs=>simp[hx]at hD
   |map kt vt l=>simp[hx]at hD
   |loop nf n env ps kg gv st xj=>simp[hx]at hD
   |eg l=>simp[hx]at hD
   |my l last=>simp[hx]at hD
   |n6 s pos=>simp[hx]at hD
   |arr eQ ty ki es'=>
    simp only[hx]at hD
    split at hD
    ·rename_i e;subst e
     simp only[Option.some.injEq,D.sl.injEq]at hD;subst hD
     simp only[aA,hx]at a8
     have hv:=(oj ep (by rw[hx];rfl)).2 rfl
     obtain⟨h0,xs,⟨hl,aZ⟩,evs,rfl,h2,h3⟩:=a8
     obtain⟨s1,s2⟩:=Cy h3
     rw[hv]
     rcases aZ with⟨h4,h5⟩|⟨g,cap,cur,h4,_,h5,h6,h7,h8,h9⟩
     ·exact .inl ⟨h4,by simpa using h5⟩
     ·right
      refine⟨_,cap,evs,h4,h3,s1,fun j u hj=> ?_,s2⟩
      refine lG h5 j u ?_
      rw[<- h9,List.getElem?_take]at hj
      split at hj
      ·simpa using hj
      ·cases hj
    ·cases hD
   |lu eQ es'=>
    simp only[hx]at hD
    split at hD
    ·rename_i e;subst e
     simp only[Option.some.injEq,D.sl.injEq]at hD;subst hD
     simp only[aA,hx]at a8
     have hv:=(oj ep (by rw[hx];rfl)).2 rfl
     rw[hv]at v5|-
     exact v5 a8
    ·cases hD
  |agg cs=>simp[dn]at hD
  |iface t x=>simp[dn]at hD
  |kG es'=>simp only[dn,Option.some.injEq,D.sl.injEq]at hD;subst hD;exact v5 hy.1
  |mp id=>simp only[dn]at hD;split at hD<;>simp at hD
  |_=>simp[dn]at hD
 ·cases h
theorem yW(hH:ai M φ H w){id ep:Nat}(de:H.us id){ty:TypeId}{sz:Nat}{es es':List D}(ho:H.o id= .arr ep ty sz es){val:Value}{NC:List Value}{m:Nat->Prop}(hk:dJ m w w')
 (hm:∀b,m b->dA (φ id)=some b) (du:∀b,dA val=some b->dA (φ id)=some b\/w.heap.size<=b) (dN:w'.ownsRow 0 ty sz val es'.length NC) (hd:eT (ad M φ H) w sz es' NC):
 let aj:=aV φ id val;let H':=H.put [(id, .arr (ep+1) ty sz es')]
 ai M aj H' w'/\Trans φ H w aj H' w'/\V.den (ad M aj H') aj H' w' (.osl id (ep+1)) val:=by
 intro aj H'
 have hl:(H.o id).live=true:=by rw[ho];rfl
 have ht:Trans φ H w aj H' w':={
  bO:=⟨hk.os,hk.tape,hk.output,hk.size,fun k h A0=>hk.block k h (fun e=>A0 ⟨id,hl,hm k e⟩)⟩
  grow:=by
   rintro b ⟨j,h1,h2⟩
   by_cases hj:j=id
   ·subst hj
    simp only[aj,aC,if_true]at h2
    rcases du b h2 with h3|h3
    ·exact .inl ⟨j,hl,h3⟩
    ·exact .inr h3
   ·simp[H',aj,hj]at h1 h2;exact .inl ⟨j,h1,h2⟩
  rel:={
   us:=fun j h=>by simp[H',h]
   row:=fun j hu hr=>by
    by_cases hj:j=id
    ·subst hj;simp[H',aa.bd]at hr
    ·simp[H',aj,hj]at hr|-;exact hr
   ep:=fun j e' hu he=>by
    by_cases hj:j=id
    ·subst hj;simp[H',aa.aO]at he;subst he;exact⟨ep,by rw[ho];rfl,Nat.le_succ _,fun h=>by omega⟩
    ·simp[H',aj,hj]at he|-;exact⟨e',he,Nat.le_refl _⟩}}
 have h0:=hH.ok id
 simp only[aA,ho]at h0
 refine⟨hH.of ht (· =id) (fun j h=> ?_) (fun j h=> ?_) (fun j h=> ?_) (fun i j b hi hj bi bj=> ?_) (fun b=> ?_),ht, ?_,by simp[H'],fun e he=> ?_⟩
 ·subst h
  unfold aA
  simp only[H',aY,aC,if_true]
  exact⟨h0.1,NC,by simpa[aj]using dN,hd.mono (ht.blocks (M:=M))⟩
 ·refine⟨by simp[H',h],by simp[aj,h],fun QI b hb=>hk.block b (hH.ours b ⟨j,QI,hb⟩).2 fun e=>h ?_⟩
  exact hH.apart j id b QI hl hb (hm b e)
 ·rw[cY]at h
  have h1:j≠id:=fun e=>h (.inr e)
  simp only[H',aY,aC,h1,if_false]
  exact hH.fresh j fun hu=>h (.inl hu)
 ·by_cases e1:i=id<;>by_cases e2:j=id
  ·exact e1.trans e2.symm
  ·subst e1
   simp[H',aj,e2]at hj bj bi
   rcases du b bi with h3|h3
   ·exact hH.apart i j b hl hj h3 bj
   ·have:=(hH.ours b ⟨j,hj,bj⟩).2;omega
  ·subst e2
   simp[H',aj,e1]at hi bi bj
   rcases du b bj with h3|h3
   ·exact hH.apart i j b hi hl bi h3
   ·have:=(hH.ours b ⟨i,hi,bi⟩).2;omega
  ·simp[H',aj,e1,e2]at hi hj bi bj
   exact hH.apart i j b hi hj bi bj
 ·rintro⟨j,h1,h2⟩
  by_cases hj:j=id
  ·subst hj;simp only[aj,aC,if_true]at h2;exact(gz dN b h2).2
  ·simp[H',aj,hj]at h1 h2
   exact Nat.lt_of_lt_of_le (hH.ours b ⟨j,h1,h2⟩).2 hk.size
 ·rcases dN.2 with⟨rfl,_⟩|⟨g,cap,cur,rfl,_⟩<;>rfl
 ·simp[H',aa.aO]at he
  subst he
  exact⟨Nat.le_refl _,fun _=>by simp[aj]⟩
theorem eT.append {B:Nat->Prop}{sz:Nat}{es new:List D}{xs:List Value}{evs:List Value}(h:eT B w sz es xs)(h1:D.aq B w new evs)(h2:∀ev∈evs,ev.cells.size=sz):
 eT B w sz (es++new) (xs++evs.flatMap (·.cells.toList)):=by
 obtain⟨ND,rfl,h3,h4⟩:=h
 refine⟨ND++evs,by simp,fun ev cU=> ?_,D.aT _ _ _ _ h4 h1⟩
 rcases List.mem_append.1 cU with h|h
 ·exact h3 ev h
 ·exact h2 ev h
theorem cm{sz:Nat}:∀ (evs:List Value),(∀ev∈evs,ev.cells.size=sz)->(evs.flatMap (·.cells.toList)).length=evs.length*sz
 |[],_=>by simp
 |x::l,hx=>by
  have:=cm l fun v hv=>hx v (by simp[hv])
  simp[this,hx x (by simp),Nat.add_mul,Nat.add_comm]
theorem uL(hH:ai M φ H w)(cZ: ¬H.us fr){ts:Array TypeId}{ty0:TypeId}{x y:V}{xv yv:Value}(hx:V.den (ad M φ H) φ H w x xv)(hy:V.den (ad M φ H) φ H w y yv)
 (h:ly P H.o fr ts x y K):bV M φ H w fr ((do let z <- Builtin.append_ ts ty0 #[xv,yv];pure (Next.value z):Sem Next).run P w) K:=by
 unfold ly at h
 split at h
 ·rename_i t t' uM
  obtain⟨rfl,h⟩:=h
  have uM:ts=#[t,t]:=by apply Array.ext';simpa using uM
  subst uM
  split at h
  ·rename_i e ht
   obtain⟨new,NF,eE,hz,hw,h⟩:=h
   obtain⟨zz,hz⟩:=Option.isSome_iff_exists.1 hz
   obtain⟨i,z,g1,g2,g3,g4,_⟩:=fV hz
   have hi:=bG g1
   have GK:=lE g1
   have v7:=kL hH hy NF hw
   split at h
   ·obtain⟨h1,h2,hK⟩:=h
    simp only[V.den]at hx;subst hx
    rcases v7 with⟨rfl,rfl⟩|⟨a,c,evs,rfl,k1,k2,k3,k4⟩
    ·refine eo hH cZ (dJ.refl _ _) eE hK (run_append_owned_none (P:=P) w 0 t ty0 e i i.size (aX ht) g1 _ 0 [] (World.ownsRow_nil w 0 e i.size)) ?_ ⟨[],rfl,by simp,rfl⟩
     exact World.ownsRow_nil w _ e _
    ·obtain⟨v',w',r1,r2,r3,_⟩:=run_append_own (P:=P) w w.heap.size t ty0 e i z (P.cellsOf e) (P.bytesOf e) (aX ht) g1 g2 hi.symm GK.symm (by rw[g3,hi]) eE _ 0 [] (World.ownsRow_nil w _ e _) a new.length c
      (evs.flatMap fun v:Value=>v.cells.toList) (by rw[cm evs k2,D.ao _ _ k1]) k3 (fun u hu=>k4 u hu) (by simp[maxLen];omega) (by simpa using h2) (Nat.le_refl _)
     refine eo hH cZ (iI r3) eE hK r1 (by simpa using r2) ⟨evs,rfl,k2,k1⟩
   ·rename_i es
    obtain⟨Sm,h⟩:=h
    have Cz:=kL (sz:=P.cellsOf e) hH (y:= .d (.sl es)) (new:=es) (show V.den (ad M φ H) φ H w (.d (.sl es)) xv from hx.1) (by simp[dF,dn]) Sm
    obtain⟨b,n,NG⟩:=hx.2
    subst NG
    split at h
    ·rename_i hn;subst hn
     have Nz:(sizeOf e).run P w= .ok i.size w:=by rw[df g1,hi]
     have hr:(Builtin.append_ #[t,t] ty0 #[.slice b n n,yv]).run P w= .ok (.slice b n n) w:=by
      rcases v7 with⟨rfl,_⟩|⟨a,c,evs,rfl,_⟩
      ·cases b<;>simp[Builtin.append_,run_underlying (aX ht),Nz,Builtin.lenOf,Builtin.firstCells,storeCells]
      ·cases b<;>simp[Builtin.append_,run_underlying (aX ht),Nz,Builtin.lenOf,Builtin.firstCells,storeCells,loadCells,loadCellsFrom]
     exact bV.same hH _ h (by simp only[Sem.run_bind,hr,Result.andThen_ok];rfl) hx
    ·rename_i eV
     obtain⟨h1,h2,hK⟩:=h
     rcases v7 with⟨rfl,rfl⟩|⟨a,c,evs,rfl,k1,k2,k3,k4⟩
     ·exact absurd rfl eV
     ·have hlen:(evs.flatMap (·.cells.toList)).length=new.length*P.cellsOf e:=by rw[cm evs k2,D.ao _ _ k1]
      rcases Cz with⟨e1,rfl⟩|⟨a',c',yX,e1,q1,q2,q3,q4⟩
      ·injection e1 with e1 e2 e3
       subst e1;subst e2
       obtain⟨v',w',r1,r2,r3,_⟩:=run_append_own (P:=P) w w.heap.size t ty0 e i z (P.cellsOf e) (P.bytesOf e) (aX ht) g1 g2 hi.symm GK.symm (by rw[g3,hi]) eE _ 0 [] (World.ownsRow_nil w _ e _) a new.length c
        (evs.flatMap fun v:Value=>v.cells.toList) (by rw[cm evs k2,D.ao _ _ k1]) k3 (fun u hu=>k4 u hu) (by simp[maxLen];simp at h1;omega) (by simp at h2|-;omega) (Nat.le_refl _)
       refine eo hH cZ (iI r3) eE hK r1 (by simpa using r2) ⟨evs,rfl,k2,k1⟩
      ·injection e1 with e1 e2 e3
       subst e1;subst e2
       have qa:(yX.flatMap (·.cells.toList)).length=es.length*P.cellsOf e:=by rw[cm yX q2,D.ao _ _ q1]
       have QJ:0<new.length:=by cases new with|nil=>exact absurd rfl eV|cons _ _=>simp
       have yY:es.length+new.length<=maxLen:=by simp[maxLen];omega
       have hr:=run_append_grow (P:=P) w t ty0 e i z (aX ht) g1 g2 a' es.length es.length _ (by rw[qa,hi]) q3 a new.length c _ (by rw[hlen,hi]) k3 (by omega) (by omega)
        (growslice_fits (by omega) (by rw[<- GK];omega))
       refine eo (xs:=yX.flatMap (·.cells.toList)++evs.flatMap (·.cells.toList)) hH cZ ?_ eE hK hr ?_ ⟨yX++evs,by simp,fun ev cU=> ?_,D.aT _ _ _ _ q1 k1⟩
       ·exact⟨rfl,rfl,rfl,by simp,fun k hk _=>RowKit.Below.heap_alloc w.drew _ k hk⟩
       ·have uN:=grownCap_ge w (es.length+new.length) es.length e
        refine⟨by rw[List.length_append,qa,hlen,List.length_append,Nat.add_mul], .inr ⟨w.heap.size,_,_,by rw[List.length_append],Nat.le_refl _,heap_alloc_new w.drew _,by rw[List.length_append];exact uN,
         grownCap_le_maxLen w _ _ e yY, ?_, ?_⟩⟩
        ·simp only[Array.size_append,List.size_toArray,size_zeroCells,g3,qa,hlen,hi, <- Nat.add_mul]
         congr 1
         omega
        ·have:(yX.flatMap (·.cells.toList)++evs.flatMap (·.cells.toList)).length=(es++new).length*P.cellsOf e:=by rw[List.length_append,qa,hlen,List.length_append,Nat.add_mul]
         simp only[Array.toList_append]
         rw[<- this]
         exact List.take_left
       ·rcases List.mem_append.1 cU with cU|cU
        ·exact q2 ev cU
        ·exact k2 ev cU
   ·rename_i id ep
    split at h
    ·rename_i eQ ty sz es ho
     obtain⟨rfl,rfl,rfl,h1,h2,hK⟩:=h
     obtain⟨_,de,oj⟩:=hx
     have hv:=(oj ep (by rw[ho];rfl)).2 rfl
     subst hv
     have a8:=hH.ok id
     simp only[aA,ho]at a8
     obtain⟨_,xs,dN,kn⟩:=a8
     have done:∀ {val:Value} {w':World} {m:Nat->Prop} {evs:List Value},(Builtin.append_ #[t,t] ty0 #[φ id,yv]).run P w= .ok val w'->dJ m w w'->(∀b,m b->dA (φ id)=some b)->
      (∀b,dA val=some b->dA (φ id)=some b\/w.heap.size<=b)->w'.ownsRow 0 ty (P.cellsOf ty) val (es++new).length (xs++evs.flatMap (·.cells.toList))->D.aq (ad M φ H) w new evs->
      (∀ev∈evs,ev.cells.size=P.cellsOf ty)->bV M φ H w fr ((do let z <- Builtin.append_ #[t,t] ty0 #[φ id,yv];pure (Next.value z):Sem Next).run P w) K:=by
      intro val w' m evs r1 r2 r3 r4 r5 r6 r7
      obtain⟨s1,s2,s3⟩:=yW hH de ho r2 r3 r4 r5 (kn.append r6 r7)
      exact⟨_,_,_,_,_,_,_,hK,by simp only[Sem.run_bind,r1,Result.andThen_ok];rfl, .inl rfl,s1,s2,s3,by simp[de]⟩
     rcases v7 with⟨rfl,rfl⟩|⟨a,c,evs,rfl,k1,k2,k3,k4⟩
     ·refine done (evs:=[]) (run_append_owned_none (P:=P) w 0 t ty0 ty i (P.cellsOf ty) (aX ht) g1 _ _ xs dN) (dJ.refl (fun _=>False) _) (fun _ h=>h.elim) (fun b hb=> .inl hb) (by simpa using dN) rfl (by simp)
     ·have hlen:(evs.flatMap (·.cells.toList)).length=new.length*P.cellsOf ty:=by rw[cm evs k2,D.ao _ _ k1]
      have yY:es.length+new.length<=maxLen:=by simp[maxLen];omega
      rcases dN.2 with⟨h3,h4⟩|⟨g,cap,cur,h3,h4,h5,h6,h7,h8,h9⟩
      ·have GL:w.ownsRow w.heap.size ty (P.cellsOf ty) (φ id) es.length xs:=⟨dN.1, .inl ⟨h3,h4⟩⟩
       obtain⟨v',w',r1,r2,r3,_⟩:=run_append_own (P:=P) w w.heap.size t ty0 ty i z (P.cellsOf ty) (P.bytesOf ty) (aX ht) g1 g2 hi.symm GK.symm (by rw[g3,hi]) eE _ _ xs GL a new.length c
        (evs.flatMap fun v:Value=>v.cells.toList) hlen k3 (fun u hu=>k4 u hu) yY h2 (Nat.le_refl _)
       refine done r1 (iI (by rw[h3]at r3;exact r3)) (fun _ h=>h.elim) (fun b hb=> .inr (gz r2 b hb).1) (by simpa using lI r2) k1 k2
      ·by_cases CA:es.length+new.length<=cap
       ·rw[h3]at dN
        obtain⟨w',r1,r2,r3⟩:=run_append_fits (P:=P) w 0 t ty0 ty i (P.cellsOf ty) (aX ht) g1 hi.symm g es.length cap xs dN a new.length c (evs.flatMap fun v:Value=>v.cells.toList) hlen k3 (fun u hu=>k4 u hu) CA
        rw[<- h3]at r1
        exact done (m:=(· =g)) r1 ⟨r3.os,r3.tape,r3.output,r3.size,fun k hk eV=>r3.block k hk (by simpa using eV)⟩ (fun b hb=>by subst hb;rw[h3];rfl) (fun b hb=> .inl (by rw[h3];exact hb)) (by simpa using r2) k1 k2
       ·have holds:∀j u,xs[j]? =some u->w.cell? ((⟨g,0,none⟩:Addr).add j)=some u:=dN.cells (g:=g) (by rw[h3];rfl)
        have hr:=run_append_grow (P:=P) w t ty0 ty i z (aX ht) g1 g2 ⟨g,0,none⟩ es.length cap xs (by rw[dN.1,hi]) holds a new.length c _ (by rw[hlen,hi]) k3 (by omega) (by simp[maxLen]at yY;omega)
         (growslice_fits (by omega) (by rw[<- GK];omega))
        rw[<- h3]at hr
        refine done (m:=fun _=>False) hr ⟨rfl,rfl,rfl,by simp,fun k hk _=>RowKit.Below.heap_alloc w.drew _ k hk⟩ (fun _ h=>h.elim) (fun b hb=> .inr (by simp[dA]at hb;omega)) ?_ k1 k2
        have uN:=grownCap_ge w (es.length+new.length) cap ty
        refine⟨by rw[List.length_append,dN.1,hlen,List.length_append,Nat.add_mul], .inr ⟨w.heap.size,_,_,by rw[List.length_append],Nat.zero_le _,heap_alloc_new w.drew _,by rw[List.length_append];exact uN,
         grownCap_le_maxLen w _ cap ty yY, ?_, ?_⟩⟩
        ·simp only[Array.size_append,List.size_toArray,size_zeroCells,g3,dN.1,hlen,hi, <- Nat.add_mul]
         congr 1
         omega
        ·have:(xs++evs.flatMap (·.cells.toList)).length=(es++new).length*P.cellsOf ty:=by rw[List.length_append,dN.1,hlen,List.length_append,Nat.add_mul]
         simp only[Array.toList_append,List.append_assoc]
         rw[<- List.append_assoc, <- this]
         exact List.take_left
    ·exact h.elim
   ·exact h.elim
  ·exact h.elim
 ·exact h.elim
end
end Go.Proofs.YtpkobkdgcanmjaaGreat
namespace Go.Proofs.YtpkobkdgcanmjaaGreat
section
variable {P:Program}{M:Nat->Prop}{φ:Place}{H:Hp}{w w':World}{fr:Nat}{K:V->List (Nat×aa)->List Nat->Prop}
theorem m8{t:TypeId}{b off:Nat}{ty:TypeId}{cur:Array Value}(hb:w.heap[b]? =some (.cells cur ty (0,0)))(v:Value)(hs:v.cells.size=P.cellsOf t)(eE:0<v.cells.size\/(P.info? t).isSome=true)
 (hle:off+v.cells.size<=cur.size) (hf:Flat v.cells.toList):
 (Instr.storeAt t (.pointer (some ⟨b,off,none⟩)) v).run P w= .ok () (w.setRow b (cur.toList.take off++v.cells.toList++cur.toList.drop (off+v.cells.size)).toArray):=by
 obtain⟨i,hi⟩:∃i,P.info? t=some i:=by
  rcases eE with eE|eE
  ·exact fW (P:=P) (e:=t) (by omega)
  ·exact Option.isSome_iff_exists.1 eE
 have:=run_storeCells_at (P:=P) b off ty v.cells.toList 0 cur w hb (by simpa using hle) (fun u hu=>hf u hu)
 simp only[Nat.add_zero,Array.length_toList]at this
 simp[Instr.storeAt,Instr.sureAddr,storeVar,df hi,hs,this]
theorem sQ{sz:Nat}:∀ (evs:List Value) (i off:Nat) (ev xu:Value) (us:List Value),(∀x∈evs,x.cells.size=sz)->evs[i]? =some ev->off+us.length<=sz->
 xu.cells.toList=ev.cells.toList.take off++us++ev.cells.toList.drop (off+us.length)->
 (evs.set i xu).flatMap (·.cells.toList)=(evs.flatMap (·.cells.toList)).take (i*sz+off)++us++(evs.flatMap (·.cells.toList)).drop (i*sz+off+us.length)
 |[],_,_,_,_,_,_,h,_,_=>by simp at h
 |x::evs,0,off,ev,xu,us,hs,h,hle,he=>by
  simp at h;subst h
  have hx:x.cells.toList.length=sz:=by simpa using hs x (by simp)
  simp only[List.set_cons_zero,List.flatMap_cons,Nat.zero_mul,Nat.zero_add,he]
  rw[List.take_append_of_le_length (by omega),List.drop_append_of_le_length (by omega)]
  simp[List.append_assoc]
 |x::evs,i+1,off,ev,xu,us,hs,h,hle,he=>by
  have hx:x.cells.toList.length=sz:=by simpa using hs x (by simp)
  have ih:=sQ evs i off ev xu us (fun y hy=>hs y (by simp[hy])) (by simpa using h) hle he
  simp only[List.set_cons_succ,List.flatMap_cons,ih]
  rw[show(i+1)*sz+off=x.cells.toList.length+(i*sz+off) by rw[Nat.add_mul,hx];omega,List.take_length_add_append,
   show x.cells.toList.length+(i*sz+off)+us.length=x.cells.toList.length+(i*sz+off+us.length) by omega,List.drop_length_add_append]
  simp[List.append_assoc]
theorem sR{α:Type}(l v:List α)(k m n:Nat)(hn:n=v.length)(h:k+n<=m)(hm:m<=l.length):(l.take k++v++l.drop (k+n)).take m=(l.take m).take k++v++(l.take m).drop (k+n):=by
 subst hn
 apply List.ext_getElem?
 intro i
 simp only[List.getElem?_append,List.getElem?_take,List.getElem?_drop,List.length_append,List.length_take]
 repeat' split
 all_goals first
  |rfl
  |omega
  |(congr 1;omega)
  |(symm;apply List.getElem?_eq_none;omega)
  |(apply List.getElem?_eq_none;omega)
  |skip
theorem yZ{B:Nat->Prop}{e e':D}{off:Nat}{ds:List D}(h:e.put off ds=some e'){ev:Value}(he:D.den B w e ev){us:List Value}(hu:D.aq B w ds us)(hf:Flat us):
 ∃xu,D.den B w e' xu/\xu.cells.toList=ev.cells.toList.take off++us++ev.cells.toList.drop (off+us.length)/\off+us.length<=ev.cells.size:=by
 have hl:=D.ao _ _ hu
 rcases D.jW _ _ he with⟨cs,a,rfl,rfl⟩|⟨h1,h2,h3⟩
 ·obtain⟨a',ha,h4,h5⟩:=he
  injection ha with ha;subst ha
  have Sn:=D.ao _ _ h4
  simp only[Array.length_toList]at Sn
  simp only[D.put]at h
  split at h
  ·rename_i hle
   injection h with h;subst h
   refine⟨.agg (a.toList.take off++us++a.toList.drop (off+us.length)).toArray,⟨_,rfl, ?_, ?_⟩,by simp[Value.cells],by simp[Value.cells];omega⟩
   ·simp only
    rw[hl]
    exact D.aT _ _ _ _ (D.aT _ _ _ _ (D.cQ _ _ _ h4) hu) (D.dp _ _ _ h4)
   ·intro x hx
    simp only[List.mem_append]at hx
    rcases hx with(hx|hx)|hx
    ·exact h5 x (List.mem_of_mem_take hx)
    ·exact hf x hx
    ·exact h5 x (List.mem_of_mem_drop hx)
  ·cases h
 ·have iL:off=0/\∃u,ds=[u]/\e'=u:=by
   cases e<;>simp only[D.put]at h<;>first
    |(split at h
      ·rename_i u;injection h with h;exact⟨rfl,u,rfl,h.symm⟩
      ·cases h)
    |(simp[D.cells]at h2;done)
    |skip
   obtain⟨a,rfl,_⟩:=he
   simp[Value.oneCell']at h1
  obtain⟨rfl,u,rfl,rfl⟩:=iL
  obtain⟨x,xs,rfl,h4,h5⟩:=hu
  simp only[D.aq]at h5;subst h5
  have hx:x.cells=#[x]:=by have:=hf x (by simp);cases x<;>simp_all[Value.oneCell',Value.cells]
  exact⟨x,h4,by simp[hx,h3],by simp[h3]⟩
theorem xw(hH:ai M φ H w){t:TypeId}{x v:V}{xv vv:Value}(hx:V.den (ad M φ H) φ H w x xv)(hv:V.den (ad M φ H) φ H w v vv)
 (h:od P H.o t x v fun Δ rd=>K (.bM []) Δ rd):bV M φ H w fr ((do Instr.storeAt t xv vv;pure Next.skip:Sem Next).run P w) K:=by
 unfold od at h
 split at h
 ·rename_i id off
  split at h
  ·rename_i cs ho
   obtain⟨cs',h1,hK⟩:=h
   obtain⟨_,de,hp⟩:=hx
   obtain⟨b,cM,rfl⟩:=hp (by rw[ho];rfl)
   have a8:=hH.ok id
   simp only[aA,ho]at a8
   obtain⟨b',cd,ty,g1,g2,g3,g4⟩:=a8
   rw[cM]at g1;simp at g1;subst g1
   unfold qV at h1
   split at h1
   ·rename_i us hc
    split at h1
    ·rename_i hle
     injection h1 with h1;subst h1
     obtain⟨k1,k2⟩:=V.jW _ _ _ hc hv
     have l1:=V.ao _ _ k1
     have l2:=V.ao _ _ g3
     simp only[Array.length_toList]at l1 l2
     have hr:=m8 (P:=P) (t:=t) (off:=off) g2 vv (by omega) (hle.2.1.imp (fun h=>by omega) (fun h=>h)) (by omega) k2
     obtain⟨t1,t2⟩:=sI (cs':=cs.take off++us++cs.drop (off+us.length)) hH de ho cM g2 (cd.toList.take off++vv.cells.toList++cd.toList.drop (off+vv.cells.size)).toArray (by
      simp only
      rw[l1]
      exact V.aT _ _ _ _ (V.aT _ _ _ _ (V.cQ _ _ _ g3) k1) (V.dp _ _ _ g3)) (by
      intro u hu
      simp only[List.mem_append]at hu
      rcases hu with(hu|hu)|hu
      ·exact g4 u (List.mem_of_mem_take hu)
      ·exact k2 u hu
      ·exact g4 u (List.mem_of_mem_drop hu))
     exact⟨_,_,_,_,_,_,_,hK,by simp only[Sem.run_bind,hr,Result.andThen_ok];rfl, .inr ⟨rfl,rfl⟩,t1,t2,⟨#[],rfl,rfl⟩,by simp[de]⟩
    ·cases h1
   ·cases h1
  ·exact h.elim
 ·rename_i id ep i ki off
  split at h
  ·rename_i eQ ty sz es ho
   obtain⟨rfl,rfl,e,he,y,hy,TO,hyp,eV,e',iL,hK⟩:=h
   obtain⟨_,de,hp⟩:=hx
   obtain⟨b,n,c,cM,rfl⟩:=(hp ep (by rw[ho];rfl)).2 rfl
   obtain⟨f1,f2,f3,f4,f5⟩:=cw hH v.ids (cl v _ hv)
   have ji:id∉v.ids:=fun hm=>by have:=List.all_eq_true.1 eV id hm;simp at this
   have lJ:=(f4 id ji).trans ho
   have NH:=dM f1 v y vv f3 hy (V.au f2 _ _ hv)
   obtain⟨k1,k2⟩:=D.dK _ _ NH
   have l1:=D.ao _ _ k1
   simp only[Array.length_toList]at l1
   have a8:=f1.ok id
   simp only[aA,lJ]at a8
   obtain⟨h0,xs,⟨hl,aZ⟩,evs,rfl,h2,h3⟩:=a8
   rcases aZ with⟨h4,h5⟩|⟨g,cap,cur,h4,h5,h6,h7,h8,h9,Cw⟩
   ·rw[cM]at h4;simp at h4
   ·rw[cM]at h4;simp at h4
    obtain⟨rfl,rfl,rfl⟩:=h4
    obtain⟨ev,cU,So⟩:=D.dc _ _ _ _ h3 he
    obtain⟨xu,p1,p2,p3⟩:=yZ iL So k1 k2
    simp only[Array.length_toList]at p2 p3
    have Sp:=h2 ev (List.mem_of_getElem? cU)
    have NI:i<es.length:=(List.getElem?_eq_some_iff.1 he).1
    have pU:i*ki+ki<=es.length*ki:=by
     rw[<- Nat.succ_mul];exact Nat.mul_le_mul_right _ NI
    have NJ:es.length*ki<=cur.size:=by rw[h9];exact Nat.mul_le_mul_right _ h7
    have hr:=m8 (P:=P) (t:=t) (off:=i*ki+off) h6 vv (by omega) (.inl (by omega)) (by omega) k2
    have Bj:=sQ evs i off ev xu vv.cells.toList h2 cU (by simpa using(by omega:off+vv.cells.size<=ki)) (by simpa using p2)
    simp only[Array.length_toList]at Bj
    have bt:((H.put (cg H.o v.ids)).o id).live=true:=by rw[lJ];rfl
    have ss:dA (φ id)=some b:=by rw[cM];rfl
    have GM:=(f5 id).2 de
    have ht:=ei (w:=w) (w':=w.setRow b (cur.toList.take (i*ki+off)++vv.cells.toList++cur.toList.drop (i*ki+off+vv.cells.size)).toArray) GM bt ss (gw w b _) (.arr ep ty ki (es.set i e')) (by rw[lJ];rfl) (by rw[lJ];rfl)
    have hh:=fI f1 GM bt ss (gw w b (cur.toList.take (i*ki+off)++vv.cells.toList++cur.toList.drop (i*ki+off+vv.cells.size)).toArray) (.arr ep ty ki (es.set i e')) (by rw[lJ];rfl) (by rw[lJ];rfl) (by
     unfold aA
     simp only[aY,aC,if_true]
     refine⟨h0,(evs.set i xu).flatMap (·.cells.toList),⟨?_, .inr ⟨b,c,_,by rw[List.length_set];exact cM,Nat.zero_le _,setRow_heap w b cur _ ty (0,0) h6,by rw[List.length_set];exact h7,h8, ?_, ?_⟩⟩,evs.set i xu,rfl, ?_, ?_⟩
     ·rw[Bj,List.length_set]
      simp only[List.length_append,List.length_take,List.length_drop,Array.length_toList,hl]
      omega
     ·simp only[List.size_toArray,List.length_append,List.length_take,List.length_drop,Array.length_toList]
      omega
     ·rw[Bj,List.length_set, <- Cw]
      exact sR cur.toList vv.cells.toList _ _ _ (by simp) (by omega) (by simpa using NJ)
     ·intro x hx
      rcases List.mem_or_eq_of_mem_set hx with hx|rfl
      ·exact h2 x hx
      ·have:=congrArg List.length p2
       simp only[Array.length_toList,List.length_append,List.length_take,List.length_drop]at this
       omega
     ·exact D.az (ht.blocks (M:=M)) _ _ (D.sG i es evs e' xu h3 p1))
    rw[<- cX]at hh ht
    refine⟨_,_,_,_,_,_,_,hK,by simp only[Sem.run_bind,hr,Result.andThen_ok];rfl, .inr ⟨rfl,rfl⟩,hh,f2.trans ht,⟨#[],rfl,rfl⟩,fun j hj=> ?_⟩
    simp only[List.map_append,List.mem_append,List.map_cons,List.map_nil,List.mem_singleton]at hj
    rcases hj with hj|hj
    ·left
     refine cl v _ hv j ?_
     rw[iJ]at hj
     simpa[Function.comp_def]using hj
    ·exact .inl (hj ▸ de)
  ·exact h.elim
 ·exact h.elim
end
end Go.Proofs.YtpkobkdgcanmjaaGreat
