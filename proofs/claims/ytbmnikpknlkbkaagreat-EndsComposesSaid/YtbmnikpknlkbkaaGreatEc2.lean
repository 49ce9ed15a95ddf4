/-
  A PART OF THE PROOF. Conditions: none.
-/
import Derived.Great.BuildSlice
import Derived.Great.FillDense
import Derived.Test.YtbmnikpknlkbkaaGreatEc1
set_option linter.unusedSimpArgs false
set_option linter.unusedVariables false
namespace Go.Proofs.YtbmnikpknlkbkaaGreat
def bK(M:Nat->Prop)(φ:Place)(H:Hp)(w:World)(fr:Nat)(r:Result Next)(K:V->List (Nat×aa)->List Nat->Prop):Prop:=
 ∃nx val w' ai v Δ rd,K v Δ rd/\r= .ok nx w'/\(nx= .value val\/nx= .skip/\val=undef)/\af M ai (H.put Δ) w'/\Trans φ H w ai (H.put Δ) w'/\
  V.den (ad M ai (H.put Δ)) ai (H.put Δ) w' v val/\(∀id∈Δ.map (·.1),H.us id\/id=fr)
section
variable {P:Program}{M:Nat->Prop}{φ:Place}{H:Hp}{w:World}{fr:Nat}{K:V->List (Nat×aa)->List Nat->Prop}
theorem bK.same (hH:af M φ H w){r:Result Next}{v:V}{rd:List Nat}(val:Value)(hK:K v [] rd)(hr:r= .ok (.value val) w)(hd:V.den (ad M φ H) φ H w v val):bK M φ H w fr r K:=
 ⟨_,val,w,φ,v,[],rd,hK,hr, .inl rfl,by rw[jv];exact hH,by rw[jv];exact Trans.refl _ _ _,by rw[jv];exact hd,by simp⟩
theorem bK.mono {r:Result Next}{K':V->List (Nat×aa)->List Nat->Prop}(h:bK M φ H w fr r K)(hk:∀v Δ rd,K v Δ rd->K' v Δ rd):bK M φ H w fr r K':=by
 obtain⟨nx,val,w',ai,v,Δ,rd,h1,h2⟩:=h
 exact⟨nx,val,w',ai,v,Δ,rd,hk _ _ _ h1,h2⟩
theorem info_of_underlying{t:TypeId}{d:TypeDesc}(h:P.underlying t=some d):∃i,P.info? t=some i:=by
 unfold Program.underlying at h
 cases hi:P.info? t with
 |none=>simp[hi]at h
 |some i=>exact⟨i,rfl⟩
theorem bf{t:TypeId}{i:TypeInfo}(h:P.info? t=some i):P.cellsOf t=i.size:=by simp[Program.cellsOf,h]
theorem ik{t:TypeId}{i:TypeInfo}(h:P.info? t=some i):P.bytesOf t=i.bytes:=by simp[Program.bytesOf,h]
theorem fH{t:TypeId}{z:List V}(h:aK P t=some z):∃i v,P.info? t=some i/\i.zero=some v/\v.cells.size=i.size/\Flat v.cells.toList/\z=v.cells.toList.map V.cn:=by
 unfold aK at h
 cases hi:P.info? t with
 |none=>simp[hi]at h
 |some i=>
  simp only[hi]at h
  cases hz:i.zero with
  |none=>simp[hz]at h
  |some v=>
   simp only[hz]at h
   split at h
   ·rename_i hc
    injection h with h
    exact⟨i,v,rfl,hz,hc.1,fun u hu=>List.all_eq_true.1 hc.2 u hu,h.symm⟩
   ·cases h
theorem lY{t:TypeId}(h:bd P t=some true)(w:World):(isAgg t).run P w= .ok true w:=by
 unfold bd at h
 unfold isAgg
 cases hd:P.underlying t with
 |none=>simp[hd]at h
 |some d=>cases d<;>simp_all[run_underlying hd]
theorem jZ{t:TypeId}(h:bd P t=some false)(w:World):(isAgg t).run P w= .ok false w:=by
 unfold bd at h
 unfold isAgg
 cases hd:P.underlying t with
 |none=>simp[hd]at h
 |some d=>cases d<;>simp_all[run_underlying hd]
theorem cG{t:TypeId}{i:TypeInfo}(h:P.info? t=some i)(w:World):(sizeOf t).run P w= .ok (P.cellsOf t) w:=by
 simp[sizeOf,typeInfo,h,bf h]
theorem lZ{t:TypeId}{b:Bool}(h:bd P t=some b):∃i,P.info? t=some i:=by
 unfold bd at h
 cases hd:P.underlying t with
 |none=>simp[hd]at h
 |some d=>exact info_of_underlying hd
theorem aN{t e:TypeId}(h:aB P t=some e):P.underlying t=some (.slice e):=by
 unfold aB at h
 cases hd:P.underlying t with
 |none=>simp[hd]at h
 |some d=>cases d<;>simp_all
theorem o3{t e:TypeId}{n:Nat}(h:bA P t=some (n,e)):P.underlying t=some (.array n e):=by
 unfold bA at h
 cases hd:P.underlying t with
 |none=>simp[hd]at h
 |some d=>cases d<;>simp_all
theorem add_zero(a:Addr):a.add 0=a:=by simp[Addr.add]
theorem add_plain(b o j:Nat):(⟨b,o,none⟩:Addr).add j=⟨b,o+j,none⟩:=by
 unfold Addr.add;split
 ·rename_i h;subst h;rfl
 ·rfl
theorem add_add(a:Addr)(h:a.spot=none)(m n:Nat):(a.add m).add n=a.add (m+n):=by
 obtain⟨b,o,s⟩:=a
 simp only at h;subst h
 simp only[add_plain,Nat.add_assoc]
theorem rv(a:Addr)(h:a.spot=none)(m:Nat):(a.add m).spot=none:=by
 unfold Addr.add;split<;>first|exact h|rfl
theorem iQ(s:S)(a:Act)(cA:∀i,V.den (ad M φ H) φ H w (s.env i) (a.tmps.getD i undef))(x:Operand):V.den (ad M φ H) φ H w (s.ev x) (a.eval x):=by
 cases x with
 |tmp t=>exact cA t
 |func f=>exact⟨#[],#[],rfl,rfl,rfl⟩
 |global g=>trivial
 |const v=>
  cases v with
  |agg c=>
   simp only[S.ev,V.ofConst,Act.eval]
   split
   ·rename_i hc
    have hf:Flat c.toList:=fun u hu=>List.all_eq_true.1 hc u hu
    exact gN _ _ (cF _ hf) hf
   ·trivial
  |tuple _=>trivial
  |_=>simp only[S.ev,V.ofConst,Act.eval];exact ig _ (by rfl)
theorem fZ(s:S)(a:Act)(cA:∀i,V.den (ad M φ H) φ H w (s.env i) (a.tmps.getD i undef)):∀ (xs:List Operand),V.ak (ad M φ H) φ H w (xs.map s.ev) (xs.map a.eval)
 |[]=>rfl
 |x::xs=>⟨a.eval x,xs.map a.eval,rfl,iQ s a cA x,fZ s a cA xs⟩
theorem iR{t:TypeId}(a:Addr)(us:List Value)(hc:∀j u,us[j]? =some u->w.cell? (a.add j)=some u):
 (bd P t=some true->us.length=P.cellsOf t->(Instr.loadAt t (.pointer (some a))).run P w= .ok (.agg us.toArray) w)/\
 (bd P t=some false->∀u,us[0]? =some u->(Instr.loadAt t (.pointer (some a))).run P w= .ok u w):=by
 constructor
 ·intro h hl
  obtain⟨i,hi⟩:=lZ h
  have h1:=run_loadCells_list (P:=P) w a us hc
  rw[hl]at h1
  simp[Instr.loadAt,Instr.sureAddr,loadVar,lY h,cG hi,h1]
 ·intro h u hu
  have h1:=hc 0 u hu
  rw[add_zero]at h1
  simp[Instr.loadAt,Instr.sureAddr,loadVar,jZ h,h1]
theorem kL{t:TypeId}{cs:List V}{off:Nat}{v:V}(hg:dq P t cs off=some v)(a:Addr)(vs:List Value)(hd:V.ak (ad M φ H) φ H w cs vs)(hf:Flat vs)
 (hc:∀j u,vs[j]? =some u->w.cell? (a.add j)=some u) (ha:a.spot=none):∃val,(Instr.loadAt t (.pointer (some (a.add off)))).run P w= .ok val w/\V.den (ad M φ H) φ H w v val:=by
 have hlen:=V.aj _ _ hd
 unfold dq at hg
 cases tj:bd P t with
 |none=>simp[tj]at hg
 |some b=>
  cases b with
  |true=>
   simp only[tj]at hg
   split at hg
   ·rename_i hle
    injection hg with hg;subst hg
    refine⟨.agg ((vs.drop off).take (P.cellsOf t)).toArray,(iR (P:=P) (t:=t) (a.add off) ((vs.drop off).take (P.cellsOf t)) ?_).1 tj (by simp;omega), ?_⟩
    ·intro j u hj
     rw[add_add a ha]
     rw[List.getElem?_take]at hj
     split at hj
     ·exact hc _ _ (by simpa using hj)
     ·cases hj
    ·refine gN _ _ ?_ ?_
     ·exact V.cE _ _ _ (V.cX _ _ _ hd)
     ·intro u hu
      exact hf u (List.mem_of_mem_drop (List.mem_of_mem_take (by simpa using hu)))
   ·cases hg
  |false=>
   simp only[tj]at hg
   obtain⟨u,hu,zf⟩:=V.cD _ _ _ _ hd hg
   refine⟨u,(iR (P:=P) (t:=t) (a.add off) (vs.drop off) ?_).2 tj u (by simpa using hu),zf⟩
   intro j x hj
   rw[add_add a ha]
   exact hc _ _ (by simpa using hj)
theorem iS(sz:Nat):∀ (evs:List Value) (i j:Nat) (ev:Value) (u:Value),(∀x∈evs,x.cells.size=sz)->evs[i]? =some ev->ev.cells[j]? =some u->
 (evs.flatMap (·.cells.toList))[i*sz+j]? =some u
 |[],_,_,_,_,_,h,_=>by simp at h
 |e::evs,0,j,ev,u,hs,h,hu=>by
  simp at h;subst h
  have:j<e.cells.size:=(Array.getElem?_eq_some_iff.1 hu).1
  rw[List.flatMap_cons,List.getElem?_append_left (by simp;omega)]
  simpa using hu
 |e::evs,i+1,j,ev,u,hs,h,hu=>by
  have ih:=iS sz evs i j ev u (fun x hx=>hs x (by simp[hx])) (by simpa using h) hu
  rw[List.flatMap_cons,List.getElem?_append_right (by simp[hs e (by simp),Nat.add_mul];omega)]
  simp only[Array.length_toList,hs e (by simp)]
  rw[show(i+1)*sz+j - sz=i*sz+j by rw[Nat.add_mul];omega]
  exact ih
theorem kM{g:Nat}{bY:Array Value}{ty:TypeId}{fz:Nat×Nat}(h:w.heap[g]? =some (.cells bY ty fz))(j:Nat)(u:Value)(hu:bY[j]? =some u):w.cell? ((⟨g,0,none⟩:Addr).add j)=some u:=by
 rw[add_plain,Nat.zero_add,cell_of_row w g j bY ty fz h];exact hu
theorem wO{B:Nat->Prop}{ty:TypeId}{sz:Nat}{es:List D}{v:Value}{b n c i:Nat}{e:D}
 (a8:0<sz/\∃xs,w.ownsRow 0 ty sz v es.length xs/\et B w sz es xs) (hv:v= .slice (some ⟨b,0,none⟩) n c) (he:es[i]? =some e):
 ∃ev:Value,ev.cells.size=sz/\D.ak B w e.cells ev.cells.toList/\Flat ev.cells.toList/\(∀j u,ev.cells.toList[j]? =some u->w.cell? ((⟨b,i*sz,none⟩:Addr).add j)=some u):=by
 obtain⟨h0,xs,⟨hl,aY⟩,evs,rfl,h2,h3⟩:=a8
 obtain⟨ev,cB,hd⟩:=D.cD _ _ _ _ h3 he
 have BV:=D.dz _ _ hd
 refine⟨ev,h2 ev (List.mem_of_getElem? cB),BV.1,BV.2,fun j u hj=> ?_⟩
 subst hv
 rcases aY with⟨h4,_⟩|⟨g,cap,cur,h4,_,h5,h6,h7,h8,h9⟩
 ·simp at h4
 ·simp at h4;obtain⟨rfl,_,rfl⟩:=h4
  have:=iS sz evs i j ev u h2 cB (by simpa using hj)
  rw[<- h9,List.getElem?_take]at this
  split at this
  ·have AK:=kM h5 (i*sz+j) u (by simpa using this)
   rw[add_plain]at AK|-
   simpa using AK
  ·cases this
theorem wP(hH:af M φ H w){t:TypeId}{x:V}{xv:Value}(hx:V.den (ad M φ H) φ H w x xv)
 (h:rn P H.o t x fun v rd=>K v [] rd):bK M φ H w fr ((do let y <- Instr.loadAt t xv;pure (Next.value y):Sem Next).run P w) K:=by
 have fin:∀ (v:V) rd,K v [] rd->(∃val,(Instr.loadAt t xv).run P w= .ok val w/\V.den (ad M φ H) φ H w v val)->bK M φ H w fr ((do let y <- Instr.loadAt t xv;pure (Next.value y):Sem Next).run P w) K:=by
  rintro v rd hK ⟨val,h1,h2⟩
  exact bK.same hH val hK (by simp[h1]) h2
 unfold rn at h
 split at h
 ·rename_i id off
  split at h
  ·rename_i cs ho
   obtain⟨v,h1,hK⟩:=h
   obtain⟨_,hu,hp⟩:=hx
   obtain⟨b,cz,rfl⟩:=hp (by rw[ho];rfl)
   have a8:=hH.ok id
   simp only[aq,ho]at a8
   obtain⟨b',bY,ty,g1,g2,g3,g4⟩:=a8
   rw[cz]at g1;simp at g1;subst g1
   refine fin v _ hK ?_
   have:=kL (P:=P) h1 ⟨b,0,none⟩ bY.toList g3 g4 (fun j u hj=>kM g2 j u (by simpa using hj)) rfl
   rwa [add_plain,Nat.zero_add]at this
  ·exact h.elim
 ·rename_i cs off
  obtain⟨v,h1,hK⟩:=h
  obtain⟨a,ev,ha,rfl,hd,hf,hc⟩:=hx
  exact fin v _ hK (kL h1 a ev ((V.bE _ _).2 hd) hf (fun j u hj=>(hc j u (by simpa using hj)).1) ha)
 ·rename_i id ep i sz off
  split at h
  ·rename_i eF ty jF es ho
   obtain⟨rfl,rfl,e,he,v,h1,hK⟩:=h
   obtain⟨_,hu,hp⟩:=hx
   obtain⟨b,n,c,cz,rfl⟩:=(hp ep (by rw[ho];rfl)).2 rfl
   have a8:=hH.ok id
   simp only[aq,ho]at a8
   obtain⟨ev,g1,g2,g3,g4⟩:=wO a8 cz he
   refine fin v _ hK ?_
   have:=kL (P:=P) h1 ⟨b,i*sz,none⟩ ev.cells.toList ((V.bE _ _).2 g2) g3 g4 rfl
   rwa [add_plain]at this
  ·exact h.elim
 ·exact h.elim
end
end Go.Proofs.YtbmnikpknlkbkaaGreat
namespace Go.Proofs.YtbmnikpknlkbkaaGreat
section
variable {P:Program}{M:Nat->Prop}{φ:Place}{H:Hp}{w:World}{fr:Nat}{K:V->List (Nat×aa)->List Nat->Prop}
theorem bK.plain (hH:af M φ H w){s:Sem Value}{v:V}{rd:List Nat}(val:Value)(hK:K v [] rd)(hr:s.run P w= .ok val w)(hd:V.den (ad M φ H) φ H w v val):
 bK M φ H w fr ((do let y <- s;pure (Next.value y):Sem Next).run P w) K:=bK.same hH val hK (by simp[hr]) hd
theorem ry{t:TypeId}{f q:Nat}(h:aW P t f=some q):∃fs fd,P.underlying t=some (.struct fs)/\fs[f]? =some fd/\P.cellsOf fd.type≠0/\fd.offset=q:=by
 unfold aW at h
 cases hd:P.underlying t with
 |none=>simp[hd]at h
 |some d=>
  cases d<;>simp only[hd]at h<;>try (cases h;done)
  rename_i fs
  cases hf:fs[f]? with
  |none=>simp[hf]at h
  |some fd=>
   simp only[hf]at h
   split at h
   ·cases h
   ·injection h with h
    exact⟨fs,fd,rfl,hf,by assumption,h⟩
theorem rz{t:TypeId}{f q:Nat}(h:aW P t f=some q)(a:Addr):(Instr.fieldAt t (.pointer (some a)) f).run P w= .ok (.pointer (some (a.add q))) w:=by
 obtain⟨fs,fd,h1,h2,h3,rfl⟩:=ry h
 have:∃i,P.info? fd.type=some i:=by
  cases hi:P.info? fd.type with
  |none=>simp[Program.cellsOf,hi]at h3
  |some i=>exact⟨i,rfl⟩
 obtain⟨i,hi⟩:=this
 simp[Instr.fieldAt,run_underlying h1,h2,Instr.sureAddr,fieldPlace,cG hi,h3]
def V.step (x:V)(q:Nat):Option V:=
 match x with
 | .ptr id off=>some (.ptr id (off+q))
 | .pp cs off=>some (.pp cs (off+q))
 | .pe id ep j sz off=>some (.pe id ep j sz (off+q))
 |_=>none
def V.place (o:Nat->aa):V->Prop
 | .ptr id _=>(o id).bc=true
 | .pe id ep _ _ _=>(o id).aL=some ep
 |_=>True
theorem rA{x y:V}{q:Nat}(h:x.step q=some y){xv:Value}(hx:V.den (ad M φ H) φ H w x xv)
 (hr:x.place H.o):
 ∃a,xv= .pointer (some a)/\V.den (ad M φ H) φ H w y (.pointer (some (a.add q))):=by
 cases x with
 |ptr id off=>
  simp only[V.step,Option.some.injEq]at h;subst h
  obtain⟨h1,h2,h3⟩:=hx
  obtain⟨b,h4,rfl⟩:=h3 hr
  exact⟨_,rfl,rfl,h2,fun _=>⟨b,h4,by rw[add_plain]⟩⟩
 |pp cs off=>
  simp only[V.step,Option.some.injEq]at h;subst h
  obtain⟨a,ev,ha,rfl,hd⟩:=hx
  exact⟨_,rfl,a,ev,ha,by rw[add_add a ha],hd⟩
 |pe id ep j sz off=>
  simp only[V.step,Option.some.injEq]at h;subst h
  obtain⟨h1,h2,h3⟩:=hx
  obtain⟨b,n,c,h4,rfl⟩:=(h3 ep hr).2 rfl
  refine⟨_,rfl,rfl,h2,fun e he=>⟨(h3 e he).1,fun heq=>⟨b,n,c,h4,by rw[add_plain,Nat.add_assoc]⟩⟩⟩
 |_=>simp[V.step]at h
theorem oH(hH:af M φ H w){t:TypeId}{f:Nat}{x:V}{xv:Value}(hx:V.den (ad M φ H) φ H w x xv)(h:fE P H.o t x f fun v=>K v [] []):
 bK M φ H w fr ((do let y <- Instr.fieldAt t xv f;pure (Next.value y):Sem Next).run P w) K:=by
 have fin:∀ (y:V) q,aW P t f=some q->x.step q=some y->x.place H.o->K y [] []->
  bK M φ H w fr ((do let y <- Instr.fieldAt t xv f;pure (Next.value y):Sem Next).run P w) K:=by
  intro y q hq hs hr hK
  obtain⟨a,rfl,hd⟩:=rA hs hx hr
  exact bK.plain hH _ hK (rz hq a) hd
 unfold fE at h
 split at h
 ·rename_i q hq
  split at h
  ·exact fin _ q hq rfl h.1 h.2
  ·exact fin _ q hq rfl trivial h
  ·exact fin _ q hq rfl h.1 h.2
  ·exact h.elim
 ·exact h.elim
theorem tk{B:Nat->Prop}{es:List D}{xv:Value}(hx:D.den B w (.sl es) xv){i:Nat}{y:D}(hy:es[i]? =some y):
 ∃a len cap ev,xv= .slice (some a) len cap/\i<len/\a.spot=none/\D.ak B w y.cells ev/\Flat ev/\eo B w (a.add (i*y.cells.length)) ev.toArray/\len=es.length:=by
 obtain⟨base,len,cap,rfl,rfl,h2,h3,sz,h4⟩:=hx
 have br:i<es.length:=(List.getElem?_eq_some_iff.1 hy).1
 cases base with
 |none=>have:=h3 rfl;omega
 |some a=>
  obtain⟨h5,h6⟩:=h4 a rfl
  obtain⟨ev,h7,h8,h9⟩:=D.oU es 0 i y h6 hy
  have AK:=D.dz _ _ h9
  have NN:y.cells.length=sz:=by rw[<- h7, <- D.aj _ _ AK.1];simp
  refine⟨a,es.length,cap,ev.cells.toList,rfl,br,h5 (by omega),AK.1,AK.2, ?_,rfl⟩
  rw[NN]
  simpa using h8
theorem jN{t e:TypeId}(ht:aB P t=some e)(a:Addr)(len cap:Nat)(k:IntKind)(i:Int)(h0:0<=i)(h1:i.toNat<len)(hc:0<P.cellsOf e):
 (Instr.indexAt t (.slice (some a) len cap) (.int k i)).run P w= .ok (.pointer (some (a.add (i.toNat*P.cellsOf e)))) w:=by
 have hu:=aN ht
 have:∃ie,P.info? e=some ie:=by
  cases hi:P.info? e with
  |none=>simp[Program.cellsOf,hi]at hc
  |some i=>exact⟨i,rfl⟩
 obtain⟨ie,hi⟩:=this
 have h2:0<=i/\i<(len:Int):=⟨h0,by omega⟩
 simp[Instr.indexAt,run_underlying hu,asIntOf,h2,cG hi]
theorem oI{t e:TypeId}{n:Nat}(ht:bA P t=some (n,e))(a:Addr)(k:IntKind)(i:Int)(h0:0<=i)(h1:i<n)(hi:∃ie,P.info? e=some ie):
 (Instr.indexAt t (.pointer (some a)) (.int k i)).run P w= .ok (.pointer (some (a.add (i.toNat*P.cellsOf e)))) w:=by
 have hu:=o3 ht
 obtain⟨ie,hi⟩:=hi
 have h2:0<=i/\i<(n:Int):=⟨h0,h1⟩
 simp[Instr.indexAt,run_underlying hu,asIntOf,Instr.sureAddr,h2,cG hi]
theorem oJ(hH:af M φ H w){t:TypeId}{x ix:V}{xv iv:Value}(hx:V.den (ad M φ H) φ H w x xv)(hi:V.den (ad M φ H) φ H w ix iv)
 (h:fD P H.o t x ix fun v rd=>K v [] rd):bK M φ H w fr ((do let y <- Instr.indexAt t xv iv;pure (Next.value y):Sem Next).run P w) K:=by
 unfold fD at h
 split at h
 ·rename_i k i
  simp only[V.den,D.den]at hi;subst hi
  have p7:∀ {e:TypeId} {es:List D} {rd},aB P t=some e->D.den (ad M φ H) w (.sl es) xv->(0<=i/\∃y,es[i.toNat]? =some y/\y.cells.length=P.cellsOf e/\0<P.cellsOf e/\K (.pp y.cells 0) [] rd)->
   bK M φ H w fr ((do let y <- Instr.indexAt t xv (.int k i);pure (Next.value y):Sem Next).run P w) K:=by
   rintro e es rd ht hd ⟨h0,y,hy,hc,dW,hK⟩
   obtain⟨a,len,cap,ev,rfl,h1,h2,h3,h4,h5,_⟩:=tk hd hy
   refine bK.plain hH _ hK (jN ht a len cap k i h0 h1 dW) ⟨a.add (i.toNat*P.cellsOf e),ev,rv a h2 _,by rw[add_zero],h3,h4, ?_⟩
   rw[<- hc];exact h5
  split at h
  ·rename_i e ht
   split at h
   ·exact p7 ht hx h
   ·exact p7 ht hx.1 h
   ·rename_i id ep
    split at h
    ·rename_i eF ty sz es ho
     obtain⟨rfl,h0,h1,rfl,dW,hK⟩:=h
     obtain⟨zg,cJ,mK⟩:=hx
     have hv:=(mK ep (by rw[ho];rfl)).2 rfl
     have a8:=hH.ok id
     simp only[aq,ho]at a8
     obtain⟨h3,xs,⟨_,aY⟩,_⟩:=a8
     rcases aY with⟨_,h5⟩|⟨g,cap,cur,h4,_⟩
     ·omega
     ·subst hv
      rw[h4]
      refine bK.plain hH _ hK (jN ht _ _ cap k i h0 h1 dW) ⟨rfl,cJ,fun e' dN=>⟨(mK e' dN).1,fun heq=>⟨g,es.length,cap,h4,by rw[add_plain];simp⟩⟩⟩
    ·rename_i eF es ho
     obtain⟨rfl,h⟩:=h
     obtain⟨zg,cJ,mK⟩:=hx
     have hv:=(mK ep (by rw[ho];rfl)).2 rfl
     have a8:=hH.ok id
     simp only[aq,ho]at a8
     exact p7 ht (hv ▸ a8) h
    ·exact h.elim
   ·exact h.elim
  ·split at h
   ·rename_i n e ht
    obtain⟨h0,h1,Ia,h⟩:=h
    have fin:∀ (y:V),x.step (i.toNat*P.cellsOf e)=some y->x.place H.o->K y [] []->
     bK M φ H w fr ((do let y <- Instr.indexAt t xv (.int k i);pure (Next.value y):Sem Next).run P w) K:=by
     intro y hs hr hK
     obtain⟨a,rfl,hd⟩:=rA hs hx hr
     refine bK.plain hH _ hK (oI ht a k i h0 h1 (Option.isSome_iff_exists.1 Ia)) hd
    split at h
    ·exact fin _ rfl h.1 h.2
    ·exact fin _ rfl trivial h
    ·exact fin _ rfl h.1 h.2
    ·exact h.elim
   ·exact h.elim
 ·exact h.elim
theorem BW(hH:af M φ H w){op:UnOp}{x:V}{xv:Value}(hx:V.den (ad M φ H) φ H w x xv)(h:EL op x fun v=>K v [] []):
 bK M φ H w fr ((do let y <- Op.unary op xv;pure (Next.value y):Sem Next).run P w) K:=by
 unfold EL at h
 split at h
 ·simp only[V.den,D.den]at hx;subst hx
  exact bK.plain hH _ h (by simp[Op.unary,Op.intArith]) rfl
 ·simp only[V.den,D.den]at hx;subst hx
  exact bK.plain hH _ h (by simp[Op.unary]) rfl
 ·exact h.elim
theorem gf{op:BinOp}{k:IntKind}{a b r:Int}(h:nq op k a b=some r):(Op.intBits op k a b).run P w= .ok (.int k r) w:=by
 unfold nq at h
 cases op<;>simp at h<;>subst h<;>simp[Op.intBits]
theorem mh{t:TypeId}(hu:P.underlying t=some .bool)(a b:Bool)(d:Nat):(Op.equalIn (d+1) t (.bool a) (.bool b)).run P w= .ok (a==b) w:=by
 simp[Op.equalIn,run_underlying hu]
theorem zh(hH:af M φ H w){op:BinOp}{t:TypeId}{p q:Operand}{x y:V}{xv yv:Value}(hx:V.den (ad M φ H) φ H w x xv)(hy:V.den (ad M φ H) φ H w y yv)
 (h:wK P op t x y fun v=>K v [] []):
 bK M φ H w fr ((do let y <- (do eqGuard op t p q xv yv;binOp op t xv yv);pure (Next.value y):Sem Next).run P w) K:=by
 unfold wK at h
 split at h
 ·rename_i k a k' b
  obtain⟨rfl,h⟩:=h
  simp only[V.den,D.den]at hx hy;subst hx;subst hy
  have hg:(eqGuard op t p q (.int k a) (.int k b)).run P w= .ok () w:=by
   unfold eqGuard;cases op<;>simp
  have fin:∀ (v:V) (val:Value),K v [] []->(binOp op t (.int k a) (.int k b)).run P w= .ok val w->V.den (ad M φ H) φ H w v val->
   bK M φ H w fr ((do let y <- (do eqGuard op t p q (.int k a) (.int k b);binOp op t (.int k a) (.int k b));pure (Next.value y):Sem Next).run P w) K:=by
   intro v val hK hr hd
   exact bK.plain hH val hK (by simp[hg,hr]) hd
  cases op<;>simp only[y7]at h
  case add=>exact fin _ _ h (by simp[binOp,Op.intArith]) rfl
  case sub=>exact fin _ _ h (by simp[binOp,Op.intArith]) rfl
  case mul=>exact fin _ _ h (by simp[binOp,Op.intArith]) rfl
  case quo=>exact fin _ _ h.2 (by simp[binOp,Op.intDiv,h.1]) rfl
  case rem=>exact fin _ _ h.2 (by simp[binOp,Op.intDiv,h.1]) rfl
  case and=>obtain⟨r,hr,hK⟩:=h;exact fin _ _ hK (by simp[binOp,gf hr]) rfl
  case or=>obtain⟨r,hr,hK⟩:=h;exact fin _ _ hK (by simp[binOp,gf hr]) rfl
  case xor=>obtain⟨r,hr,hK⟩:=h;exact fin _ _ hK (by simp[binOp,gf hr]) rfl
  case andNot=>obtain⟨r,hr,hK⟩:=h;exact fin _ _ hK (by simp[binOp,gf hr]) rfl
  all_goals
   obtain⟨r,hr,hK⟩:=h
   simp only[EK,Option.some.injEq]at hr
   subst hr
   exact fin _ _ hK (by simp[binOp,Op.intCmp];rfl) (by simp[V.den,D.den])
 ·rename_i a b
  simp only[V.den,D.den]at hx hy;subst hx;subst hy
  have hg:(eqGuard op t p q (.bool a) (.bool b)).run P w= .ok () w:=by
   unfold eqGuard;cases op<;>simp
  split at h
  ·obtain⟨hu,hK⟩:=h
   have h1:(Op.equal t (.bool a) (.bool b)).run P w= .ok (a==b) w:=mh hu a b 9999
   exact bK.plain hH (.bool (a==b)) hK (by simp[hg,binOp,h1]) rfl
  ·obtain⟨hu,hK⟩:=h
   have h1:(Op.equal t (.bool a) (.bool b)).run P w= .ok (a==b) w:=mh hu a b 9999
   exact bK.plain hH (.bool (a !=b)) hK (by simp[hg,binOp,h1,bne]) rfl
  ·exact h.elim
 ·rename_i a b
  obtain⟨u,rfl,rfl⟩:=hx
  obtain⟨v,rfl,rfl⟩:=hy
  have hg:(eqGuard op t p q (.string u) (.string v)).run P w= .ok () w:=by
   unfold eqGuard;cases op<;>simp
  split at h
  ·exact bK.plain hH (.bool (u.data.toList==v.data.toList)) h (by simp[hg,binOp,Op.stringOp,ByteArray.toList_eq]) rfl
  ·exact bK.plain hH (.bool (u.data.toList !=v.data.toList)) h (by simp[hg,binOp,Op.stringOp,ByteArray.toList_eq,bne]) rfl
  ·exact h.elim
 ·rename_i a b
  obtain⟨a',rfl,hx⟩:=hx
  obtain⟨b',rfl,hy⟩:=hy
  split at h
  ·obtain⟨r,hr,hK⟩:=h
   obtain⟨h1,h2⟩:=hr (ad M φ H) w (.agg a') (.agg b') ⟨a',rfl,hx⟩ ⟨b',rfl,hy⟩
   exact bK.plain hH (.bool r) hK (by simp[h2,binOp,h1]) rfl
  ·obtain⟨r,hr,hK⟩:=h
   obtain⟨h1,h2⟩:=hr (ad M φ H) w (.agg a') (.agg b') ⟨a',rfl,hx⟩ ⟨b',rfl,hy⟩
   exact bK.plain hH (.bool !r) hK (by simp[h2,binOp,h1]) rfl
  ·exact h.elim
 ·exact h.elim
theorem wQ(hH:af M φ H w){c a b:V}{cv av bv:Value}(hc:V.den (ad M φ H) φ H w c cv)(ha:V.den (ad M φ H) φ H w a av)(hb:V.den (ad M φ H) φ H w b bv)
 (h:rm c a b fun v=>K v [] []):bK M φ H w fr ((do pure (.value (if <- asBool cv then av else bv)):Sem Next).run P w) K:=by
 unfold rm at h
 split at h
 ·rename_i t
  simp only[V.den,D.den]at hc;subst hc
  have hr:((do pure (.value (if <- asBool (.bool t)then av else bv)):Sem Next).run P w)= .ok (.value (if t then av else bv)) w:=by simp[asBool]
  have fin:∀v,K v [] []->V.den (ad M φ H) φ H w v (if t then av else bv)->bK M φ H w fr ((do pure (.value (if <- asBool (.bool t)then av else bv)):Sem Next).run P w) K:=
   fun v hK hd=>bK.same hH _ hK hr hd
  cases t
  ·exact fin _ (h.2 rfl) (by simpa using hb)
  ·exact fin _ (h.1 rfl) (by simpa using ha)
 ·exact h.elim
theorem m5{t:TypeId}{e:TypeId}(hu:P.underlying t=some (.slice e))(base:Option Addr)(n c:Nat)(ty:TypeId):(Builtin.len_ #[t] ty #[.slice base n c]).run P w= .ok (goInt n) w:=by
 simp[Builtin.len_,run_underlying hu]
theorem zi(hH:af M φ H w){t ty:TypeId}{x:V}{xv:Value}(hx:V.den (ad M φ H) φ H w x xv)(h:wL P t H.o x fun v rd=>K v [] rd):
 bK M φ H w fr ((do let y <- Builtin.len_ #[t] ty #[xv];pure (Next.value y):Sem Next).run P w) K:=by
 unfold wL at h
 split at h
 ·rename_i e hu
  have fin:∀ {es:List D} {rd},D.den (ad M φ H) w (.sl es) xv->K (.d (.int .i64 es.length)) [] rd->bK M φ H w fr ((do let y <- Builtin.len_ #[t] ty #[xv];pure (Next.value y):Sem Next).run P w) K:=by
   rintro es rd ⟨base,len,cap,rfl,rfl,_⟩ hK
   exact bK.plain hH _ hK (m5 hu _ _ _ _) rfl
  split at h
  ·exact fin hx h
  ·simp only[V.den]at hx;subst hx
   exact bK.plain hH _ h (m5 hu _ _ _ _) rfl
  ·exact fin hx.1 h
  ·rename_i id ep
   split at h
   ·rename_i eF ty sz es ho
    obtain⟨rfl,hK⟩:=h
    obtain⟨zg,cJ,mK⟩:=hx
    have hv:=(mK ep (by rw[ho];rfl)).2 rfl
    have a8:=hH.ok id
    simp only[aq,ho]at a8
    obtain⟨h3,xs,⟨_,aY⟩,_⟩:=a8
    subst hv
    rcases aY with⟨h4,h5⟩|⟨g,cap,cur,h4,_⟩
    ·rw[h4];rw[h5]at hK;exact bK.plain hH _ hK (m5 hu _ _ _ _) rfl
    ·rw[h4];exact bK.plain hH _ hK (m5 hu _ _ _ _) rfl
   ·rename_i eF es ho
    obtain⟨rfl,hK⟩:=h
    obtain⟨zg,cJ,mK⟩:=hx
    have hv:=(mK ep (by rw[ho];rfl)).2 rfl
    have a8:=hH.ok id
    simp only[aq,ho]at a8
    exact fin (hv ▸ a8) hK
   ·exact h.elim
  ·exact h.elim
 ·rename_i hu
  split at h
  ·obtain⟨u,rfl,rfl⟩:=hx
   exact bK.plain hH (goInt u.size) h (by simp[Builtin.len_,run_underlying hu]) (by simp[V.den,D.den,goInt])
  ·exact h.elim
 ·rename_i n e hu
  exact bK.plain hH _ h (by simp[Builtin.len_,run_underlying hu];rfl) rfl
 ·exact h.elim
end
end Go.Proofs.YtbmnikpknlkbkaaGreat
namespace Go.Proofs.YtbmnikpknlkbkaaGreat
section
variable {P:Program}{M:Nat->Prop}{φ:Place}{H:Hp}{w:World}{fr:Nat}{K:V->List (Nat×aa)->List Nat->Prop}
def aa.fz:aa->aa
 | .arr ep _ _ es=> .ky ep es
 | .map _ _ l=> .dT l
 |o=>o
theorem il(o:Nat->aa)(ids:List Nat):b8 o ids=ids.map fun id=>(id,(o id).fz):=by
 unfold b8
 refine List.map_congr_left fun id _=> ?_
 cases o id<;>rfl
theorem nz(H:Hp){id:Nat}(hu:H.us id){x:aa}(hx:H.o id=x):H.put [(id,x)]=H:=by
 obtain⟨o,us⟩:=H
 simp only[Hp.put,put,List.foldl_cons,List.foldl_nil,Hp.mk.injEq,List.map_cons,List.map_nil,List.mem_singleton]
 constructor
 ·funext j
  by_cases hj:j=id
  ·subst hj;simpa using hx.symm
  ·simp[hj]
 ·funext j
  simp only[eq_iff_iff]
  exact⟨fun h=>h.elim (fun h=>h) fun e=>e ▸ hu, .inl⟩
theorem kN(o:Nat->aa):∀ (ids:List Nat) (H:Hp),af M φ H w->(∀id∈ids,H.us id)->(∀id,H.o id=o id\/H.o id=(o id).fz)->
 let H':=H.put (ids.map fun id=>(id,(o id).fz));af M φ H' w/\Trans φ H w φ H' w/\(∀id∈ids,H'.o id=(o id).fz)/\(∀id,H'.o id=o id\/H'.o id=(o id).fz)/\(∀id,id∉ids->H'.o id=H.o id)/\∀id,H'.us id↔H.us id
 |[],H,hH,_,ho=>by
  simp only[List.map_nil,jv]
  exact⟨hH,Trans.refl _ _ _,by simp,ho,by simp,by simp⟩
 |id::ids,H,hH,hu,ho=>by
  have h1:af M φ (H.put [(id,(o id).fz)]) w/\Trans φ H w φ (H.put [(id,(o id).fz)]) w:=by
   rcases ho id with h|h
   ·cases hx:o id with
    |arr ep ty sz es=>exact zd hH (hu id (by simp)) (h.trans hx)
    |map kt vt l=>exact uv hH (hu id (by simp)) (h.trans hx)
    |_=>
     rw[nz H (hu id (by simp)) (h.trans (by rw[hx];rfl))]
     exact⟨hH,Trans.refl _ _ _⟩
   ·rw[nz H (hu id (by simp)) h]
    exact⟨hH,Trans.refl _ _ _⟩
  have h2:∀j,(H.put [(id,(o id).fz)]).o j=o j\/(H.put [(id,(o id).fz)]).o j=(o j).fz:=by
   intro j
   by_cases hj:j=id
   ·subst hj;right;simp
   ·simpa[hj]using ho j
  have ih:=kN o ids (H.put [(id,(o id).fz)]) h1.1 (fun j hj=>by simp[hu j (by simp[hj])]) h2
  obtain⟨i1,i2,i3,i4,i5,i6⟩:=ih
  have e:H.put ((id::ids).map fun id=>(id,(o id).fz))=(H.put [(id,(o id).fz)]).put (ids.map fun id=>(id,(o id).fz)):=by
   rw[<- cN];rfl
  rw[e]
  refine⟨i1,h1.2.trans i2,fun j hj=> ?_,i4,fun j hj=> ?_,fun j=> ?_⟩
  ·rcases List.mem_cons.1 hj with rfl|hj
   ·by_cases hm:j∈ids
    ·exact i3 j hm
    ·rw[i5 j hm];simp
   ·exact i3 j hj
  ·simp only[List.mem_cons,not_or]at hj
   rw[i5 j hj.2];simp[hj.1]
  ·rw[i6 j,cO]
   exact⟨fun h=>h.elim (fun h=>h) fun e=>e ▸ hu id (by simp), .inl⟩
theorem cj(hH:af M φ H w)(ids:List Nat)(hu:∀id∈ids,H.us id):
 let H':=H.put (b8 H.o ids);af M φ H' w/\Trans φ H w φ H' w/\(∀id∈ids,H'.o id=(H.o id).fz)/\(∀id,id∉ids->H'.o id=H.o id)/\∀id,H'.us id↔H.us id:=by
 rw[il]
 obtain⟨a,b,c,_,d,e⟩:=kN H.o ids H hH hu (fun _=> .inl rfl)
 exact⟨a,b,c,d,e⟩
mutual
theorem b9:∀ (v:V) (val:Value),V.den (ad M φ H) φ H w v val->∀id∈v.ids,H.us id
 | .osl id ep,_,h,j,hj=>by simp[V.ids]at hj;subst hj;exact h.2.1
 | .mp id,_,h,j,hj=>by simp[V.ids]at hj;subst hj;exact h.2.1
 | .agg cs,_,h,j,hj=>by obtain⟨a,rfl,h,_⟩:=h;exact bG cs _ h j (by simpa[V.ids]using hj)
 | .iface t x,_,h,j,hj=>by obtain⟨u,rfl,h⟩:=h;exact b9 x u h j (by simpa[V.ids]using hj)
 | .d _,_,_,_,hj| .aI,_,_,_,hj| .bJ _,_,_,_,hj| .ptr _ _,_,_,_,hj| .pe _ _ _ _ _,_,_,_,hj| .pp _ _,_,_,_,hj| .func _ _ _,_,_,_,hj| .aE,_,_,_,hj| .jU _,_,_,_,hj| .nm _ _ _,_,_,_,hj| .dy,_,_,_,hj| .js _,_,_,_,hj=>by simp[V.ids]at hj
theorem bG:∀ (vs:List V) (vals:List Value),V.ak (ad M φ H) φ H w vs vals->∀id∈V.aP vs,H.us id
 |[],_,_,j,hj=>by simp[V.aP]at hj
 |v::vs,_,h,j,hj=>by
  obtain⟨u,us,rfl,h1,h2⟩:=h
  rcases List.mem_append.1 (show j∈v.ids++V.aP vs from hj)with hj|hj
  ·exact b9 v u h1 j hj
  ·exact bG vs us h2 j hj
end
mutual
theorem dA(hH:af M φ H w){o:Nat->aa}:∀ (v:V) (x:D) (val:Value),(∀id∈v.ids,H.o id=(o id).fz)->dk o v=some x->V.den (ad M φ H) φ H w v val->D.den (ad M φ H) w x val
 | .d y,x,val,_,h,hd=>by simp[dk]at h;subst h;exact hd
 | .aI,x,val,_,h,hd=>by
   simp[dk]at h;subst h
   simp only[V.den]at hd;subst hd
   exact⟨none,0,0,rfl,rfl,Nat.le_refl _,fun _=>rfl,0,fun a ha=>by cases ha⟩
 | .osl id ep,x,val,ho,h,hd=>by
   obtain⟨_,_,hd⟩:=hd
   have ho:=ho id (by simp[V.ids])
   have a8:=hH.ok id
   simp only[dk]at h
   cases hx:o id with
   |no=>simp[hx]at h
   |row cs=>simp[hx]at h
   |map kt vt l=>simp[hx]at h
   |loop nf n env ps jE fW st vm=>simp[hx]at h
   |dT l=>simp[hx]at h
   |lS l last=>simp[hx]at h
   |oB s pos=>simp[hx]at h
   |arr eF ty sz es=>
    simp only[hx]at h ho
    split at h
    ·rename_i e;subst e;injection h with h;subst h
     simp only[aa.fz]at ho
     simp only[aq,ho]at a8
     rw[(hd ep (by rw[ho];rfl)).2 rfl];exact a8
    ·cases h
   |ky eF es=>
    simp only[hx]at h ho
    split at h
    ·rename_i e;subst e;injection h with h;subst h
     simp only[aa.fz]at ho
     simp only[aq,ho]at a8
     rw[(hd ep (by rw[ho];rfl)).2 rfl];exact a8
    ·cases h
 | .mp id,x,val,ho,h,hd=>by
   obtain⟨_,_,hd⟩:=hd
   have ho:=ho id (by simp[V.ids])
   have a8:=hH.ok id
   simp only[dk]at h
   cases hx:o id with
   |map kt vt l=>
    simp only[hx]at h ho
    injection h with h;subst h
    simp only[aa.fz]at ho
    simp only[aq,ho]at a8
    rw[hd (by rw[ho];rfl)];exact a8
   |dT l=>
    simp only[hx]at h ho
    injection h with h;subst h
    simp only[aa.fz]at ho
    simp only[aq,ho]at a8
    rw[hd (by rw[ho];rfl)];exact a8
   |_=>simp[hx]at h
 | .agg cs,x,val,ho,h,hd=>by
   simp only[dk,Option.map_eq_some_iff]at h
   obtain⟨ds,h1,rfl⟩:=h
   obtain⟨a,rfl,h2,h3⟩:=hd
   exact⟨a,rfl,cp hH cs ds _ (fun id ag=>ho id (by simpa[V.ids]using ag)) h1 h2,h3⟩
 | .iface t y,x,val,ho,h,hd=>by
   simp only[dk,Option.map_eq_some_iff]at h
   obtain⟨z,h1,rfl⟩:=h
   obtain⟨u,rfl,h2⟩:=hd
   exact⟨u,rfl,dA hH y z u (fun id ag=>ho id (by simpa[V.ids]using ag)) h1 h2⟩
 | .bJ _,_,_,_,h,_| .ptr _ _,_,_,_,h,_| .pe _ _ _ _ _,_,_,_,h,_| .pp _ _,_,_,_,h,_| .func _ _ _,_,_,_,h,_| .aE,_,_,_,h,_| .nm _ _ _,_,_,_,h,_| .dy,_,_,_,h,_| .js _,_,_,_,h,_=>by simp[dk]at h
 | .jU es,x,val,_,h,hd=>by simp[dk]at h;subst h;exact hd.1
theorem cp(hH:af M φ H w){o:Nat->aa}:∀ (vs:List V) (xs:List D) (vals:List Value),(∀id∈V.aP vs,H.o id=(o id).fz)->bt o vs=some xs->V.ak (ad M φ H) φ H w vs vals->D.ak (ad M φ H) w xs vals
 |[],xs,vals,_,h,hd=>by simp[bt]at h;subst h;exact hd
 |v::vs,xs,vals,ho,h,hd=>by
  simp only[bt,Option.bind_eq_some_iff,Option.map_eq_some_iff]at h
  obtain⟨x,h1,ys,h2,rfl⟩:=h
  obtain⟨u,us,rfl,h3,h4⟩:=hd
  exact⟨u,us,rfl,dA hH v x u (fun id ag=>ho id (by simp[V.aP,ag])) h1 h3,cp hH vs ys us (fun id ag=>ho id (by simp[V.aP,ag])) h2 h4⟩
end
theorem mi(hH:af M φ H w)(de: ¬H.us fr){s:Sem Value}(cs:List V)(bY:Array Value)(ty:TypeId)(hK:K (.ptr fr 0) [(fr, .row cs)] [])
 (hr:s.run P w= .ok (.pointer (some ⟨w.heap.size,0,none⟩)) (w.alloc (.cells bY ty))) (hd:V.ak (ad M φ H) φ H w cs bY.toList) (hf:Flat bY.toList):
 bK M φ H w fr ((do let y <- s;pure (Next.value y):Sem Next).run P w) K:=by
 obtain⟨h1,h2,h3⟩:=zc hH de cs bY ty hd hf
 exact⟨_,_,_,_,_,_,_,hK,by simp[hr], .inl rfl,h1,h2,h3,by simp⟩
theorem vr(hH:af M φ H w)(de: ¬H.us fr){t:TypeId}(h:∃cs,aK P t=some cs/\K (.ptr fr 0) [(fr, .row cs)] []):
 bK M φ H w fr ((do let y <- Instr.alloc t true (.tuple #[]);pure (Next.value y):Sem Next).run P w) K:=by
 obtain⟨cs,hz,hK⟩:=h
 obtain⟨i,v,h1,h2,h3,h4,rfl⟩:=fH hz
 refine mi hH de _ v.cells t hK ?_ (cF _ h4) h4
 simp[Instr.alloc,zeroValue,typeInfo,h1,h2,newVar,newRow]
theorem zj(hH:af M φ H w)(de: ¬H.us fr){t:TypeId}{x:V}{xv:Value}(hx:V.den (ad M φ H) φ H w x xv)(h:∃cs,x.cells=some cs/\K (.ptr fr 0) [(fr, .row cs)] []):
 bK M φ H w fr ((do let y <- Instr.box t xv;pure (Next.value y):Sem Next).run P w) K:=by
 obtain⟨cs,hc,hK⟩:=h
 obtain⟨h1,h2⟩:=V.ju x xv cs hc hx
 refine mi hH de _ xv.cells t hK ?_ h1 h2
 simp[Instr.box,newVar,newRow]
theorem vu(off:Nat):∀ (us:List Value) (cells:Array Value),off+us.length<=cells.size->
 ((us.zipIdx.foldl (fun cs (p:Value×Nat)=>cs.setIfInBounds (off+p.2) p.1) cells)).toList=cells.toList.take off++us++cells.toList.drop (off+us.length):=by
 have key:∀ (us:List Value) (k:Nat) (cells:Array Value),off+k+us.length<=cells.size->
  (((us.zipIdx k).foldl (fun cs (p:Value×Nat)=>cs.setIfInBounds (off+p.2) p.1) cells)).toList=cells.toList.take (off+k)++us++cells.toList.drop (off+k+us.length):=by
  intro us
  induction us with
  |nil=>intro k cells h;simp
  |cons u us ih=>
   intro k cells h
   simp only[List.zipIdx_cons,List.foldl_cons]
   rw[ih (k+1) _ (by simp at h|-;omega)]
   simp only[Array.toList_setIfInBounds,List.length_cons]
   have br:off+k<cells.toList.length:=by simp at h|-;omega
   rw[show off+(k+1)=off+k+1 by omega,List.take_set,List.take_succ_eq_append_getElem br,List.set_append_right _ _ (by simp;omega)]
   simp only[List.length_take]
   rw[show min (off+k) cells.toList.length=off+k by omega,Nat.sub_self]
   simp only[List.set_cons_zero,List.append_assoc,List.cons_append,List.nil_append]
   rw[List.drop_set_of_lt (by omega)]
   congr 3
   rw[show off+k+1+us.length=off+k+(us.length+1) by omega]
 intro us cells h
 have:=key us 0 cells (by simpa using h)
 simpa using this
theorem rB(places:List (Nat×Nat)):∀ (parts:List (Nat×V)) (im:List (Nat×Value)) (cs cs':List V) (cells:Array Value),
 im.map (·.1)=parts.map (·.1)->V.ak (ad M φ H) φ H w (parts.map (·.2)) (im.map (·.2))->V.ak (ad M φ H) φ H w cs cells.toList->Flat cells.toList->mf places cs parts=some cs'->
 ∃eI,(∀place:Nat->Option (Nat×Nat),(∀i p,places[i]? =some p->place i=some p)->Instr.fill place cells im=some eI)/\V.ak (ad M φ H) φ H w cs' eI.toList/\Flat eI.toList
 |[],im,cs,cs',cells,h1,_,h3,h4,h=>by
  cases im with
  |nil=>simp[mf]at h;subst h;exact⟨cells,fun _ _=>rfl,h3,h4⟩
  |cons a l=>simp at h1
 |(i,v)::parts,im,cs,cs',cells,h1,h2,h3,h4,h=>by
  cases im with
  |nil=>simp at h1
  |cons a im=>
   obtain⟨i',val⟩:=a
   simp only[List.map_cons,List.cons.injEq]at h1
   obtain⟨rfl,h1⟩:=h1
   simp only[List.map_cons]at h2
   obtain⟨u,us,e,h5,h6⟩:=h2
   simp only[List.cons.injEq]at e
   obtain⟨rfl,rfl⟩:=e
   simp only[mf]at h
   split at h
   ·rename_i off size us s8 hc
    split at h
    ·rename_i cK
     obtain⟨g1,g2⟩:=V.ju v _ us hc h5
     have hl:=V.aj _ _ g1
     have LC:=V.aj _ _ h3
     have hs:=vu off val.cells.toList cells (by simp at hl LC|-;omega)
     rw[Array.length_toList]at hl LC
     have ih:=rB places parts im _ cs' (val.cells.toList.zipIdx.foldl (fun cs (p:Value×Nat)=>cs.setIfInBounds (off+p.2) p.1) cells) h1 h6 (by
      rw[hs]
      refine V.aQ _ _ _ _ (V.aQ _ _ _ _ (V.cE _ _ _ h3) g1) ?_
      rw[show val.cells.toList.length=us.length by simpa using hl]
      exact V.cX _ _ _ h3) (by
      rw[hs]
      intro x hx
      simp only[List.mem_append]at hx
      rcases hx with(hx|hx)|hx
      ·exact h4 x (List.mem_of_mem_take hx)
      ·exact g2 x hx
      ·exact h4 x (List.mem_of_mem_drop hx)) h
     obtain⟨eI,i1,i2⟩:=ih
     refine⟨eI,fun place hp=> ?_,i2⟩
     have i1:=i1 place hp
     simp only[Instr.fill,hp _ _ s8]
     rw[if_neg (by simp;omega), <- i1]
     have e:∀ (c:Array Value),c.zipIdx.foldl (fun cs (x:Value×Nat)=>cs.setIfInBounds (off+x.2) x.1) cells=c.toList.zipIdx.foldl (fun cs (x:Value×Nat)=>cs.setIfInBounds (off+x.2) x.1) cells:=by
      intro c;rw[<- Array.foldl_toList,Array.toList_zipIdx]
     rw[<- e]
    ·cases h
   ·cases h
theorem rC{t:TypeId}{pl:List (Nat×Nat)}(h:bS P t=some pl)(parts:List (Nat×Value))(cells eI:Array Value){i:TypeInfo}{z:Value}(hi:P.info? t=some i)(hz:i.zero=some z)(hc:z.cells=cells)
 (hf:∀place:Nat->Option (Nat×Nat),(∀i p,pl[i]? =some p->place i=some p)->Instr.fill place cells parts=some eI):
 P.built t parts=some eI:=by
 subst hc
 unfold bS at h
 unfold Program.built
 cases hd:P.underlying t with
 |none=>simp[hd]at h
 |some d=>
  cases d<;>simp only[hd]at h<;>try (cases h;done)
  case struct fs=>
   simp only[Option.ite_none_right_eq_some,Option.some.injEq]at h
   obtain⟨aC,rfl⟩:=h
   have hm:fs.toList.mapM (fun f=>(P.info? f.type).map fun i=>(f.offset,i.size))=some (fs.toList.map fun f=>(f.offset,P.cellsOf f.type)):=by
    generalize fs.toList=l at aC
    clear hf
    induction l with
    |nil=>rfl
    |cons f l ih=>
     simp only[List.all_cons,Bool.and_eq_true]at aC
     obtain⟨j,hj⟩:=Option.isSome_iff_exists.1 aC.1
     simp[List.mapM_cons,ih aC.2,hj,bf hj]
   simp only[hi,hz,hm]
   exact hf _ (by simp)
  case array n e=>
   simp only[Option.ite_none_right_eq_some,Option.some.injEq]at h
   obtain⟨aC,rfl⟩:=h
   obtain⟨j,hj⟩:=Option.isSome_iff_exists.1 aC
   simp only[hi,hz,hj]
   refine hf _ fun k p hp=> ?_
   rw[List.getElem?_map]at hp
   simp only[Option.map_eq_some_iff]at hp
   obtain⟨a,h1,rfl⟩:=hp
   rw[List.getElem?_range]at h1
   ·injection h1 with h1;subst h1;rw[bf hj]
   ·rcases Nat.lt_or_ge k n with hn|hn
    ·exact hn
    ·rw[List.getElem?_eq_none (by simpa using hn)]at h1;cases h1
theorem vw(hH:af M φ H w){t:TypeId}{parts:Array (Nat×Operand)}{s:S}{a:Act}(cA:∀i,V.den (ad M φ H) φ H w (s.env i) (a.tmps.getD i undef))
 (h:∃z pl cs,aK P t=some z/\bS P t=some pl/\mf pl z (parts.toList.map fun p=>(p.1,s.ev p.2))=some cs/\K (cS cs) [] []):
 bK M φ H w fr ((do let y <- Instr.build t (parts.map fun(i,x)=>(i,a.eval x));pure (Next.value y):Sem Next).run P w) K:=by
 obtain⟨z,pl,cs,hz,s8,ku,hK⟩:=h
 obtain⟨i,zv,h1,h2,h3,h4,rfl⟩:=fH hz
 have hd:V.ak (ad M φ H) φ H w ((parts.toList.map fun p=>(p.1,s.ev p.2)).map (·.2)) ((parts.map fun(i,x)=>(i,a.eval x)).toList.map (·.2)):=by
  have:=fZ s a cA (parts.toList.map (·.2))
  simpa[Function.comp_def]using this
 have he:(parts.map fun(i,x)=>(i,a.eval x)).toList.map (·.1)=(parts.toList.map fun p=>(p.1,s.ev p.2)).map (·.1):=by simp[Function.comp_def]
 obtain⟨eI,g1,g2,g3⟩:=rB (M:=M) (φ:=φ) (H:=H) (w:=w) pl _ _ _ cs zv.cells he hd (cF _ h4) h4 ku
 have hb:P.built t (parts.map fun(i,x)=>(i,a.eval x)).toList=some eI:=rC s8 _ zv.cells eI h1 h2 rfl g1
 exact bK.plain hH (.agg eI) hK (run_build w t _ eI hb) (gN _ _ g2 g3)
end
end Go.Proofs.YtbmnikpknlkbkaaGreat
namespace Go.Proofs.YtbmnikpknlkbkaaGreat
section
variable {P:Program}{M:Nat->Prop}{φ:Place}{H:Hp}{w w':World}{fr:Nat}{K:V->List (Nat×aa)->List Nat->Prop}
theorem kO{base:Nat}{e:TypeId}{sz n:Nat}{v:Value}{xs:List Value}(h:w.ownsRow base e sz v n xs):w.ownsRow 0 e sz v n xs:=by
 obtain⟨h1,h2⟩:=h
 refine⟨h1, ?_⟩
 rcases h2 with h2|⟨g,cap,cur,a,_,b⟩
 ·exact .inl h2
 ·exact .inr ⟨g,cap,cur,a,Nat.zero_le _,b⟩
theorem gh{base:Nat}{e:TypeId}{sz n:Nat}{v:Value}{xs:List Value}(h:w.ownsRow base e sz v n xs)(b:Nat)(hb:cW v=some b):base<=b/\b<w.heap.size:=by
 rcases h.2 with⟨rfl,_⟩|⟨g,cap,cur,rfl,h1,h2,_⟩
 ·cases hb
 ·simp[cW]at hb;subst hb
  exact⟨h1,(Array.getElem?_eq_some_iff.1 h2).1⟩
theorem et.mono {B B':Nat->Prop}(hb:∀b,bC w b-> ¬B b->w'.heap[b]? =w.heap[b]? /\ ¬B' b){sz:Nat}{es:List D}{xs:List Value}(h:et B w sz es xs):et B' w' sz es xs:=by
 obtain⟨evs,h1,h2,h3⟩:=h
 exact⟨evs,h1,h2,D.aw hb es evs h3⟩
theorem uw(hH:af M φ H w)(de: ¬H.us fr)(hk:dh (fun _=>False) w w'){val:Value}{ty:TypeId}{sz:Nat}{es:List D}{xs:List Value}(cK:0<sz)
 (dm:w'.ownsRow w.heap.size ty sz val es.length xs) (hd:et (ad M φ H) w sz es xs):
 let ai:=aV φ fr val;let H':=H.put [(fr, .arr 0 ty sz es)]
 af M ai H' w'/\Trans φ H w ai H' w'/\V.den (ad M ai H') ai H' w' (.osl fr 0) val:=by
 intro ai H'
 have ht:Trans φ H w ai H' w':=cY hk de _ _ fun b hb=>(gh dm b hb).1
 refine⟨eS hH hk de _ _ (gh dm) ?_,ht, ?_,by simp[H'],fun e he=> ?_⟩
 ·unfold aq
  simp only[aU,ax,if_true]
  exact⟨cK,xs,kO dm,hd.mono (ht.blocks (M:=M))⟩
 ·rcases dm.2 with⟨rfl,_⟩|⟨g,cap,cur,rfl,_⟩<;>rfl
 ·simp[H',aa.aL]at he
  subst he
  exact⟨Nat.le_refl _,fun _=>by simp[ai]⟩
theorem dt(hH:af M φ H w)(de: ¬H.us fr)(hk:dh (fun _=>False) w w'){s:Sem Value}{val:Value}{ty:TypeId}{sz:Nat}{es:List D}{xs:List Value}{rd:List Nat}(cK:0<sz)
 (hK:K (.osl fr 0) [(fr, .arr 0 ty sz es)] rd) (hr:s.run P w= .ok val w') (dm:w'.ownsRow w.heap.size ty sz val es.length xs) (hd:et (ad M φ H) w sz es xs):
 bK M φ H w fr ((do let y <- s;pure (Next.value y):Sem Next).run P w) K:=by
 obtain⟨h1,h2,h3⟩:=uw hH de hk cK dm hd
 exact⟨_,_,_,_,_,_,_,hK,by simp[hr], .inl rfl,h1,h2,h3,by simp⟩
theorem fI{e:TypeId}(h:0<P.cellsOf e):∃i,P.info? e=some i:=by
 cases hi:P.info? e with
 |none=>simp[Program.cellsOf,hi]at h
 |some i=>exact⟨i,rfl⟩
theorem rD(parts:List (Nat×Value))(n:Nat)(h:parts.map (·.1)=List.range n):parts=((parts.map (·.2)).zipIdx 0).map fun x=>(x.2,x.1):=by
 apply List.ext_getElem?
 intro i
 have hl:parts.length=n:=by have:=congrArg List.length h;simpa using this
 rw[List.getElem?_map,List.getElem?_zipIdx,List.getElem?_map]
 cases hp:parts[i]? with
 |none=>simp
 |some p=>
  have h1:(parts.map (·.1))[i]? =some p.1:=by simp[hp]
  rw[h,List.getElem?_range (by have:=(List.getElem?_eq_some_iff.1 hp).1;omega)]at h1
  simp at h1
  obtain⟨p1,p2⟩:=p
  simp_all
theorem mL{t e:TypeId}(ht:P.underlying t=some (.slice e))(dW:0<P.cellsOf e):(Instr.buildSlice t 0 #[]).run P w= .ok (.slice (some ⟨w.heap.size,0,none⟩) 0 0) (w.alloc (.cells #[] e)):=by
 obtain⟨i,hi⟩:=fI dW
 have h1:(underlying t).run P w= .ok (.slice e) w:=by simp[Go.underlying,ht]
 have h2:(sizeOf e).run P w= .ok i.size w:=by simp[Go.sizeOf,Go.typeInfo,hi]
 simp[Instr.buildSlice,h1,h2,Instr.fill,newRow]
 congr 2
 exact Array.eq_empty_of_size_eq_zero (by simp)
theorem nA(hH:af M φ H w)(de: ¬H.us fr){t:TypeId}{len:Nat}{parts:Array (Nat×Operand)}{s:S}{a:Act}(cA:∀i,V.den (ad M φ H) φ H w (s.env i) (a.tmps.getD i undef))
 (h:eR P H.o fr t len (parts.toList.map fun p=>(p.1,s.ev p.2)) K):
 bK M φ H w fr ((do let y <- Instr.buildSlice t len (parts.map fun(i,x)=>(i,a.eval x));pure (Next.value y):Sem Next).run P w) K:=by
 unfold eR at h
 split at h
 ·rename_i e ht
  rcases h with⟨rfl,Hy,dW,hK⟩|⟨Ib,hz,hlen,dW,Ic,ds,dp,hw,hK⟩
  ·have zk:parts=#[]:=by
    have:=congrArg List.length Hy
    simp at this
    exact this
   subst zk
   have dm:=World.ownsRow_lit (base:=w.heap.size) (e:=e) (size:=P.cellsOf e) w #[] 0 (Nat.le_refl _) (Nat.zero_le _) (by simp)
   exact dt hH de (bF w _) dW hK (by simpa using mL (w:=w) (aN ht) dW) dm ⟨[],rfl,by simp,rfl⟩
  obtain⟨z,hz⟩:=Option.isSome_iff_exists.1 hz
  obtain⟨ie,zv,h1,h2,h3,h4,_⟩:=fH hz
  have hd:V.ak (ad M φ H) φ H w ((parts.toList.map fun p=>(p.1,s.ev p.2)).map (·.2)) ((parts.map fun(i,x)=>(i,a.eval x)).toList.map (·.2)):=by
   have:=fZ s a cA (parts.toList.map (·.2))
   simpa[Function.comp_def]using this
  have wR:(parts.map fun(i,x)=>(i,a.eval x)).toList.map (·.1)=List.range len:=by
   rw[<- Ib];simp[Function.comp_def]
  generalize NO:(parts.map fun(i,x)=>(i,a.eval x)).toList=vp at hd wR
  generalize AL:(parts.toList.map fun p=>(p.1,s.ev p.2)).map (·.2)=sp at hd dp hK
  obtain⟨f1,f2,f3,f4,f5⟩:=cj hH (V.aP sp) (bG sp _ hd)
  have NP:=V.aw f2 _ _ hd
  have o4:=cp f1 sp ds _ f3 dp NP
  have cK:∀v∈vp.map (·.2),v.cells.size=P.cellsOf e:=by
   intro v hv
   obtain⟨i,hi⟩:=List.mem_iff_getElem?.1 hv
   have hl:=D.aj _ _ o4
   have br:i<ds.length:=by rw[<- hl];exact(List.getElem?_eq_some_iff.1 hi).1
   obtain⟨v',mM,zl⟩:=D.cD _ _ i ds[i] o4 (by simp[br])
   rw[hi]at mM;injection mM with mM;subst mM
   have:=D.aj _ _ (D.dz _ _ zl).1
   rw[hw _ (List.getElem_mem br)]at this
   simpa using this
  have Ie:vp.length=len:=by have:=congrArg List.length wR;simpa using this
  have EN:Instr.fill (fun i=>some (i*ie.size,ie.size)) ((Array.range (len*ie.size)).map (zv.cells[· %zv.cells.size]!)) vp=some ((vp.map (·.2)).flatMap fun v=>v.cells.toList).toArray:=by
   rw[<- bf h1]
   have:=Great.fill_whole dW (vp.map (·.2)) ((Array.range (len*P.cellsOf e)).map (zv.cells[· %zv.cells.size]!)) cK (by simp[Ie])
   rwa [<- rD vp len wR]at this
  have dB:=run_buildSlice (P:=P) w t e len (parts.map fun(i,x)=>(i,a.eval x)) _ ie zv (aN ht) h1 h2 (by rw[<- bf h1];omega) (by rw[<- bf h1];have:=Nat.mul_pos hlen dW;omega) (by rw[NO];exact EN)
  have Ig:=D.aj _ _ o4
  have dm:=World.ownsRow_lit (base:=w.heap.size) (e:=e) (size:=P.cellsOf e) w ((vp.map (·.2)).flatMap fun v=>v.cells.toList).toArray len (Nat.le_refl _) (by have:=Nat.le_mul_of_pos_right len dW;simp[maxLen];omega) (by
   have:∀l:List Value,(∀v∈l,v.cells.size=P.cellsOf e)->(l.flatMap fun v=>v.cells.toList).length=l.length*P.cellsOf e:=by
    intro l
    induction l with
    |nil=>simp
    |cons x l ih=>intro hx;simp[hx x (by simp),ih (fun v hv=>hx v (by simp[hv])),Nat.add_mul,Nat.add_comm]
   have:=this (vp.map (·.2)) cK
   simpa[Ie]using this)
  have o6:len=ds.length:=by rw[<- Ig];simp[Ie]
  obtain⟨g1,g2,g3⟩:=uw (ty:=e) (sz:=P.cellsOf e) (es:=ds) f1 (fr:=fr) (fun hu=>de ((f5 fr).1 hu)) (bF w _) dW (by rw[<- o6];exact dm) ⟨vp.map (·.2),by simp,cK,o4⟩
  rw[<- cN]at g1 g2 g3
  refine⟨_,_,_,_,_,_,_,hK,by simp only[Sem.run_bind,dB,Result.andThen_ok];rfl, .inl rfl,g1,f2.trans g2,g3,fun id ag=> ?_⟩
  simp only[List.map_append,List.mem_append,List.map_cons,List.map_nil,List.mem_singleton]at ag
  rcases ag with ag|ag
  ·left
   refine bG sp _ hd id ?_
   rw[il]at ag
   simpa[Function.comp_def]using ag
  ·exact .inr ag
 ·exact h.elim
theorem iT:∀ (vs:List Value),V.aP (vs.map V.cn)=[]
 |[]=>rfl
 |v::vs=>by
  have h:(V.cn v).ids=[]:=by cases v<;>simp only[V.cn,V.ids]<;>split<;>rfl
  simp[V.aP,h,iT vs]
theorem o7(hH:af M φ H w){e:TypeId}{x:D}(h:aR P e=some x):∃i z ev,P.info? e=some i/\i.zero=some z/\z.cells.size=i.size/\Flat z.cells.toList/\ev.cells=z.cells/\D.den (ad M φ H) w x ev:=by
 unfold aR at h
 split at h
 ·rename_i zs hz
  obtain⟨i,z,h1,h2,h3,h4,rfl⟩:=fH hz
  have key:∀ds,bt (fun _=> .no) (z.cells.toList.map V.cn)=some ds->D.ak (ad M φ H) w ds z.cells.toList:=fun ds dp=>
   cp hH _ _ _ (by rw[iT];simp) dp (cF _ h4)
  split at h
  ·rename_i ds dp tj
   injection h with h;subst h
   exact⟨i,z, .agg z.cells,h1,h2,h3,h4,rfl,z.cells,rfl,key ds dp,h4⟩
  ·rename_i y dp tj
   injection h with h;subst h
   obtain⟨u,us,h5,h6,h7⟩:=key _ dp
   simp only[D.ak]at h7;subst h7
   have zg:=h4 u (by rw[h5];simp)
   have hu:u.cells=#[u]:=by cases u<;>simp_all[Value.oneCell',Value.cells]
   refine⟨i,z,u,h1,h2,h3,h4, ?_,h6⟩
   rw[hu];apply Array.ext';simpa using h5.symm
  ·cases h
 ·cases h
theorem iU(z:Value)(n:Nat):(madeCells z.cells (n*z.cells.size)).toList=(List.replicate n z).flatMap (·.cells.toList):=by
 apply List.ext_getElem?
 intro i
 by_cases h0:z.cells.size=0
 ·have:z.cells.toList=[]:=by simpa using h0
  simp[madeCells,h0]
 ·have dW:0<z.cells.size:=by omega
  by_cases hi:i<n*z.cells.size
  ·have hd:i/z.cells.size<n:=Nat.div_lt_of_lt_mul (by rwa [Nat.mul_comm]at hi)
   have hm:=Nat.mod_lt i dW
   have:=iS z.cells.size (List.replicate n z) (i/z.cells.size) (i%z.cells.size) z z.cells[i%z.cells.size] (fun x hx=>by rw[(List.mem_replicate.1 hx).2]) (by simp[hd]) (by simp[hm])
   rw[Nat.mul_comm,Nat.div_add_mod]at this
   rw[this]
   simp[madeCells,List.getElem?_range hi,hm]
  ·have h1:(madeCells z.cells (n*z.cells.size)).toList.length=n*z.cells.size:=by simp[madeCells]
   have h2:((List.replicate n z).flatMap (·.cells.toList)).length=n*z.cells.size:=by simp[List.flatMap_replicate]
   rw[List.getElem?_eq_none (by omega),List.getElem?_eq_none (by omega)]
theorem oK(hH:af M φ H w)(de: ¬H.us fr){t:TypeId}{l c:V}{lv cv:Value}(hl:V.den (ad M φ H) φ H w l lv)(hc:V.den (ad M φ H) φ H w c cv)
 (h:fF P fr t l c fun v Δ=>K v Δ []):bK M φ H w fr ((do let y <- Instr.makeSlice t lv cv;pure (Next.value y):Sem Next).run P w) K:=by
 unfold fF at h
 split at h
 ·rename_i e kl n kc m ht
  obtain⟨rfl,h0,dW,hb,hn,x,hx,hK⟩:=h
  simp only[V.den,D.den]at hl hc;subst hl;subst hc
  obtain⟨i,z,ev,h1,h2,h3,h4,h5,h6⟩:=o7 hH hx
  obtain⟨k,rfl⟩:=Int.eq_ofNat_of_zero_le h0
  simp only[Int.toNat_natCast]at hb hn hK
  rw[ik h1]at hb
  obtain⟨w',r1,r2,r3⟩:=run_make_full (P:=P) w w.heap.size t e i z (P.cellsOf e) (aN ht) h1 h2 (bf h1).symm kl kc k (by omega) (by simp[maxLen];omega) (Nat.le_refl _)
  refine dt hH de (ij r3) dW hK r1 (by simpa using r2) ⟨List.replicate k ev, ?_, ?_, ?_⟩
  ·rw[bf h1, <- h3,iU]
   simp[List.flatMap_replicate,h5]
  ·intro v hv
   rw[(List.mem_replicate.1 hv).2,h5,h3,bf h1]
  ·clear r1 r2 hK hb hn
   induction k with
   |zero=>rfl
   |succ k ih=>exact⟨ev,List.replicate k ev,rfl,h6,ih (by omega)⟩
 ·exact h.elim
theorem mN(w:World)(t u ty e:TypeId)(i:TypeInfo)(z:Value)(ht:P.underlying t=some (.slice e)){k0:IntKind}(hu:P.underlying u=some (.int k0))(hi:P.info? e=some i)(hz:i.zero=some z)(dW:0<i.size)
 (k:IntKind) (n:Nat) (h0:0<n) (Pm:n<=1099511627776) (NQ:n*i.bytes<=1099511627776):
 (Builtin.append_ #[t,u] ty #[.slice none 0 0, .int k n]).run P w=
  .ok (.slice (some ⟨w.heap.size,0,none⟩) n (grownCap w n 0 e)) (w.drew.alloc (.cells (Builtin.zeroCells z.cells n++Builtin.zeroCells z.cells (grownCap w n 0 e - n)) e)):=by
 have hn:n≠0:=by omega
 have Ih: ¬ (n*i.size=0):=by
  intro h
  rcases Nat.mul_eq_zero.1 h with h|h<;>omega
 have Ii:IntKind.i64.wrap (n:Int)=n:=by
  unfold IntKind.wrap
  have e1:((2:Int)^IntKind.i64.bits)=18446744073709551616:=by decide
  have e2:((2:Int)^(IntKind.i64.bits - 1))=9223372036854775808:=by decide
  have e3:IntKind.i64.signed=true:=rfl
  simp only[e1,e2,e3]
  have h1:(n:Int)%18446744073709551616=n:=Int.emod_eq_of_lt (by omega) (by omega)
  rw[h1]
  split<;>simp_all<;>omega
 have Ij: ¬ (9223372036854775807<(n:Int)):=by omega
 have BX: ¬ (281474976710656<(n:Int)*(i.bytes:Int)):=by
  have h5:((n*i.bytes:Nat):Int)<=(1099511627776:Nat):=Int.ofNat_le.2 NQ
  rw[Int.natCast_mul]at h5;omega
 have Ik: ¬ (281474976710656<Builtin.nextslicecap n 0*i.bytes):=by rw[nextslicecap_zero h0];omega
 simp[Builtin.append_,run_underlying ht,run_underlying hu,sizeOf,typeInfo,zeroValue,hi,hz,Builtin.lenOf,hn,Ih,Ii,Ij,Ik,BX,Question.forced,run_firstCells_none,newRow,grownCap,asInt,asIntOf]
 intro h;omega
theorem wS(hH:af M φ H w)(de: ¬H.us fr){ts:Array TypeId}{ty0:TypeId}{x y:V}{xv yv:Value}(hx:V.den (ad M φ H) φ H w x xv)(hy:V.den (ad M φ H) φ H w y yv)
 (h:bW (oY P fr ts x y) K):bK M φ H w fr ((do let z <- Builtin.append_ ts ty0 #[xv,yv];pure (Next.value z):Sem Next).run P w) K:=by
 unfold oY at h
 split at h
 ·rename_i t t' oL
  have oL:ts=#[t,t']:=by apply Array.ext';simpa using oL
  subst oL
  split at h
  ·exact h.elim
  ·split at h
   ·rename_i e ht
    split at h
    ·rename_i k0 kk n hu
     split at h
     ·rename_i hc
      obtain⟨c1,c2,c3,c4⟩:=hc
      split at h
      ·rename_i x0 Il
       simp only[V.den,D.den]at hx hy;subst hx;subst hy
       obtain⟨i,z,ev,h1,h2,h3,h4,h5,h6⟩:=o7 hH Il
       obtain⟨k,rfl⟩:=Int.eq_ofNat_of_zero_le (Int.le_of_lt c1)
       simp only[Int.toNat_natCast]at c3 c4 h
       have oM:P.underlying t'=some (.int k0):=by
        unfold bB at hu
        split at hu
        ·rename_i k1 hk;injection hu with hu;subst hu;exact hk
        ·cases hu
       have hr:=mN (P:=P) w t t' ty0 e i z (aN ht) oM h1 h2 (by rw[<- bf h1];exact c2) kk k (by omega) (by omega) (by rw[<- ik h1];omega)
       have re:=grownCap_ge w k 0 e
       have cK:z.cells.size=P.cellsOf e:=by rw[bf h1, <- h3]
       have wT:(Builtin.zeroCells z.cells k).toList=(List.replicate k ev).flatMap (·.cells.toList):=by
        have e1:(Builtin.zeroCells z.cells k).toList=(madeCells z.cells (k*z.cells.size)).toList:=by simp[Builtin.zeroCells,madeCells]
        rw[e1,iU]
        simp[List.flatMap_replicate,h5]
       refine dt hH de (w':=w.drew.alloc (.cells (Builtin.zeroCells z.cells k++Builtin.zeroCells z.cells (grownCap w k 0 e - k)) e)) (xs:=(List.replicate k ev).flatMap (·.cells.toList)) ⟨rfl,rfl,rfl,by simp,fun j hj _=>RowKit.Below.heap_alloc w.drew _ j hj⟩ c2 h hr ?_ ⟨List.replicate k ev,rfl, ?_, ?_⟩
       ·refine⟨?_, .inr ⟨w.heap.size,_,_,by rw[List.length_replicate],Nat.le_refl _,heap_alloc_new w.drew _,by rw[List.length_replicate];exact re,grownCap_le_maxLen w k 0 e (by simp[maxLen];omega), ?_, ?_⟩⟩
        ·rw[<- wT,Array.length_toList,size_zeroCells,cK,List.length_replicate]
        ·rw[Array.size_append,size_zeroCells,size_zeroCells,cK, <- Nat.add_mul];congr 1;omega
        ·rw[Array.toList_append, <- wT,List.take_append_of_le_length (by simp[size_zeroCells,cK]),List.take_of_length_le (by simp[size_zeroCells,cK])]
       ·intro v hv
        rw[(List.mem_replicate.1 hv).2,h5,cK]
       ·clear hr h c1 c3 c4 re wT
        induction k with
        |zero=>rfl
        |succ k ih=>exact⟨ev,List.replicate k ev,rfl,h6,ih⟩
      ·exact h.elim
     ·exact h.elim
    ·exact h.elim
   ·exact h.elim
 ·exact h.elim
theorem j5(hH:af M φ H w){y:V}{yv:Value}{new:List D}{sz:Nat}(hy:V.den (ad M φ H) φ H w y yv)(h:dr H.o y=some new)(hw:∀z∈new,z.cells.length=sz):
 (yv= .slice none 0 0/\new=[])\/∃a c evs,yv= .slice (some a) new.length c/\D.ak (ad M φ H) w new evs/\(∀ev∈evs,ev.cells.size=sz)/\
  (∀j u,(evs.flatMap (·.cells.toList))[j]? =some u->w.cell? (a.add j)=some u)/\Flat (evs.flatMap (·.cells.toList)):=by
 have AM:∀ {evs:List Value},D.ak (ad M φ H) w new evs->(∀ev∈evs,ev.cells.size=sz)/\Flat (evs.flatMap (·.cells.toList)):=by
  intro evs hd
  have key:∀ev∈evs,ev.cells.size=sz/\Flat ev.cells.toList:=by
   intro ev cB
   obtain⟨i,hi⟩:=List.mem_iff_getElem?.1 cB
   have hl:=D.aj _ _ hd
   have br:i<new.length:=by rw[<- hl];exact(List.getElem?_eq_some_iff.1 hi).1
   obtain⟨v',mM,zl⟩:=D.cD _ _ i new[i] hd (by simp[br])
   rw[hi]at mM;injection mM with mM;subst mM
   have h1:=D.dz _ _ zl
   have h2:=D.aj _ _ h1.1
   rw[hw _ (List.getElem_mem br)]at h2
   exact⟨by simpa using h2,h1.2⟩
  refine⟨fun ev cB=>(key ev cB).1,fun u hu=> ?_⟩
  obtain⟨ev,h1,h2⟩:=List.mem_flatMap.1 hu
  exact(key ev h1).2 u h2
 have ux:D.den (ad M φ H) w (.sl new) yv->(yv= .slice none 0 0/\new=[])\/∃a c evs,yv= .slice (some a) new.length c/\D.ak (ad M φ H) w new evs/\(∀ev∈evs,ev.cells.size=sz)/\
  (∀j u,(evs.flatMap (·.cells.toList))[j]? =some u->w.cell? (a.add j)=some u)/\Flat (evs.flatMap (·.cells.toList)):=by
  rintro⟨base,len,cap,rfl,rfl,h2,h3,jF,h4⟩
  cases base with
  |none=>
   left
   have h5:=h3 rfl;subst h5
   have:new=[]:=by simpa using h2
   subst this;exact⟨rfl,rfl⟩
  |some a=>
   right
   obtain⟨h5,h6⟩:=h4 a rfl
   by_cases Hz:cap=0
   ·have:new=[]:=List.eq_nil_of_length_eq_zero (by omega)
    subst this
    exact⟨a,cap,[],rfl,rfl,by simp,by simp,by simp[Flat]⟩
   replace h5:=h5 Hz
   have key:∀ (es:List D) (i:Nat),(∀z∈es,z.cells.length=sz)->D.elems (ad M φ H) w jF a i es->
    ∃evs,D.ak (ad M φ H) w es evs/\∀j u,(evs.flatMap (·.cells.toList))[j]? =some u->w.cell? (a.add (i*sz+j))=some u:=by
    intro es
    induction es with
    |nil=>intro i _ _;exact⟨[],rfl,by simp⟩
    |cons e es ih=>
     intro i hz h
     obtain⟨⟨ev,k1,k2,k3⟩,k4⟩:=h
     obtain⟨evs,g1,g2⟩:=ih (i+1) (fun z NR=>hz z (by simp[NR])) k4
     have k5:ev.cells.size=sz:=by
      have:=D.aj _ _ (D.dz _ _ k3).1
      rw[hz e (by simp)]at this
      simpa using this
     refine⟨ev::evs,⟨ev,evs,rfl,k3,g1⟩,fun j u hj=> ?_⟩
     rw[List.flatMap_cons]at hj
     by_cases br:j<sz
     ·rw[List.getElem?_append_left (by simp;omega)]at hj
      have:=(k2 j u (by simpa using hj)).1
      rw[add_add a h5]at this
      rwa [<- k1,k5]at this
     ·rw[List.getElem?_append_right (by simp;omega)]at hj
      have:=g2 (j - sz) u (by simpa[k5]using hj)
      rwa [show(i+1)*sz+(j - sz)=i*sz+j by rw[Nat.add_mul];omega]at this
   obtain⟨evs,g1,g2⟩:=key new 0 hw h6
   obtain⟨s1,s2⟩:=AM g1
   exact⟨a,cap,evs,rfl,g1,s1,fun j u hj=>by simpa using g2 j u hj,s2⟩
 unfold dr at h
 split at h
 ·rename_i es hD
  injection h with h;subst h
  cases y with
  |d x=>simp only[dk,Option.some.injEq]at hD;subst hD;exact ux hy
  |aI=>simp only[dk,Option.some.injEq,D.sl.injEq]at hD;subst hD;exact .inl ⟨hy,rfl⟩
  |osl id ep=>
   obtain⟨_,_,mK⟩:=hy
   have a8:=hH.ok id
   simp only[dk]at hD
   cases hx:H.o id with
   |no=>simp[hx]at hD
   |row cs=>simp[hx]at hD
   |map kt vt l=>simp[hx]at hD
   |loop nf n env ps jE fW st vm=>simp[hx]at hD
   |dT l=>simp[hx]at hD
   |lS l last=>simp[hx]at hD
   |oB s pos=>simp[hx]at hD
   |arr eF ty jF es'=>
    simp only[hx]at hD
    split at hD
    ·rename_i e;subst e
     simp only[Option.some.injEq,D.sl.injEq]at hD;subst hD
     simp only[aq,hx]at a8
     have hv:=(mK ep (by rw[hx];rfl)).2 rfl
     obtain⟨h0,xs,⟨hl,aY⟩,evs,rfl,h2,h3⟩:=a8
     obtain⟨s1,s2⟩:=AM h3
     rw[hv]
     rcases aY with⟨h4,h5⟩|⟨g,cap,cur,h4,_,h5,h6,h7,h8,h9⟩
     ·exact .inl ⟨h4,by simpa using h5⟩
     ·right
      refine⟨_,cap,evs,h4,h3,s1,fun j u hj=> ?_,s2⟩
      refine kM h5 j u ?_
      rw[<- h9,List.getElem?_take]at hj
      split at hj
      ·simpa using hj
      ·cases hj
    ·cases hD
   |ky eF es'=>
    simp only[hx]at hD
    split at hD
    ·rename_i e;subst e
     simp only[Option.some.injEq,D.sl.injEq]at hD;subst hD
     simp only[aq,hx]at a8
     have hv:=(mK ep (by rw[hx];rfl)).2 rfl
     rw[hv]at ux|-
     exact ux a8
    ·cases hD
  |agg cs=>simp[dk]at hD
  |iface t x=>simp[dk]at hD
  |jU es'=>simp only[dk,Option.some.injEq,D.sl.injEq]at hD;subst hD;exact ux hy.1
  |mp id=>simp only[dk]at hD;split at hD<;>simp at hD
  |_=>simp[dk]at hD
 ·cases h
theorem nB(hH:af M φ H w){id ep:Nat}(cJ:H.us id){ty:TypeId}{sz:Nat}{es es':List D}(ho:H.o id= .arr ep ty sz es){val:Value}{Im:List Value}{m:Nat->Prop}(hk:dh m w w')
 (hm:∀b,m b->cW (φ id)=some b) (da:∀b,cW val=some b->cW (φ id)=some b\/w.heap.size<=b) (dm:w'.ownsRow 0 ty sz val es'.length Im) (hd:et (ad M φ H) w sz es' Im):
 let ai:=aV φ id val;let H':=H.put [(id, .arr (ep+1) ty sz es')]
 af M ai H' w'/\Trans φ H w ai H' w'/\V.den (ad M ai H') ai H' w' (.osl id (ep+1)) val:=by
 intro ai H'
 have hl:(H.o id).live=true:=by rw[ho];rfl
 have ht:Trans φ H w ai H' w':={
  bD:=⟨hk.os,hk.tape,hk.output,hk.size,fun k h yW=>hk.block k h (fun e=>yW ⟨id,hl,hm k e⟩)⟩
  grow:=by
   rintro b ⟨j,h1,h2⟩
   by_cases hj:j=id
   ·subst hj
    simp only[ai,ax,if_true]at h2
    rcases da b h2 with h3|h3
    ·exact .inl ⟨j,hl,h3⟩
    ·exact .inr h3
   ·simp[H',ai,hj]at h1 h2;exact .inl ⟨j,h1,h2⟩
  rel:={
   us:=fun j h=>by simp[H',h]
   row:=fun j hu hr=>by
    by_cases hj:j=id
    ·subst hj;simp[H',aa.bc]at hr
    ·simp[H',ai,hj]at hr|-;exact hr
   ep:=fun j e' hu he=>by
    by_cases hj:j=id
    ·subst hj;simp[H',aa.aL]at he;subst he;exact⟨ep,by rw[ho];rfl,Nat.le_succ _,fun h=>by omega⟩
    ·simp[H',ai,hj]at he|-;exact⟨e',he,Nat.le_refl _⟩}}
 have h0:=hH.ok id
 simp only[aq,ho]at h0
 refine⟨hH.of ht (· =id) (fun j h=> ?_) (fun j h=> ?_) (fun j h=> ?_) (fun i j b hi hj bi bj=> ?_) (fun b=> ?_),ht, ?_,by simp[H'],fun e he=> ?_⟩
 ·subst h
  unfold aq
  simp only[H',aU,ax,if_true]
  exact⟨h0.1,Im,by simpa[ai]using dm,hd.mono (ht.blocks (M:=M))⟩
 ·refine⟨by simp[H',h],by simp[ai,h],fun LD b hb=>hk.block b (hH.ours b ⟨j,LD,hb⟩).2 fun e=>h ?_⟩
  exact hH.apart j id b LD hl hb (hm b e)
 ·rw[cO]at h
  have h1:j≠id:=fun e=>h (.inr e)
  simp only[H',aU,ax,h1,if_false]
  exact hH.fresh j fun hu=>h (.inl hu)
 ·by_cases e1:i=id<;>by_cases e2:j=id
  ·exact e1.trans e2.symm
  ·subst e1
   simp[H',ai,e2]at hj bj bi
   rcases da b bi with h3|h3
   ·exact hH.apart i j b hl hj h3 bj
   ·have:=(hH.ours b ⟨j,hj,bj⟩).2;omega
  ·subst e2
   simp[H',ai,e1]at hi bi bj
   rcases da b bj with h3|h3
   ·exact hH.apart i j b hi hl bi h3
   ·have:=(hH.ours b ⟨i,hi,bi⟩).2;omega
  ·simp[H',ai,e1,e2]at hi hj bi bj
   exact hH.apart i j b hi hj bi bj
 ·rintro⟨j,h1,h2⟩
  by_cases hj:j=id
  ·subst hj;simp only[ai,ax,if_true]at h2;exact(gh dm b h2).2
  ·simp[H',ai,hj]at h1 h2
   exact Nat.lt_of_lt_of_le (hH.ours b ⟨j,h1,h2⟩).2 hk.size
 ·rcases dm.2 with⟨rfl,_⟩|⟨g,cap,cur,rfl,_⟩<;>rfl
 ·simp[H',aa.aL]at he
  subst he
  exact⟨Nat.le_refl _,fun _=>by simp[ai]⟩
theorem et.append {B:Nat->Prop}{sz:Nat}{es new:List D}{xs:List Value}{evs:List Value}(h:et B w sz es xs)(h1:D.ak B w new evs)(h2:∀ev∈evs,ev.cells.size=sz):
 et B w sz (es++new) (xs++evs.flatMap (·.cells.toList)):=by
 obtain⟨Io,rfl,h3,h4⟩:=h
 refine⟨Io++evs,by simp,fun ev cB=> ?_,D.aQ _ _ _ _ h4 h1⟩
 rcases List.mem_append.1 cB with h|h
 ·exact h3 ev h
 ·exact h2 ev h
theorem cc{sz:Nat}:∀ (evs:List Value),(∀ev∈evs,ev.cells.size=sz)->(evs.flatMap (·.cells.toList)).length=evs.length*sz
 |[],_=>by simp
 |x::l,hx=>by
  have:=cc l fun v hv=>hx v (by simp[hv])
  simp[this,hx x (by simp),Nat.add_mul,Nat.add_comm]
theorem tl(hH:af M φ H w)(de: ¬H.us fr){ts:Array TypeId}{ty0:TypeId}{x y:V}{xv yv:Value}(hx:V.den (ad M φ H) φ H w x xv)(hy:V.den (ad M φ H) φ H w y yv)
 (h:kA P H.o fr ts x y K):bK M φ H w fr ((do let z <- Builtin.append_ ts ty0 #[xv,yv];pure (Next.value z):Sem Next).run P w) K:=by
 unfold kA at h
 split at h
 ·rename_i t t' oL
  obtain⟨rfl,h⟩:=h
  have oL:ts=#[t,t]:=by apply Array.ext';simpa using oL
  subst oL
  split at h
  ·rename_i e ht
   obtain⟨new,Ip,dW,hz,hw,h⟩:=h
   obtain⟨zz,hz⟩:=Option.isSome_iff_exists.1 hz
   obtain⟨i,z,g1,g2,g3,g4,_⟩:=fH hz
   have hi:=bf g1
   have BX:=ik g1
   have uy:=j5 hH hy Ip hw
   split at h
   ·obtain⟨h1,h2,hK⟩:=h
    simp only[V.den]at hx;subst hx
    rcases uy with⟨rfl,rfl⟩|⟨a,c,evs,rfl,k1,k2,k3,k4⟩
    ·refine dt hH de (dh.refl _ _) dW hK (run_append_owned_none (P:=P) w 0 t ty0 e i i.size (aN ht) g1 _ 0 [] (World.ownsRow_nil w 0 e i.size)) ?_ ⟨[],rfl,by simp,rfl⟩
     exact World.ownsRow_nil w _ e _
    ·obtain⟨v',w',r1,r2,r3,_⟩:=run_append_own (P:=P) w w.heap.size t ty0 e i z (P.cellsOf e) (P.bytesOf e) (aN ht) g1 g2 hi.symm BX.symm (by rw[g3,hi]) dW _ 0 [] (World.ownsRow_nil w _ e _) a new.length c
      (evs.flatMap fun v:Value=>v.cells.toList) (by rw[cc evs k2,D.aj _ _ k1]) k3 (fun u hu=>k4 u hu) (by simp[maxLen];omega) (by simpa using h2) (Nat.le_refl _)
     refine dt hH de (ij r3) dW hK r1 (by simpa using r2) ⟨evs,rfl,k2,k1⟩
   ·rename_i es
    obtain⟨NS,h⟩:=h
    have AO:=j5 (sz:=P.cellsOf e) hH (y:= .d (.sl es)) (new:=es) (show V.den (ad M φ H) φ H w (.d (.sl es)) xv from hx.1) (by simp[dr,dk]) NS
    obtain⟨b,n,Iq⟩:=hx.2
    subst Iq
    split at h
    ·rename_i hn;subst hn
     have Ic:(sizeOf e).run P w= .ok i.size w:=by rw[cG g1,hi]
     have hr:(Builtin.append_ #[t,t] ty0 #[.slice b n n,yv]).run P w= .ok (.slice b n n) w:=by
      rcases uy with⟨rfl,_⟩|⟨a,c,evs,rfl,_⟩
      ·cases b<;>simp[Builtin.append_,run_underlying (aN ht),Ic,Builtin.lenOf,Builtin.firstCells,storeCells]
      ·cases b<;>simp[Builtin.append_,run_underlying (aN ht),Ic,Builtin.lenOf,Builtin.firstCells,storeCells,loadCells,loadCellsFrom]
     exact bK.same hH _ h (by simp only[Sem.run_bind,hr,Result.andThen_ok];rfl) hx
    ·rename_i e9
     obtain⟨h1,h2,hK⟩:=h
     rcases uy with⟨rfl,rfl⟩|⟨a,c,evs,rfl,k1,k2,k3,k4⟩
     ·exact absurd rfl e9
     ·have hlen:(evs.flatMap (·.cells.toList)).length=new.length*P.cellsOf e:=by rw[cc evs k2,D.aj _ _ k1]
      rcases AO with⟨e1,rfl⟩|⟨a',c',wU,e1,q1,q2,q3,q4⟩
      ·injection e1 with e1 e2 e3
       subst e1;subst e2
       obtain⟨v',w',r1,r2,r3,_⟩:=run_append_own (P:=P) w w.heap.size t ty0 e i z (P.cellsOf e) (P.bytesOf e) (aN ht) g1 g2 hi.symm BX.symm (by rw[g3,hi]) dW _ 0 [] (World.ownsRow_nil w _ e _) a new.length c
        (evs.flatMap fun v:Value=>v.cells.toList) (by rw[cc evs k2,D.aj _ _ k1]) k3 (fun u hu=>k4 u hu) (by simp[maxLen];simp at h1;omega) (by simp at h2|-;omega) (Nat.le_refl _)
       refine dt hH de (ij r3) dW hK r1 (by simpa using r2) ⟨evs,rfl,k2,k1⟩
      ·injection e1 with e1 e2 e3
       subst e1;subst e2
       have o6:(wU.flatMap (·.cells.toList)).length=es.length*P.cellsOf e:=by rw[cc wU q2,D.aj _ _ q1]
       have LF:0<new.length:=by cases new with|nil=>exact absurd rfl e9|cons _ _=>simp
       have wV:es.length+new.length<=maxLen:=by simp[maxLen];omega
       have hr:=run_append_grow (P:=P) w t ty0 e i z (aN ht) g1 g2 a' es.length es.length _ (by rw[o6,hi]) q3 a new.length c _ (by rw[hlen,hi]) k3 (by omega) (by omega)
        (growslice_fits (by omega) (by rw[<- BX];omega))
       refine dt (xs:=wU.flatMap (·.cells.toList)++evs.flatMap (·.cells.toList)) hH de ?_ dW hK hr ?_ ⟨wU++evs,by simp,fun ev cB=> ?_,D.aQ _ _ _ _ q1 k1⟩
       ·exact⟨rfl,rfl,rfl,by simp,fun k hk _=>RowKit.Below.heap_alloc w.drew _ k hk⟩
       ·have re:=grownCap_ge w (es.length+new.length) es.length e
        refine⟨by rw[List.length_append,o6,hlen,List.length_append,Nat.add_mul], .inr ⟨w.heap.size,_,_,by rw[List.length_append],Nat.le_refl _,heap_alloc_new w.drew _,by rw[List.length_append];exact re,
         grownCap_le_maxLen w _ _ e wV, ?_, ?_⟩⟩
        ·simp only[Array.size_append,List.size_toArray,size_zeroCells,g3,o6,hlen,hi, <- Nat.add_mul]
         congr 1
         omega
        ·have:(wU.flatMap (·.cells.toList)++evs.flatMap (·.cells.toList)).length=(es++new).length*P.cellsOf e:=by rw[List.length_append,o6,hlen,List.length_append,Nat.add_mul]
         simp only[Array.toList_append]
         rw[<- this]
         exact List.take_left
       ·rcases List.mem_append.1 cB with cB|cB
        ·exact q2 ev cB
        ·exact k2 ev cB
   ·rename_i id ep
    split at h
    ·rename_i eF ty sz es ho
     obtain⟨rfl,rfl,rfl,h1,h2,hK⟩:=h
     obtain⟨_,cJ,mK⟩:=hx
     have hv:=(mK ep (by rw[ho];rfl)).2 rfl
     subst hv
     have a8:=hH.ok id
     simp only[aq,ho]at a8
     obtain⟨_,xs,dm,jw⟩:=a8
     have done:∀ {val:Value} {w':World} {m:Nat->Prop} {evs:List Value},(Builtin.append_ #[t,t] ty0 #[φ id,yv]).run P w= .ok val w'->dh m w w'->(∀b,m b->cW (φ id)=some b)->
      (∀b,cW val=some b->cW (φ id)=some b\/w.heap.size<=b)->w'.ownsRow 0 ty (P.cellsOf ty) val (es++new).length (xs++evs.flatMap (·.cells.toList))->D.ak (ad M φ H) w new evs->
      (∀ev∈evs,ev.cells.size=P.cellsOf ty)->bK M φ H w fr ((do let z <- Builtin.append_ #[t,t] ty0 #[φ id,yv];pure (Next.value z):Sem Next).run P w) K:=by
      intro val w' m evs r1 r2 r3 r4 r5 r6 r7
      obtain⟨s1,s2,s3⟩:=nB hH cJ ho r2 r3 r4 r5 (jw.append r6 r7)
      exact⟨_,_,_,_,_,_,_,hK,by simp only[Sem.run_bind,r1,Result.andThen_ok];rfl, .inl rfl,s1,s2,s3,by simp[cJ]⟩
     rcases uy with⟨rfl,rfl⟩|⟨a,c,evs,rfl,k1,k2,k3,k4⟩
     ·refine done (evs:=[]) (run_append_owned_none (P:=P) w 0 t ty0 ty i (P.cellsOf ty) (aN ht) g1 _ _ xs dm) (dh.refl (fun _=>False) _) (fun _ h=>h.elim) (fun b hb=> .inl hb) (by simpa using dm) rfl (by simp)
     ·have hlen:(evs.flatMap (·.cells.toList)).length=new.length*P.cellsOf ty:=by rw[cc evs k2,D.aj _ _ k1]
      have wV:es.length+new.length<=maxLen:=by simp[maxLen];omega
      rcases dm.2 with⟨h3,h4⟩|⟨g,cap,cur,h3,h4,h5,h6,h7,h8,h9⟩
      ·have rE:w.ownsRow w.heap.size ty (P.cellsOf ty) (φ id) es.length xs:=⟨dm.1, .inl ⟨h3,h4⟩⟩
       obtain⟨v',w',r1,r2,r3,_⟩:=run_append_own (P:=P) w w.heap.size t ty0 ty i z (P.cellsOf ty) (P.bytesOf ty) (aN ht) g1 g2 hi.symm BX.symm (by rw[g3,hi]) dW _ _ xs rE a new.length c
        (evs.flatMap fun v:Value=>v.cells.toList) hlen k3 (fun u hu=>k4 u hu) wV h2 (Nat.le_refl _)
       refine done r1 (ij (by rw[h3]at r3;exact r3)) (fun _ h=>h.elim) (fun b hb=> .inr (gh r2 b hb).1) (by simpa using kO r2) k1 k2
      ·by_cases AP:es.length+new.length<=cap
       ·rw[h3]at dm
        obtain⟨w',r1,r2,r3⟩:=run_append_fits (P:=P) w 0 t ty0 ty i (P.cellsOf ty) (aN ht) g1 hi.symm g es.length cap xs dm a new.length c (evs.flatMap fun v:Value=>v.cells.toList) hlen k3 (fun u hu=>k4 u hu) AP
        rw[<- h3]at r1
        exact done (m:=(· =g)) r1 ⟨r3.os,r3.tape,r3.output,r3.size,fun k hk e9=>r3.block k hk (by simpa using e9)⟩ (fun b hb=>by subst hb;rw[h3];rfl) (fun b hb=> .inl (by rw[h3];exact hb)) (by simpa using r2) k1 k2
       ·have holds:∀j u,xs[j]? =some u->w.cell? ((⟨g,0,none⟩:Addr).add j)=some u:=dm.cells (g:=g) (by rw[h3];rfl)
        have hr:=run_append_grow (P:=P) w t ty0 ty i z (aN ht) g1 g2 ⟨g,0,none⟩ es.length cap xs (by rw[dm.1,hi]) holds a new.length c _ (by rw[hlen,hi]) k3 (by omega) (by simp[maxLen]at wV;omega)
         (growslice_fits (by omega) (by rw[<- BX];omega))
        rw[<- h3]at hr
        refine done (m:=fun _=>False) hr ⟨rfl,rfl,rfl,by simp,fun k hk _=>RowKit.Below.heap_alloc w.drew _ k hk⟩ (fun _ h=>h.elim) (fun b hb=> .inr (by simp[cW]at hb;omega)) ?_ k1 k2
        have re:=grownCap_ge w (es.length+new.length) cap ty
        refine⟨by rw[List.length_append,dm.1,hlen,List.length_append,Nat.add_mul], .inr ⟨w.heap.size,_,_,by rw[List.length_append],Nat.zero_le _,heap_alloc_new w.drew _,by rw[List.length_append];exact re,
         grownCap_le_maxLen w _ cap ty wV, ?_, ?_⟩⟩
        ·simp only[Array.size_append,List.size_toArray,size_zeroCells,g3,dm.1,hlen,hi, <- Nat.add_mul]
         congr 1
         omega
        ·have:(xs++evs.flatMap (·.cells.toList)).length=(es++new).length*P.cellsOf ty:=by rw[List.length_append,dm.1,hlen,List.length_append,Nat.add_mul]
         simp only[Array.toList_append,List.append_assoc]
         rw[<- List.append_assoc, <- this]
         exact List.take_left
    ·exact h.elim
   ·exact h.elim
  ·exact h.elim
 ·exact h.elim
end
end Go.Proofs.YtbmnikpknlkbkaaGreat
