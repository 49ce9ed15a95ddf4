/-
  A PART. Conditions: none.
-/
import Derived.Test.YtlhemmpklhhgoaaGreatQf8
set_option linter.unusedSimpArgs false
set_option linter.unusedVariables false
set_option maxHeartbeats 8000000
namespace Go.Proofs.YtlhemmpklhhgoaaGreat
section
def uR(P:Program)(g:FuncId)(ds:List D)(Kf Kb KX:V->Prop):Prop:=
 (∃rs,a7 P g ds (.ret rs)/\(Kf (jM rs)\/(D.kN rs=true/\Kb (jM rs))))\/(∃x,a7 P g ds (.bU x)/\x.flat=true/\KX (.d x))\/(∃v,Qk P g ds v/\Kf v)
def jO(P:Program)(g:FuncId)(args:List V)(o:Nat->aa)(nx fr:Nat)(K:V->List (Nat×aa)->List Nat->Prop)(KX:V->List Nat->List Nat->Prop):Prop:=
 ∃rd Δ,rd.all (fun id=>decide (id<nx))=true/\((∃rs,CC P g args rd o (.ret rs) Δ/\K (jM rs) Δ rd)\/(∃x,CC P g args rd o (.bU x) Δ/\KX (.d x) (Δ.map (·.1)) rd)\/(∃v,CD P g args rd o fr v Δ/\K v Δ rd))
def CE(P:Program)(s:S)(fr:Nat)(o:cg)(K:V->List (Nat×aa)->List Nat->Prop)(KX:V->List Nat->List Nat->Prop):Prop:=
 match o.op with
 | .call c=>match c.callee with
   | .value f=>match s.ev f with
     | .func (.func g) first cap=>match cA s.o (first++c.args.toList.map s.ev++cap)with
       |some ds=>uR P g ds (fun v=>K v (bK s.o (V.bw (first++c.args.toList.map s.ev++cap))) (pV s o.op)) (fun v=>K v [] (pV s o.op)) (fun v=>KX v [] (pV s o.op))\/jO P g (first++c.args.toList.map s.ev++cap) s.o s.nx fr K KX
       |none=>jO P g (first++c.args.toList.map s.ev++cap) s.o s.nx fr K KX
     |_=>False
   |_=>match iu P s fr o.op with
    |some (v,Δ,_)=>K v Δ (pV s o.op)
    |none=>False
 |op=>match iu P s fr op with
  |some (v,Δ,_)=>K v Δ (pV s o.op)
  |none=>False
abbrev Fp:=List (List Nat×List Nat)
def ji(P:Program)(KB:List Nat->Fp->Prop)(pr:List (List Nat)):List cg->Nat->S->Fp->List Nat->List Nat->Prop
 |[],_,_,fp,_,ws=>KB ws fp
 |o::l,fr,s,fp,bad,ws=>if(pr.getD fp.length []).any (fun j=>bad.contains j)=true then ji P KB pr l (fr+1) ⟨ba s.env o.dst .ai,s.o,s.nx⟩ (fp++[([],[])]) (bad++[fp.length]) ws
  else match o.gd with
  |none=>CE P s fr o (fun v Δ rd=>ji P KB pr l (fr+1) ⟨ba s.env o.dst v,put s.o Δ,s.nx⟩ (fp++[(rd,Δ.map (·.1))]) bad (ws++Δ.map (·.1))) (fun _ _ _=>False)
  |some (d,want)=>match s.env d with
   | .d (.bool b)=>if b=want then CE P s fr o (fun v Δ rd=>ji P KB pr l (fr+1) ⟨ba s.env o.dst v,put s.o Δ,s.nx⟩ (fp++[(rd,Δ.map (·.1))]) bad (ws++Δ.map (·.1))) (fun _ _ _=>False)
    else ji P KB pr l (fr+1) ⟨ba s.env o.dst (.cf []),s.o,s.nx⟩ (fp++[([],[])]) bad ws
   | .cf []=>ji P KB pr l (fr+1) ⟨ba s.env o.dst (.cf []),s.o,s.nx⟩ (fp++[([],[])]) bad ws
   |_=>False
def me(P:Program)(K:S->Fp->Prop)(KP:V->List Nat->Fp->Prop)(pr:List (List Nat)):List cg->Nat->S->Fp->Prop
 |[],_,s,fp=>K s fp
 |o::l,fr,s,fp=>match o.gd with
  |none=>CE P s fr o (fun v Δ rd=>me P K KP pr l (fr+1) ⟨ba s.env o.dst v,put s.o Δ,s.nx⟩ (fp++[(rd,Δ.map (·.1))]))
   (fun v ws rd=>ji P (KP v) pr l (fr+1) ⟨ba s.env o.dst .ai,s.o,s.nx⟩ (fp++[(rd,[])]) [fp.length] (ws++fp.flatMap (·.2)))
  |some (d,want)=>match s.env d with
   | .d (.bool b)=>if b=want then CE P s fr o (fun v Δ rd=>me P K KP pr l (fr+1) ⟨ba s.env o.dst v,put s.o Δ,s.nx⟩ (fp++[(rd,Δ.map (·.1))]))
         (fun v ws rd=>ji P (KP v) pr l (fr+1) ⟨ba s.env o.dst .ai,s.o,s.nx⟩ (fp++[(rd,[])]) [fp.length] (ws++fp.flatMap (·.2)))
    else me P K KP pr l (fr+1) ⟨ba s.env o.dst (.cf []),s.o,s.nx⟩ (fp++[([],[])])
   | .cf []=>me P K KP pr l (fr+1) ⟨ba s.env o.dst (.cf []),s.o,s.nx⟩ (fp++[([],[])])
   |_=>False
def Gt(pr:List (List Nat))(nx:Nat)(Q:gr->S->Prop)(s:S)(fp:Fp):Prop:=fD pr fp=true/\Q .normal ⟨s.env,s.o,nx⟩
def dstsOf(l:List cg):List Nat:=l.filterMap (·.dst)
def DO(pr:List (List Nat))(l:List cg)(s0:S)(Q:gr->S->Prop)(v:V)(wl:List Nat)(fp:Fp):Prop:=fD pr fp=true/\Q (.bU v) (w7 (dstsOf l) wl l.length s0)
def oD:List cg->List fX->S->Nat->S
 |_,_,s,0=>s
 |o::l,x::xs,s,j+1=>oD l xs (yB o.dst x s) j
 |_,_,s,_=>s
def Ac(cC:List fX):Fp:=cC.map fun x=>(yV x,ma x)
section
variable {P:Program}{n b:Nat}
theorem DP{s:S}{fr:Nat}{o:cg}{K:V->List (Nat×aa)->List Nat->Prop}{KX:V->List Nat->List Nat->Prop}(h:CE P s fr o K KX):(∃v Δ rd,z7 P s fr o.op v Δ rd/\K v Δ rd)\/(∃v ws rd,DH P s o.op v ws rd/\KX v ws rd):=by
 have hs:∀ {op:Op},o.op=op->(match iu P s fr op with|some (v,Δ,_)=>K v Δ (pV s o.op)|none=>False)->(∃v Δ rd,z7 P s fr o.op v Δ rd/\K v Δ rd):=by
  intro op gX h
  split at h
  ·rename_i v Δ rd he;exact⟨v,Δ,_, .inl ⟨⟨rd,by rw[gX];exact he⟩,rfl⟩,h⟩
  ·exact h.elim
 unfold CE at h
 split at h
 ·rename_i c hc
  split at h
  ·rename_i f fQ
   split at h
   ·rename_i g first cap hf
    split at h
    ·rename_i ds fT
     rcases h with(⟨rs,hP,h|⟨re,h⟩⟩|⟨x,hP,re,h⟩|⟨v,hP,h⟩)|⟨rd,Δ,nR,⟨rs,hH,h⟩|⟨x,hH,h⟩|⟨v,hH,h⟩⟩
     ·exact .inl ⟨_,_,_, .inr ⟨c,f,g,first,cap,hc,fQ,hf, .inl ⟨ds,rs,fT,hP,rfl,rfl, .inl rfl⟩⟩,h⟩
     ·exact .inl ⟨_,_,_, .inr ⟨c,f,g,first,cap,hc,fQ,hf, .inl ⟨ds,rs,fT,hP,rfl,rfl, .inr ⟨re,rfl⟩⟩⟩,h⟩
     ·exact .inr ⟨_,_,_,⟨c,f,g,first,cap,hc,fQ,hf, .inl ⟨ds,x,fT,hP,re,rfl,rfl,rfl⟩⟩,h⟩
     ·exact .inl ⟨_,_,_, .inr ⟨c,f,g,first,cap,hc,fQ,hf, .inr (.inr (.inl ⟨ds,fT,hP,rfl,rfl⟩))⟩,h⟩
     ·exact abM
     ·exact abP
     ·exact abN
    ·obtain⟨rd,Δ,nR,⟨rs,hH,h⟩|⟨x,hH,h⟩|⟨v,hH,h⟩⟩:=h
     ·exact abM
     ·exact abP
     ·exact abN
   ·exact h.elim
  ·rw[hc]at h;exact .inl (hs hc (by rw[hc];exact h))
 ·exact .inl (hs rfl h)
def Rf(P:Program)(KB:List Nat->Fp->Prop)(pr:List (List Nat))(l:List cg)(fr:Nat)(s:S)(fp:Fp)(bad ws:List Nat):Prop:=
    ∃cC:List fX,cC.length=l.length/\(∀j o x,l[j]? =some o->cC[j]? =some x->UX P (oD l cC s j) (fr+j) o x)/\
     (∀ (j:Nat),cC[j]? =some fX.dY->∃i∈pr.getD (fp.length+j) [],i∈bad\/∃j',j'<j/\i=fp.length+j'/\cC[j']? =some .dY)/\(∀x∈cC,x= .dY\/x.ok=true)/\
     ∃wl,KB wl (fp++Ac cC)/\(∀id∈ws,id∈wl)/\∀x∈cC,∀id∈ma x,id∈wl
theorem DS{KB:List Nat->Fp->Prop}{pr:List (List Nat)}:∀ (l:List cg) (fr:Nat) (s:S) (fp:Fp) (bad ws:List Nat),ji P KB pr l fr s fp bad ws->Rf P KB pr l fr s fp bad ws
 |[],fr,s,fp,bad,ws,h=>⟨[],rfl,fun j o x hj=>by simp at hj,fun j hj=>by simp at hj,fun x hx=>by simp at hx,ws,by simpa[Ac,ji]using h,fun _ h=>h,fun x hx=>by simp at hx⟩
 |o::l,fr,s,fp,bad,ws,h=>by
  have step:∀ (x:fX) (Rg U0:List Nat),UX P s fr o x->ji P KB pr l (fr+1) (yB o.dst x s) (fp++[(yV x,ma x)]) Rg U0->(x= .dY\/x.ok=true)->(x= .dY->∃i∈pr.getD fp.length [],i∈bad)->
   (∀i∈Rg,i∈bad\/(i=fp.length/\x= .dY))->(∀id∈ws,id∈U0)->(∀id∈ma x,id∈U0)->
   Rf P KB pr (o::l) fr s fp bad ws:=by
   intro x Rg U0 a8 hr XJ KZ XI Re hW
   obtain⟨cC,h1,h2,h3,h4,wl,h5,h6,h7⟩:=DS l (fr+1) _ _ Rg U0 hr
   refine⟨x::cC,by simp[h1],fun j o' y hj hy=> ?_,fun j hj=> ?_,fun y hy=> ?_,wl,by simpa[Ac]using h5,fun id ay=>h6 id (Re id ay),fun y hy id ay=> ?_⟩
   ·cases j with
    |zero=>exact Mq
    |succ j=>
     have:=h2 j o' y nU (by simpa using hy)
     exact Xr
   ·cases j with
    |zero=>
     simp at hj
     obtain⟨i,i1,i2⟩:=KZ hj
     exact⟨i,by simpa using i1, .inl i2⟩
    |succ j=>
     obtain⟨i,i1,i2⟩:=h3 j nU
     simp only[List.length_append,List.length_cons,List.length_nil]at i1 i2
     refine⟨i,by rw[show fp.length+(j+1)=fp.length+(0+1)+j by omega];exact i1, ?_⟩
     rcases i2 with i2|⟨j',j1,j2,j3⟩
     ·rcases XI i i2 with hb|⟨e1,e2⟩
      ·exact .inl hb
      ·exact .inr ⟨0,ad,ad,by simp[e2]⟩
     ·exact .inr ⟨j'+1,ad,ad,by simpa using j3⟩
   ·rcases List.mem_cons.1 hy with rfl|hy
    ·exact XJ
    ·exact h4 y hy
   ·rcases List.mem_cons.1 hy with rfl|hy
    ·exact h6 id (hW id ay)
    ·exact h7 y hy id ay
  simp only[ji]at h
  split at h
  ·rename_i hb
   obtain⟨j,hj1,UH⟩:=List.any_eq_true.1 hb
   exact step .dY _ _ trivial h (.inl rfl) (fun _=>⟨j,hj1,by simpa using UH⟩) (fun i hi=>by
    rcases List.mem_append.1 hi with hi|hi
    ·exact .inl hi
    ·exact .inr ⟨by simpa using hi,rfl⟩) (fun _ h=>h) (fun id ay=>by simp[ma]at ay)
  ·have xa:eF s o.gd true->CE P s fr o (fun v Δ rd=>ji P KB pr l (fr+1) ⟨ba s.env o.dst v,put s.o Δ,s.nx⟩ (fp++[(rd,Δ.map (·.1))]) bad (ws++Δ.map (·.1))) (fun _ _ _=>False)->Rf P KB pr (o::l) fr s fp bad ws:=fun hg h=>by
    rcases DP h with⟨v,Δ,rd,kC,h⟩|⟨v,U0,rd,_,h⟩
    ·exact step (.val v Δ rd) bad (ws++Δ.map (·.1)) ⟨hg,kC⟩ h (.inr rfl) (fun h=>by cases h) (fun i hi=> .inl hi) (fun id ay=>List.mem_append.2 (.inl ay)) (fun id ay=>List.mem_append.2 (.inr ay))
    ·exact h.elim
   have skip:eF s o.gd false->ji P KB pr l (fr+1) ⟨ba s.env o.dst (.cf []),s.o,s.nx⟩ (fp++[([],[])]) bad ws->Rf P KB pr (o::l) fr s fp bad ws:=fun hg h=>
    step .skip bad ws hg h (.inr rfl) (fun h=>by cases h) (fun i hi=> .inl hi) (fun id ay=>ay) (fun id ay=>by simp[ma]at ay)
   split at h
   ·rename_i hg;exact xa (by rw[hg];rfl) h
   ·rename_i d want hg
    split at h
    ·rename_i c hv
     split at h
     ·rename_i e;exact xa HG h
     ·rename_i e;exact skip HG h
    ·rename_i hv;exact skip (by rw[hg];simp[eF,hv]) h
    ·exact h.elim
def NB(P:Program)(K:S->Fp->Prop)(KP:V->List Nat->Fp->Prop)(pr:List (List Nat))(l:List cg)(fr:Nat)(s:S)(fp:Fp):Prop:=
 ∃cC:List fX,cC.length=l.length/\(∀j o x,l[j]? =some o->cC[j]? =some x->UX P (oD l cC s j) (fr+j) o x)/\
  (((∀x∈cC,x.ok=true)/\K (oD l cC s l.length) (fp++Ac cC))\/
   ∃v wl,(∀ (j:Nat) (v':V) (ws rd:List Nat),cC[j]? =some (fX.bU v' ws rd)->v'=v/\∀id∈ws,id∈wl)/\(∃x∈cC,x.ok=false)/\
    (∀ (j:Nat),cC[j]? =some fX.dY->∃i∈pr.getD (fp.length+j) [],∃j',i=fp.length+j'/\∃y,cC[j']? =some y/\y.ok=false)/\KP v wl (fp++Ac cC)/\(∀x∈cC,∀id∈ma x,id∈wl)/\∀id∈fp.flatMap (·.2),id∈wl)
theorem xc{K:S->Fp->Prop}{KP:V->List Nat->Fp->Prop}{pr:List (List Nat)}:∀ (l:List cg) (fr:Nat) (s:S) (fp:Fp),me P K KP pr l fr s fp->NB P K KP pr l fr s fp
 |[],fr,s,fp,h=>⟨[],rfl,fun j o x hj=>by simp at hj, .inl ⟨fun x hx=>by simp at hx,by simpa[oD,Ac,me]using h⟩⟩
 |o::l,fr,s,fp,h=>by
  have step:∀ (x:fX),x.ok=true->UX P s fr o x->me P K KP pr l (fr+1) (yB o.dst x s) (fp++[(yV x,ma x)])->NB P K KP pr (o::l) fr s fp:=by
   intro x hxo a8 hr
   obtain⟨cC,h1,h2,h3⟩:=xc l (fr+1) _ _ hr
   refine⟨x::cC,by simp[h1],fun j o' y hj hy=> ?_, ?_⟩
   ·cases j with
    |zero=>exact Mq
    |succ j=>
     have:=h2 j o' y nU (by simpa using hy)
     exact Xr
   ·rcases h3 with⟨h3,h4⟩|⟨v,wl,g1,g2,g3,g4,g5,g6⟩
    ·left
     refine⟨fun y hy=> ?_,by simpa[oD,Ac]using h4⟩
     rcases List.mem_cons.1 hy with rfl|hy
     ·exact hxo
     ·exact h3 y hy
    ·right
     refine⟨v,wl,fun j v' ws rd hj=> ?_, ?_,fun j hj=> ?_,by simpa[Ac]using g4,fun y hy id ay=> ?_,fun id ay=>g6 id (by simp only[List.flatMap_append,List.mem_append];exact .inl ay)⟩
     ·cases j with
      |zero=>simp at hj;rw[hj]at hxo;cases hxo
      |succ j=>exact g1 j v' ws rd nU
     ·obtain⟨y,y1,y2⟩:=g2;exact⟨y,by simp[y1],y2⟩
     ·cases j with
      |zero=>simp at hj;rw[hj]at hxo;cases hxo
      |succ j=>
       obtain⟨i,i1,j',i2,y,i3,i4⟩:=g3 j nU
       simp only[List.length_append,List.length_cons,List.length_nil]at i1 i2
       exact⟨i,by rw[show fp.length+(j+1)=fp.length+(0+1)+j by omega];exact i1,j'+1,ad,y,by simpa using i3,i4⟩
     ·rcases List.mem_cons.1 hy with rfl|hy
      ·exact g6 id (by simp only[List.flatMap_append,List.mem_append];exact .inr (by simpa using ay))
      ·exact g5 y hy id ay
  have bU:∀ (v:V) (ws rd:List Nat),UX P s fr o (.bU v ws rd)->ji P (KP v) pr l (fr+1) ⟨ba s.env o.dst .ai,s.o,s.nx⟩ (fp++[(rd,[])]) [fp.length] (ws++fp.flatMap (·.2))->NB P K KP pr (o::l) fr s fp:=by
   intro v ws rd a8 hr
   obtain⟨cC,h1,h2,h3,h4,wl,h5,h6,h7⟩:=DS l (fr+1) _ _ _ _ hr
   refine⟨fX.bU v ws rd::cC,by simp[h1],fun j o' y hj hy=> ?_, .inr ⟨v,wl,fun j v' U0 vF hj=> ?_,⟨fX.bU v ws rd,aF,rfl⟩,fun j hj=> ?_,by simpa[Ac,yV,ma]using h5,fun y hy id ay=> ?_,fun id ay=>h6 id (List.mem_append.2 (.inr ay))⟩⟩
   ·cases j with
    |zero=>exact Mq
    |succ j=>
     have:=h2 j o' y nU (by simpa using hy)
     exact Xr
   ·cases j with
    |zero=>simp at hj;obtain⟨rfl,rfl,rfl⟩:=hj;exact⟨rfl,fun id ay=>h6 id (List.mem_append.2 (.inl ay))⟩
    |succ j=>
     have hm:=List.mem_of_getElem? (show cC[j]? =some (.bU v' U0 vF) by simpa using hj)
     rcases h4 _ hm with h|h<;>cases h
   ·cases j with
    |zero=>simp at hj
    |succ j=>
     obtain⟨i,i1,i2⟩:=h3 j nU
     simp only[List.length_append,List.length_cons,List.length_nil]at i1 i2
     refine⟨i,by rw[show fp.length+(j+1)=fp.length+(0+1)+j by omega];exact i1, ?_⟩
     rcases i2 with i2|⟨j',j1,j2,j3⟩
     ·exact⟨0,by simpa using i2,_,rfl,rfl⟩
     ·exact⟨j'+1,ad, .dY,by simpa using j3,rfl⟩
   ·rcases List.mem_cons.1 hy with rfl|hy
    ·simp[ma]at ay
    ·exact h7 y hy id ay
  have xa:eF s o.gd true->CE P s fr o (fun v Δ rd=>me P K KP pr l (fr+1) ⟨ba s.env o.dst v,put s.o Δ,s.nx⟩ (fp++[(rd,Δ.map (·.1))]))
   (fun v ws rd=>ji P (KP v) pr l (fr+1) ⟨ba s.env o.dst .ai,s.o,s.nx⟩ (fp++[(rd,[])]) [fp.length] (ws++fp.flatMap (·.2)))->NB P K KP pr (o::l) fr s fp:=fun hg h=>by
   rcases DP h with⟨v,Δ,rd,kC,h⟩|⟨v,ws,rd,kC,h⟩
   ·exact step (.val v Δ rd) rfl ⟨hg,kC⟩ h
   ·exact bU v ws rd ⟨hg,kC⟩ h
  have skip:eF s o.gd false->me P K KP pr l (fr+1) ⟨ba s.env o.dst (.cf []),s.o,s.nx⟩ (fp++[([],[])])->NB P K KP pr (o::l) fr s fp:=fun hg h=>step .skip rfl hg h
  simp only[me]at h
  split at h
  ·rename_i hg;exact xa (by rw[hg];rfl) h
  ·rename_i d want hg
   split at h
   ·rename_i c hv
    split at h
    ·rename_i e;exact xa HG h
    ·rename_i e;exact skip HG h
   ·rename_i hv;exact skip (by rw[hg];simp[eF,hv]) h
   ·exact h.elim
end
end
section
def qH(env:Nat->V):List Nat->List V->Nat->V
 |t::ps,v::vs=>qH (aw env t v) ps vs
 |_,_=>env
def Gu(pr:List (List Nat))(m:Nat):Bool:=(List.range pr.length).all fun k=>Nat.blt k m||Nat.beq ((ff pr []).getD k 0) (2^k - 1)
def NC(P:Program)(l:List cg)(pr:List (List Nat))(Q:gr->S->Prop)(s:S):Prop:=
 ∃m,m<=l.length/\Gu pr m=true/\me P (fun s' fp=>fD pr fp=true/\qF P (fun v s=>Q (.bU v) s) (Q .normal) (l.drop m) ⟨s'.env,s'.o,s.nx+m⟩) (fun _ _ _=>False) pr (l.take m) s.nx s []
def vN(P:Program)(n b:Nat)(rd:Bool):IC->(gr->S->Prop)->S->Prop
 | .skip,Q,s=>Q .normal s
 | .ck l,Q,s=>qF P (fun v s=>Q (.bU v) s) (Q .normal) l s
 | .iW l pr,Q,s=>me P (Gt pr (s.nx+l.length) Q) (DO pr l s Q) pr l s.nx s []\/NC P l pr Q s
 | .seq x y,Q,s=>vN P n b rd x (rO (vN P n b rd y Q) Q) s
 | .cond c x y,Q,s=>match s.ev c with
   | .d (.bool t)=>r8 t (vN P n b rd x Q s) (vN P n b rd y Q s)
   | .gh=>vN P n b rd x Q s/\vN P n b rd y Q s
   |_=>False
 | .block id x,Q,s=>vN P n b rd x (gu id Q) s
 | .loop x,Q,s=>Nv b (vN P n b rd x) Q s
 | .exit id,Q,s=>Q (.exit id) s
 | .ret,Q,s=>Q .ret s
 | .LU g ps x y,Q,s=>rd=false/\ac3 P n b g ps x y Q s
 | .bad,_,_=>False
section
variable {P:Program}{n b:Nat}{rd:Bool}
theorem xd:∀ (l:List cg) (cC:List fX) (s:S) (k:Nat) (o:cg) (x:fX),l[k]? =some o->cC[k]? =some x->oD l cC s (k+1)=yB o.dst x (oD l cC s k)
 |[],_,_,_,_,_,h,_=>by simp at h
 |o::l,[],_,_,_,_,_,h=>by simp at h
 |o::l,x::xs,s,0,o',x',h,h'=>by simp at h h';subst h;subst h';cases l<;>cases xs<;>rfl
 |o::l,x::xs,s,k+1,o',x',h,h'=>by
  simp only[oD]
  exact xd l xs _ k o' x' (by simpa using h) (by simpa using h')
theorem Ad(l:List cg)(cC:List fX)(s:S)(hl:cC.length=l.length):∀k,k<=l.length->fh (cq l) (fun i=>cC.getD i default) (fun _=>true) s k=oD l cC s k:=by
 intro k
 induction k with
 |zero=>intro _;cases l<;>cases cC<;>rfl
 |succ k ih=>
  intro hk
  have h1:l[k]? =some (cq l k):=by simp[cq,List.getD_eq_getElem?_getD,List.getElem?_eq_getElem (by omega:k<l.length)]
  have h2:cC[k]? =some (cC.getD k default):=by simp[List.getD_eq_getElem?_getD,List.getElem?_eq_getElem (by omega:k<cC.length)]
  simp only[fh,if_true,ih (by omega)]
  rw[xd l cC s k _ _ h1 h2]
theorem oE{ops:Array Oper}:∀ (l:List Oper) (l':List cg),mq n ops l=some l'->l'.length=l.length
 |[],_,h=>by simp[mq]at h;subst h;rfl
 |o::l,l',h=>by
  simp only[mq]at h
  split at h
  ·rename_i hx;injection h with h;subst h;simp[oE l _ hx]
  ·cases h
theorem K4(bz:P.follows .mixedOrders=true){id:Nat}{ops:Array Oper}{l:List cg}{Q Q':gr->S->Prop}{s:S}(hQ:∀e s,Q e s->Q' e s)(tK:mq n ops ops.toList=some l)(ht:A2 l (iA ops)=true)
 (hp:Xs (iA ops)=true) (h:me P (Gt (iA ops) (s.nx+l.length) Q) (DO (iA ops) l s Q) (iA ops) l s.nx s []):jV P n b rd (.region id ops true) Q' s:=by
 intro M cY H0 w0 cx φ a w ro k hs
 obtain⟨cC,hl,a8,mf⟩:=xc l _ _ _ h
 have hlen:l.length=ops.size:=by rw[oE _ _ tK];simp
 have uF:∀k,k<ops.size->(iA ops).getD k []=bO ops k:=by
  intro k hk;simp[iA,List.getD_eq_getElem?_getD,List.getElem?_map,List.getElem?_range hk]
 have wJ:(iA ops).length=ops.size:=by simp[iA]
 have kC:=Ad l cC s hl
 have LS:∀k,k<ops.size->l[k]? =some (cq l k):=fun k hk=>by simp[cq,List.getD_eq_getElem?_getD,List.getElem?_eq_getElem (by omega:k<l.length)]
 have yz:∀k,k<ops.size->cC[k]? =some (cC.getD k default):=fun k hk=>by simp[List.getD_eq_getElem?_getD,List.getElem?_eq_getElem (by omega:k<cC.length)]
 have jD:∀k,k<ops.size->cC.getD k default∈cC:=fun k hk=>List.mem_of_getElem? (yz k hk)
 have Q0:∀k,k<ops.size->(Ac cC)[k]? =some (yV (cC.getD k default),ma (cC.getD k default)):=fun k hk=>by
  simp only[Ac,List.getElem?_map,yz k hk,Option.map_some]
 have XK:(Ac cC).length=ops.size:=by simp[Ac,hl,hlen]
 simp only[List.nil_append,List.length_nil,Nat.zero_add]at mf
 have wG:fD (iA ops) (Ac cC)=true:=by
  rcases mf with⟨_,h⟩|⟨v,wl,_,_,_,h,_⟩
  ·exact h.1
  ·exact h.1
 have K5:∀k,k<ops.size->∀j∈bO ops k,j<k:=fun k hk j hj=>by
  have:=List.all_eq_true.1 hp k (by simpa[wJ]using hk)
  rw[uF k hk]at this
  simpa using List.all_eq_true.1 this j hj
 have ND:∀k,k<(iA ops).length->∀j∈(iA ops).getD k [],j<k:=fun k hk j hj=>by
  rw[wJ]at hk;rw[uF k hk]at hj;exact K5 k hk j hj
 let po:Nat->Nat->Prop:=fun k j=>((ff (iA ops) []).getD k 0).testBit j=true
 have Iv:∀E:Nat->Bool,(∀k,k<ops.size->E k=true->∀j∈bO ops k,E j=true)->∀k,k<ops.size->(∀j∈bO ops k,E j=true)->∀j,po k j->E j=true:=fun E hE k hk hj j hb=>
  rn ND (fun k hk jT j hj=>by rw[wJ]at hk;rw[uF k hk]at hj;exact hE k hk jT j hj) k (by rw[wJ];exact hk) (by rw[uF k hk];exact hj) j hb
 have DM:∀k,k<ops.size->∀j,po k j->j<k:=fun k hk j hb=>CV ND k (by rw[wJ];exact hk) j hb
 have BD:∀i j,i<j->j<ops.size-> ¬po j i->Compat (cq l) (fun i=>cC.getD i default) (fun i=>yV (cC.getD i default)) i j:=by
  intro i j hij hj hn
  have QD:=List.all_eq_true.1 (List.all_eq_true.1 ht j (by simpa[hlen]using hj)) i (by simpa using hij)
  have zk:=List.all_eq_true.1 (List.all_eq_true.1 wG j (by simpa[XK]using hj)) i (by simpa using hij)
  have XL:((ff (iA ops) []).getD j 0).testBit i=false:=by simpa[po]using hn
  rw[XL,Bool.false_or]at QD zk
  simp only[Bool.and_eq_true]at QD zk
  have gi:=Q0 i ad
  have gj:=Q0 j hj
  simp only[List.getD_eq_getElem?_getD (l:=Ac cC),gi,gj,Option.getD_some]at zk
  have dj:∀ {xs ys:List Nat},lY xs ys=true->∀x∈xs,x∉ys:=fun h x hx=>by simpa using List.all_eq_true.1 h x hx
  have fo:∀ {x y:cg},tj x y=true->∀d,x.dst=some d->d∉fU y:=fun h d hd=>by simpa[tj,hd]using h
  exact abT
 have U1:∀i,i<ops.size->UX P (fh (cq l) (fun i=>cC.getD i default) (fun _=>true) s i) (s.nx+i) (cq l i) (cC.getD i default):=fun i hi=>by
  rw[kC i (by omega)];exact a8 i _ _ (LS i hi) (yz i hi)
 have dq:∀i,i<ops.size->∀t,(cq l i).dst=some t->(dstsOf l).contains t=true:=fun i hi t ht=>by
  simp only[List.contains_iff_mem,dstsOf,List.mem_filterMap]
  exact⟨cq l i,List.mem_of_getElem? (LS i hi),ht⟩
 rcases mf with⟨bu,mf⟩|⟨v,wl,q1,q2,q3,q4,q5,q6⟩
 ·refine DL (ac:=fun i=>cC.getD i default) (dl:=dstsOf l) (wl:=(cC.flatMap ma)) bz tK K5 hs U1 (fun i hi hb=> ?_) Iv DM BD dq (fun i hi id ay=> ?_) (fun i v ws vF hi hb=> ?_) (fun _ φ a w kE=> ?_) (fun i v ws vF hi hb=> ?_)
  ·have:=bu _ (jD i hi);rw[hb]at this;cases this
  ·simp only[List.contains_iff_mem,List.mem_flatMap];exact⟨_,jD i hi,ay⟩
  ·have:=bu _ (jD i hi);rw[hb]at this;cases this
  ·rw[kC ops.size (by omega), <- hlen]at kE
   exact⟨.normal,_,φ,hQ _ _ mf.2,kE,trivial⟩
  ·have:=bu _ (jD i hi);rw[hb]at this;cases this
 ·refine DL (ac:=fun i=>cC.getD i default) (dl:=dstsOf l) (wl:=wl) bz tK K5 hs U1 (fun i hi hb=> ?_) Iv DM BD dq (fun i hi id ay=> ?_) (fun i v' ws vF hi hb=> ?_) (fun bu φ a w kE=> ?_) (fun i v' ws vF hi hb φ a w val kE hd=> ?_)
  ·obtain⟨j,j1,j',e,y,j3,j4⟩:=q3 i Mx
   rw[uF i hi,e]at j1
   refine⟨j',j1, ?_⟩
   simp only[List.getD_eq_getElem?_getD,j3,Option.getD_some,j4]
  ·simp only[List.contains_iff_mem];exact q5 _ (jD i hi) id ay
  ·intro id ay
   simp only[List.contains_iff_mem]
   exact(q1 i v' ws vF Mx).2 id ay
  ·obtain⟨x,x1,x2⟩:=q2
   obtain⟨i,QV,hi2⟩:=List.getElem_of_mem x1
   have hi:i<ops.size:=ad
   have:=bu i hi
   have e:cC.getD i default=x:=by simp[List.getD_eq_getElem?_getD,List.getElem?_eq_getElem QV,hi2]
   rw[e,x2]at this;cases this
  ·have e:=(q1 i v' ws vF Mx).1
   subst e
   rw[<- hlen]at kE hd
   exact⟨.bU v',_,φ,hQ _ _ q4.2,kE,val,rfl,hd⟩
theorem Ae{ops:Array Oper}:∀ (l:List Oper) (l':List cg) (m:Nat),mq n ops l=some l'->mq n ops (l.drop m)=some (l'.drop m)
 |l,l',0,h=>h
 |[],l',m+1,h=>by simp[mq]at h;subst h;simp[mq]
 |o::l,l',m+1,h=>by
  simp only[mq]at h
  split at h
  ·rename_i x xs hx Qf
   injection h with h;subst h
   exact Ae l xs m Qf
  ·cases h
theorem NF{l:List cg}{ac:Nat->fX}{E:Nat->Bool}{s:S}{m:Nat}:∀k,k<=m->fh (cq l) ac E s k=fh (cq (l.take m)) ac E s k:=by
 intro k
 induction k with
 |zero=>intro _;rfl
 |succ k ih=>
  intro hk
  have:cq l k=cq (l.take m) k:=by simp[cq,List.getD_eq_getElem?_getD,List.getElem?_take,(by omega:k<m)]
  simp only[fh,ih (by omega),this]
theorem Gv(bz:P.follows .mixedOrders=true){id:Nat}{ops:Array Oper}{l:List cg}{Q Q':gr->S->Prop}{s:S}(hQ:∀e s,Q e s->Q' e s)(tK:mq n ops ops.toList=some l)(ht:A2 l (iA ops)=true)
 (hp:Xs (iA ops)=true) (h:NC P l (iA ops) Q s):jV P n b rd (.region id ops true) Q' s:=by
 intro M cY H0 w0 cx φ a w ro k hs
 obtain⟨m,Fq,hto,h⟩:=h
 obtain⟨cC,hl,a8,mf⟩:=xc (l.take m) _ _ _ h
 have hlm:(l.take m).length=m:=by rw[List.length_take];omega
 have hlen:l.length=ops.size:=by rw[oE _ _ tK];simp
 have mf:=mf.resolve_right (fun⟨_,_,_,_,_,q4,_,_⟩=>q4)
 obtain⟨bu,mf⟩:=mf
 have Nb:cC.length=m:=ad
 have uF:∀k,k<ops.size->(iA ops).getD k []=bO ops k:=by
  intro k hk;simp[iA,List.getD_eq_getElem?_getD,List.getElem?_map,List.getElem?_range hk]
 have wJ:(iA ops).length=ops.size:=by simp[iA]
 have kC:∀k,k<=m->fh (cq l) (fun i=>cC.getD i default) (fun _=>true) s k=oD (l.take m) cC s k:=fun k hk=>by
  rw[NF k hk];exact Ad (l.take m) cC s hl k ad
 have LS:∀k,k<m->(l.take m)[k]? =some (cq l k):=fun k hk=>by
  rw[List.getElem?_take,if_pos hk]
  simp[cq,List.getD_eq_getElem?_getD,List.getElem?_eq_getElem (by omega:k<l.length)]
 have yz:∀k,k<m->cC[k]? =some (cC.getD k default):=fun k hk=>by simp[List.getD_eq_getElem?_getD,List.getElem?_eq_getElem (by omega:k<cC.length)]
 have jD:∀k,k<m->cC.getD k default∈cC:=fun k hk=>List.mem_of_getElem? (yz k hk)
 have Q0:∀k,k<m->(Ac cC)[k]? =some (yV (cC.getD k default),ma (cC.getD k default)):=fun k hk=>by
  simp only[Ac,List.getElem?_map,yz k hk,Option.map_some]
 have XK:(Ac cC).length=m:=by simp[Ac,Nb]
 simp only[List.nil_append]at mf
 obtain⟨wG,Rh⟩:=mf
 have K5:∀k,k<ops.size->∀j∈bO ops k,j<k:=fun k hk j hj=>by
  have:=List.all_eq_true.1 hp k (by simpa[wJ]using hk)
  rw[uF k hk]at this
  simpa using List.all_eq_true.1 this j hj
 have ND:∀k,k<(iA ops).length->∀j∈(iA ops).getD k [],j<k:=fun k hk j hj=>by
  rw[wJ]at hk;rw[uF k hk]at hj;exact K5 k hk j hj
 let po:Nat->Nat->Prop:=fun k j=>((ff (iA ops) []).getD k 0).testBit j=true
 have Iv:∀E:Nat->Bool,(∀k,k<ops.size->E k=true->∀j∈bO ops k,E j=true)->∀k,k<ops.size->(∀j∈bO ops k,E j=true)->∀j,po k j->E j=true:=fun E hE k hk hj j hb=>
  rn ND (fun k hk jT j hj=>by rw[wJ]at hk;rw[uF k hk]at hj;exact hE k hk jT j hj) k (by rw[wJ];exact hk) (by rw[uF k hk];exact hj) j hb
 have DM:∀k,k<ops.size->∀j,po k j->j<k:=fun k hk j hb=>CV ND k (by rw[wJ];exact hk) j hb
 have BD:∀i j,i<j->j<m-> ¬po j i->Compat (cq l) (fun i=>cC.getD i default) (fun i=>yV (cC.getD i default)) i j:=by
  intro i j hij hj hn
  have QD:=List.all_eq_true.1 (List.all_eq_true.1 ht j ir) i (by simpa using hij)
  have zk:=List.all_eq_true.1 (List.all_eq_true.1 wG j (by simpa[XK]using hj)) i (by simpa using hij)
  have XL:((ff (iA ops) []).getD j 0).testBit i=false:=by simpa[po]using hn
  rw[XL,Bool.false_or]at QD zk
  simp only[Bool.and_eq_true]at QD zk
  have gi:=Q0 i ad
  have gj:=Q0 j hj
  simp only[List.getD_eq_getElem?_getD (l:=Ac cC),gi,gj,Option.getD_some]at zk
  have dj:∀ {xs ys:List Nat},lY xs ys=true->∀x∈xs,x∉ys:=fun h x hx=>by simpa using List.all_eq_true.1 h x hx
  have fo:∀ {x y:cg},tj x y=true->∀d,x.dst=some d->d∉fU y:=fun h d hd=>by simpa[tj,hd]using h
  exact abT
 have Ri:∀k,m<=k->k<ops.size->∀j,j<k->po k j:=fun k mV hk j hj=>by
  have:=List.all_eq_true.1 hto k (by simpa[wJ]using hk)
  simp only[Bool.or_eq_true]at this
  rcases this with this|this
  ·exact absurd (Nat.blt_eq.mp this) ad
  ·show((ff (iA ops) []).getD k 0).testBit j=true
   rw[Nat.eq_of_beq_eq_true this,Nat.testBit_two_pow_sub_one]
   exact decide_eq_true hj
 refine Gs (ac:=fun i=>cC.getD i default) (m:=m) (X:=fun v s=>Q' (.bU v) s) (K:=Q' .normal) bz tK K5 ad hs (fun i hi=> ?_) (fun i hi=>bu _ (jD i hi)) Iv DM BD Ri ?_ (fun s φ a w hk kE=>⟨.normal,s,φ,hk,kE,trivial⟩) (fun v s' aI a' w' val hx kE hd=>⟨.bU v,s',aI,hx,kE,val,rfl,hd⟩)
 ·rw[kC i (by omega)];exact a8 i _ _ (LS i hi) (yz i hi)
 ·rw[kC m (Nat.le_refl _)]
  rw[hlm]at Rh
  exact ke (fun s hs=>hQ _ _ hs) (fun v s hs=>hQ _ _ hs) _ _ _ (Ae _ _ m tK) Rh
theorem tL{g:V}{ps:List Nat}{x y:IC}{Q Q':gr->S->Prop}{s:S}(hQ:∀e s,Q e s->Q' e s)(h:Dx P n g ps x y Q s):Dx P n g ps x y Q' s:=by
 obtain⟨env,h1,h2⟩:=h
 refine⟨env,h1, ?_⟩
 split at h2
 ·refine pW.mono (fun v o n h=> ?_) (fun v o n h=>hQ _ _ h) h2
  obtain⟨nf,m,e,p,c,d,st,pd,k1,k2,k3⟩:=h
  refine⟨nf,m,e,p,c,d,st,pd,k1,k2, ?_⟩
  cases pd with
  |none=>exact hQ _ _ k3
  |some j=>cases j<;>exact hQ _ _ k3
 ·exact h2
theorem jj(bz:P.follows .mixedOrders=true):∀ (c:Code) (Q Q':gr->S->Prop) (s:S),(∀e s,Q e s->Q' e s)->vN P n b rd (low n c) Q s->jV P n b rd c Q' s:=by
 intro c
 induction c with
 |skip=>exact fun Q Q' s hQ h=>hQ _ _ h
 |scope x ih=>exact fun Q Q' s hQ h=>ih Q Q' s hQ h
 |label l=>exact fun Q Q' s hQ h=>hQ _ _ h
 |exit id=>exact fun Q Q' s hQ h=>hQ _ _ h
 |ret=>exact fun Q Q' s hQ h=>hQ _ _ h
 |goto l=>exact fun Q Q' s hQ h=>h.elim
 |refuse y=>exact fun Q Q' s hQ h=>h.elim
 |rangeFunc f p x y=>
  intro Q Q' s hQ h
  obtain⟨h1,s',hle,h2⟩:=h
  exact⟨h1,s',hle,tL hQ h2⟩
 |region id ops draw=>
  intro Q Q' s hQ h
  cases draw with
  |true=>
   simp only[low]at h
   split at h
   ·rename_i l hl
    split at h
    ·rename_i hc
     simp only[Bool.and_eq_true]at hc
     rcases h with h|h
     ·exact K4 bz hQ hl hc.1 hc.2 h
     ·exact Gv bz hQ hl hc.1 hc.2 h
    ·exact h.elim
   ·exact h.elim
  |false=>
   simp only[low]at h
   split at h
   ·rename_i l hl;exact ke (fun s hs=>hQ _ _ hs) (fun v s hs=>hQ _ _ hs) _ l s hl h
   ·exact h.elim
 |seq x y Ra Rb=>
  intro Q Q' s hQ h
  refine Ra _ _ s (fun e s he=> ?_) h
  cases e<;>first|exact Rb Q Q' s hQ he|exact hQ _ _ he
 |cond c x y Ra Rb=>
  intro Q Q' s hQ h
  simp only[low,vN]at h
  simp only[jV]
  split at h
  ·rename_i t hc
   simp only[hc]
   exact⟨fun ht=>Ra Q Q' s hQ (h.1 ht),fun ht=>Rb Q Q' s hQ (h.2 ht)⟩
  ·rename_i hc
   simp only[hc]
   exact⟨Ra Q Q' s hQ h.1,Rb Q Q' s hQ h.2⟩
  ·exact h.elim
 |block id x ih=>
  intro Q Q' s hQ h
  refine ih _ _ s (fun e s he=> ?_) h
  cases e<;>simp only[gu]at he|- <;>first
   |exact hQ _ _ he
   |(split at he<;>rename_i e
     ·rw[if_pos e];exact hQ _ _ he
     ·rw[if_neg e];exact hQ _ _ he)
 |loop x ih=>
  intro Q Q' s hQ h
  obtain⟨J,h0,hr⟩:=h
  refine⟨J,h0,fun m s0 hJ=>ih _ _ s0 (fun e s he=> ?_) (hr m s0 hJ)⟩
  cases e<;>first|exact hQ _ _ he|exact he
structure aS (P:Program) (f:FuncId) (n:Nat) (ic:IC) (rs:List ResultVar):Prop where
 get:∃fn,P.funcs[f]? =some fn/\(fn.name== "runtime.NumGoroutine")=false/\fn.ntmps=n/\fn.results.toList=rs/\∃c,fn.body=some c/\low n c=ic
theorem bJ.xe (bz:P.follows .mixedOrders=true){f:FuncId}{ic:IC}{rs:List ResultVar}(hf:aS P f n ic rs){args:List V}{o:Nat->aa}{nx:Nat}{K X:V->(Nat->aa)->Nat->Prop}(hl:args.length<=n)(h:vN P n nx false ic (nk P rs K X) ⟨cG args,o,nx⟩):bJ P f args o nx K X:=by
 obtain⟨fn,h1,h2,rfl,rfl,c,h3,rfl⟩:=hf.get
 exact bJ.Ip h1 h2 h3 hl (jj bz c _ _ _ (fun _ _ h=>h) h)
theorem a7.xe (bz:P.follows .mixedOrders=true){f:FuncId}{ic:IC}{rs:List ResultVar}(hf:aS P f n ic rs){ds:List D}{out:R}(hl:ds.length<=n)(h:vN P n 0 false ic (Bj P rs out) ⟨cG (ds.map .d),fun _=> .no,0⟩):a7 P f ds out:=by
 obtain⟨fn,h1,h2,rfl,rfl,c,h3,rfl⟩:=hf.get
 exact a7.l8 (bJ.Ip h1 h2 h3 (by simpa using hl) (jj bz c _ _ _ (fun e s h=>KN e s h) h))
end
end
end Go.Proofs.YtlhemmpklhhgoaaGreat
