/-
  A PART OF THE PROOF. Conditions: none.
-/
import Derived.Test.YtlhemmpklhhgoaaGreatQn8
set_option linter.unusedSimpArgs false
set_option linter.unusedVariables false
namespace Go.Proofs.YtlhemmpklhhgoaaGreat
section
def tX(P:Program)(g:FuncId)(ds:List D)(Kf Kb KX:V->Prop):Prop:=
 (∃rs,aX P g ds (.ret rs)/\(Kf (jq rs)\/(D.j7 rs=true/\Kb (jq rs))))\/(∃x,aX P g ds (.bN x)/\x.flat=true/\KX (.d x))\/(∃v,O4 P g ds v/\Kf v)
def js(P:Program)(g:FuncId)(args:List V)(o:Nat->ab)(nx fr:Nat)(K:V->List (Nat×ab)->List Nat->Prop)(KX:V->List Nat->List Nat->Prop):Prop:=
 ∃rd Δ,rd.all (fun id=>decide (id<nx))=true/\((∃rs,BQ P g args rd o (.ret rs) Δ/\K (jq rs) Δ rd)\/(∃x,BQ P g args rd o (.bN x) Δ/\KX (.d x) (Δ.map (·.1)) rd)\/(∃v,zd P g args rd o fr v Δ/\K v Δ rd))
def BS(P:Program)(s:S)(fr:Nat)(o:bZ)(K:V->List (Nat×ab)->List Nat->Prop)(KX:V->List Nat->List Nat->Prop):Prop:=
 match o.op with
 | .call c=>match c.callee with
   | .value f=>match s.ev f with
     | .func (.func g) first cap=>match cn s.o (first++c.args.toList.map s.ev++cap)with
       |some ds=>tX P g ds (fun v=>K v (bG s.o (V.bg (first++c.args.toList.map s.ev++cap))) (pC s o.op)) (fun v=>K v [] (pC s o.op)) (fun v=>KX v [] (pC s o.op))\/js P g (first++c.args.toList.map s.ev++cap) s.o s.nx fr K KX
       |none=>js P g (first++c.args.toList.map s.ev++cap) s.o s.nx fr K KX
     |_=>False
   |_=>match gQ P s fr o.op with
    |some (v,Δ,_)=>K v Δ (pC s o.op)
    |none=>False
 |op=>match gQ P s fr op with
  |some (v,Δ,_)=>K v Δ (pC s o.op)
  |none=>False
abbrev Fp:=List (List Nat×List Nat)
def iP(P:Program)(KB:List Nat->Fp->Prop)(pr:List (List Nat)):List bZ->Nat->S->Fp->List Nat->List Nat->Prop
 |[],_,_,fp,_,ws=>KB ws fp
 |o::l,fr,s,fp,bad,ws=>if(pr.getD fp.length []).any (fun j=>bad.contains j)=true then iP P KB pr l (fr+1) ⟨ba s.env o.dst .ad,s.o,s.nx⟩ (fp++[([],[])]) (bad++[fp.length]) ws
  else match o.gd with
  |none=>BS P s fr o (fun v Δ rd=>iP P KB pr l (fr+1) ⟨ba s.env o.dst v,put s.o Δ,s.nx⟩ (fp++[(rd,Δ.map (·.1))]) bad (ws++Δ.map (·.1))) (fun _ _ _=>False)
  |some (d,want)=>match s.env d with
   | .d (.bool b)=>if b=want then BS P s fr o (fun v Δ rd=>iP P KB pr l (fr+1) ⟨ba s.env o.dst v,put s.o Δ,s.nx⟩ (fp++[(rd,Δ.map (·.1))]) bad (ws++Δ.map (·.1))) (fun _ _ _=>False)
    else iP P KB pr l (fr+1) ⟨ba s.env o.dst (.bW []),s.o,s.nx⟩ (fp++[([],[])]) bad ws
   | .bW []=>iP P KB pr l (fr+1) ⟨ba s.env o.dst (.bW []),s.o,s.nx⟩ (fp++[([],[])]) bad ws
   |_=>False
def lE(P:Program)(K:S->Fp->Prop)(KP:V->List Nat->Fp->Prop)(pr:List (List Nat)):List bZ->Nat->S->Fp->Prop
 |[],_,s,fp=>K s fp
 |o::l,fr,s,fp=>match o.gd with
  |none=>BS P s fr o (fun v Δ rd=>lE P K KP pr l (fr+1) ⟨ba s.env o.dst v,put s.o Δ,s.nx⟩ (fp++[(rd,Δ.map (·.1))]))
   (fun v ws rd=>iP P (KP v) pr l (fr+1) ⟨ba s.env o.dst .ad,s.o,s.nx⟩ (fp++[(rd,[])]) [fp.length] (ws++fp.flatMap (·.2)))
  |some (d,want)=>match s.env d with
   | .d (.bool b)=>if b=want then BS P s fr o (fun v Δ rd=>lE P K KP pr l (fr+1) ⟨ba s.env o.dst v,put s.o Δ,s.nx⟩ (fp++[(rd,Δ.map (·.1))]))
         (fun v ws rd=>iP P (KP v) pr l (fr+1) ⟨ba s.env o.dst .ad,s.o,s.nx⟩ (fp++[(rd,[])]) [fp.length] (ws++fp.flatMap (·.2)))
    else lE P K KP pr l (fr+1) ⟨ba s.env o.dst (.bW []),s.o,s.nx⟩ (fp++[([],[])])
   | .bW []=>lE P K KP pr l (fr+1) ⟨ba s.env o.dst (.bW []),s.o,s.nx⟩ (fp++[([],[])])
   |_=>False
def FA(pr:List (List Nat))(nx:Nat)(Q:fS->S->Prop)(s:S)(fp:Fp):Prop:=ff pr fp=true/\Q .normal ⟨s.env,s.o,nx⟩
def dstsOf(l:List bZ):List Nat:=l.filterMap (·.dst)
def C1(pr:List (List Nat))(l:List bZ)(s0:S)(Q:fS->S->Prop)(v:V)(wl:List Nat)(fp:Fp):Prop:=ff pr fp=true/\Q (.bN v) (vZ (dstsOf l) wl l.length s0)
def nP:List bZ->List fL->S->Nat->S
 |_,_,s,0=>s
 |o::l,x::xs,s,j+1=>nP l xs (xG o.dst x s) j
 |_,_,s,_=>s
def zi(ct:List fL):Fp:=ct.map fun x=>(xW x,lC x)
section
variable {P:Program}{n b:Nat}
theorem C2{s:S}{fr:Nat}{o:bZ}{K:V->List (Nat×ab)->List Nat->Prop}{KX:V->List Nat->List Nat->Prop}(h:BS P s fr o K KX):(∃v Δ rd,ze P s fr o.op v Δ rd/\K v Δ rd)\/(∃v ws rd,CU P s o.op v ws rd/\KX v ws rd):=by
 have hs:∀ {op:Op},o.op=op->(match gQ P s fr op with|some (v,Δ,_)=>K v Δ (pC s o.op)|none=>False)->(∃v Δ rd,ze P s fr o.op v Δ rd/\K v Δ rd):=by
  intro op gC h
  split at h
  ·rename_i v Δ rd he;exact⟨v,Δ,_, .inl ⟨⟨rd,by rw[gC];exact he⟩,rfl⟩,h⟩
  ·exact h.elim
 unfold BS at h
 split at h
 ·rename_i c hc
  split at h
  ·rename_i f fC
   split at h
   ·rename_i g first cap hf
    split at h
    ·rename_i ds fD
     rcases h with(⟨rs,hP,h|⟨qG,h⟩⟩|⟨x,hP,qG,h⟩|⟨v,hP,h⟩)|⟨rd,Δ,m9,⟨rs,hH,h⟩|⟨x,hH,h⟩|⟨v,hH,h⟩⟩
     ·exact .inl ⟨_,_,_, .inr ⟨c,f,g,first,cap,hc,fC,hf, .inl ⟨ds,rs,fD,hP,rfl,rfl, .inl rfl⟩⟩,h⟩
     ·exact .inl ⟨_,_,_, .inr ⟨c,f,g,first,cap,hc,fC,hf, .inl ⟨ds,rs,fD,hP,rfl,rfl, .inr ⟨qG,rfl⟩⟩⟩,h⟩
     ·exact .inr ⟨_,_,_,⟨c,f,g,first,cap,hc,fC,hf, .inl ⟨ds,x,fD,hP,qG,rfl,rfl,rfl⟩⟩,h⟩
     ·exact .inl ⟨_,_,_, .inr ⟨c,f,g,first,cap,hc,fC,hf, .inr (.inr (.inl ⟨ds,fD,hP,rfl,rfl⟩))⟩,h⟩
     ·exact aaH
     ·exact aaK
     ·exact aaI
    ·obtain⟨rd,Δ,m9,⟨rs,hH,h⟩|⟨x,hH,h⟩|⟨v,hH,h⟩⟩:=h
     ·exact aaH
     ·exact aaK
     ·exact aaI
   ·exact h.elim
  ·rw[hc]at h;exact .inl (hs hc (by rw[hc];exact h))
 ·exact .inl (hs rfl h)
def Qb(P:Program)(KB:List Nat->Fp->Prop)(pr:List (List Nat))(l:List bZ)(fr:Nat)(s:S)(fp:Fp)(bad ws:List Nat):Prop:=
    ∃ct:List fL,ct.length=l.length/\(∀j o x,l[j]? =some o->ct[j]? =some x->TD P (nP l ct s j) (fr+j) o x)/\
     (∀ (j:Nat),ct[j]? =some fL.eA->∃i∈pr.getD (fp.length+j) [],i∈bad\/∃j',j'<j/\i=fp.length+j'/\ct[j']? =some .eA)/\(∀x∈ct,x= .eA\/x.ok=true)/\
     ∃wl,KB wl (fp++zi ct)/\(∀id∈ws,id∈wl)/\∀x∈ct,∀id∈lC x,id∈wl
theorem C3{KB:List Nat->Fp->Prop}{pr:List (List Nat)}:∀ (l:List bZ) (fr:Nat) (s:S) (fp:Fp) (bad ws:List Nat),iP P KB pr l fr s fp bad ws->Qb P KB pr l fr s fp bad ws
 |[],fr,s,fp,bad,ws,h=>⟨[],rfl,fun j o x hj=>by simp at hj,fun j hj=>by simp at hj,fun x hx=>by simp at hx,ws,by simpa[zi,iP]using h,fun _ h=>h,fun x hx=>by simp at hx⟩
 |o::l,fr,s,fp,bad,ws,h=>by
  have step:∀ (x:fL) (Qc TG:List Nat),TD P s fr o x->iP P KB pr l (fr+1) (xG o.dst x s) (fp++[(xW x,lC x)]) Qc TG->(x= .eA\/x.ok=true)->(x= .eA->∃i∈pr.getD fp.length [],i∈bad)->
   (∀i∈Qc,i∈bad\/(i=fp.length/\x= .eA))->(∀id∈ws,id∈TG)->(∀id∈lC x,id∈TG)->
   Qb P KB pr (o::l) fr s fp bad ws:=by
   intro x Qc TG aY hr Wk JO Wj Qa hW
   obtain⟨ct,h1,h2,h3,h4,wl,h5,h6,h7⟩:=C3 l (fr+1) _ _ Qc TG hr
   refine⟨x::ct,by simp[h1],fun j o' y hj hy=> ?_,fun j hj=> ?_,fun y hy=> ?_,wl,by simpa[zi]using h5,fun id ax=>h6 id (Qa id ax),fun y hy id ax=> ?_⟩
   ·cases j with
    |zero=>exact Lw
    |succ j=>
     have:=h2 j o' y nq (by simpa using hy)
     exact V4
   ·cases j with
    |zero=>
     simp at hj
     obtain⟨i,i1,i2⟩:=JO hj
     exact⟨i,by simpa using i1, .inl i2⟩
    |succ j=>
     obtain⟨i,i1,i2⟩:=h3 j nq
     simp only[List.length_append,List.length_cons,List.length_nil]at i1 i2
     refine⟨i,by rw[show fp.length+(j+1)=fp.length+(0+1)+j by omega];exact i1, ?_⟩
     rcases i2 with i2|⟨j',j1,j2,j3⟩
     ·rcases Wj i i2 with hb|⟨e1,e2⟩
      ·exact .inl hb
      ·exact .inr ⟨0,af,af,by simp[e2]⟩
     ·exact .inr ⟨j'+1,af,af,by simpa using j3⟩
   ·rcases List.mem_cons.1 hy with rfl|hy
    ·exact Wk
    ·exact h4 y hy
   ·rcases List.mem_cons.1 hy with rfl|hy
    ·exact h6 id (hW id ax)
    ·exact h7 y hy id ax
  simp only[iP]at h
  split at h
  ·rename_i hb
   obtain⟨j,hj1,Tk⟩:=List.any_eq_true.1 hb
   exact step .eA _ _ trivial h (.inl rfl) (fun _=>⟨j,hj1,by simpa using Tk⟩) (fun i hi=>by
    rcases List.mem_append.1 hi with hi|hi
    ·exact .inl hi
    ·exact .inr ⟨by simpa using hi,rfl⟩) (fun _ h=>h) (fun id ax=>by simp[lC]at ax)
  ·have wb:dX s o.gd true->BS P s fr o (fun v Δ rd=>iP P KB pr l (fr+1) ⟨ba s.env o.dst v,put s.o Δ,s.nx⟩ (fp++[(rd,Δ.map (·.1))]) bad (ws++Δ.map (·.1))) (fun _ _ _=>False)->Qb P KB pr (o::l) fr s fp bad ws:=fun hg h=>by
    rcases C2 h with⟨v,Δ,rd,kB,h⟩|⟨v,TG,rd,_,h⟩
    ·exact step (.val v Δ rd) bad (ws++Δ.map (·.1)) ⟨hg,kB⟩ h (.inr rfl) (fun h=>by cases h) (fun i hi=> .inl hi) (fun id ax=>List.mem_append.2 (.inl ax)) (fun id ax=>List.mem_append.2 (.inr ax))
    ·exact h.elim
   have skip:dX s o.gd false->iP P KB pr l (fr+1) ⟨ba s.env o.dst (.bW []),s.o,s.nx⟩ (fp++[([],[])]) bad ws->Qb P KB pr (o::l) fr s fp bad ws:=fun hg h=>
    step .skip bad ws hg h (.inr rfl) (fun h=>by cases h) (fun i hi=> .inl hi) (fun id ax=>ax) (fun id ax=>by simp[lC]at ax)
   split at h
   ·rename_i hg;exact wb (by rw[hg];rfl) h
   ·rename_i d want hg
    split at h
    ·rename_i c hv
     split at h
     ·rename_i e;exact wb GL h
     ·rename_i e;exact skip GL h
    ·rename_i hv;exact skip (by rw[hg];simp[dX,hv]) h
    ·exact h.elim
def Mz(P:Program)(K:S->Fp->Prop)(KP:V->List Nat->Fp->Prop)(pr:List (List Nat))(l:List bZ)(fr:Nat)(s:S)(fp:Fp):Prop:=
 ∃ct:List fL,ct.length=l.length/\(∀j o x,l[j]? =some o->ct[j]? =some x->TD P (nP l ct s j) (fr+j) o x)/\
  (((∀x∈ct,x.ok=true)/\K (nP l ct s l.length) (fp++zi ct))\/
   ∃v wl,(∀ (j:Nat) (v':V) (ws rd:List Nat),ct[j]? =some (fL.bN v' ws rd)->v'=v/\∀id∈ws,id∈wl)/\(∃x∈ct,x.ok=false)/\
    (∀ (j:Nat),ct[j]? =some fL.eA->∃i∈pr.getD (fp.length+j) [],∃j',i=fp.length+j'/\∃y,ct[j']? =some y/\y.ok=false)/\KP v wl (fp++zi ct)/\(∀x∈ct,∀id∈lC x,id∈wl)/\∀id∈fp.flatMap (·.2),id∈wl)
theorem we{K:S->Fp->Prop}{KP:V->List Nat->Fp->Prop}{pr:List (List Nat)}:∀ (l:List bZ) (fr:Nat) (s:S) (fp:Fp),lE P K KP pr l fr s fp->Mz P K KP pr l fr s fp
 |[],fr,s,fp,h=>⟨[],rfl,fun j o x hj=>by simp at hj, .inl ⟨fun x hx=>by simp at hx,by simpa[nP,zi,lE]using h⟩⟩
 |o::l,fr,s,fp,h=>by
  have step:∀ (x:fL),x.ok=true->TD P s fr o x->lE P K KP pr l (fr+1) (xG o.dst x s) (fp++[(xW x,lC x)])->Mz P K KP pr (o::l) fr s fp:=by
   intro x hxo aY hr
   obtain⟨ct,h1,h2,h3⟩:=we l (fr+1) _ _ hr
   refine⟨x::ct,by simp[h1],fun j o' y hj hy=> ?_, ?_⟩
   ·cases j with
    |zero=>exact Lw
    |succ j=>
     have:=h2 j o' y nq (by simpa using hy)
     exact V4
   ·rcases h3 with⟨h3,h4⟩|⟨v,wl,g1,g2,g3,g4,g5,g6⟩
    ·left
     refine⟨fun y hy=> ?_,by simpa[nP,zi]using h4⟩
     rcases List.mem_cons.1 hy with rfl|hy
     ·exact hxo
     ·exact h3 y hy
    ·right
     refine⟨v,wl,fun j v' ws rd hj=> ?_, ?_,fun j hj=> ?_,by simpa[zi]using g4,fun y hy id ax=> ?_,fun id ax=>g6 id (by simp only[List.flatMap_append,List.mem_append];exact .inl ax)⟩
     ·cases j with
      |zero=>simp at hj;rw[hj]at hxo;cases hxo
      |succ j=>exact g1 j v' ws rd nq
     ·obtain⟨y,y1,y2⟩:=g2;exact⟨y,by simp[y1],y2⟩
     ·cases j with
      |zero=>simp at hj;rw[hj]at hxo;cases hxo
      |succ j=>
       obtain⟨i,i1,j',i2,y,i3,i4⟩:=g3 j nq
       simp only[List.length_append,List.length_cons,List.length_nil]at i1 i2
       exact⟨i,by rw[show fp.length+(j+1)=fp.length+(0+1)+j by omega];exact i1,j'+1,af,y,by simpa using i3,i4⟩
     ·rcases List.mem_cons.1 hy with rfl|hy
      ·exact g6 id (by simp only[List.flatMap_append,List.mem_append];exact .inr (by simpa using ax))
      ·exact g5 y hy id ax
  have bN:∀ (v:V) (ws rd:List Nat),TD P s fr o (.bN v ws rd)->iP P (KP v) pr l (fr+1) ⟨ba s.env o.dst .ad,s.o,s.nx⟩ (fp++[(rd,[])]) [fp.length] (ws++fp.flatMap (·.2))->Mz P K KP pr (o::l) fr s fp:=by
   intro v ws rd aY hr
   obtain⟨ct,h1,h2,h3,h4,wl,h5,h6,h7⟩:=C3 l (fr+1) _ _ _ _ hr
   refine⟨fL.bN v ws rd::ct,by simp[h1],fun j o' y hj hy=> ?_, .inr ⟨v,wl,fun j v' TG uN hj=> ?_,⟨fL.bN v ws rd,aE,rfl⟩,fun j hj=> ?_,by simpa[zi,xW,lC]using h5,fun y hy id ax=> ?_,fun id ax=>h6 id (List.mem_append.2 (.inr ax))⟩⟩
   ·cases j with
    |zero=>exact Lw
    |succ j=>
     have:=h2 j o' y nq (by simpa using hy)
     exact V4
   ·cases j with
    |zero=>simp at hj;obtain⟨rfl,rfl,rfl⟩:=hj;exact⟨rfl,fun id ax=>h6 id (List.mem_append.2 (.inl ax))⟩
    |succ j=>
     have hm:=List.mem_of_getElem? (show ct[j]? =some (.bN v' TG uN) by simpa using hj)
     rcases h4 _ hm with h|h<;>cases h
   ·cases j with
    |zero=>simp at hj
    |succ j=>
     obtain⟨i,i1,i2⟩:=h3 j nq
     simp only[List.length_append,List.length_cons,List.length_nil]at i1 i2
     refine⟨i,by rw[show fp.length+(j+1)=fp.length+(0+1)+j by omega];exact i1, ?_⟩
     rcases i2 with i2|⟨j',j1,j2,j3⟩
     ·exact⟨0,by simpa using i2,_,rfl,rfl⟩
     ·exact⟨j'+1,af, .eA,by simpa using j3,rfl⟩
   ·rcases List.mem_cons.1 hy with rfl|hy
    ·simp[lC]at ax
    ·exact h7 y hy id ax
  have wb:dX s o.gd true->BS P s fr o (fun v Δ rd=>lE P K KP pr l (fr+1) ⟨ba s.env o.dst v,put s.o Δ,s.nx⟩ (fp++[(rd,Δ.map (·.1))]))
   (fun v ws rd=>iP P (KP v) pr l (fr+1) ⟨ba s.env o.dst .ad,s.o,s.nx⟩ (fp++[(rd,[])]) [fp.length] (ws++fp.flatMap (·.2)))->Mz P K KP pr (o::l) fr s fp:=fun hg h=>by
   rcases C2 h with⟨v,Δ,rd,kB,h⟩|⟨v,ws,rd,kB,h⟩
   ·exact step (.val v Δ rd) rfl ⟨hg,kB⟩ h
   ·exact bN v ws rd ⟨hg,kB⟩ h
  have skip:dX s o.gd false->lE P K KP pr l (fr+1) ⟨ba s.env o.dst (.bW []),s.o,s.nx⟩ (fp++[([],[])])->Mz P K KP pr (o::l) fr s fp:=fun hg h=>step .skip rfl hg h
  simp only[lE]at h
  split at h
  ·rename_i hg;exact wb (by rw[hg];rfl) h
  ·rename_i d want hg
   split at h
   ·rename_i c hv
    split at h
    ·rename_i e;exact wb GL h
    ·rename_i e;exact skip GL h
   ·rename_i hv;exact skip (by rw[hg];simp[dX,hv]) h
   ·exact h.elim
end
end
section
def qk(env:Nat->V):List Nat->List V->Nat->V
 |t::ps,v::vs=>qk (ay env t v) ps vs
 |_,_=>env
def FB(pr:List (List Nat))(m:Nat):Bool:=(List.range pr.length).all fun k=>Nat.blt k m||Nat.beq ((eP pr []).getD k 0) (2^k - 1)
def MA(P:Program)(l:List bZ)(pr:List (List Nat))(Q:fS->S->Prop)(s:S):Prop:=
 ∃m,m<=l.length/\FB pr m=true/\lE P (fun s' fp=>ff pr fp=true/\qi P (fun v s=>Q (.bN v) s) (Q .normal) (l.drop m) ⟨s'.env,s'.o,s.nx+m⟩) (fun _ _ _=>False) pr (l.take m) s.nx s []
def uU(P:Program)(n b:Nat)(rd:Bool):IC->(fS->S->Prop)->S->Prop
 | .skip,Q,s=>Q .normal s
 | .ag l,Q,s=>qi P (fun v s=>Q (.bN v) s) (Q .normal) l s
 | .dH l pr,Q,s=>lE P (FA pr (s.nx+l.length) Q) (C1 pr l s Q) pr l s.nx s []\/MA P l pr Q s
 | .seq x y,Q,s=>uU P n b rd x (re (uU P n b rd y Q) Q) s
 | .cond c x y,Q,s=>match s.ev c with
   | .d (.bool t)=>rz t (uU P n b rd x Q s) (uU P n b rd y Q s)
   | .fF=>uU P n b rd x Q s/\uU P n b rd y Q s
   |_=>False
 | .block id x,Q,s=>uU P n b rd x (fU id Q) s
 | .loop x,Q,s=>Mt b (uU P n b rd x) Q s
 | .exit id,Q,s=>Q (.exit id) s
 | .ret,Q,s=>Q .ret s
 | .KJ g ps x y,Q,s=>rd=false/\ab1 P n b g ps x y Q s
 | .bad,_,_=>False
section
variable {P:Program}{n b:Nat}{rd:Bool}
theorem wg:∀ (l:List bZ) (ct:List fL) (s:S) (k:Nat) (o:bZ) (x:fL),l[k]? =some o->ct[k]? =some x->nP l ct s (k+1)=xG o.dst x (nP l ct s k)
 |[],_,_,_,_,_,h,_=>by simp at h
 |o::l,[],_,_,_,_,_,h=>by simp at h
 |o::l,x::xs,s,0,o',x',h,h'=>by simp at h h';subst h;subst h';cases l<;>cases xs<;>rfl
 |o::l,x::xs,s,k+1,o',x',h,h'=>by
  simp only[nP]
  exact wg l xs _ k o' x' (by simpa using h) (by simpa using h')
theorem zj(l:List bZ)(ct:List fL)(s:S)(hl:ct.length=l.length):∀k,k<=l.length->eR (cf l) (fun i=>ct.getD i default) (fun _=>true) s k=nP l ct s k:=by
 intro k
 induction k with
 |zero=>intro _;cases l<;>cases ct<;>rfl
 |succ k ih=>
  intro hk
  have h1:l[k]? =some (cf l k):=by simp[cf,List.getD_eq_getElem?_getD,List.getElem?_eq_getElem (by omega:k<l.length)]
  have h2:ct[k]? =some (ct.getD k default):=by simp[List.getD_eq_getElem?_getD,List.getElem?_eq_getElem (by omega:k<ct.length)]
  simp only[eR,if_true,ih (by omega)]
  rw[wg l ct s k _ _ h1 h2]
theorem nQ{ops:Array Oper}:∀ (l:List Oper) (l':List bZ),lO n ops l=some l'->l'.length=l.length
 |[],_,h=>by simp[lO]at h;subst h;rfl
 |o::l,l',h=>by
  simp only[lO]at h
  split at h
  ·rename_i hx;injection h with h;subst h;simp[nQ l _ hx]
  ·cases h
theorem JS(bn:P.follows .mixedOrders=true){id:Nat}{ops:Array Oper}{l:List bZ}{Q Q':fS->S->Prop}{s:S}(hQ:∀e s,Q e s->Q' e s)(sV:lO n ops ops.toList=some l)(ht:Aj l (gV ops)=true)
 (hp:V6 (gV ops)=true) (h:lE P (FA (gV ops) (s.nx+l.length) Q) (C1 (gV ops) l s Q) (gV ops) l s.nx s []):jC P n b rd (.region id ops true) Q' s:=by
 intro M cS H0 w0 cx φ a w ro k hs
 obtain⟨ct,hl,aY,jt⟩:=we l _ _ _ h
 have hlen:l.length=ops.size:=by rw[nQ _ _ sV];simp
 have tN:∀k,k<ops.size->(gV ops).getD k []=bI ops k:=by
  intro k hk;simp[gV,List.getD_eq_getElem?_getD,List.getElem?_map,List.getElem?_range hk]
 have yH:(gV ops).length=ops.size:=by simp[gV]
 have kB:=zj l ct s hl
 have KG:∀k,k<ops.size->l[k]? =some (cf l k):=fun k hk=>by simp[cf,List.getD_eq_getElem?_getD,List.getElem?_eq_getElem (by omega:k<l.length)]
 have xF:∀k,k<ops.size->ct[k]? =some (ct.getD k default):=fun k hk=>by simp[List.getD_eq_getElem?_getD,List.getElem?_eq_getElem (by omega:k<ct.length)]
 have ng:∀k,k<ops.size->ct.getD k default∈ct:=fun k hk=>List.mem_of_getElem? (xF k hk)
 have PN:∀k,k<ops.size->(zi ct)[k]? =some (xW (ct.getD k default),lC (ct.getD k default)):=fun k hk=>by
  simp only[zi,List.getElem?_map,xF k hk,Option.map_some]
 have Wl:(zi ct).length=ops.size:=by simp[zi,hl,hlen]
 simp only[List.nil_append,List.length_nil,Nat.zero_add]at jt
 have vF:ff (gV ops) (zi ct)=true:=by
  rcases jt with⟨_,h⟩|⟨v,wl,_,_,_,h,_⟩
  ·exact h.1
  ·exact h.1
 have JT:∀k,k<ops.size->∀j∈bI ops k,j<k:=fun k hk j hj=>by
  have:=List.all_eq_true.1 hp k (by simpa[yH]using hk)
  rw[tN k hk]at this
  simpa using List.all_eq_true.1 this j hj
 have MB:∀k,k<(gV ops).length->∀j∈(gV ops).getD k [],j<k:=fun k hk j hj=>by
  rw[yH]at hk;rw[tN k hk]at hj;exact JT k hk j hj
 let po:Nat->Nat->Prop:=fun k j=>((eP (gV ops) []).getD k 0).testBit j=true
 have Hr:∀E:Nat->Bool,(∀k,k<ops.size->E k=true->∀j∈bI ops k,E j=true)->∀k,k<ops.size->(∀j∈bI ops k,E j=true)->∀j,po k j->E j=true:=fun E hE k hk hj j hb=>
  qL MB (fun k hk jB j hj=>by rw[yH]at hk;rw[tN k hk]at hj;exact hE k hk jB j hj) k (by rw[yH];exact hk) (by rw[tN k hk];exact hj) j hb
 have CZ:∀k,k<ops.size->∀j,po k j->j<k:=fun k hk j hb=>B9 MB k (by rw[yH];exact hk) j hb
 have A1:∀i j,i<j->j<ops.size-> ¬po j i->Compat (cf l) (fun i=>ct.getD i default) (fun i=>xW (ct.getD i default)) i j:=by
  intro i j hij hj hn
  have Px:=List.all_eq_true.1 (List.all_eq_true.1 ht j (by simpa[hlen]using hj)) i (by simpa using hij)
  have yj:=List.all_eq_true.1 (List.all_eq_true.1 vF j (by simpa[Wl]using hj)) i (by simpa using hij)
  have hnc:((eP (gV ops) []).getD j 0).testBit i=false:=by simpa[po]using hn
  rw[hnc,Bool.false_or]at Px yj
  simp only[Bool.and_eq_true]at Px yj
  have gi:=PN i af
  have gj:=PN j hj
  simp only[List.getD_eq_getElem?_getD (l:=zi ct),gi,gj,Option.getD_some]at yj
  have dj:∀ {xs ys:List Nat},lu xs ys=true->∀x∈xs,x∉ys:=fun h x hx=>by simpa using List.all_eq_true.1 h x hx
  have fo:∀ {x y:bZ},sC x y=true->∀d,x.dst=some d->d∉fE y:=fun h d hd=>by simpa[sC,hd]using h
  exact aaO
 have TH:∀i,i<ops.size->TD P (eR (cf l) (fun i=>ct.getD i default) (fun _=>true) s i) (s.nx+i) (cf l i) (ct.getD i default):=fun i hi=>by
  rw[kB i (by omega)];exact aY i _ _ (KG i hi) (xF i hi)
 have df:∀i,i<ops.size->∀t,(cf l i).dst=some t->(dstsOf l).contains t=true:=fun i hi t ht=>by
  simp only[List.contains_iff_mem,dstsOf,List.mem_filterMap]
  exact⟨cf l i,List.mem_of_getElem? (KG i hi),ht⟩
 rcases jt with⟨bf,jt⟩|⟨v,wl,q1,q2,q3,q4,q5,q6⟩
 ·refine CY (ac:=fun i=>ct.getD i default) (dl:=dstsOf l) (wl:=(ct.flatMap lC)) bn sV JT hs TH (fun i hi hb=> ?_) Hr CZ A1 df (fun i hi id ax=> ?_) (fun i v ws uN hi hb=> ?_) (fun _ φ a w jU=> ?_) (fun i v ws uN hi hb=> ?_)
  ·have:=bf _ (ng i hi);rw[hb]at this;cases this
  ·simp only[List.contains_iff_mem,List.mem_flatMap];exact⟨_,ng i hi,ax⟩
  ·have:=bf _ (ng i hi);rw[hb]at this;cases this
  ·rw[kB ops.size (by omega), <- hlen]at jU
   exact⟨.normal,_,φ,hQ _ _ jt.2,jU,trivial⟩
  ·have:=bf _ (ng i hi);rw[hb]at this;cases this
 ·refine CY (ac:=fun i=>ct.getD i default) (dl:=dstsOf l) (wl:=wl) bn sV JT hs TH (fun i hi hb=> ?_) Hr CZ A1 df (fun i hi id ax=> ?_) (fun i v' ws uN hi hb=> ?_) (fun bf φ a w jU=> ?_) (fun i v' ws uN hi hb φ a w val jU hd=> ?_)
  ·obtain⟨j,j1,j',e,y,j3,j4⟩:=q3 i LD
   rw[tN i hi,e]at j1
   refine⟨j',j1, ?_⟩
   simp only[List.getD_eq_getElem?_getD,j3,Option.getD_some,j4]
  ·simp only[List.contains_iff_mem];exact q5 _ (ng i hi) id ax
  ·intro id ax
   simp only[List.contains_iff_mem]
   exact(q1 i v' ws uN LD).2 id ax
  ·obtain⟨x,x1,x2⟩:=q2
   obtain⟨i,PI,hi2⟩:=List.getElem_of_mem x1
   have hi:i<ops.size:=af
   have:=bf i hi
   have e:ct.getD i default=x:=by simp[List.getD_eq_getElem?_getD,List.getElem?_eq_getElem PI,hi2]
   rw[e,x2]at this;cases this
  ·have e:=(q1 i v' ws uN LD).1
   subst e
   rw[<- hlen]at jU hd
   exact⟨.bN v',_,φ,hQ _ _ q4.2,jU,val,rfl,hd⟩
theorem zk{ops:Array Oper}:∀ (l:List Oper) (l':List bZ) (m:Nat),lO n ops l=some l'->lO n ops (l.drop m)=some (l'.drop m)
 |l,l',0,h=>h
 |[],l',m+1,h=>by simp[lO]at h;subst h;simp[lO]
 |o::l,l',m+1,h=>by
  simp only[lO]at h
  split at h
  ·rename_i x xs hx OY
   injection h with h;subst h
   exact zk l xs m OY
  ·cases h
theorem MC{l:List bZ}{ac:Nat->fL}{E:Nat->Bool}{s:S}{m:Nat}:∀k,k<=m->eR (cf l) ac E s k=eR (cf (l.take m)) ac E s k:=by
 intro k
 induction k with
 |zero=>intro _;rfl
 |succ k ih=>
  intro hk
  have:cf l k=cf (l.take m) k:=by simp[cf,List.getD_eq_getElem?_getD,List.getElem?_take,(by omega:k<m)]
  simp only[eR,ih (by omega),this]
theorem FC(bn:P.follows .mixedOrders=true){id:Nat}{ops:Array Oper}{l:List bZ}{Q Q':fS->S->Prop}{s:S}(hQ:∀e s,Q e s->Q' e s)(sV:lO n ops ops.toList=some l)(ht:Aj l (gV ops)=true)
 (hp:V6 (gV ops)=true) (h:MA P l (gV ops) Q s):jC P n b rd (.region id ops true) Q' s:=by
 intro M cS H0 w0 cx φ a w ro k hs
 obtain⟨m,KN,hto,h⟩:=h
 obtain⟨ct,hl,aY,jt⟩:=we (l.take m) _ _ _ h
 have hlm:(l.take m).length=m:=by rw[List.length_take];omega
 have hlen:l.length=ops.size:=by rw[nQ _ _ sV];simp
 have jt:=jt.resolve_right (fun⟨_,_,_,_,_,q4,_,_⟩=>q4)
 obtain⟨bf,jt⟩:=jt
 have KI:ct.length=m:=af
 have tN:∀k,k<ops.size->(gV ops).getD k []=bI ops k:=by
  intro k hk;simp[gV,List.getD_eq_getElem?_getD,List.getElem?_map,List.getElem?_range hk]
 have yH:(gV ops).length=ops.size:=by simp[gV]
 have kB:∀k,k<=m->eR (cf l) (fun i=>ct.getD i default) (fun _=>true) s k=nP (l.take m) ct s k:=fun k hk=>by
  rw[MC k hk];exact zj (l.take m) ct s hl k af
 have KG:∀k,k<m->(l.take m)[k]? =some (cf l k):=fun k hk=>by
  rw[List.getElem?_take,if_pos hk]
  simp[cf,List.getD_eq_getElem?_getD,List.getElem?_eq_getElem (by omega:k<l.length)]
 have xF:∀k,k<m->ct[k]? =some (ct.getD k default):=fun k hk=>by simp[List.getD_eq_getElem?_getD,List.getElem?_eq_getElem (by omega:k<ct.length)]
 have ng:∀k,k<m->ct.getD k default∈ct:=fun k hk=>List.mem_of_getElem? (xF k hk)
 have PN:∀k,k<m->(zi ct)[k]? =some (xW (ct.getD k default),lC (ct.getD k default)):=fun k hk=>by
  simp only[zi,List.getElem?_map,xF k hk,Option.map_some]
 have Wl:(zi ct).length=m:=by simp[zi,KI]
 simp only[List.nil_append]at jt
 obtain⟨vF,Qd⟩:=jt
 have JT:∀k,k<ops.size->∀j∈bI ops k,j<k:=fun k hk j hj=>by
  have:=List.all_eq_true.1 hp k (by simpa[yH]using hk)
  rw[tN k hk]at this
  simpa using List.all_eq_true.1 this j hj
 have MB:∀k,k<(gV ops).length->∀j∈(gV ops).getD k [],j<k:=fun k hk j hj=>by
  rw[yH]at hk;rw[tN k hk]at hj;exact JT k hk j hj
 let po:Nat->Nat->Prop:=fun k j=>((eP (gV ops) []).getD k 0).testBit j=true
 have Hr:∀E:Nat->Bool,(∀k,k<ops.size->E k=true->∀j∈bI ops k,E j=true)->∀k,k<ops.size->(∀j∈bI ops k,E j=true)->∀j,po k j->E j=true:=fun E hE k hk hj j hb=>
  qL MB (fun k hk jB j hj=>by rw[yH]at hk;rw[tN k hk]at hj;exact hE k hk jB j hj) k (by rw[yH];exact hk) (by rw[tN k hk];exact hj) j hb
 have CZ:∀k,k<ops.size->∀j,po k j->j<k:=fun k hk j hb=>B9 MB k (by rw[yH];exact hk) j hb
 have A1:∀i j,i<j->j<m-> ¬po j i->Compat (cf l) (fun i=>ct.getD i default) (fun i=>xW (ct.getD i default)) i j:=by
  intro i j hij hj hn
  have Px:=List.all_eq_true.1 (List.all_eq_true.1 ht j gP) i (by simpa using hij)
  have yj:=List.all_eq_true.1 (List.all_eq_true.1 vF j (by simpa[Wl]using hj)) i (by simpa using hij)
  have hnc:((eP (gV ops) []).getD j 0).testBit i=false:=by simpa[po]using hn
  rw[hnc,Bool.false_or]at Px yj
  simp only[Bool.and_eq_true]at Px yj
  have gi:=PN i af
  have gj:=PN j hj
  simp only[List.getD_eq_getElem?_getD (l:=zi ct),gi,gj,Option.getD_some]at yj
  have dj:∀ {xs ys:List Nat},lu xs ys=true->∀x∈xs,x∉ys:=fun h x hx=>by simpa using List.all_eq_true.1 h x hx
  have fo:∀ {x y:bZ},sC x y=true->∀d,x.dst=some d->d∉fE y:=fun h d hd=>by simpa[sC,hd]using h
  exact aaO
 have htl:∀k,m<=k->k<ops.size->∀j,j<k->po k j:=fun k mj hk j hj=>by
  have:=List.all_eq_true.1 hto k (by simpa[yH]using hk)
  simp only[Bool.or_eq_true]at this
  rcases this with this|this
  ·exact absurd (Nat.blt_eq.mp this) af
  ·show((eP (gV ops) []).getD k 0).testBit j=true
   rw[Nat.eq_of_beq_eq_true this,Nat.testBit_two_pow_sub_one]
   exact decide_eq_true hj
 refine Fz (ac:=fun i=>ct.getD i default) (m:=m) (X:=fun v s=>Q' (.bN v) s) (K:=Q' .normal) bn sV JT af hs (fun i hi=> ?_) (fun i hi=>bf _ (ng i hi)) Hr CZ A1 htl ?_ (fun s φ a w hk jU=>⟨.normal,s,φ,hk,jU,trivial⟩) (fun v s' aJ a' w' val hx jU hd=>⟨.bN v,s',aJ,hx,jU,val,rfl,hd⟩)
 ·rw[kB i (by omega)];exact aY i _ _ (KG i hi) (xF i hi)
 ·rw[kB m (Nat.le_refl _)]
  rw[hlm]at Qd
  exact jJ (fun s hs=>hQ _ _ hs) (fun v s hs=>hQ _ _ hs) _ _ _ (zk _ _ m sV) Qd
theorem sW{g:V}{ps:List Nat}{x y:IC}{Q Q':fS->S->Prop}{s:S}(hQ:∀e s,Q e s->Q' e s)(h:CK P n g ps x y Q s):CK P n g ps x y Q' s:=by
 obtain⟨env,h1,h2⟩:=h
 refine⟨env,h1, ?_⟩
 split at h2
 ·refine pD.mono (fun v o n h=> ?_) (fun v o n h=>hQ _ _ h) h2
  obtain⟨nf,m,e,p,c,d,st,pd,k1,k2,k3⟩:=h
  refine⟨nf,m,e,p,c,d,st,pd,k1,k2, ?_⟩
  cases pd with
  |none=>exact hQ _ _ k3
  |some j=>cases j<;>exact hQ _ _ k3
 ·exact h2
theorem iQ(bn:P.follows .mixedOrders=true):∀ (c:Code) (Q Q':fS->S->Prop) (s:S),(∀e s,Q e s->Q' e s)->uU P n b rd (low n c) Q s->jC P n b rd c Q' s:=by
 intro c
 induction c with
 |skip=>exact fun Q Q' s hQ h=>hQ _ _ h
 |scope x ih=>exact fun Q Q' s hQ h=>ih Q Q' s hQ h
 |label l=>exact fun Q Q' s hQ h=>hQ _ _ h
 |exit id=>exact fun Q Q' s hQ h=>hQ _ _ h
 |ret=>exact fun Q Q' s hQ h=>hQ _ _ h
 |goto l=>exact fun Q Q' s hQ h=>h.elim
 |refuse y=>exact fun Q Q' s hQ h=>h.elim
 |rangeFunc f p x y=>
  intro Q Q' s hQ h
  obtain⟨h1,s',hle,h2⟩:=h
  exact⟨h1,s',hle,sW hQ h2⟩
 |region id ops draw=>
  intro Q Q' s hQ h
  cases draw with
  |true=>
   simp only[low]at h
   split at h
   ·rename_i l hl
    split at h
    ·rename_i hc
     simp only[Bool.and_eq_true]at hc
     rcases h with h|h
     ·exact JS bn hQ hl hc.1 hc.2 h
     ·exact FC bn hQ hl hc.1 hc.2 h
    ·exact h.elim
   ·exact h.elim
  |false=>
   simp only[low]at h
   split at h
   ·rename_i l hl;exact jJ (fun s hs=>hQ _ _ hs) (fun v s hs=>hQ _ _ hs) _ l s hl h
   ·exact h.elim
 |seq x y PX PY=>
  intro Q Q' s hQ h
  refine PX _ _ s (fun e s he=> ?_) h
  cases e<;>first|exact PY Q Q' s hQ he|exact hQ _ _ he
 |cond c x y PX PY=>
  intro Q Q' s hQ h
  simp only[low,uU]at h
  simp only[jC]
  split at h
  ·rename_i t hc
   simp only[hc]
   exact⟨fun ht=>PX Q Q' s hQ (h.1 ht),fun ht=>PY Q Q' s hQ (h.2 ht)⟩
  ·rename_i hc
   simp only[hc]
   exact⟨PX Q Q' s hQ h.1,PY Q Q' s hQ h.2⟩
  ·exact h.elim
 |block id x ih=>
  intro Q Q' s hQ h
  refine ih _ _ s (fun e s he=> ?_) h
  cases e<;>simp only[fU]at he|- <;>first
   |exact hQ _ _ he
   |(split at he<;>rename_i e
     ·rw[if_pos e];exact hQ _ _ he
     ·rw[if_neg e];exact hQ _ _ he)
 |loop x ih=>
  intro Q Q' s hQ h
  obtain⟨J,h0,hr⟩:=h
  refine⟨J,h0,fun m s0 hJ=>ih _ _ s0 (fun e s he=> ?_) (hr m s0 hJ)⟩
  cases e<;>first|exact hQ _ _ he|exact he
structure aO (P:Program) (f:FuncId) (n:Nat) (ic:IC) (rs:List ResultVar):Prop where
 get:∃fn,P.funcs[f]? =some fn/\(fn.name== "runtime.NumGoroutine")=false/\fn.ntmps=n/\fn.results.toList=rs/\∃c,fn.body=some c/\low n c=ic
theorem bQ.wh (bn:P.follows .mixedOrders=true){f:FuncId}{ic:IC}{rs:List ResultVar}(hf:aO P f n ic rs){args:List V}{o:Nat->ab}{nx:Nat}{K X:V->(Nat->ab)->Nat->Prop}(hl:args.length<=n)(h:uU P n nx false ic (mF P rs K X) ⟨cB args,o,nx⟩):bQ P f args o nx K X:=by
 obtain⟨fn,h1,h2,rfl,rfl,c,h3,rfl⟩:=hf.get
 exact bQ.Hk h1 h2 h3 hl (iQ bn c _ _ _ (fun _ _ h=>h) h)
theorem aX.wh (bn:P.follows .mixedOrders=true){f:FuncId}{ic:IC}{rs:List ResultVar}(hf:aO P f n ic rs){ds:List D}{out:R}(hl:ds.length<=n)(h:uU P n 0 false ic (AE P rs out) ⟨cB (ds.map .d),fun _=> .no,0⟩):aX P f ds out:=by
 obtain⟨fn,h1,h2,rfl,rfl,c,h3,rfl⟩:=hf.get
 exact aX.lA (bQ.Hk h1 h2 h3 (by simpa using hl) (iQ bn c _ _ _ (fun e s h=>JI e s h) h))
end
end
end Go.Proofs.YtlhemmpklhhgoaaGreat
