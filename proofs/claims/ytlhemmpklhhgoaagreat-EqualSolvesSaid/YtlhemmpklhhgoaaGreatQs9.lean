/-
  A PART OF THE PROOF. Conditions: none.
-/
import Derived.Test.YtlhemmpklhhgoaaGreatQs8
set_option linter.unusedSimpArgs false
set_option linter.unusedVariables false
namespace Go.Proofs.YtlhemmpklhhgoaaGreat
section
def s7(P:Program)(g:FuncId)(ds:List D)(Kf Kb KX:V->Prop):Prop:=
 (∃rs,a8 P g ds (.ret rs)/\(Kf (iP rs)\/(D.jB rs=true/\Kb (iP rs))))\/(∃x,a8 P g ds (.bF x)/\x.flat=true/\KX (.d x))\/(∃v,Y8 P g ds v/\Kf v)
def iR(P:Program)(g:FuncId)(args:List V)(o:Nat->ad)(nx fr:Nat)(K:V->List (Nat×ad)->List Nat->Prop)(KX:V->List Nat->List Nat->Prop):Prop:=
 ∃rd Δ,rd.all (fun id=>decide (id<nx))=true/\((∃rs,Aq P g args rd o (.ret rs) Δ/\K (iP rs) Δ rd)\/(∃x,Aq P g args rd o (.bF x) Δ/\KX (.d x) (Δ.map (·.1)) rd)\/(∃v,DK P g args rd o fr v Δ/\K v Δ rd))
def As(P:Program)(s:S)(fr:Nat)(o:bP)(K:V->List (Nat×ad)->List Nat->Prop)(KX:V->List Nat->List Nat->Prop):Prop:=
 match o.op with
 | .call c=>match c.callee with
   | .value f=>match s.ev f with
     | .func (.func g) first cap=>match bZ s.o (first++c.args.toList.map s.ev++cap)with
       |some ds=>s7 P g ds (fun v=>K v (bL s.o (V.br (first++c.args.toList.map s.ev++cap))) (oE s o.op)) (fun v=>K v [] (oE s o.op)) (fun v=>KX v [] (oE s o.op))\/iR P g (first++c.args.toList.map s.ev++cap) s.o s.nx fr K KX
       |none=>iR P g (first++c.args.toList.map s.ev++cap) s.o s.nx fr K KX
     |_=>False
   |_=>match gr P s fr o.op with
    |some (v,Δ,_)=>K v Δ (oE s o.op)
    |none=>False
 |op=>match gr P s fr op with
  |some (v,Δ,_)=>K v Δ (oE s o.op)
  |none=>False
abbrev Fp:=List (List Nat×List Nat)
def gZ(P:Program)(KB:List Nat->Fp->Prop)(pr:List (List Nat)):List bP->Nat->S->Fp->List Nat->List Nat->Prop
 |[],_,_,fp,_,ws=>KB ws fp
 |o::l,fr,s,fp,bad,ws=>if(pr.getD fp.length []).any (fun j=>bad.contains j)=true then gZ P KB pr l (fr+1) ⟨ba s.env o.dst .aa,s.o,s.nx⟩ (fp++[([],[])]) (bad++[fp.length]) ws
  else match o.gd with
  |none=>As P s fr o (fun v Δ rd=>gZ P KB pr l (fr+1) ⟨ba s.env o.dst v,put s.o Δ,s.nx⟩ (fp++[(rd,Δ.map (·.1))]) bad (ws++Δ.map (·.1))) (fun _ _ _=>False)
  |some (d,want)=>match s.env d with
   | .d (.bool b)=>if b=want then As P s fr o (fun v Δ rd=>gZ P KB pr l (fr+1) ⟨ba s.env o.dst v,put s.o Δ,s.nx⟩ (fp++[(rd,Δ.map (·.1))]) bad (ws++Δ.map (·.1))) (fun _ _ _=>False)
    else gZ P KB pr l (fr+1) ⟨ba s.env o.dst (.bT []),s.o,s.nx⟩ (fp++[([],[])]) bad ws
   | .bT []=>gZ P KB pr l (fr+1) ⟨ba s.env o.dst (.bT []),s.o,s.nx⟩ (fp++[([],[])]) bad ws
   |_=>False
def kK(P:Program)(K:S->Fp->Prop)(KP:V->List Nat->Fp->Prop)(pr:List (List Nat)):List bP->Nat->S->Fp->Prop
 |[],_,s,fp=>K s fp
 |o::l,fr,s,fp=>match o.gd with
  |none=>As P s fr o (fun v Δ rd=>kK P K KP pr l (fr+1) ⟨ba s.env o.dst v,put s.o Δ,s.nx⟩ (fp++[(rd,Δ.map (·.1))]))
   (fun v ws rd=>gZ P (KP v) pr l (fr+1) ⟨ba s.env o.dst .aa,s.o,s.nx⟩ (fp++[(rd,[])]) [fp.length] (ws++fp.flatMap (·.2)))
  |some (d,want)=>match s.env d with
   | .d (.bool b)=>if b=want then As P s fr o (fun v Δ rd=>kK P K KP pr l (fr+1) ⟨ba s.env o.dst v,put s.o Δ,s.nx⟩ (fp++[(rd,Δ.map (·.1))]))
         (fun v ws rd=>gZ P (KP v) pr l (fr+1) ⟨ba s.env o.dst .aa,s.o,s.nx⟩ (fp++[(rd,[])]) [fp.length] (ws++fp.flatMap (·.2)))
    else kK P K KP pr l (fr+1) ⟨ba s.env o.dst (.bT []),s.o,s.nx⟩ (fp++[([],[])])
   | .bT []=>kK P K KP pr l (fr+1) ⟨ba s.env o.dst (.bT []),s.o,s.nx⟩ (fp++[([],[])])
   |_=>False
def DT(pr:List (List Nat))(nx:Nat)(Q:fk->S->Prop)(s:S)(fp:Fp):Prop:=eE pr fp=true/\Q .normal ⟨s.env,s.o,nx⟩
def dstsOf(l:List bP):List Nat:=l.filterMap (·.dst)
def BC(pr:List (List Nat))(l:List bP)(s0:S)(Q:fk->S->Prop)(v:V)(wl:List Nat)(fp:Fp):Prop:=eE pr fp=true/\Q (.bF v) (u5 (dstsOf l) wl l.length s0)
def ni:List bP->List eV->S->Nat->S
 |_,_,s,0=>s
 |o::l,x::xs,s,j+1=>ni l xs (wB o.dst x s) j
 |_,_,s,_=>s
def xV(b9:List eV):Fp:=b9.map fun x=>(wT x,kI x)
section
variable {P:Program}{n b:Nat}
theorem BD{s:S}{fr:Nat}{o:bP}{K:V->List (Nat×ad)->List Nat->Prop}{KX:V->List Nat->List Nat->Prop}(h:As P s fr o K KX):(∃v Δ rd,xR P s fr o.op v Δ rd/\K v Δ rd)\/(∃v ws rd,Bu P s o.op v ws rd/\KX v ws rd):=by
 have hs:∀ {op:Op},o.op=op->(match gr P s fr op with|some (v,Δ,_)=>K v Δ (oE s o.op)|none=>False)->(∃v Δ rd,xR P s fr o.op v Δ rd/\K v Δ rd):=by
  intro op fP h
  split at h
  ·rename_i v Δ rd he;exact⟨v,Δ,_, .inl ⟨⟨rd,by rw[fP];exact he⟩,rfl⟩,h⟩
  ·exact h.elim
 unfold As at h
 split at h
 ·rename_i c hc
  split at h
  ·rename_i f eN
   split at h
   ·rename_i g first cap hf
    split at h
    ·rename_i ds eP
     rcases h with(⟨rs,hP,h|⟨mJ,h⟩⟩|⟨x,hP,mJ,h⟩|⟨v,hP,h⟩)|⟨rd,Δ,mG,⟨rs,hH,h⟩|⟨x,hH,h⟩|⟨v,hH,h⟩⟩
     ·exact .inl ⟨_,_,_, .inr ⟨c,f,g,first,cap,hc,eN,hf, .inl ⟨ds,rs,eP,hP,rfl,rfl, .inl rfl⟩⟩,h⟩
     ·exact .inl ⟨_,_,_, .inr ⟨c,f,g,first,cap,hc,eN,hf, .inl ⟨ds,rs,eP,hP,rfl,rfl, .inr ⟨mJ,rfl⟩⟩⟩,h⟩
     ·exact .inr ⟨_,_,_,⟨c,f,g,first,cap,hc,eN,hf, .inl ⟨ds,x,eP,hP,mJ,rfl,rfl,rfl⟩⟩,h⟩
     ·exact .inl ⟨_,_,_, .inr ⟨c,f,g,first,cap,hc,eN,hf, .inr (.inr (.inl ⟨ds,eP,hP,rfl,rfl⟩))⟩,h⟩
     ·exact Xr
     ·exact Xu
     ·exact Xs
    ·obtain⟨rd,Δ,mG,⟨rs,hH,h⟩|⟨x,hH,h⟩|⟨v,hH,h⟩⟩:=h
     ·exact Xr
     ·exact Xu
     ·exact Xs
   ·exact h.elim
  ·rw[hc]at h;exact .inl (hs hc (by rw[hc];exact h))
 ·exact .inl (hs rfl h)
def M5(P:Program)(KB:List Nat->Fp->Prop)(pr:List (List Nat))(l:List bP)(fr:Nat)(s:S)(fp:Fp)(bad ws:List Nat):Prop:=
    ∃b9:List eV,b9.length=l.length/\(∀j o x,l[j]? =some o->b9[j]? =some x->PV P (ni l b9 s j) (fr+j) o x)/\
     (∀ (j:Nat),b9[j]? =some eV.dT->∃i∈pr.getD (fp.length+j) [],i∈bad\/∃j',j'<j/\i=fp.length+j'/\b9[j']? =some .dT)/\(∀x∈b9,x= .dT\/x.ok=true)/\
     ∃wl,KB wl (fp++xV b9)/\(∀id∈ws,id∈wl)/\∀x∈b9,∀id∈kI x,id∈wl
theorem BE{KB:List Nat->Fp->Prop}{pr:List (List Nat)}:∀ (l:List bP) (fr:Nat) (s:S) (fp:Fp) (bad ws:List Nat),gZ P KB pr l fr s fp bad ws->M5 P KB pr l fr s fp bad ws
 |[],fr,s,fp,bad,ws,h=>⟨[],rfl,fun j o x hj=>by simp at hj,fun j hj=>by simp at hj,fun x hx=>by simp at hx,ws,by simpa[xV,gZ]using h,fun _ h=>h,fun x hx=>by simp at hx⟩
 |o::l,fr,s,fp,bad,ws,h=>by
  have step:∀ (x:eV) (M6 PY:List Nat),PV P s fr o x->gZ P KB pr l (fr+1) (wB o.dst x s) (fp++[(wT x,kI x)]) M6 PY->(x= .dT\/x.ok=true)->(x= .dT->∃i∈pr.getD fp.length [],i∈bad)->
   (∀i∈M6,i∈bad\/(i=fp.length/\x= .dT))->(∀id∈ws,id∈PY)->(∀id∈kI x,id∈PY)->
   M5 P KB pr (o::l) fr s fp bad ws:=by
   intro x M6 PY aW hr SQ Hr SP M4 hW
   obtain⟨b9,h1,h2,h3,h4,wl,h5,h6,h7⟩:=BE l (fr+1) _ _ M6 PY hr
   refine⟨x::b9,by simp[h1],fun j o' y hj hy=> ?_,fun j hj=> ?_,fun y hy=> ?_,wl,by simpa[xV]using h5,fun id au=>h6 id (M4 id au),fun y hy id au=> ?_⟩
   ·cases j with
    |zero=>exact I5
    |succ j=>
     have:=h2 j o' y mF (by simpa using hy)
     exact Sx
   ·cases j with
    |zero=>
     simp at hj
     obtain⟨i,i1,i2⟩:=Hr hj
     exact⟨i,by simpa using i1, .inl i2⟩
    |succ j=>
     obtain⟨i,i1,i2⟩:=h3 j mF
     simp only[List.length_append,List.length_cons,List.length_nil]at i1 i2
     refine⟨i,by rw[show fp.length+(j+1)=fp.length+(0+1)+j by omega];exact i1, ?_⟩
     rcases i2 with i2|⟨j',j1,j2,j3⟩
     ·rcases SP i i2 with hb|⟨e1,e2⟩
      ·exact .inl hb
      ·exact .inr ⟨0,af,af,by simp[e2]⟩
     ·exact .inr ⟨j'+1,af,af,by simpa using j3⟩
   ·rcases List.mem_cons.1 hy with rfl|hy
    ·exact SQ
    ·exact h4 y hy
   ·rcases List.mem_cons.1 hy with rfl|hy
    ·exact h6 id (hW id au)
    ·exact h7 y hy id au
  simp only[gZ]at h
  split at h
  ·rename_i hb
   obtain⟨j,hj1,PE⟩:=List.any_eq_true.1 hb
   exact step .dT _ _ trivial h (.inl rfl) (fun _=>⟨j,hj1,by simpa using PE⟩) (fun i hi=>by
    rcases List.mem_append.1 hi with hi|hi
    ·exact .inl hi
    ·exact .inr ⟨by simpa using hi,rfl⟩) (fun _ h=>h) (fun id au=>by simp[kI]at au)
  ·have u9:dL s o.gd true->As P s fr o (fun v Δ rd=>gZ P KB pr l (fr+1) ⟨ba s.env o.dst v,put s.o Δ,s.nx⟩ (fp++[(rd,Δ.map (·.1))]) bad (ws++Δ.map (·.1))) (fun _ _ _=>False)->M5 P KB pr (o::l) fr s fp bad ws:=fun hg h=>by
    rcases BD h with⟨v,Δ,rd,jS,h⟩|⟨v,PY,rd,_,h⟩
    ·exact step (.val v Δ rd) bad (ws++Δ.map (·.1)) ⟨hg,jS⟩ h (.inr rfl) (fun h=>by cases h) (fun i hi=> .inl hi) (fun id au=>List.mem_append.2 (.inl au)) (fun id au=>List.mem_append.2 (.inr au))
    ·exact h.elim
   have skip:dL s o.gd false->gZ P KB pr l (fr+1) ⟨ba s.env o.dst (.bT []),s.o,s.nx⟩ (fp++[([],[])]) bad ws->M5 P KB pr (o::l) fr s fp bad ws:=fun hg h=>
    step .skip bad ws hg h (.inr rfl) (fun h=>by cases h) (fun i hi=> .inl hi) (fun id au=>au) (fun id au=>by simp[kI]at au)
   split at h
   ·rename_i hg;exact u9 (by rw[hg];rfl) h
   ·rename_i d want hg
    split at h
    ·rename_i c hv
     split at h
     ·rename_i e;exact u9 EW h
     ·rename_i e;exact skip EW h
    ·rename_i hv;exact skip (by rw[hg];simp[dL,hv]) h
    ·exact h.elim
def J1(P:Program)(K:S->Fp->Prop)(KP:V->List Nat->Fp->Prop)(pr:List (List Nat))(l:List bP)(fr:Nat)(s:S)(fp:Fp):Prop:=
 ∃b9:List eV,b9.length=l.length/\(∀j o x,l[j]? =some o->b9[j]? =some x->PV P (ni l b9 s j) (fr+j) o x)/\
  (((∀x∈b9,x.ok=true)/\K (ni l b9 s l.length) (fp++xV b9))\/
   ∃v wl,(∀ (j:Nat) (v':V) (ws rd:List Nat),b9[j]? =some (eV.bF v' ws rd)->v'=v/\∀id∈ws,id∈wl)/\(∃x∈b9,x.ok=false)/\
    (∀ (j:Nat),b9[j]? =some eV.dT->∃i∈pr.getD (fp.length+j) [],∃j',i=fp.length+j'/\∃y,b9[j']? =some y/\y.ok=false)/\KP v wl (fp++xV b9)/\(∀x∈b9,∀id∈kI x,id∈wl)/\∀id∈fp.flatMap (·.2),id∈wl)
theorem ve{K:S->Fp->Prop}{KP:V->List Nat->Fp->Prop}{pr:List (List Nat)}:∀ (l:List bP) (fr:Nat) (s:S) (fp:Fp),kK P K KP pr l fr s fp->J1 P K KP pr l fr s fp
 |[],fr,s,fp,h=>⟨[],rfl,fun j o x hj=>by simp at hj, .inl ⟨fun x hx=>by simp at hx,by simpa[ni,xV,kK]using h⟩⟩
 |o::l,fr,s,fp,h=>by
  have step:∀ (x:eV),x.ok=true->PV P s fr o x->kK P K KP pr l (fr+1) (wB o.dst x s) (fp++[(wT x,kI x)])->J1 P K KP pr (o::l) fr s fp:=by
   intro x Zd aW hr
   obtain⟨b9,h1,h2,h3⟩:=ve l (fr+1) _ _ hr
   refine⟨x::b9,by simp[h1],fun j o' y hj hy=> ?_, ?_⟩
   ·cases j with
    |zero=>exact I5
    |succ j=>
     have:=h2 j o' y mF (by simpa using hy)
     exact Sx
   ·rcases h3 with⟨h3,h4⟩|⟨v,wl,g1,g2,g3,g4,g5,g6⟩
    ·left
     refine⟨fun y hy=> ?_,by simpa[ni,xV]using h4⟩
     rcases List.mem_cons.1 hy with rfl|hy
     ·exact Zd
     ·exact h3 y hy
    ·right
     refine⟨v,wl,fun j v' ws rd hj=> ?_, ?_,fun j hj=> ?_,by simpa[xV]using g4,fun y hy id au=> ?_,fun id au=>g6 id (by simp only[List.flatMap_append,List.mem_append];exact .inl au)⟩
     ·cases j with
      |zero=>simp at hj;rw[hj]at Zd;cases Zd
      |succ j=>exact g1 j v' ws rd mF
     ·obtain⟨y,y1,y2⟩:=g2;exact⟨y,by simp[y1],y2⟩
     ·cases j with
      |zero=>simp at hj;rw[hj]at Zd;cases Zd
      |succ j=>
       obtain⟨i,i1,j',i2,y,i3,i4⟩:=g3 j mF
       simp only[List.length_append,List.length_cons,List.length_nil]at i1 i2
       exact⟨i,by rw[show fp.length+(j+1)=fp.length+(0+1)+j by omega];exact i1,j'+1,af,y,by simpa using i3,i4⟩
     ·rcases List.mem_cons.1 hy with rfl|hy
      ·exact g6 id (by simp only[List.flatMap_append,List.mem_append];exact .inr (by simpa using au))
      ·exact g5 y hy id au
  have bF:∀ (v:V) (ws rd:List Nat),PV P s fr o (.bF v ws rd)->gZ P (KP v) pr l (fr+1) ⟨ba s.env o.dst .aa,s.o,s.nx⟩ (fp++[(rd,[])]) [fp.length] (ws++fp.flatMap (·.2))->J1 P K KP pr (o::l) fr s fp:=by
   intro v ws rd aW hr
   obtain⟨b9,h1,h2,h3,h4,wl,h5,h6,h7⟩:=BE l (fr+1) _ _ _ _ hr
   refine⟨eV.bF v ws rd::b9,by simp[h1],fun j o' y hj hy=> ?_, .inr ⟨v,wl,fun j v' PY yE hj=> ?_,⟨eV.bF v ws rd,aF,rfl⟩,fun j hj=> ?_,by simpa[xV,wT,kI]using h5,fun y hy id au=> ?_,fun id au=>h6 id (List.mem_append.2 (.inr au))⟩⟩
   ·cases j with
    |zero=>exact I5
    |succ j=>
     have:=h2 j o' y mF (by simpa using hy)
     exact Sx
   ·cases j with
    |zero=>simp at hj;obtain⟨rfl,rfl,rfl⟩:=hj;exact⟨rfl,fun id au=>h6 id (List.mem_append.2 (.inl au))⟩
    |succ j=>
     have hm:=List.mem_of_getElem? (show b9[j]? =some (.bF v' PY yE) by simpa using hj)
     rcases h4 _ hm with h|h<;>cases h
   ·cases j with
    |zero=>simp at hj
    |succ j=>
     obtain⟨i,i1,i2⟩:=h3 j mF
     simp only[List.length_append,List.length_cons,List.length_nil]at i1 i2
     refine⟨i,by rw[show fp.length+(j+1)=fp.length+(0+1)+j by omega];exact i1, ?_⟩
     rcases i2 with i2|⟨j',j1,j2,j3⟩
     ·exact⟨0,by simpa using i2,_,rfl,rfl⟩
     ·exact⟨j'+1,af, .dT,by simpa using j3,rfl⟩
   ·rcases List.mem_cons.1 hy with rfl|hy
    ·simp[kI]at au
    ·exact h7 y hy id au
  have u9:dL s o.gd true->As P s fr o (fun v Δ rd=>kK P K KP pr l (fr+1) ⟨ba s.env o.dst v,put s.o Δ,s.nx⟩ (fp++[(rd,Δ.map (·.1))]))
   (fun v ws rd=>gZ P (KP v) pr l (fr+1) ⟨ba s.env o.dst .aa,s.o,s.nx⟩ (fp++[(rd,[])]) [fp.length] (ws++fp.flatMap (·.2)))->J1 P K KP pr (o::l) fr s fp:=fun hg h=>by
   rcases BD h with⟨v,Δ,rd,jS,h⟩|⟨v,ws,rd,jS,h⟩
   ·exact step (.val v Δ rd) rfl ⟨hg,jS⟩ h
   ·exact bF v ws rd ⟨hg,jS⟩ h
  have skip:dL s o.gd false->kK P K KP pr l (fr+1) ⟨ba s.env o.dst (.bT []),s.o,s.nx⟩ (fp++[([],[])])->J1 P K KP pr (o::l) fr s fp:=fun hg h=>step .skip rfl hg h
  simp only[kK]at h
  split at h
  ·rename_i hg;exact u9 (by rw[hg];rfl) h
  ·rename_i d want hg
   split at h
   ·rename_i c hv
    split at h
    ·rename_i e;exact u9 EW h
    ·rename_i e;exact skip EW h
   ·rename_i hv;exact skip (by rw[hg];simp[dL,hv]) h
   ·exact h.elim
end
end
section
def pq(env:Nat->V):List Nat->List V->Nat->V
 |t::ps,v::vs=>pq (az env t v) ps vs
 |_,_=>env
def DU(pr:List (List Nat))(m:Nat):Bool:=(List.range pr.length).all fun k=>Nat.blt k m||Nat.beq ((ek pr []).getD k 0) (2^k - 1)
def J2(P:Program)(l:List bP)(pr:List (List Nat))(Q:fk->S->Prop)(s:S):Prop:=
 ∃m,m<=l.length/\DU pr m=true/\kK P (fun s' fp=>eE pr fp=true/\pk P (fun v s=>Q (.bF v) s) (Q .normal) (l.drop m) ⟨s'.env,s'.o,s.nx+m⟩) (fun _ _ _=>False) pr (l.take m) s.nx s []
def tY(P:Program)(n b:Nat)(rd:Bool):IC->(fk->S->Prop)->S->Prop
 | .skip,Q,s=>Q .normal s
 | .ag l,Q,s=>pk P (fun v s=>Q (.bF v) s) (Q .normal) l s
 | .dm l pr,Q,s=>kK P (DT pr (s.nx+l.length) Q) (BC pr l s Q) pr l s.nx s []\/J2 P l pr Q s
 | .seq x y,Q,s=>tY P n b rd x (ql (tY P n b rd y Q) Q) s
 | .cond c x y,Q,s=>match s.ev c with
   | .d (.bool t)=>qz t (tY P n b rd x Q s) (tY P n b rd y Q s)
   | .fH=>tY P n b rd x Q s/\tY P n b rd y Q s
   |_=>False
 | .block id x,Q,s=>tY P n b rd x (ff id Q) s
 | .loop x,Q,s=>JV b (tY P n b rd x) Q s
 | .exit id,Q,s=>Q (.exit id) s
 | .ret,Q,s=>Q .ret s
 | .It g ps x y,Q,s=>rd=false/\Y3 P n b g ps x y Q s
 | .bad,_,_=>False
section
variable {P:Program}{n b:Nat}{rd:Bool}
theorem vf:∀ (l:List bP) (b9:List eV) (s:S) (k:Nat) (o:bP) (x:eV),l[k]? =some o->b9[k]? =some x->ni l b9 s (k+1)=wB o.dst x (ni l b9 s k)
 |[],_,_,_,_,_,h,_=>by simp at h
 |o::l,[],_,_,_,_,_,h=>by simp at h
 |o::l,x::xs,s,0,o',x',h,h'=>by simp at h h';subst h;subst h';cases l<;>cases xs<;>rfl
 |o::l,x::xs,s,k+1,o',x',h,h'=>by
  simp only[ni]
  exact vf l xs _ k o' x' (by simpa using h) (by simpa using h')
theorem xW(l:List bP)(b9:List eV)(s:S)(hl:b9.length=l.length):∀k,k<=l.length->eo (bQ l) (fun i=>b9.getD i default) (fun _=>true) s k=ni l b9 s k:=by
 intro k
 induction k with
 |zero=>intro _;cases l<;>cases b9<;>rfl
 |succ k ih=>
  intro hk
  have h1:l[k]? =some (bQ l k):=by simp[bQ,List.getD_eq_getElem?_getD,List.getElem?_eq_getElem (by omega:k<l.length)]
  have h2:b9[k]? =some (b9.getD k default):=by simp[List.getD_eq_getElem?_getD,List.getElem?_eq_getElem (by omega:k<b9.length)]
  simp only[eo,if_true,ih (by omega)]
  rw[vf l b9 s k _ _ h1 h2]
theorem nj{ops:Array Oper}:∀ (l:List Oper) (l':List bP),kX n ops l=some l'->l'.length=l.length
 |[],_,h=>by simp[kX]at h;subst h;rfl
 |o::l,l',h=>by
  simp only[kX]at h
  split at h
  ·rename_i hx;injection h with h;subst h;simp[nj l _ hx]
  ·cases h
theorem Hv(bn:P.follows .mixedOrders=true){id:Nat}{ops:Array Oper}{l:List bP}{Q Q':fk->S->Prop}{s:S}(hQ:∀e s,Q e s->Q' e s)(rN:kX n ops ops.toList=some l)(ht:yG l (gy ops)=true)
 (hp:Sz (gy ops)=true) (h:kK P (DT (gy ops) (s.nx+l.length) Q) (BC (gy ops) l s Q) (gy ops) l s.nx s []):iY P n b rd (.region id ops true) Q' s:=by
 intro M cA H0 w0 cx φ a w ro k hs
 obtain⟨b9,hl,aW,jU⟩:=ve l _ _ _ h
 have hlen:l.length=ops.size:=by rw[nj _ _ rN];simp
 have sR:∀k,k<ops.size->(gy ops).getD k []=bB ops k:=by
  intro k hk;simp[gy,List.getD_eq_getElem?_getD,List.getElem?_map,List.getElem?_range hk]
 have wz:(gy ops).length=ops.size:=by simp[gy]
 have jS:=xW l b9 s hl
 have Is:∀k,k<ops.size->l[k]? =some (bQ l k):=fun k hk=>by simp[bQ,List.getD_eq_getElem?_getD,List.getElem?_eq_getElem (by omega:k<l.length)]
 have wy:∀k,k<ops.size->b9[k]? =some (b9.getD k default):=fun k hk=>by simp[List.getD_eq_getElem?_getD,List.getElem?_eq_getElem (by omega:k<b9.length)]
 have ox:∀k,k<ops.size->b9.getD k default∈b9:=fun k hk=>List.mem_of_getElem? (wy k hk)
 have MN:∀k,k<ops.size->(xV b9)[k]? =some (wT (b9.getD k default),kI (b9.getD k default)):=fun k hk=>by
  simp only[xV,List.getElem?_map,wy k hk,Option.map_some]
 have SR:(xV b9).length=ops.size:=by simp[xV,hl,hlen]
 simp only[List.nil_append,List.length_nil,Nat.zero_add]at jU
 have uH:eE (gy ops) (xV b9)=true:=by
  rcases jU with⟨_,h⟩|⟨v,wl,_,_,_,h,_⟩
  ·exact h.1
  ·exact h.1
 have Hw:∀k,k<ops.size->∀j∈bB ops k,j<k:=fun k hk j hj=>by
  have:=List.all_eq_true.1 hp k (by simpa[wz]using hk)
  rw[sR k hk]at this
  simpa using List.all_eq_true.1 this j hj
 have J3:∀k,k<(gy ops).length->∀j∈(gy ops).getD k [],j<k:=fun k hk j hj=>by
  rw[wz]at hk;rw[sR k hk]at hj;exact Hw k hk j hj
 let po:Nat->Nat->Prop:=fun k j=>((ek (gy ops) []).getD k 0).testBit j=true
 have FB:∀E:Nat->Bool,(∀k,k<ops.size->E k=true->∀j∈bB ops k,E j=true)->∀k,k<ops.size->(∀j∈bB ops k,E j=true)->∀j,po k j->E j=true:=fun E hE k hk hj j hb=>
  pT J3 (fun k hk iX j hj=>by rw[wz]at hk;rw[sR k hk]at hj;exact hE k hk iX j hj) k (by rw[wz];exact hk) (by rw[sR k hk];exact hj) j hb
 have BA:∀k,k<ops.size->∀j,po k j->j<k:=fun k hk j hb=>AJ J3 k (by rw[wz];exact hk) j hb
 have zr:∀i j,i<j->j<ops.size-> ¬po j i->Compat (bQ l) (fun i=>b9.getD i default) (fun i=>wT (b9.getD i default)) i j:=by
  intro i j Ze hj hn
  have Mv:=List.all_eq_true.1 (List.all_eq_true.1 ht j (by simpa[hlen]using hj)) i (by simpa using Ze)
  have xe:=List.all_eq_true.1 (List.all_eq_true.1 uH j (by simpa[SR]using hj)) i (by simpa using Ze)
  have Zf:((ek (gy ops) []).getD j 0).testBit i=false:=by simpa[po]using hn
  rw[Zf,Bool.false_or]at Mv xe
  simp only[Bool.and_eq_true]at Mv xe
  have gi:=MN i af
  have gj:=MN j hj
  simp only[List.getD_eq_getElem?_getD (l:=xV b9),gi,gj,Option.getD_some]at xe
  have dj:∀ {xs ys:List Nat},kE xs ys=true->∀x∈xs,x∉ys:=fun h x hx=>by simpa using List.all_eq_true.1 h x hx
  have fo:∀ {x y:bP},rp x y=true->∀d,x.dst=some d->d∉eQ y:=fun h d hd=>by simpa[rp,hd]using h
  exact Xy
 have PZ:∀i,i<ops.size->PV P (eo (bQ l) (fun i=>b9.getD i default) (fun _=>true) s i) (s.nx+i) (bQ l i) (b9.getD i default):=fun i hi=>by
  rw[jS i (by omega)];exact aW i _ _ (Is i hi) (wy i hi)
 have cO:∀i,i<ops.size->∀t,(bQ l i).dst=some t->(dstsOf l).contains t=true:=fun i hi t ht=>by
  simp only[List.contains_iff_mem,dstsOf,List.mem_filterMap]
  exact⟨bQ l i,List.mem_of_getElem? (Is i hi),ht⟩
 rcases jU with⟨bf,jU⟩|⟨v,wl,q1,q2,q3,q4,q5,q6⟩
 ·refine Bz (ac:=fun i=>b9.getD i default) (dl:=dstsOf l) (wl:=(b9.flatMap kI)) bn rN Hw hs PZ (fun i hi hb=> ?_) FB BA zr cO (fun i hi id au=> ?_) (fun i v ws yE hi hb=> ?_) (fun _ φ a w jT=> ?_) (fun i v ws yE hi hb=> ?_)
  ·have:=bf _ (ox i hi);rw[hb]at this;cases this
  ·simp only[List.contains_iff_mem,List.mem_flatMap];exact⟨_,ox i hi,au⟩
  ·have:=bf _ (ox i hi);rw[hb]at this;cases this
  ·rw[jS ops.size (by omega), <- hlen]at jT
   exact⟨.normal,_,φ,hQ _ _ jU.2,jT,trivial⟩
  ·have:=bf _ (ox i hi);rw[hb]at this;cases this
 ·refine Bz (ac:=fun i=>b9.getD i default) (dl:=dstsOf l) (wl:=wl) bn rN Hw hs PZ (fun i hi hb=> ?_) FB BA zr cO (fun i hi id au=> ?_) (fun i v' ws yE hi hb=> ?_) (fun bf φ a w jT=> ?_) (fun i v' ws yE hi hb φ a w val jT hd=> ?_)
  ·obtain⟨j,j1,j',e,y,j3,j4⟩:=q3 i Jb
   rw[sR i hi,e]at j1
   refine⟨j',j1, ?_⟩
   simp only[List.getD_eq_getElem?_getD,j3,Option.getD_some,j4]
  ·simp only[List.contains_iff_mem];exact q5 _ (ox i hi) id au
  ·intro id au
   simp only[List.contains_iff_mem]
   exact(q1 i v' ws yE Jb).2 id au
  ·obtain⟨x,x1,x2⟩:=q2
   obtain⟨i,MH,YL⟩:=List.getElem_of_mem x1
   have hi:i<ops.size:=af
   have:=bf i hi
   have e:b9.getD i default=x:=by simp[List.getD_eq_getElem?_getD,List.getElem?_eq_getElem MH,YL]
   rw[e,x2]at this;cases this
  ·have e:=(q1 i v' ws yE Jb).1
   subst e
   rw[<- hlen]at jT hd
   exact⟨.bF v',_,φ,hQ _ _ q4.2,jT,val,rfl,hd⟩
theorem xX{ops:Array Oper}:∀ (l:List Oper) (l':List bP) (m:Nat),kX n ops l=some l'->kX n ops (l.drop m)=some (l'.drop m)
 |l,l',0,h=>h
 |[],l',m+1,h=>by simp[kX]at h;subst h;simp[kX]
 |o::l,l',m+1,h=>by
  simp only[kX]at h
  split at h
  ·rename_i x xs hx Me
   injection h with h;subst h
   exact xX l xs m Me
  ·cases h
theorem J4{l:List bP}{ac:Nat->eV}{E:Nat->Bool}{s:S}{m:Nat}:∀k,k<=m->eo (bQ l) ac E s k=eo (bQ (l.take m)) ac E s k:=by
 intro k
 induction k with
 |zero=>intro _;rfl
 |succ k ih=>
  intro hk
  have:bQ l k=bQ (l.take m) k:=by simp[bQ,List.getD_eq_getElem?_getD,List.getElem?_take,(by omega:k<m)]
  simp only[eo,ih (by omega),this]
theorem DV(bn:P.follows .mixedOrders=true){id:Nat}{ops:Array Oper}{l:List bP}{Q Q':fk->S->Prop}{s:S}(hQ:∀e s,Q e s->Q' e s)(rN:kX n ops ops.toList=some l)(ht:yG l (gy ops)=true)
 (hp:Sz (gy ops)=true) (h:J2 P l (gy ops) Q s):iY P n b rd (.region id ops true) Q' s:=by
 intro M cA H0 w0 cx φ a w ro k hs
 obtain⟨m,Iw,hto,h⟩:=h
 obtain⟨b9,hl,aW,jU⟩:=ve (l.take m) _ _ _ h
 have hlm:(l.take m).length=m:=by rw[List.length_take];omega
 have hlen:l.length=ops.size:=by rw[nj _ _ rN];simp
 have jU:=jU.resolve_right (fun⟨_,_,_,_,_,q4,_,_⟩=>q4)
 obtain⟨bf,jU⟩:=jU
 have SH:b9.length=m:=af
 have sR:∀k,k<ops.size->(gy ops).getD k []=bB ops k:=by
  intro k hk;simp[gy,List.getD_eq_getElem?_getD,List.getElem?_map,List.getElem?_range hk]
 have wz:(gy ops).length=ops.size:=by simp[gy]
 have jS:∀k,k<=m->eo (bQ l) (fun i=>b9.getD i default) (fun _=>true) s k=ni (l.take m) b9 s k:=fun k hk=>by
  rw[J4 k hk];exact xW (l.take m) b9 s hl k af
 have Is:∀k,k<m->(l.take m)[k]? =some (bQ l k):=fun k hk=>by
  rw[List.getElem?_take,if_pos hk]
  simp[bQ,List.getD_eq_getElem?_getD,List.getElem?_eq_getElem (by omega:k<l.length)]
 have wy:∀k,k<m->b9[k]? =some (b9.getD k default):=fun k hk=>by simp[List.getD_eq_getElem?_getD,List.getElem?_eq_getElem (by omega:k<b9.length)]
 have ox:∀k,k<m->b9.getD k default∈b9:=fun k hk=>List.mem_of_getElem? (wy k hk)
 have MN:∀k,k<m->(xV b9)[k]? =some (wT (b9.getD k default),kI (b9.getD k default)):=fun k hk=>by
  simp only[xV,List.getElem?_map,wy k hk,Option.map_some]
 have SR:(xV b9).length=m:=by simp[xV,SH]
 simp only[List.nil_append]at jU
 obtain⟨uH,M7⟩:=jU
 have Hw:∀k,k<ops.size->∀j∈bB ops k,j<k:=fun k hk j hj=>by
  have:=List.all_eq_true.1 hp k (by simpa[wz]using hk)
  rw[sR k hk]at this
  simpa using List.all_eq_true.1 this j hj
 have J3:∀k,k<(gy ops).length->∀j∈(gy ops).getD k [],j<k:=fun k hk j hj=>by
  rw[wz]at hk;rw[sR k hk]at hj;exact Hw k hk j hj
 let po:Nat->Nat->Prop:=fun k j=>((ek (gy ops) []).getD k 0).testBit j=true
 have FB:∀E:Nat->Bool,(∀k,k<ops.size->E k=true->∀j∈bB ops k,E j=true)->∀k,k<ops.size->(∀j∈bB ops k,E j=true)->∀j,po k j->E j=true:=fun E hE k hk hj j hb=>
  pT J3 (fun k hk iX j hj=>by rw[wz]at hk;rw[sR k hk]at hj;exact hE k hk iX j hj) k (by rw[wz];exact hk) (by rw[sR k hk];exact hj) j hb
 have BA:∀k,k<ops.size->∀j,po k j->j<k:=fun k hk j hb=>AJ J3 k (by rw[wz];exact hk) j hb
 have zr:∀i j,i<j->j<m-> ¬po j i->Compat (bQ l) (fun i=>b9.getD i default) (fun i=>wT (b9.getD i default)) i j:=by
  intro i j Ze hj hn
  have Mv:=List.all_eq_true.1 (List.all_eq_true.1 ht j oY) i (by simpa using Ze)
  have xe:=List.all_eq_true.1 (List.all_eq_true.1 uH j (by simpa[SR]using hj)) i (by simpa using Ze)
  have Zf:((ek (gy ops) []).getD j 0).testBit i=false:=by simpa[po]using hn
  rw[Zf,Bool.false_or]at Mv xe
  simp only[Bool.and_eq_true]at Mv xe
  have gi:=MN i af
  have gj:=MN j hj
  simp only[List.getD_eq_getElem?_getD (l:=xV b9),gi,gj,Option.getD_some]at xe
  have dj:∀ {xs ys:List Nat},kE xs ys=true->∀x∈xs,x∉ys:=fun h x hx=>by simpa using List.all_eq_true.1 h x hx
  have fo:∀ {x y:bP},rp x y=true->∀d,x.dst=some d->d∉eQ y:=fun h d hd=>by simpa[rp,hd]using h
  exact Xy
 have htl:∀k,m<=k->k<ops.size->∀j,j<k->po k j:=fun k lK hk j hj=>by
  have:=List.all_eq_true.1 hto k (by simpa[wz]using hk)
  simp only[Bool.or_eq_true]at this
  rcases this with this|this
  ·exact absurd (Nat.blt_eq.mp this) af
  ·show((ek (gy ops) []).getD k 0).testBit j=true
   rw[Nat.eq_of_beq_eq_true this,Nat.testBit_two_pow_sub_one]
   exact decide_eq_true hj
 refine DS (ac:=fun i=>b9.getD i default) (m:=m) (X:=fun v s=>Q' (.bF v) s) (K:=Q' .normal) bn rN Hw af hs (fun i hi=> ?_) (fun i hi=>bf _ (ox i hi)) FB BA zr htl ?_ (fun s φ a w hk jT=>⟨.normal,s,φ,hk,jT,trivial⟩) (fun v s' aE a' w' val hx jT hd=>⟨.bF v,s',aE,hx,jT,val,rfl,hd⟩)
 ·rw[jS i (by omega)];exact aW i _ _ (Is i hi) (wy i hi)
 ·rw[jS m (Nat.le_refl _)]
  rw[hlm]at M7
  exact jf (fun s hs=>hQ _ _ hs) (fun v s hs=>hQ _ _ hs) _ _ _ (xX _ _ m rN) M7
theorem rO{g:V}{ps:List Nat}{x y:IC}{Q Q':fk->S->Prop}{s:S}(hQ:∀e s,Q e s->Q' e s)(h:Bl P n g ps x y Q s):Bl P n g ps x y Q' s:=by
 obtain⟨env,h1,h2⟩:=h
 refine⟨env,h1, ?_⟩
 split at h2
 ·refine oF.mono (fun v o n h=> ?_) (fun v o n h=>hQ _ _ h) h2
  obtain⟨nf,m,e,p,c,d,st,pd,k1,k2,k3⟩:=h
  refine⟨nf,m,e,p,c,d,st,pd,k1,k2, ?_⟩
  cases pd with
  |none=>exact hQ _ _ k3
  |some j=>cases j<;>exact hQ _ _ k3
 ·exact h2
theorem hU(bn:P.follows .mixedOrders=true):∀ (c:Code) (Q Q':fk->S->Prop) (s:S),(∀e s,Q e s->Q' e s)->tY P n b rd (low n c) Q s->iY P n b rd c Q' s:=by
 intro c
 induction c with
 |skip=>exact fun Q Q' s hQ h=>hQ _ _ h
 |scope x ih=>exact fun Q Q' s hQ h=>ih Q Q' s hQ h
 |label l=>exact fun Q Q' s hQ h=>hQ _ _ h
 |exit id=>exact fun Q Q' s hQ h=>hQ _ _ h
 |ret=>exact fun Q Q' s hQ h=>hQ _ _ h
 |goto l=>exact fun Q Q' s hQ h=>h.elim
 |refuse y=>exact fun Q Q' s hQ h=>h.elim
 |rangeFunc f p x y=>
  intro Q Q' s hQ h
  obtain⟨h1,s',hle,h2⟩:=h
  exact⟨h1,s',hle,rO hQ h2⟩
 |region id ops draw=>
  intro Q Q' s hQ h
  cases draw with
  |true=>
   simp only[low]at h
   split at h
   ·rename_i l hl
    split at h
    ·rename_i hc
     simp only[Bool.and_eq_true]at hc
     rcases h with h|h
     ·exact Hv bn hQ hl hc.1 hc.2 h
     ·exact DV bn hQ hl hc.1 hc.2 h
    ·exact h.elim
   ·exact h.elim
  |false=>
   simp only[low]at h
   split at h
   ·rename_i l hl;exact jf (fun s hs=>hQ _ _ hs) (fun v s hs=>hQ _ _ hs) _ l s hl h
   ·exact h.elim
 |seq x y MY MZ=>
  intro Q Q' s hQ h
  refine MY _ _ s (fun e s he=> ?_) h
  cases e<;>first|exact MZ Q Q' s hQ he|exact hQ _ _ he
 |cond c x y MY MZ=>
  intro Q Q' s hQ h
  simp only[low,tY]at h
  simp only[iY]
  split at h
  ·rename_i t hc
   simp only[hc]
   exact⟨fun ht=>MY Q Q' s hQ (h.1 ht),fun ht=>MZ Q Q' s hQ (h.2 ht)⟩
  ·rename_i hc
   simp only[hc]
   exact⟨MY Q Q' s hQ h.1,MZ Q Q' s hQ h.2⟩
  ·exact h.elim
 |block id x ih=>
  intro Q Q' s hQ h
  refine ih _ _ s (fun e s he=> ?_) h
  cases e<;>simp only[ff]at he|- <;>first
   |exact hQ _ _ he
   |(split at he<;>rename_i e
     ·rw[if_pos e];exact hQ _ _ he
     ·rw[if_neg e];exact hQ _ _ he)
 |loop x ih=>
  intro Q Q' s hQ h
  obtain⟨J,h0,hr⟩:=h
  refine⟨J,h0,fun m s0 hJ=>ih _ _ s0 (fun e s he=> ?_) (hr m s0 hJ)⟩
  cases e<;>first|exact hQ _ _ he|exact he
structure aL (P:Program) (f:FuncId) (n:Nat) (ic:IC) (rs:List ResultVar):Prop where
 get:∃fn,P.funcs[f]? =some fn/\(fn.name== "runtime.NumGoroutine")=false/\fn.ntmps=n/\fn.results.toList=rs/\∃c,fn.body=some c/\low n c=ic
theorem cI.vg (bn:P.follows .mixedOrders=true){f:FuncId}{ic:IC}{rs:List ResultVar}(hf:aL P f n ic rs){args:List V}{o:Nat->ad}{nx:Nat}{K X:V->(Nat->ad)->Nat->Prop}(hl:args.length<=n)(h:tY P n nx false ic (lX P rs K X) ⟨cj args,o,nx⟩):cI P f args o nx K X:=by
 obtain⟨fn,h1,h2,rfl,rfl,c,h3,rfl⟩:=hf.get
 exact cI.Fv h1 h2 h3 hl (hU bn c _ _ _ (fun _ _ h=>h) h)
theorem a8.vg (bn:P.follows .mixedOrders=true){f:FuncId}{ic:IC}{rs:List ResultVar}(hf:aL P f n ic rs){ds:List D}{out:R}(hl:ds.length<=n)(h:tY P n 0 false ic (yX P rs out) ⟨cj (ds.map .d),fun _=> .no,0⟩):a8 P f ds out:=by
 obtain⟨fn,h1,h2,rfl,rfl,c,h3,rfl⟩:=hf.get
 exact a8.m7 (cI.Fv h1 h2 h3 (by simpa using hl) (hU bn c _ _ _ (fun e s h=>Hk e s h) h))
end
end
section
abbrev Fix(α:Type){β:Type}(_:β):Type:=α
def kq(K:V->List (Nat×ad)->Prop)(x:Fix (Option fK) K):Prop:=match x with|some (v,Δ,_)=>K v Δ|none=>False
@[go_sem] theorem SS {v:V} {Δ:List (Nat×ad)} {rd:List Nat} {K}:kq K (some (v,Δ,rd))=K v Δ:=propext Iff.rfl
@[go_sem] theorem SU {K}:kq K none=False:=propext Iff.rfl
def V.zu (c:Bool)(v:V):V:=if c=true then v else .bT []
@[go_sem] theorem Zg (b:Bool):(!!b)=b:=aF
attribute [go_sem] true_or or_true false_or ne_eq not_false_eq_true decide_true decide_false Bool.not_true Bool.not_false Bool.and_true Bool.true_and Bool.and_false Bool.false_and Bool.or_true Bool.true_or Bool.or_false Bool.false_or beq_self_eq_true Bool.true_eq_false Bool.false_eq_true not_true_eq_false and_true true_and and_false false_and eq_self
@[go_sem] theorem V.Zh (v:V):V.zu true v=v:=rfl
@[go_sem] theorem V.VU (v:V):V.zu false v= .bT []:=rfl
def mq(c:Bool)(p:Prop):Prop:=c=true->p
@[congr] theorem P9 {c c':Bool} {p p':Prop} (h:c=c') (h2:c'=true->p=p'):mq c p=mq c' p':=by
  subst h;cases c
  ·simp[mq]
  ·simp[mq,h2 rfl]
@[go_sem] theorem SV (p:Prop):mq true p=p:=by simp[mq]
@[go_sem] theorem Qa (p:Prop):mq false p=True:=by simp[mq]
@[go_sem] theorem SW (a:Bool):mq a True=True:=by simp[mq]
def mu(v:V)(want:Bool):Option Bool:=
 match v with
 | .d (.bool b)=>some (b==want)
 | .bT []=>some false
 |_=>none
@[go_sem] theorem SX (b:Bool):mu (.d (.bool b)) true=some b:=by simp[mu]
@[go_sem] theorem Qb (b:Bool):mu (.d (.bool b)) false=some (!b):=by simp[mu]
@[go_sem] theorem Zi (want:Bool):mu (.bT []) want=some false:=rfl
@[go_sem] theorem VV (c b want:Bool):mu (V.zu c (.d (.bool b))) want=some (c&&(b==want)):=by cases c<;>simp[mu,V.zu]
@[go_sem] theorem SY (c b e want:Bool):mu (V.zu c (V.zu e (.d (.bool b)))) want=some (c&&e&&(b==want)):=by cases c<;>cases e<;>simp[mu,V.zu]
def kL(c:Bool)(x:Option fK):Option fK:=
 if c=true then(match x with|some (v,[],_)=>some (v,[],[])|_=>none)else some (.bT [],[],[])
@[congr] theorem M8 {c c':Bool} {x x':Option fK} (h:c=c') (h2:c'=true->x=x'):kL c x=kL c' x':=by
  subst h;cases c
  ·rfl
  ·simp[kL,h2 rfl]
def VW(v:V)(rd:List Nat):Option fK:=some (v,[],rd)
@[go_sem] theorem ads (v:V) (rd:List Nat):(some (v,[],rd):Option fK)=VW v rd:=by unfold VW;exact Eq.trans rfl rfl
@[go_sem] theorem SZ (c:Bool) (v:V) (rd:List Nat):kL c (VW v rd)=VW (V.zu c v) []:=by cases c<;>rfl
@[go_sem] theorem VX {v:V} {rd:List Nat} {K}:kq K (VW v rd)=K v []:=propext Iff.rfl
@[go_sem] theorem Qc (c:Bool) (v:V) (rd:List Nat):kL c (some (v,[],rd))=some (V.zu c v,[],[]):=by cases c<;>rfl
@[go_sem] theorem M9 (x:Option fK):kL false x=some (.bT [],[],[]):=rfl
@[go_sem] theorem Zj (b x:Bool):qu (.d (.bool b)) (V.zu b (.d (.bool x))) (.d (.bool false))=some (.d (.bool (b&&x))):=AF
@[go_sem] theorem acD (b x:Bool):qu (.d (.bool b)) (.d (.bool true)) (V.zu (!b) (.d (.bool x)))=some (.d (.bool (b||x))):=AF
@[go_sem] theorem Zk (b x:Bool):qu (.d (.bool (!b))) (.d (.bool true)) (V.zu b (.d (.bool x)))=some (.d (.bool (!b||x))):=AF
@[go_sem] theorem VY (x y:V):qu (.d (.bool true)) x y=some x:=rfl
@[go_sem] theorem S0 (x y:V):qu (.d (.bool false)) x y=some y:=rfl
@[reducible] def kM:Op->Bool
  | .move _| .assign _| .pick .. | .load .. | .binOp .. | .unOp .. | .nilCheck _| .convert .. | .makeInterface .. | .makeFunc .. | .fieldAddr .. | .indexAddr .. | .extract .. | .build .. | .index .. | .field .. | .lookup .. =>true
  | .call c=>match c.callee with
    | .builtin .len=>true
    | .builtin .min=>true
    | .builtin .max=>true
    |_=>false
  |_=>false
def BF(P:Program)(f:V)(args:List V)(o:Nat->ad)(rs:List D):Prop:=
 match f with
 | .func (.func g) first cap=>match bZ o (first++args++cap)with
   |some ds=>a8 P g ds (.ret rs)/\D.jB rs=true
   |none=>False
 |_=>False
def FE(P:Program)(f:V)(args:List V)(o:Nat->ad)(K:V->Prop)(c:Fix Bool (f,args,o,K)):Prop:=
 ∃rs,mq c (BF P f args o rs)/\K (V.zu c (iP rs))
def BG(P:Program)(g:FuncId)(nx:Nat)(K X:V->(Nat->ad)->Nat->Prop)(args:Fix (List V) (K,X))(o:Fix (Nat->ad) (K,X)):Prop:=sV P g args o nx K X
def vh(P:Program)(g:FuncId)(o:Nat->ad)(nx:Nat)(K X:V->(Nat->ad)->Nat->Prop)(ds:Fix (List D) (o,nx,K,X))(all:Fix (List V) (o,nx,K,X)):Prop:=
 uY P g ds o (put o (bL o (V.br all))) (put o (rv o (V.br all))) (fun v o'=>K v o' (nx+1)) (fun v o'=>X v o' (nx+1))\/sV P g all o nx K X
def nk(P:Program)(g:FuncId)(K X:V->(Nat->ad)->Nat->Prop)(s:S)(all:List V)(ds:Fix (Option (List D)) (K,X,s,all)):Prop:=
 match ds with
 |some ds=>vh P g s.o s.nx K X ds all
 |none=>BG P g s.nx K X all s.o
@[go_sem] theorem Qd {P:Program} {s:S} {ds:List D} {g:FuncId} {all:List V} {K X}:
 nk P g K X s all (some ds)=vh P g s.o s.nx K X ds all:=propext Iff.rfl
def xY(P:Program)(id:Nat)(K X:V->(Nat->ad)->Nat->Prop)(s:S)(args:Fix (List V) (K,X,s)):Prop:=dB P id args s.o s.nx K X
@[go_sem] theorem Qe {P:Program} {s:S} {g:FuncId} {all:List V} {K X}:nk P g K X s all none=BG P g s.nx K X all s.o:=propext Iff.rfl
def s8(P:Program)(K X:V->(Nat->ad)->Nat->Prop)(s:S)(f:Fix V (K,X,s))(args:Fix (List V) (K,X,s)):Prop:=
 match f with
 | .func (.func g) first cap=>nk P g K X s (first++args++cap) (bZ s.o (first++args++cap))
 | .j7 id=>xY P id K X s args
 |_=>False
@[go_sem] theorem VZ {P:Program} {s:S} {id:Nat} {args:List V} {K X}:s8 P K X s (.j7 id) args=xY P id K X s args:=propext Iff.rfl
@[go_sem] theorem S1 {P:Program} {s:S} {g:FuncId} {first cap args:List V} {K X}:s8 P K X s (.func (.func g) first cap) args=nk P g K X s (first++args++cap) (bZ s.o (first++args++cap)):=propext Iff.rfl
def J5(P:Program)(g:FuncId)(o:Nat->ad)(nx:Nat)(K X:V->(Nat->ad)->Nat->Prop)(ds:Fix (List D) (o,nx,K,X))(all:Fix (List V) (o,nx,K,X)):Prop:=
 uY P g ds o (put o (bL o (V.br all))) (put o (rv o (V.br all))) (fun v o'=>K v o' (nx+1)) (fun v o'=>X v o' (nx+1))
def BH(P:Program)(g:FuncId)(K X:V->(Nat->ad)->Nat->Prop)(s:S)(all:List V)(ds:Fix (Option (List D)) (K,X,s,all)):Prop:=
 match ds with
 |some ds=>J5 P g s.o s.nx K X ds all
 |none=>False
@[go_sem] theorem S2 {P:Program} {s:S} {ds:List D} {g:FuncId} {all:List V} {K X}:BH P g K X s all (some ds)=J5 P g s.o s.nx K X ds all:=propext Iff.rfl
def J6(P:Program)(K X:V->(Nat->ad)->Nat->Prop)(s:S)(args:Fix (List V) (K,X,s))(r:Fix (Option (FuncId×V)) (K,X,s)):Prop:=
 match r with
 |some (g,y)=>BH P g K X s (y::args) (bZ s.o (y::args))
 |none=>False
@[go_sem] theorem V0 {P:Program} {s:S} {g:FuncId} {y:V} {args:List V} {K X}:J6 P K X s args (some (g,y))=BH P g K X s (y::args) (bZ s.o (y::args)):=propext Iff.rfl
def Hx(K:V->Prop)(v:Fix V K):Prop:=
 match v with
 | .d (.iface t y)=>K (.d (.iface t y))
 | .iface t y=>K (.iface t y)
 |_=>False
@[go_sem] theorem adt {t:TypeId} {y:D} {K}:Hx K (.d (.iface t y))=K (.d (.iface t y)):=propext Iff.rfl
@[go_sem] theorem adu {t:TypeId} {y:V} {K}:Hx K (.iface t y)=K (.iface t y):=propext Iff.rfl
def FF(K:V->List (Nat×ad)->Prop)(id:Nat)(l:Fix (List (D×D)) (K,id)):Prop:=E9 id l fun v Δ _=>K v Δ
def J7(K:V->List (Nat×ad)->Prop)(str:Bool)(V1:Fix (Option fK) (K,str))(left:Fix (Option (Nat×List (D×D))) (K,str)):Prop:=
 match left with
 |some (id,l)=>str=false/\FF K id l
 |none=>kq K V1
@[go_sem] theorem V2 {K} {V1:Option fK} {id:Nat} {l:List (D×D)}:J7 K false V1 (some (id,l))=FF K id l:=propext ⟨fun h=>h.2,fun h=>⟨rfl,h⟩⟩
@[go_sem] theorem V3 {K} {str:Bool} {V1:Option fK}:J7 K str V1 none=kq K V1:=propext Iff.rfl
def BI(P:Program)(X:V->S->Prop)(K:S->Prop)(o:bP)(s:Fix S (X,K,o)):Prop:=
 match o.op with
 | .next x str=>J7 (fun v Δ=>K ⟨ba s.env o.dst v,put s.o Δ,s.nx+1⟩) str (oK s.o (s.ev x) str) (oL s.o (s.ev x))
 | .call c=>match c.callee with
   | .value f=>s8 P (fun v o' nx'=>K ⟨ba s.env o.dst v,o',nx'⟩) (fun v o' nx'=>X v ⟨s.env,o',nx'⟩) s (s.ev f) (c.args.toList.map s.ev)
   | .invoke r m=>J6 P (fun v o' nx'=>K ⟨ba s.env o.dst v,o',nx'⟩) (fun v o' nx'=>X v ⟨s.env,o',nx'⟩) s (c.args.toList.map s.ev) (uR P m (s.ev r))
   |_=>kq (fun v Δ=>K ⟨ba s.env o.dst v,put s.o Δ,s.nx+1⟩) (gr P s s.nx o.op)
 | .panic x=>Hx (fun v=>X v s) (s.ev x)
 |op=>kq (fun v Δ=>K ⟨ba s.env o.dst v,put s.o Δ,s.nx+1⟩) (gr P s s.nx op)
@[reducible] def ew:Op->Option (Operand×List Operand)
  | .call c=>match c.callee with
    | .value f=>some (f,c.args.toList)
    |_=>none
  |_=>none
def iE(A B:Prop)(t:Fix Bool (A,B)):Prop:=qz t A B
@[go_sem] theorem S3 (A B:Prop):iE A B true=A:=uZ A B
@[go_sem] theorem Qf (A B:Prop):iE A B false=B:=sW A B
def DW(P:Program)(X:V->S->Prop)(K:S->Prop)(o:bP)(s:S)(f:Operand)(args:List Operand)(c:Fix Bool (X,K,o,s,f,args)):Prop:=
 FE P (s.ev f) (args.map s.ev) s.o (fun v=>K ⟨ba s.env o.dst v,s.o,s.nx+1⟩) c\/iE (BI P X K o s) (K ⟨ba s.env o.dst (.bT []),s.o,s.nx+1⟩) c
def zw(P:Program)(X:V->S->Prop)(K:S->Prop)(o:bP)(s:S)(c:Fix (Option Bool) (X,K,o,s)):Prop:=
 match c with
 |none=>False
 |some c=>match ew o.op with
  |some (f,args)=>DW P X K o s f args c
  |none=>if kM o.op=true then kq (fun v _=>K ⟨ba s.env o.dst v,s.o,s.nx+1⟩) (kL c (gr P s s.nx o.op))
   else iE (BI P X K o s) (K ⟨ba s.env o.dst (.bT []),s.o,s.nx+1⟩) c
def rP(P:Program)(X:V->S->Prop)(K:S->Prop)(l:List bP)(s:Fix S (X,K,l)):Prop:=
 match l with
 |[]=>K s
 |o::l=>match o.gd with
  |none=>BI P X (rP P X K l) o s
  |some (d,want)=>zw P X (rP P X K l) o s (mu (s.env d) want)
def jD(want:Bool)(A B:Prop)(v:Fix V (A,B)):Prop:=
 match v with
 | .d (.bool b)=>qz (b==want) A B
 | .bT []=>B
 |_=>False
@[go_sem] theorem Qg (b:Bool) (A B:Prop):jD true A B (.d (.bool b))=iE A B b:=by simp[jD,iE]
@[go_sem] theorem Na (b:Bool) (A B:Prop):jD false A B (.d (.bool b))=iE A B (!b):=by simp[jD,iE]
@[go_sem] theorem V4 (want:Bool) (A B:Prop):jD want A B (.bT [])=B:=propext Iff.rfl
@[go_sem] theorem S4 (c b want:Bool) (A B:Prop):jD want A B (V.zu c (.d (.bool b)))=iE A B (c&&(b==want)):=by cases c<;>simp[jD,V.zu,iE]
abbrev KD:=V->List (Nat×ad)->List Nat->Prop
abbrev XD:=V->List Nat->List Nat->Prop
def J8(P:Program)(g:FuncId)(K:KD)(X:XD)(o:Nat->ad)(rd:List Nat)(ds:Fix (List D) (K,X,o,rd))(all:Fix (List V) (K,X,o,rd)):Prop:=
 s7 P g ds (fun v=>K v (bL o (V.br all)) rd) (fun v=>K v [] rd) (fun v=>X v [] rd)
def rQ(P:Program)(g:FuncId)(K:KD)(X:XD)(o:Nat->ad)(nx fr:Nat)(all:Fix (List V) (K,X,o,nx)):Prop:=iR P g all o nx fr K X
def pt(P:Program)(g:FuncId)(K:KD)(X:XD)(o:Nat->ad)(nx fr:Nat)(rd:List Nat)(ds:Fix (List D) (K,X,o,nx,rd))(all:Fix (List V) (K,X,o,nx,rd)):Prop:=J8 P g K X o rd ds all\/rQ P g K X o nx fr all
def rR(P:Program)(K:KD)(X:XD)(o:Nat->ad)(nx fr:Nat)(rd:List Nat)(g:FuncId)(all:List V)(ds:Fix (Option (List D)) (K,X,o,nx,rd,all)):Prop:=
 match ds with
 |some ds=>pt P g K X o nx fr rd ds all
 |none=>rQ P g K X o nx fr all
@[go_sem] theorem Qh {P:Program} {o:Nat->ad} {nx fr:Nat} {rd:List Nat} {ds:List D} {g:FuncId} {all:List V} {K X}:rR P K X o nx fr rd g all (some ds)=pt P g K X o nx fr rd ds all:=propext Iff.rfl
@[go_sem] theorem Qi {P:Program} {o:Nat->ad} {nx fr:Nat} {rd:List Nat} {g:FuncId} {all:List V} {K X}:rR P K X o nx fr rd g all none=rQ P g K X o nx fr all:=propext Iff.rfl
def BJ(P:Program)(K:KD)(X:XD)(o:Nat->ad)(nx fr:Nat)(rd:Fix (List Nat) (K,X,o,nx))(f:Fix V (K,X,o,nx))(args:Fix (List V) (K,X,o,nx)):Prop:=
 match f with
 | .func (.func g) first cap=>rR P K X o nx fr rd g (first++args++cap) (bZ o (first++args++cap))
 |_=>False
@[go_sem] theorem S5 {P:Program} {o:Nat->ad} {nx fr:Nat} {rd:List Nat} {g:FuncId} {first cap args:List V} {K X}:BJ P K X o nx fr rd (.func (.func g) first cap) args=rR P K X o nx fr rd g (first++args++cap) (bZ o (first++args++cap)):=propext Iff.rfl
def vi(K:KD)(rd:List Nat)(x:Fix (Option fK) (K,rd)):Prop:=match x with|some (v,Δ,_)=>K v Δ rd|none=>False
@[go_sem] theorem S6 {v:V} {Δ:List (Nat×ad)} {r rd:List Nat} {K}:vi K rd (some (v,Δ,r))=K v Δ rd:=propext Iff.rfl
@[go_sem] theorem V5 {v:V} {r rd:List Nat} {K}:vi K rd (VW v r)=K v [] rd:=propext Iff.rfl
def Mi(P:Program)(K:KD)(X:XD)(fr:Nat)(o:bP)(s:Fix S (K,X,o)):Prop:=
 match ew o.op with
 |some (f,args)=>BJ P K X s.o s.nx fr (oE s o.op) (s.ev f) (args.map s.ev)
 |none=>vi K (oE s o.op) (gr P s fr o.op)
def Hy(P:Program)(KB:List Nat->Fp->Prop)(pr:List (List Nat))(l:List bP)(fr:Nat)(fp:Fix Fp (KB,l))(bad ws:Fix (List Nat) (KB,l))(s:Fix S (KB,l)):Prop:=gZ P KB pr l fr s fp bad ws
def pv(P:Program)(K:S->Fp->Prop)(KP:V->List Nat->Fp->Prop)(pr:List (List Nat))(l:List bP)(fr:Nat)(s:Fix S (K,KP,l))(fp:Fix Fp (K,KP,l)):Prop:=
 match l with
 |[]=>K s fp
 |o::l=>match o.gd with
  |none=>Mi P (fun v Δ rd=>pv P K KP pr l (fr+1) ⟨ba s.env o.dst v,put s.o Δ,s.nx⟩ (fp++[(rd,Δ.map (·.1))]))
   (fun v ws rd=>Hy P (KP v) pr l (fr+1) (fp++[(rd,[])]) [fp.length] (ws++fp.flatMap (·.2)) ⟨ba s.env o.dst .aa,s.o,s.nx⟩) fr o s
  |some (d,want)=>jD want (Mi P (fun v Δ rd=>pv P K KP pr l (fr+1) ⟨ba s.env o.dst v,put s.o Δ,s.nx⟩ (fp++[(rd,Δ.map (·.1))]))
   (fun v ws rd=>Hy P (KP v) pr l (fr+1) (fp++[(rd,[])]) [fp.length] (ws++fp.flatMap (·.2)) ⟨ba s.env o.dst .aa,s.o,s.nx⟩) fr o s)
   (pv P K KP pr l (fr+1) ⟨ba s.env o.dst (.bT []),s.o,s.nx⟩ (fp++[([],[])])) (s.env d)
def Nb(pr:List (List Nat))(nx:Nat)(Q:fk->S->Prop)(s:Fix S Q)(fp:Fix Fp Q):Prop:=DT pr nx Q s fp
def rS(l:List bP)(k:Fix Nat l):Option Nat:=match l with
 |[]=>none
 |o::l=>match o.gd,ew o.op with
  |none,some (.tmp _,_)=>some k
  |_,_=>rS l (k+1)
def Qj(P:Program)(pr:List (List Nat))(l:List bP)(nx:Nat)(Q:fk->S->Prop)(s:Fix S (P,pr,l,nx,Q))(fp:Fix Fp (P,pr,l,nx,Q)):Prop:=eE pr fp=true/\rP P (fun v s=>Q (.bF v) s) (Q .normal) l ⟨s.env,s.o,nx⟩
def Nc(P:Program)(l:List bP)(pr:List (List Nat))(Q:fk->S->Prop)(s:S)(sp:Fix (Option Nat) (P,l,pr,Q,s)):Prop:=match sp with
 |none=>pv P (Nb pr (s.nx+l.length) Q) (BC pr l s Q) pr l s.nx s []
 |some m=>m<=l.length/\DU pr m=true/\pv P (Qj P pr (l.drop m) (s.nx+m) Q) (fun _ _ _=>False) pr (l.take m) s.nx s []
def xZ(A B:Prop)(v:Fix V (A,B)):Prop:=
 match v with
 | .d (.bool t)=>iE A B t
 | .fH=>A/\B
 |_=>False
@[go_sem] theorem V6 (A B:Prop):xZ A B .fH=(A/\B):=propext Iff.rfl
@[go_sem] theorem S7 (t:Bool) (A B:Prop):xZ A B (.d (.bool t))=iE A B t:=propext Iff.rfl
def FG{ι:Type}(b:Nat)(st:ι->S)(cm:ι->Prop)(pw:ι->Nat)(i:ι)(s:S):Prop:=∃j,cm j/\pw j<pw i/\bA b s (st j)
def vj(next:S->Prop)(Q:fk->S->Prop)(e:fk)(s:S):Prop:=match e with| .normal=>next s|e=>Q e s
section
variable {N:S->Prop}{Q:fk->S->Prop}{s:S}
@[go_sem ↓] theorem Nd:vj N Q .normal s=N s:=propext Iff.rfl
@[go_sem ↓] theorem S8 {id:Nat}:vj N Q (.exit id) s=Q (.exit id) s:=propext Iff.rfl
@[go_sem ↓] theorem V7:vj N Q .ret s=Q .ret s:=propext Iff.rfl
@[go_sem ↓] theorem V8 {v:V}:vj N Q (.bF v) s=Q (.bF v) s:=propext Iff.rfl
end
def FH(b:Nat)(body:(fk->S->Prop)->S->Prop)(Q:fk->S->Prop)(s:Fix S (body,Q)):Prop:=
 ∃ (ι:Type) (st:ι->S) (cm:ι->Prop) (pw:ι->Nat) (i0:ι),cm i0/\bA b s (st i0)/\∀i,cm i->body (vj (FG b st cm pw i) Q) (st i)
theorem aB{ι:Type}{b:Nat}{body:(fk->S->Prop)->S->Prop}{Q:fk->S->Prop}{s:S}(st:ι->S)(cm:ι->Prop)(pw:ι->Nat)(i0:ι)(h0:cm i0)(hle:bA b s (st i0))
 (h:∀i,cm i->body (vj (FG b st cm pw i) Q) (st i)):FH b body Q s:=⟨ι,st,cm,pw,i0,h0,hle,h⟩
def tM(P:Program)(n b:Nat)(rd:Bool)(gop:Operand)(ps:List Nat)(x y:IC)(Q:fk->S->Prop)(s:Fix S (x,y,Q))(g:Fix V (x,y,Q)):Prop:=rd=false/\(Bl P n g ps x y Q s\/∃s',bA b s s'/\Bl P n (s'.ev gop) ps x y Q s')
def kN(P:Program)(n b:Nat)(rd:Bool)(c:IC)(Q:fk->S->Prop)(s:Fix S (c,Q)):Prop:=
 match c with
 | .skip=>Q .normal s
 | .ag l=>rP P (fun v s=>Q (.bF v) s) (Q .normal) l s
 | .dm l pr=>Nc P l pr Q s (rS l 0)
 | .seq x y=>kN P n b rd x (ql (fun s=>kN P n b rd y Q s) Q) s
 | .cond c x y=>xZ (kN P n b rd x Q s) (kN P n b rd y Q s) (s.ev c)
 | .block id x=>kN P n b rd x (ff id Q) s
 | .loop x=>FH b (fun Q s=>kN P n b rd x Q s) Q s
 | .exit id=>Q (.exit id) s
 | .ret=>Q .ret s
 | .It g ps x y=>tM P n b rd g ps x y Q s (s.ev g)
 | .bad=>False
section
variable {P:Program}{n b:Nat}{rd:Bool}
theorem BK{s:S}{f:V}{args:List V}{K K':V->(Nat->ad)->Nat->Prop}{X X':V->(Nat->ad)->Nat->Prop}(hK:∀v o n,K v o n->K' v o n)(hX:∀v o n,X v o n->X' v o n)(h:s8 P K X s f args):
 match(generalizing:=false) f with
  | .func (.func g) first cap=>match bZ s.o (first++args++cap)with
    |some ds=>uY P g ds s.o (put s.o (bL s.o (V.br (first++args++cap)))) (put s.o (rv s.o (V.br (first++args++cap)))) (fun v o'=>K' v o' (s.nx+1)) (fun v o'=>X' v o' (s.nx+1))\/sV P g (first++args++cap) s.o s.nx K' X'
    |none=>sV P g (first++args++cap) s.o s.nx K' X'
  | .j7 id=>dB P id args s.o s.nx K' X'
  |_=>False:=by
 unfold s8 nk xY at h
 split at h
 ·rename_i g first cap
  cases eP:bZ s.o (first++args++cap)with
  |some ds=>
   simp only[eP]at h|-
   rcases h with⟨out,h1,h2|⟨h3,h2⟩|⟨h3,h2⟩⟩|h
   ·exact .inl ⟨out,h1, .inl (by cases out<;>first|exact hK _ _ _ h2|exact hX _ _ _ h2)⟩
   ·exact .inl ⟨out,h1, .inr (.inl ⟨h3,by cases out<;>first|exact hK _ _ _ h2|exact hX _ _ _ h2⟩)⟩
   ·exact .inl ⟨out,h1, .inr (.inr ⟨h3,by cases out<;>first|exact hK _ _ _ h2|exact hX _ _ _ h2⟩)⟩
   ·exact .inr (oF.mono hK hX h)
  |none=>
   simp only[eP]at h|-
   exact oF.mono hK hX h
 ·exact dB.mono hK hX h
 ·exact h.elim
theorem x4{x:Option fK}{K:V->List (Nat×ad)->Prop}(h:kq K x):∃v Δ rd,x=some (v,Δ,rd)/\K v Δ:=by
 unfold kq at h;split at h
 ·exact⟨_,_,_,rfl,h⟩
 ·exact h.elim
theorem zA{s:S}{o:bP}{X X':V->S->Prop}{K K':S->Prop}(hK:∀s,K s->K' s)(hX:∀v s,X v s->X' v s)(h:BI P X K o s):IF P s o X' K':=by
 unfold BI at h
 unfold IF
 have hs:∀ {op:Op},(kq (fun v Δ=>K ⟨ba s.env o.dst v,put s.o Δ,s.nx+1⟩) (gr P s s.nx op))->(match gr P s s.nx op with|some (v,Δ,_)=>K' ⟨ba s.env o.dst v,put s.o Δ,s.nx+1⟩|none=>False):=by
  intro op h
  obtain⟨v,Δ,rd,he,h⟩:=x4 h
  simp only[he];exact hK _ h
 split at h
 ·rename_i x str hx
  rw[hx]
  unfold J7 at h
  simp only
  split at h
  ·rename_i id l hl
   simp only[hl]
   exact⟨h.1,fun e=>hK _ (h.2.1 e),fun i k x e=>hK _ (h.2.2 i k x e)⟩
  ·rename_i hl
   simp only[hl]
   exact hs (op:= .next x str) h
 ·rename_i c hc
  simp only[hc]
  split at h
  ·rename_i f hf
   simp only[hf]
   exact BK (K:=fun v o' nx'=>K ⟨ba s.env o.dst v,o',nx'⟩) (X:=fun v o' nx'=>X v ⟨s.env,o',nx'⟩) (fun v o n h=>hK _ h) (fun v o n h=>hX _ _ h) h
  ·rename_i r m hf
   simp only[hf]
   unfold J6 at h
   split at h
   ·rename_i g y hr
    simp only[hr]
    unfold BH at h
    split at h
    ·rename_i ds eP
     obtain⟨out,h1,h2⟩:=h
     refine .inl ⟨ds,eP,out,h1, ?_⟩
     rcases h2 with h2|⟨h3,h2⟩|⟨h3,h2⟩
     ·exact .inl (by cases out<;>first|exact hK _ h2|exact hX _ _ h2)
     ·exact .inr (.inl ⟨h3,by cases out<;>first|exact hK _ h2|exact hX _ _ h2⟩)
     ·exact .inr (.inr ⟨h3,by cases out<;>first|exact hK _ h2|exact hX _ _ h2⟩)
    ·exact h.elim
   ·exact h.elim
  ·rename_i hf hi
   rw[hc]at h
   obtain⟨JH,args,ts⟩:=c
   cases JH with
   |value f=>exact absurd rfl (hf f)
   |invoke r m=>exact absurd rfl (hi r m)
   |_=>exact hs h
 ·rename_i x hx
  simp only[hx]
  unfold Hx at h
  split at h
  ·rename_i hv;simp only[hv];exact hX _ _ h
  ·rename_i hv;simp only[hv];exact hX _ _ h
  ·exact h.elim
 ·rename_i tS hc hp
  have h2:=hs h
  cases hh:o.op<;>first
   |exact absurd hh (hc _)
   |exact absurd hh (hp _)
   |exact absurd hh (tS _ _)
   |(rw[hh]at h2;exact h2)
theorem J9{s:S}{o:bP}{X:V->S->Prop}{K:S->Prop}(hp:kM o.op=true){v:V}{Δ:List (Nat×ad)}{rd:List Nat}(he:gr P s s.nx o.op=some (v,Δ,rd))(h:K ⟨ba s.env o.dst v,put s.o Δ,s.nx+1⟩):IF P s o X K:=by
 unfold IF
 split
 ·rename_i c hc
  split
  ·rename_i f hf;rw[hc]at hp;simp[kM,hf]at hp
  ·rename_i r m hf;rw[hc]at hp;simp[kM,hf]at hp
  ·rw[he];exact h
 ·rename_i x hx;rw[hx]at hp;simp[kM]at hp
 ·rename_i x str hx;rw[hx]at hp;simp[kM]at hp
 ·rw[he];exact h
theorem rT{X X':V->S->Prop}{K K':S->Prop}(hK:∀s,K s->K' s)(hX:∀v s,X v s->X' v s):∀ (l:List bP) (s:S),rP P X K l s->pk P X' K' l s
 |[],s,h=>hK _ h
 |o::l,s,h=>by
  have ih:=rT hK hX l
  unfold rP at h
  unfold pk
  cases hg:o.gd with
  |none=>
   simp only[hg]at h|-
   exact zA ih hX h
  |some p=>
   obtain⟨d,want⟩:=p
   simp only[hg]at h|-
   unfold zw at h
   split at h
   ·exact h.elim
   ·rename_i c hc
    have S9:∀ {A B:Prop},(c=true->A)->(c=false->B)->(match s.env d with
     | .d (.bool b)=>if b=want then A else B
     | .bT []=>B
     |_=>False):=by
     intro A B hA hB
     generalize s.env d=v at hc
     unfold mu at hc
     split at hc
     ·rename_i b
      injection hc with hc
      split
      ·rename_i e;exact hA (by rw[<- hc];simp[e])
      ·rename_i e;exact hB (by rw[<- hc];simp[e])
     ·injection hc with hc
      exact hB hc.symm
     ·cases hc
    split at h
    ·rename_i f args IG
     rcases h with h|h
     case inr=>exact S9 (fun Qk=>zA ih hX (h.1 Qk)) (fun Ta=>ih _ (h.2 Ta))
     obtain⟨rs,h1,h2⟩:=h
     refine S9 (fun Qk=> ?_) (fun Ta=> ?_)
     ·unfold ew at IG
      split at IG
      ·rename_i c' Ap
       split at IG
       ·rename_i f' wP
        injection IG with IG;injection IG with e1 e2;subst e1;subst e2
        have eg:=h1 Qk
        unfold IF
        simp only[Ap,wP]
        unfold BF at eg
        split at eg
        ·rename_i g first cap wI
         simp only[wI]
         split at eg
         ·rename_i ds eP
          simp only[eP]
          refine .inl ⟨.ret rs,eg.1, .inr (.inl ⟨eg.2, ?_⟩)⟩
          refine ih _ ?_
          rw[Qk]at h2
          exact h2
         ·exact eg.elim
        ·exact eg.elim
       ·cases IG
      ·cases IG
     ·refine ih _ ?_
      rw[Ta]at h2
      exact h2
    ·split at h
     ·rename_i hp
      obtain⟨v,Δ,rd,he,h⟩:=x4 h
      refine S9 (fun Qk=> ?_) (fun Ta=> ?_)
      ·rw[Qk]at he
       simp only[kL,if_true]at he
       split at he
       ·rename_i v' yE pM
        injection he with he;injection he with e1 e2;subst e1
        exact J9 hp pM (ih _ h)
       ·cases he
      ·rw[Ta]at he
       simp only[kL]at he
       injection he with he;injection he with e1 e2;subst e1
       exact ih _ h
     ·exact S9 (fun Qk=>zA ih hX (h.1 Qk)) (fun Ta=>ih _ (h.2 Ta))
theorem zB{op:Op}{f:Operand}{args:List Operand}(h:ew op=some (f,args)):∃c,op= .call c/\c.callee= .value f/\c.args.toList=args:=by
 unfold ew at h
 split at h
 ·rename_i c
  split at h
  ·rename_i f' wP
   injection h with h;injection h with e1 e2;subst e1;subst e2
   exact⟨c,rfl,wP,rfl⟩
  ·cases h
 ·cases h
theorem Hz{x:Option fK}{rd:List Nat}{K:KD}(h:vi K rd x):∃v Δ r,x=some (v,Δ,r)/\K v Δ rd:=by
 unfold vi at h;split at h
 ·exact⟨_,_,_,rfl,h⟩
 ·exact h.elim
theorem iR.mono {P:Program}{g:FuncId}{args:List V}{o:Nat->ad}{nx fr:Nat}{K K':KD}{X X':XD}(hK:∀v Δ r,K v Δ r->K' v Δ r)(hX:∀v w r,X v w r->X' v w r)(h:iR P g args o nx fr K X):iR P g args o nx fr K' X':=by
 obtain⟨rd,Δ,h1,⟨rs,h2,h3⟩|⟨x,h2,h3⟩|⟨v,h2,h3⟩⟩:=h
 ·exact⟨rd,Δ,h1, .inl ⟨rs,h2,hK _ _ _ h3⟩⟩
 ·exact⟨rd,Δ,h1, .inr (.inl ⟨x,h2,hX _ _ _ h3⟩)⟩
 ·exact⟨rd,Δ,h1, .inr (.inr ⟨v,h2,hK _ _ _ h3⟩)⟩
theorem s7.mono {P:Program}{g:FuncId}{ds:List D}{Kf Kb KX Kf' Kb' KX':V->Prop}(h1:∀v,Kf v->Kf' v)(h2:∀v,Kb v->Kb' v)(h3:∀v,KX v->KX' v)(h:s7 P g ds Kf Kb KX):s7 P g ds Kf' Kb' KX':=by
 rcases h with⟨rs,a,b|⟨b,c⟩⟩|⟨x,a,b,c⟩|⟨v,a,b⟩
 ·exact .inl ⟨rs,a, .inl (h1 _ b)⟩
 ·exact .inl ⟨rs,a, .inr ⟨b,h2 _ c⟩⟩
 ·exact .inr (.inl ⟨x,a,b,h3 _ c⟩)
 ·exact .inr (.inr ⟨v,a,h1 _ b⟩)
theorem FI{s:S}{fr:Nat}{o:bP}{K K':KD}{X X':XD}(hK:∀v Δ r,K v Δ r->K' v Δ r)(hX:∀v w r,X v w r->X' v w r)(h:Mi P K X fr o s):As P s fr o K' X':=by
 unfold Mi at h
 split at h
 ·rename_i f args IG
  obtain⟨c,h1,h2,h3⟩:=zB IG
  subst h3
  unfold As
  simp only[h1,h2]
  unfold BJ rR at h
  split at h
  ·rename_i g first cap hf
   simp only[hf]
   split at h
   ·rename_i ds eP
    simp only[eP]
    refine h.elim (fun h=> .inl ?_) (fun h=> .inr (iR.mono hK hX h))
    refine s7.mono (fun v h=> ?_) (fun v h=> ?_) (fun v h=> ?_) h<;>(rw[h1]at h)
    ·exact hK _ _ _ h
    ·exact hK _ _ _ h
    ·exact hX _ _ _ h
   ·rename_i eP
    simp only[eP]
    exact iR.mono hK hX h
  ·exact h.elim
 ·rename_i IG
  obtain⟨v,Δ,rd,he,h⟩:=Hz h
  unfold As
  split
  ·rename_i c hc
   split
   ·rename_i f hf
    exact absurd IG (by simp[ew,hc,hf])
   ·simp only[he];exact hK _ _ _ h
  ·simp only[he];exact hK _ _ _ h
theorem BM{s:S}{fr:Nat}{o:bP}{K K':KD}{X X':XD}(hK:∀v Δ r,K v Δ r->K' v Δ r)(hX:∀v w r,X v w r->X' v w r)(h:As P s fr o K X):As P s fr o K' X':=by
 unfold As at h|-
 split at h
 ·rename_i c hc
  rw[hc]at h|-
  split at h
  ·rename_i f hf
   (try simp only[hf])
   split at h
   ·rename_i wI
    (try simp only[wI])
    split at h
    ·exact h.elim (fun h=> .inl (s7.mono (fun v h=>hK _ _ _ h) (fun v h=>hK _ _ _ h) (fun v h=>hX _ _ _ h) h)) (fun h=> .inr (iR.mono hK hX h))
    ·exact iR.mono hK hX h
   ·exact h.elim
  ·rename_i hf
   split at h
   ·rename_i he
    (try simp only[he])
    exact hK _ _ _ h
   ·exact h.elim
 ·split at h
  ·rename_i he
   (try simp only[he]);exact hK _ _ _ h
  ·exact h.elim
theorem jg{KB KB':List Nat->Fp->Prop}{pr:List (List Nat)}(hK:∀l fp,KB l fp->KB' l fp):∀ (l:List bP) (fr:Nat) (s:S) (fp:Fp) (bad ws:List Nat),gZ P KB pr l fr s fp bad ws->gZ P KB' pr l fr s fp bad ws
 |[],_,_,_,_,_,h=>hK _ _ h
 |o::l,fr,s,fp,bad,ws,h=>by
  unfold gZ at h|-
  split
  ·rename_i hb
   rw[if_pos hb]at h
   exact jg hK l _ _ _ _ _ h
  ·rename_i hb
   rw[if_neg hb]at h
   split at h
   ·exact BM (fun v Δ r h=>jg hK l _ _ _ _ _ h) (fun _ _ _ h=>h) h
   ·split at h
    ·split at h
     ·rename_i e;simp only[e,if_true]
      exact BM (fun v Δ r h=>jg hK l _ _ _ _ _ h) (fun _ _ _ h=>h) h
     ·rename_i e;simp only[e,if_false]
      exact jg hK l _ _ _ _ _ h
    ·exact jg hK l _ _ _ _ _ h
    ·exact h.elim
theorem jh{K K':S->Fp->Prop}{KP KP':V->List Nat->Fp->Prop}{pr:List (List Nat)}(hK:∀s fp,K s fp->K' s fp)(hP:∀v l fp,KP v l fp->KP' v l fp):∀ (l:List bP) (fr:Nat) (s:S) (fp:Fp),pv P K KP pr l fr s fp->kK P K' KP' pr l fr s fp
 |[],_,_,_,h=>hK _ _ h
 |o::l,fr,s,fp,h=>by
  have hB:∀v ws (rdl:List Nat),Hy P (KP v) pr l (fr+1) (fp++[(rdl,[])]) [fp.length] (ws++fp.flatMap (·.2)) ⟨ba s.env o.dst .aa,s.o,s.nx⟩->
   gZ P (KP' v) pr l (fr+1) ⟨ba s.env o.dst .aa,s.o,s.nx⟩ (fp++[(rdl,[])]) [fp.length] (ws++fp.flatMap (·.2)):=fun v ws rdl h=>jg (fun a b h=>hP v a b h) l _ _ _ _ _ h
  unfold pv at h
  unfold kK
  split at h
  ·rename_i hg
   (try simp only[hg])
   exact FI (fun v Δ r h=>jh hK hP l _ _ _ h) hB h
  ·rename_i d want hg
   (try simp only[hg])
   generalize s.env d=v at h
   unfold jD at h
   split at h
   ·rename_i bb
    by_cases e:bb=want
    ·subst e
     simp only[if_true]
     exact FI (fun v Δ r h=>jh hK hP l _ _ _ h) hB (h.1 aF)
    ·simp only[if_neg e]
     exact jh hK hP l _ _ _ (h.2 (by simpa using e))
   ·exact jh hK hP l _ _ _ h
   ·exact h.elim
theorem dR:∀ (c:IC) (Q Q':fk->S->Prop) (s:S),(∀e s,Q e s->Q' e s)->kN P n b rd c Q s->tY P n b rd c Q' s
 | .skip,_,_,_,hQ,h=>hQ _ _ h
 | .ag l,_,_,_,hQ,h=>rT (fun s h=>hQ _ _ h) (fun v s h=>hQ _ _ h) l _ h
 | .dm l pr,_,_,_,hQ,h=>by
   unfold kN at h
   generalize rS l 0=sp at h
   cases sp with
   |none=>exact .inl (jh (fun s fp h=>⟨h.1,hQ _ _ h.2⟩) (fun v l fp h=>⟨h.1,hQ _ _ h.2⟩) l _ _ _ h)
   |some m=>exact .inr ⟨m,h.1,h.2.1,jh (fun s fp h=>⟨h.1,rT (fun s h=>hQ _ _ h) (fun v s h=>hQ _ _ h) _ _ h.2⟩) (fun v l fp h=>h.elim) _ _ _ _ h.2.2⟩
 | .seq x y,Q,Q',s,hQ,h=>dR x _ _ s (fun e s h=>by
  unfold ql at h|-
  cases e with
  |normal=>exact dR y _ _ s hQ h
  |_=>exact hQ _ _ h) h
 | .cond c x y,Q,Q',s,hQ,h=>by
   unfold kN xZ iE at h
   unfold tY
   split at h
   ·rename_i t ht
    simp only[ht]
    exact⟨fun e=>dR x _ _ s hQ (h.1 e),fun e=>dR y _ _ s hQ (h.2 e)⟩
   ·rename_i ht
    simp only[ht]
    exact⟨dR x _ _ s hQ h.1,dR y _ _ s hQ h.2⟩
   ·exact h.elim
 | .block id x,Q,Q',s,hQ,h=>dR x _ _ s (fun e s h=>by
  unfold ff at h|-
  cases e with
  |exit j=>
   simp only at h|-
   split
   ·rename_i e;rw[if_pos e]at h;exact hQ _ _ h
   ·rename_i e;rw[if_neg e]at h;exact hQ _ _ h
  |_=>exact hQ _ _ h) h
 | .loop x,Q,Q',s,hQ,h=>by
   obtain⟨ι,st,cm,pw,i0,h0,hle,h2⟩:=h
   refine⟨fun m s=>∃i,cm i/\pw i=m/\s=st i,⟨pw i0,st i0,hle,i0,h0,rfl,rfl⟩, ?_⟩
   rintro m s0 ⟨i,hg,rfl,rfl⟩
   refine dR x _ _ _ (fun e s h=> ?_) (h2 i hg)
   cases e with
   |normal=>
    obtain⟨j,k1,k2,k3⟩:=h
    exact⟨pw j,st j,k2,k3,j,k1,rfl,rfl⟩
   |_=>exact hQ _ _ h
 | .exit id,_,_,_,hQ,h=>hQ _ _ h
 | .ret,_,_,_,hQ,h=>hQ _ _ h
 | .It g ps x y,_,_,_,hQ,h=>⟨h.1,match h.2 with
   | .inl h=>⟨_, .inl rfl,rO hQ h⟩
   | .inr ⟨s',hle,h⟩=>⟨s', .inr hle,rO hQ h⟩⟩
 | .bad,_,_,_,_,h=>h.elim
end
theorem a8.aI {P:Program}(bn:P.follows .mixedOrders=true){f:FuncId}{n:Nat}{ic:IC}{rs:List ResultVar}{ds:List D}{out:R}(hf:aL P f n ic rs)(hl:ds.length<=n)
 (h:kN P n 0 false ic (yX P rs out) ⟨cj (ds.map .d),fun _=> .no,0⟩):a8 P f ds out:=
 a8.vg bn hf hl (dR ic _ _ _ (fun _ _ h=>h) h)
def rU(P:Program)(rs:List ResultVar)(K X:V->(Nat->ad)->Nat->Prop)(e:fk)(s:S):Prop:=lX P rs K X e s
theorem cI.aI {P:Program}(bn:P.follows .mixedOrders=true){f:FuncId}{n:Nat}{ic:IC}{rs:List ResultVar}{args:List V}{o:Nat->ad}{nx:Nat}{K X:V->(Nat->ad)->Nat->Prop}(hf:aL P f n ic rs)(hl:args.length<=n)
 (h:kN P n nx false ic (rU P rs K X) ⟨cj args,o,nx⟩):cI P f args o nx K X:=
 cI.vg bn hf hl (dR ic _ _ _ (fun _ _ h=>h) h)
section
variable {P:Program}{g:FuncId}{ds:List D}{o:Nat->ad}{nx:Nat}{K X:V->(Nat->ad)->Nat->Prop}{all:List V}
theorem aw{rs:List D}(h:a8 P g ds (.ret rs))(hf:D.jB rs=true)(hk:K (iP rs) o (nx+1)):vh P g o nx K X ds all:= .inl ⟨.ret rs,h, .inr (.inl ⟨hf,hk⟩)⟩
theorem bD{rs:List D}(h:a8 P g ds (.ret rs))(hk:K (iP rs) (put o (bL o (V.br all))) (nx+1)):vh P g o nx K X ds all:= .inl ⟨.ret rs,h, .inl hk⟩
theorem dD(h:cI P g all o nx K X):vh P g o nx K X ds all:= .inr (.inl h)
theorem ku{e:Nat->V}{ds:Option (List D)}(h:cI P g all o nx K X):nk P g K X ⟨e,o,nx⟩ all ds:=by
 cases ds with
 |some ds=>exact(.inr (.inl h):vh P g o nx K X ds all)
 |none=>exact(.inl h:BG P g nx K X all o)
theorem bz(h:cI P g all o nx K X):BG P g nx K X all o:= .inl h
variable {K:KD}{X:XD}{rd:List Nat}{fr:Nat}
theorem aZ{rs:List D}(h:a8 P g ds (.ret rs))(hf:D.jB rs=true)(hk:K (iP rs) [] rd):pt P g K X o nx fr rd ds all:= .inl (.inl ⟨rs,h, .inr ⟨hf,hk⟩⟩)
theorem aU{rs:List D}(h:a8 P g ds (.ret rs))(hk:K (iP rs) (bL o (V.br all)) rd):pt P g K X o nx fr rd ds all:= .inl (.inl ⟨rs,h, .inl hk⟩)
end
theorem fW{P:Program}{f:V}{args:List V}{o:Nat->ad}{K:V->Prop}{c:Bool}(rs:List D)(h:mq c (BF P f args o rs))(hk:K (V.zu c (iP rs))):FE P f args o K c:=⟨rs,h,hk⟩
theorem ak{t:Bool}{A B:Prop}(h:t=true->A)(h2:t=false->B):iE A B t:=⟨h,h2⟩
theorem aN{pr:List (List Nat)}{nx:Nat}{Q:fk->S->Prop}{s:S}{fp:List (List Nat×List Nat)}(h:eE pr fp=true)(h2:Q .normal ⟨s.env,s.o,nx⟩):Nb pr nx Q s fp:=⟨h,h2⟩
@[go_sem] theorem Ka (o:Nat->ad):put o []=o:=rfl
@[go_sem] theorem V9 (o:Nat->ad) (x:Nat×ad) (l:List (Nat×ad)):put o (x::l)=put (az o x.1 x.2) l:=rfl
@[go_sem] theorem ab {α:Type} (f:Nat->α) (i:Nat) (x:α):az f i x i=x:=aF
@[go_sem] theorem ae {α:Type} (f:Nat->α) (i j:Nat) (x:α) (h:j≠i):az f i x j=f j:=by simp[h]
@[go_sem] theorem Nf (v:V) (l:List V):cj (v::l) 0=v:=rfl
@[go_sem] theorem Ng (v:V) (l:List V) (i:Nat):cj (v::l) (i+1)=cj l i:=rfl
@[go_sem] theorem Ql (i:Nat):cj [] i= .bT []:=by simp[cj]
@[go_sem] theorem Wa {P:Program} {o:Nat->ad} {t:TypeId} {id off:Nat}:m8 P o t (.ptr id off)=match o id with
 | .row cs=>match eG P t cs off with
   |some v=>some (v,[],[id])
   |none=>none
 |_=>none:=by unfold m8;exact Eq.trans rfl rfl
@[go_sem] theorem Zl {P:Program} {o:Nat->ad} {t:TypeId} {cs:List D} {off:Nat}:m8 P o t (.pp cs off)=match eG P t (cs.map .d) off with
 |some v=>some (v,[],[])
 |none=>none:=by unfold m8;exact Eq.trans rfl rfl
@[go_sem] theorem Zm {P:Program} {o:Nat->ad} {t:TypeId} {id ep i sz off:Nat}:m8 P o t (.pe id ep i sz off)=match o id with
 | .arr e7 _ rb es=>if ep=e7/\sz=rb then match es[i]? with
  |some e=>match eG P t (e.cells.map .d) off with
   |some v=>some (v,[],[id])
   |none=>none
  |none=>none
   else none
 |_=>none:=by unfold m8;exact Eq.trans rfl rfl
section
variable {P:Program}{o:Nat->ad}{t:TypeId}{op:BinOp}{mL:Bool}
@[go_sem] theorem Wb {k:IntKind} {a b:Int}:eZ P o op t mL (.d (.int k a)) (.d (.int k b))=match Bo op k a b with
 |some v=>one v
 |none=>rC P o op t mL (.d (.int k a)) (.d (.int k b)):=by
  simp only[eZ,zc,if_true]
  cases Bo op k a b<;>rfl
@[go_sem] theorem Wc {a b:Bool} (h:nW P t=true):eZ P o .eql t mL (.d (.bool a)) (.d (.bool b))=one (.d (.bool (a==b))):=by simp only[eZ,zc,JS,h,if_true]
@[go_sem] theorem Wd {a b:Bool} (h:nW P t=true):eZ P o .neq t mL (.d (.bool a)) (.d (.bool b))=one (.d (.bool (a !=b))):=by simp only[eZ,zc,JS,h,if_true]
@[go_sem] theorem We {a b:List UInt8}:eZ P o .eql t mL (.d (.str a)) (.d (.str b))=one (.d (.bool (a==b))):=Jc
@[go_sem] theorem Wf {a b:List UInt8}:eZ P o .neq t mL (.d (.str a)) (.d (.str b))=one (.d (.bool (a !=b))):=Jc
@[go_sem] theorem Wg {a b:List D}:eZ P o op t mL (.d (.agg a)) (.d (.agg b))=rC P o op t mL (.d (.agg a)) (.d (.agg b)):=Jc
theorem My{x:V}{y:V}(h:match y with| .d (.int _ _)| .d (.bool _)| .d (.str _)=>False|_=>True):zc P op t x y=none:=by
 unfold zc
 split<;>first|exact h.elim|rfl
@[go_sem] theorem Tb {x:V}:eZ P o op t mL x .aJ=rC P o op t mL x .aJ:=I1
@[go_sem] theorem Tc {x:V}:eZ P o op t mL x (.d .eF)=rC P o op t mL x (.d .eF):=I1
@[go_sem] theorem Td {x:V}:eZ P o op t mL x (.d .lN)=rC P o op t mL x (.d .lN):=I1
@[go_sem] theorem Te {x:V}:eZ P o op t mL x (.d .ck)=rC P o op t mL x (.d .ck):=I1
@[go_sem] theorem Tf {x:V}:eZ P o op t mL x (.d .fj)=rC P o op t mL x (.d .fj):=I1
@[go_sem] theorem Zn {b:Bool}:GP .not (.d (.bool b))=some (.d (.bool !b)):=Je
@[go_sem] theorem Zo:GP .not .fH=some .fH:=Je
@[go_sem] theorem Zp {k:IntKind} {n:Int}:GP .neg (.d (.int k n))=some (.d (.int k (k.wrap (-n)))):=Je
end
@[go_sem] theorem D.Wh (cs:List D):(D.agg cs).cells=cs:=rfl
@[go_sem] theorem D.Wi (k:IntKind) (n:Int):(D.int k n).cells=[.int k n]:=rfl
@[go_sem] theorem D.Tg (b:Bool):(D.bool b).cells=[.bool b]:=rfl
@[go_sem] theorem D.Wj (b:List UInt8):(D.str b).cells=[.str b]:=rfl
@[go_sem] theorem D.Zq (b:List D):(D.sl b).cells=[.sl b]:=rfl
@[go_sem] theorem D.Zr (a b:List D):(D.mp a b).cells=[.mp a b]:=rfl
@[go_sem] theorem D.Qm (t:TypeId) (x:D):(D.iface t x).cells=[.iface t x]:=rfl
@[go_sem] theorem D.Th:D.eF.cells=[.eF]:=rfl
@[go_sem] theorem D.Ti:D.lN.cells=[.lN]:=rfl
@[go_sem] theorem D.Tj:D.ck.cells=[.ck]:=rfl
@[go_sem] theorem D.Tk:D.fj.cells=[.fj]:=rfl
attribute [go_sem] V.ofConst V.de Bo JS qv DD xQ oP gW gX rK fT lY qw qx qy zd je JT lV dU bZ eG yL sM mn V.cells D.put bL V.ids V.br iP D.jB D.flat R.flat
attribute [go_sem] Dh List.take_succ_cons List.take_zero List.take_nil List.drop_zero List.drop_succ_cons List.drop_nil
attribute [go_sem] List.map_cons List.map_nil List.length_cons List.length_nil List.cons_append List.nil_append List.append_nil List.getElem?_cons_zero List.getElem?_cons_succ Option.bind_some Option.bind_none Option.map_some Option.map_none ad.cg ad.cf
section
variable {P:Program}{n b:Nat}{rd:Bool}{Q:fk->S->Prop}{s:S}
@[go_sem] theorem Zs:kN P n b rd .skip Q s=Q .normal s:=propext Iff.rfl
@[go_sem] theorem acE {l:List bP}:kN P n b rd (.ag l) Q s=rP P (fun v s=>Q (.bF v) s) (Q .normal) l s:=propext Iff.rfl
@[go_sem] theorem acF {l:List bP} {pr:List (List Nat)}:kN P n b rd (.dm l pr) Q s=Nc P l pr Q s (rS l 0):=propext Iff.rfl
@[go_sem] theorem Wk {l:List bP} {pr:List (List Nat)}:Nc P l pr Q s none=pv P (Nb pr (s.nx+l.length) Q) (BC pr l s Q) pr l s.nx s []:=propext Iff.rfl
@[go_sem] theorem Zt {k:Nat}:rS [] k=none:=rfl
@[go_sem] theorem Zu {d:Option Nat} {t:Nat} {args:Array Operand} {ts:Array TypeId} {l:List bP} {k:Nat}:rS (⟨d, .call ⟨.value (.tmp t),args,ts⟩,none⟩::l) k=some k:=rfl
@[go_sem] theorem acG {d:Option Nat} {op:Op} {g:Nat×Bool} {l:List bP} {k:Nat}:rS (⟨d,op,some g⟩::l) k=rS l (k+1):=rfl
@[go_sem] theorem Zv {d:Option Nat} {f:Nat} {args:Array Operand} {ts:Array TypeId} {l:List bP} {k:Nat}:rS (⟨d, .call ⟨.value (.func f),args,ts⟩,none⟩::l) k=rS l (k+1):=rfl
@[go_sem] theorem acH {d:Option Nat} {op:Op} {l:List bP} {k:Nat} (h:ew op=none):rS (⟨d,op,none⟩::l) k=rS l (k+1):=by rw[rS.eq_2];simp only[h]
@[go_sem] theorem acI {x y:IC}:kN P n b rd (.seq x y) Q s=kN P n b rd x (ql (fun s=>kN P n b rd y Q s) Q) s:=propext Iff.rfl
@[go_sem] theorem Zw {c:Operand} {x y:IC}:kN P n b rd (.cond c x y) Q s=xZ (kN P n b rd x Q s) (kN P n b rd y Q s) (s.ev c):=propext Iff.rfl
@[go_sem] theorem Wl {id:Nat} {x:IC}:kN P n b rd (.block id x) Q s=kN P n b rd x (ff id Q) s:=propext Iff.rfl
@[go_sem] theorem Zx {x:IC}:kN P n b rd (.loop x) Q s=FH b (fun Q s=>kN P n b rd x Q s) Q s:=propext Iff.rfl
@[go_sem] theorem Zy {id:Nat}:kN P n b rd (.exit id) Q s=Q (.exit id) s:=propext Iff.rfl
@[go_sem] theorem acJ:kN P n b rd .ret Q s=Q .ret s:=propext Iff.rfl
@[go_sem] theorem acK {g:Operand} {ps:List Nat} {x y:IC}:kN P n b rd (.It g ps x y) Q s=tM P n b rd g ps x y Q s (s.ev g):=propext Iff.rfl
@[go_sem] theorem Zz {X:V->S->Prop} {K:S->Prop}:rP P X K [] s=K s:=propext Iff.rfl
@[go_sem] theorem Wm {X:V->S->Prop} {K:S->Prop} {d:Option Nat} {op:Op} {l:List bP}:rP P X K (⟨d,op,none⟩::l) s=BI P X (rP P X K l) ⟨d,op,none⟩ s:=propext Iff.rfl
@[go_sem] theorem Wn {X:V->S->Prop} {K:S->Prop} {d:Option Nat} {op:Op} {g:Nat} {w:Bool} {l:List bP}:rP P X K (⟨d,op,some (g,w)⟩::l) s=zw P X (rP P X K l) ⟨d,op,some (g,w)⟩ s (mu (s.env g) w):=propext Iff.rfl
variable {X:V->S->Prop}{K:S->Prop}{d:Option Nat}{op:Op}{g:Option (Nat×Bool)}{f:Operand}{args:Array Operand}{ts:Array TypeId}{c:Bool}
@[reducible] def Wo:Op->Bool
  | .call c=>match c.callee with
    | .value _=>true
    | .invoke .. =>true
    |_=>false
  | .panic _=>true
  | .next .. =>true
  |_=>false
@[go_sem] theorem adv (h:Wo op=false):BI P X K ⟨d,op,g⟩ s=kq (fun v Δ=>K ⟨ba s.env d v,put s.o Δ,s.nx+1⟩) (gr P s s.nx op):=by
  unfold BI
  cases op with
  |call c=>
   obtain⟨JH,args,ts⟩:=c
   cases JH with
   |value f=>simp[Wo]at h
   |invoke r m=>simp[Wo]at h
   |_=>rfl
  |panic x=>simp[Wo]at h
  |next x str=>simp[Wo]at h
  |_=>rfl
@[go_sem] theorem ZA {x:Operand} {str:Bool}:BI P X K ⟨d, .next x str,g⟩ s=J7 (fun v Δ=>K ⟨ba s.env d v,put s.o Δ,s.nx+1⟩) str (oK s.o (s.ev x) str) (oL s.o (s.ev x)):=propext Iff.rfl
@[go_sem] theorem ZB:BI P X K ⟨d, .call ⟨.value f,args,ts⟩,g⟩ s=s8 P (fun v o' nx'=>K ⟨ba s.env d v,o',nx'⟩) (fun v o' nx'=>X v ⟨s.env,o',nx'⟩) s (s.ev f) (args.toList.map s.ev):=propext Iff.rfl
@[go_sem] theorem Tl {m:String}:BI P X K ⟨d, .call ⟨.invoke f m,args,ts⟩,g⟩ s=J6 P (fun v o' nx'=>K ⟨ba s.env d v,o',nx'⟩) (fun v o' nx'=>X v ⟨s.env,o',nx'⟩) s (args.toList.map s.ev) (uR P m (s.ev f)):=propext Iff.rfl
@[go_sem] theorem Wp:BI P X K ⟨d, .panic f,g⟩ s=Hx (fun v=>X v s) (s.ev f):=propext Iff.rfl
@[go_sem] theorem Wq:zw P X K ⟨d, .call ⟨.value f,args,ts⟩,g⟩ s (some c)=DW P X K ⟨d, .call ⟨.value f,args,ts⟩,g⟩ s f args.toList c:=propext Iff.rfl
theorem hY{e:Nat->V}{ob:Nat->ad}{nx:Nat}(h:FE P ((⟨e,ob,nx⟩:S).ev f) (args.toList.map (⟨e,ob,nx⟩:S).ev) ob (fun v=>K ⟨ba e d v,ob,nx+1⟩) c):DW P X K ⟨d,op,g⟩ ⟨e,ob,nx⟩ f args.toList c:= .inl h
theorem BN{s:S}{o:bP}{l:List Operand}(h:iE (BI P X K o s) (K ⟨ba s.env o.dst (.bT []),s.o,s.nx+1⟩) c):DW P X K o s f l c:= .inr h
@[go_sem] theorem Wr (h:kM op=true):zw P X K ⟨d,op,g⟩ s (some c)=kq (fun v _=>K ⟨ba s.env d v,s.o,s.nx+1⟩) (kL c (gr P s s.nx op)):=by
  have h2:ew op=none:=by
   cases hc:ew op with
   |none=>rfl
   |some x=>
    exfalso
    unfold ew at hc
    split at hc
    ·split at hc
     ·rename_i hv;simp[kM,hv]at h
     ·cases hc
    ·cases hc
  simp only[zw,h2,h,if_true]
@[go_sem] theorem Ws (h:kM op=false) (h2:ew op=none):zw P X K ⟨d,op,g⟩ s (some c)=iE (BI P X K ⟨d,op,g⟩ s) (K ⟨ba s.env d (.bT []),s.o,s.nx+1⟩) c:=by
  simp[zw,h2,h]
@[go_sem] theorem Tn {l:List Operand}:DW P X K ⟨d,op,g⟩ s f l false=K ⟨ba s.env d (.bT []),s.o,s.nx+1⟩:=by
  refine propext ⟨fun h=> ?_,fun h=> .inr ⟨(fun e=>by cases e),fun _=>h⟩⟩
  rcases h with⟨rs,_,h⟩|h
  ·exact h
  ·exact h.2 rfl
@[go_sem] theorem Wt {l:List Operand} (hl:args.toList=l):DW P X K ⟨d, .call ⟨.value f,args,ts⟩,g⟩ s f l true=BI P X K ⟨d, .call ⟨.value f,args,ts⟩,g⟩ s:=by
  subst hl
  refine propext ⟨fun h=> ?_,fun h=> .inr ⟨fun _=>h,(fun e=>by cases e)⟩⟩
  rcases h with⟨rs,h1,h⟩|h
  ·have h1:=h1 rfl
   unfold BF at h1
   unfold BI s8 nk
   simp only
   split at h1
   ·rename_i fv gg first cap hf
    simp only[hf]
    split at h1
    ·rename_i ds eP
     simp only[eP]
     exact .inl ⟨.ret rs,h1.1, .inr (.inl ⟨h1.2,h⟩)⟩
    ·exact h1.elim
   ·exact h1.elim
  ·exact h.1 rfl
variable {KV:KD}{XV:XD}
@[go_sem] theorem ZC {fr:Nat}:Mi P KV XV fr ⟨d, .call ⟨.value f,args,ts⟩,g⟩ s=BJ P KV XV s.o s.nx fr (oE s (.call ⟨.value f,args,ts⟩)) (s.ev f) (args.toList.map s.ev):=propext Iff.rfl
@[go_sem] theorem adw {fr:Nat} (h2:ew op=none):Mi P KV XV fr ⟨d,op,g⟩ s=vi KV (oE s op) (gr P s fr op):=by simp[Mi,h2]
variable {KS:S->Prop}
@[go_sem ↓] theorem Nh:ql KS Q .normal s=KS s:=propext Iff.rfl
@[go_sem ↓] theorem To {id:Nat}:ql KS Q (.exit id) s=Q (.exit id) s:=propext Iff.rfl
@[go_sem ↓] theorem Wu:ql KS Q .ret s=Q .ret s:=propext Iff.rfl
@[go_sem ↓] theorem Wv {v:V}:ql KS Q (.bF v) s=Q (.bF v) s:=propext Iff.rfl
@[go_sem ↓] theorem Mj {id:Nat}:ff id Q .normal s=Q .normal s:=propext Iff.rfl
@[go_sem ↓] theorem Qn {id:Nat}:ff id Q (.exit id) s=Q .normal s:=by simp[ff]
@[go_sem ↓] theorem Ni {id j:Nat} (h:j≠id):ff id Q (.exit j) s=Q (.exit j) s:=by simp[ff,h]
@[go_sem ↓] theorem Tp {id:Nat}:ff id Q .ret s=Q .ret s:=propext Iff.rfl
@[go_sem ↓] theorem Tq {id:Nat} {v:V}:ff id Q (.bF v) s=Q (.bF v) s:=propext Iff.rfl
def Nj(out:R)(x:Option (List D)):Prop:=match x with|some ds=>out= .ret ds|none=>False
@[go_sem] theorem Ww {out:R} {ds:List D}:Nj out (some ds)=(out= .ret ds):=propext Iff.rfl
def Ts(out:R)(x:Option D):Prop:=match x with|some d=>out= .bF d|none=>False
@[go_sem] theorem Wx {out:R} {d:D}:Ts out (some d)=(out= .bF d):=propext Iff.rfl
def Nk(out:R)(o:Nat->ad)(x:Option (List V)):Prop:=match x with|some vs=>Nj out (bZ o vs)|none=>False
@[go_sem] theorem Wy {out:R} {o:Nat->ad} {vs:List V}:Nk out o (some vs)=Nj out (bZ o vs):=propext Iff.rfl
variable {rs:List ResultVar}{out:R}
@[go_sem ↓] theorem Wz:yX P rs out .ret s=Nk out s.o (lV P s rs):=propext Iff.rfl
@[go_sem ↓] theorem Nl:yX P rs out .normal s=Nk out s.o (lV P s rs):=propext Iff.rfl
@[go_sem ↓] theorem WA {v:V}:yX P rs out (.bF v) s=Ts out (dU s.o v):=propext Iff.rfl
def BO(K:V->(Nat->ad)->Nat->Prop)(o:Nat->ad)(nx:Nat)(x:Fix (Option (List V)) (K,o,nx)):Prop:=match x with
 |some [v]=>K v o nx
 |some vs=>K (.bT vs) o nx
 |none=>False
@[go_sem] theorem ZD {K:V->(Nat->ad)->Nat->Prop} {o:Nat->ad} {nx:Nat} {v:V}:BO K o nx (some [v])=K v o nx:=propext Iff.rfl
@[go_sem] theorem ZE {K:V->(Nat->ad)->Nat->Prop} {o:Nat->ad} {nx:Nat}:BO K o nx (some [])=K (.bT []) o nx:=propext Iff.rfl
@[go_sem] theorem ZF {K:V->(Nat->ad)->Nat->Prop} {o:Nat->ad} {nx:Nat} {v u:V} {l:List V}:BO K o nx (some (v::u::l))=K (.bT (v::u::l)) o nx:=propext Iff.rfl
theorem FJ{K X:V->(Nat->ad)->Nat->Prop}:lX P rs K X .ret s=BO K s.o s.nx (lV P s rs):=by
 unfold lX BO
 cases lV P s rs with
 |none=>rfl
 |some l=>match l with
  |[]=>rfl
  |[_]=>rfl
  |_::_::_=>rfl
@[go_sem ↓] theorem ZG {K X:V->(Nat->ad)->Nat->Prop}:rU P rs K X .ret s=BO K s.o s.nx (lV P s rs):=FJ
@[go_sem ↓] theorem Qo {K X:V->(Nat->ad)->Nat->Prop}:rU P rs K X .normal s=BO K s.o s.nx (lV P s rs):=(FJ (X:=X):lX P rs K X .ret s=_)
@[go_sem ↓] theorem ZH {K X:V->(Nat->ad)->Nat->Prop} {v:V}:rU P rs K X (.bF v) s=X v s.o s.nx:=propext Iff.rfl
variable {KE:S->Fp->Prop}{KP:V->List Nat->Fp->Prop}{pr:List (List Nat)}{fr:Nat}{fp:Fp}
@[go_sem] theorem ZI:pv P KE KP pr [] fr s fp=KE s fp:=propext Iff.rfl
@[go_sem] theorem WB {d:Option Nat} {op:Op} {l:List bP}:pv P KE KP pr (⟨d,op,none⟩::l) fr s fp=
 Mi P (fun v Δ rd=>pv P KE KP pr l (fr+1) ⟨ba s.env d v,put s.o Δ,s.nx⟩ (fp++[(rd,Δ.map (·.1))]))
  (fun v ws rd=>Hy P (KP v) pr l (fr+1) (fp++[(rd,[])]) [fp.length] (ws++fp.flatMap (·.2)) ⟨ba s.env d .aa,s.o,s.nx⟩) fr ⟨d,op,none⟩ s:=propext Iff.rfl
@[go_sem] theorem WC {d:Option Nat} {op:Op} {g:Nat} {w:Bool} {l:List bP}:pv P KE KP pr (⟨d,op,some (g,w)⟩::l) fr s fp=
 jD w (Mi P (fun v Δ rd=>pv P KE KP pr l (fr+1) ⟨ba s.env d v,put s.o Δ,s.nx⟩ (fp++[(rd,Δ.map (·.1))]))
  (fun v ws rd=>Hy P (KP v) pr l (fr+1) (fp++[(rd,[])]) [fp.length] (ws++fp.flatMap (·.2)) ⟨ba s.env d .aa,s.o,s.nx⟩) fr ⟨d,op,some (g,w)⟩ s)
   (pv P KE KP pr l (fr+1) ⟨ba s.env d (.bT []),s.o,s.nx⟩ (fp++[([],[])])) (s.env g):=propext Iff.rfl
end
attribute [go_sem] Wo ew kM gr one lZ ba S.ev BF
theorem aj{ι:Type}{b:Nat}{st:ι->S}{cm:ι->Prop}{pw:ι->Nat}{i:ι}{s:S}(j:ι)(h1:cm j)(h2:pw j<pw i)(h3:bA b s (st j)):FG b st cm pw i s:=⟨j,h1,h2,h3⟩
attribute [irreducible] Nc Qj kN rP BI zw DW s8 nk BH J5 J6 FE vh BG kq Hx iE jD J8 pt rQ rR BJ vi Mi pv Hy tM xY rU BO Nb xZ FH Nj Ts Nk vj FG
end
section
section
variable (ρ:Nat->Option Nat)(o' o:Nat->ad)(nx:Nat)
end
section
variable {M M':Nat->Prop}{φ aE:Place}{H H':Hp}{w:World}{ρ:Nat->Option Nat}{nx:Nat}
end
end
end Go.Proofs.YtlhemmpklhhgoaaGreat
