/-
  A PART OF THE PROOF. Conditions: none.
-/
import Derived.Test.YtnkamdiiakdkgaaGreatEt8
set_option linter.unusedSimpArgs false
set_option linter.unusedVariables false
namespace Go.Proofs.YtnkamdiiakdkgaaGreat
section
def rO(P:Program)(g:FuncId)(ds:List D)(Kf Kb KX:V->Prop):Prop:=
 (∃rs,aV P g ds (.ret rs)/\(Kf (iX rs)\/(D.jv rs=true/\Kb (iX rs))))\/(∃x,aV P g ds (.bB x)/\x.flat=true/\KX (.d x))\/(∃v,Yq P g ds v/\Kf v)
def iM(P:Program)(g:FuncId)(args:List V)(o:Nat->ab)(nx fr:Nat)(K:V->List (Nat×ab)->List Nat->Prop)(KX:V->List Nat->List Nat->Prop):Prop:=
 ∃rd Δ,rd.all (fun id=>decide (id<nx))=true/\((∃rs,Er P g args rd o (.ret rs) Δ/\K (iX rs) Δ rd)\/(∃x,Er P g args rd o (.bB x) Δ/\KX (.d x) (Δ.map (·.1)) rd)\/(∃v,yi P g args rd o fr v Δ/\K v Δ rd))
def zO(P:Program)(s:S)(fr:Nat)(o:bH)(K:V->List (Nat×ab)->List Nat->Prop)(KX:V->List Nat->List Nat->Prop):Prop:=
 match o.op with
 | .call c=>match c.callee with
   | .value f=>match s.ev f with
     | .func (.func g) first cap=>match bU s.o (first++c.args.toList.map s.ev++cap)with
       |some ds=>rO P g ds (fun v=>K v (cc s.o (V.bc (first++c.args.toList.map s.ev++cap))) (nP s o.op)) (fun v=>K v [] (nP s o.op)) (fun v=>KX v [] (nP s o.op))\/iM P g (first++c.args.toList.map s.ev++cap) s.o s.nx fr K KX
       |none=>iM P g (first++c.args.toList.map s.ev++cap) s.o s.nx fr K KX
     |_=>False
   |_=>match fS P s fr o.op with
    |some (v,Δ,_)=>K v Δ (nP s o.op)
    |none=>False
 |op=>match fS P s fr op with
  |some (v,Δ,_)=>K v Δ (nP s o.op)
  |none=>False
abbrev Fp:=List (List Nat×List Nat)
def gP(P:Program)(KB:List Nat->Fp->Prop)(pr:List (List Nat)):List bH->Nat->S->Fp->List Nat->List Nat->Prop
 |[],_,_,fp,_,ws=>KB ws fp
 |o::l,fr,s,fp,bad,ws=>if(pr.getD fp.length []).any (fun j=>bad.contains j)=true then gP P KB pr l (fr+1) ⟨aU s.env o.dst .aa,s.o,s.nx⟩ (fp++[([],[])]) (bad++[fp.length]) ws
  else match o.gd with
  |none=>zO P s fr o (fun v Δ rd=>gP P KB pr l (fr+1) ⟨aU s.env o.dst v,put s.o Δ,s.nx⟩ (fp++[(rd,Δ.map (·.1))]) bad (ws++Δ.map (·.1))) (fun _ _ _=>False)
  |some (d,want)=>match s.env d with
   | .d (.bool b)=>if b=want then zO P s fr o (fun v Δ rd=>gP P KB pr l (fr+1) ⟨aU s.env o.dst v,put s.o Δ,s.nx⟩ (fp++[(rd,Δ.map (·.1))]) bad (ws++Δ.map (·.1))) (fun _ _ _=>False)
    else gP P KB pr l (fr+1) ⟨aU s.env o.dst (.bT []),s.o,s.nx⟩ (fp++[([],[])]) bad ws
   | .bT []=>gP P KB pr l (fr+1) ⟨aU s.env o.dst (.bT []),s.o,s.nx⟩ (fp++[([],[])]) bad ws
   |_=>False
def kz(P:Program)(K:S->Fp->Prop)(KP:V->List Nat->Fp->Prop)(pr:List (List Nat)):List bH->Nat->S->Fp->Prop
 |[],_,s,fp=>K s fp
 |o::l,fr,s,fp=>match o.gd with
  |none=>zO P s fr o (fun v Δ rd=>kz P K KP pr l (fr+1) ⟨aU s.env o.dst v,put s.o Δ,s.nx⟩ (fp++[(rd,Δ.map (·.1))]))
   (fun v ws rd=>gP P (KP v) pr l (fr+1) ⟨aU s.env o.dst .aa,s.o,s.nx⟩ (fp++[(rd,[])]) [fp.length] (ws++fp.flatMap (·.2)))
  |some (d,want)=>match s.env d with
   | .d (.bool b)=>if b=want then zO P s fr o (fun v Δ rd=>kz P K KP pr l (fr+1) ⟨aU s.env o.dst v,put s.o Δ,s.nx⟩ (fp++[(rd,Δ.map (·.1))]))
         (fun v ws rd=>gP P (KP v) pr l (fr+1) ⟨aU s.env o.dst .aa,s.o,s.nx⟩ (fp++[(rd,[])]) [fp.length] (ws++fp.flatMap (·.2)))
    else kz P K KP pr l (fr+1) ⟨aU s.env o.dst (.bT []),s.o,s.nx⟩ (fp++[([],[])])
   | .bT []=>kz P K KP pr l (fr+1) ⟨aU s.env o.dst (.bT []),s.o,s.nx⟩ (fp++[([],[])])
   |_=>False
def Da(pr:List (List Nat))(nx:Nat)(Q:fL->S->Prop)(s:S)(fp:Fp):Prop:=dY pr fp=true/\Q .normal ⟨s.env,s.o,nx⟩
def dstsOf(l:List bH):List Nat:=l.filterMap (·.dst)
def A3(pr:List (List Nat))(l:List bH)(s0:S)(Q:fL->S->Prop)(v:V)(wl:List Nat)(fp:Fp):Prop:=dY pr fp=true/\Q (.bB v) (tU (dstsOf l) wl l.length s0)
def mI:List bH->List eT->S->Nat->S
 |_,_,s,0=>s
 |o::l,x::xs,s,j+1=>mI l xs (vi o.dst x s) j
 |_,_,s,_=>s
def wL(bY:List eT):Fp:=bY.map fun x=>(vC x,kx x)
section
variable {P:Program}{n b:Nat}
theorem A4{s:S}{fr:Nat}{o:bH}{K:V->List (Nat×ab)->List Nat->Prop}{KX:V->List Nat->List Nat->Prop}(h:zO P s fr o K KX):(∃v Δ rd,wH P s fr o.op v Δ rd/\K v Δ rd)\/(∃v ws rd,AW P s o.op v ws rd/\KX v ws rd):=by
 have hs:∀ {op:Op},o.op=op->(match fS P s fr op with|some (v,Δ,_)=>K v Δ (nP s o.op)|none=>False)->(∃v Δ rd,wH P s fr o.op v Δ rd/\K v Δ rd):=by
  intro op gy h
  split at h
  ·rename_i v Δ rd he;exact⟨v,Δ,_, .inl ⟨⟨rd,by rw[gy];exact he⟩,rfl⟩,h⟩
  ·exact h.elim
 unfold zO at h
 split at h
 ·rename_i c hc
  split at h
  ·rename_i f eJ
   split at h
   ·rename_i g first cap hf
    split at h
    ·rename_i ds eL
     rcases h with(⟨rs,hP,h|⟨qm,h⟩⟩|⟨x,hP,qm,h⟩|⟨v,hP,h⟩)|⟨rd,Δ,nG,⟨rs,hH,h⟩|⟨x,hH,h⟩|⟨v,hH,h⟩⟩
     ·exact .inl ⟨_,_,_, .inr ⟨c,f,g,first,cap,hc,eJ,hf, .inl ⟨ds,rs,eL,hP,rfl,rfl, .inl rfl⟩⟩,h⟩
     ·exact .inl ⟨_,_,_, .inr ⟨c,f,g,first,cap,hc,eJ,hf, .inl ⟨ds,rs,eL,hP,rfl,rfl, .inr ⟨qm,rfl⟩⟩⟩,h⟩
     ·exact .inr ⟨_,_,_,⟨c,f,g,first,cap,hc,eJ,hf, .inl ⟨ds,x,eL,hP,qm,rfl,rfl,rfl⟩⟩,h⟩
     ·exact .inl ⟨_,_,_, .inr ⟨c,f,g,first,cap,hc,eJ,hf, .inr (.inr (.inl ⟨ds,eL,hP,rfl,rfl⟩))⟩,h⟩
     ·exact WM
     ·exact WQ
     ·exact WN
    ·obtain⟨rd,Δ,nG,⟨rs,hH,h⟩|⟨x,hH,h⟩|⟨v,hH,h⟩⟩:=h
     ·exact WM
     ·exact WQ
     ·exact WN
   ·exact h.elim
  ·rw[hc]at h;exact .inl (hs hc (by rw[hc];exact h))
 ·exact .inl (hs rfl h)
def Ms(P:Program)(KB:List Nat->Fp->Prop)(pr:List (List Nat))(l:List bH)(fr:Nat)(s:S)(fp:Fp)(bad ws:List Nat):Prop:=
    ∃bY:List eT,bY.length=l.length/\(∀j o x,l[j]? =some o->bY[j]? =some x->Pf P (mI l bY s j) (fr+j) o x)/\
     (∀ (j:Nat),bY[j]? =some eT.de->∃i∈pr.getD (fp.length+j) [],i∈bad\/∃j',j'<j/\i=fp.length+j'/\bY[j']? =some .de)/\(∀x∈bY,x= .de\/x.ok=true)/\
     ∃wl,KB wl (fp++wL bY)/\(∀id∈ws,id∈wl)/\∀x∈bY,∀id∈kx x,id∈wl
theorem A5{KB:List Nat->Fp->Prop}{pr:List (List Nat)}:∀ (l:List bH) (fr:Nat) (s:S) (fp:Fp) (bad ws:List Nat),gP P KB pr l fr s fp bad ws->Ms P KB pr l fr s fp bad ws
 |[],fr,s,fp,bad,ws,h=>⟨[],rfl,fun j o x hj=>by simp at hj,fun j hj=>by simp at hj,fun x hx=>by simp at hx,ws,by simpa[wL,gP]using h,fun _ h=>h,fun x hx=>by simp at hx⟩
 |o::l,fr,s,fp,bad,ws,h=>by
  have step:∀ (x:eT) (Mt Pk:List Nat),Pf P s fr o x->gP P KB pr l (fr+1) (vi o.dst x s) (fp++[(vC x,kx x)]) Mt Pk->(x= .de\/x.ok=true)->(x= .de->∃i∈pr.getD fp.length [],i∈bad)->
   (∀i∈Mt,i∈bad\/(i=fp.length/\x= .de))->(∀id∈ws,id∈Pk)->(∀id∈kx x,id∈Pk)->
   Ms P KB pr (o::l) fr s fp bad ws:=by
   intro x Mt Pk aS hr hbo yo Sh Mr hW
   obtain⟨bY,h1,h2,h3,h4,wl,h5,h6,h7⟩:=A5 l (fr+1) _ _ Mt Pk hr
   refine⟨x::bY,by simp[h1],fun j o' y hj hy=> ?_,fun j hj=> ?_,fun y hy=> ?_,wl,by simpa[wL]using h5,fun id au=>h6 id (Mr id au),fun y hy id au=> ?_⟩
   ·cases j with
    |zero=>exact H6
    |succ j=>
     have:=h2 j o' y l7 (by simpa using hy)
     exact RV
   ·cases j with
    |zero=>
     simp at hj
     obtain⟨i,i1,i2⟩:=yo hj
     exact⟨i,by simpa using i1, .inl i2⟩
    |succ j=>
     obtain⟨i,i1,i2⟩:=h3 j l7
     simp only[List.length_append,List.length_cons,List.length_nil]at i1 i2
     refine⟨i,by rw[show fp.length+(j+1)=fp.length+(0+1)+j by omega];exact i1, ?_⟩
     rcases i2 with i2|⟨j',j1,j2,j3⟩
     ·rcases Sh i i2 with hb|⟨e1,e2⟩
      ·exact .inl hb
      ·exact .inr ⟨0,ae,ae,by simp[e2]⟩
     ·exact .inr ⟨j'+1,ae,ae,by simpa using j3⟩
   ·rcases List.mem_cons.1 hy with rfl|hy
    ·exact hbo
    ·exact h4 y hy
   ·rcases List.mem_cons.1 hy with rfl|hy
    ·exact h6 id (hW id au)
    ·exact h7 y hy id au
  simp only[gP]at h
  split at h
  ·rename_i hb
   obtain⟨j,hj1,R7⟩:=List.any_eq_true.1 hb
   exact step .de _ _ trivial h (.inl rfl) (fun _=>⟨j,hj1,by simpa using R7⟩) (fun i hi=>by
    rcases List.mem_append.1 hi with hi|hi
    ·exact .inl hi
    ·exact .inr ⟨by simpa using hi,rfl⟩) (fun _ h=>h) (fun id au=>by simp[kx]at au)
  ·have tX:dF s o.gd true->zO P s fr o (fun v Δ rd=>gP P KB pr l (fr+1) ⟨aU s.env o.dst v,put s.o Δ,s.nx⟩ (fp++[(rd,Δ.map (·.1))]) bad (ws++Δ.map (·.1))) (fun _ _ _=>False)->Ms P KB pr (o::l) fr s fp bad ws:=fun hg h=>by
    rcases A4 h with⟨v,Δ,rd,oO,h⟩|⟨v,Pk,rd,_,h⟩
    ·exact step (.val v Δ rd) bad (ws++Δ.map (·.1)) ⟨hg,oO⟩ h (.inr rfl) (fun h=>by cases h) (fun i hi=> .inl hi) (fun id au=>List.mem_append.2 (.inl au)) (fun id au=>List.mem_append.2 (.inr au))
    ·exact h.elim
   have skip:dF s o.gd false->gP P KB pr l (fr+1) ⟨aU s.env o.dst (.bT []),s.o,s.nx⟩ (fp++[([],[])]) bad ws->Ms P KB pr (o::l) fr s fp bad ws:=fun hg h=>
    step .skip bad ws hg h (.inr rfl) (fun h=>by cases h) (fun i hi=> .inl hi) (fun id au=>au) (fun id au=>by simp[kx]at au)
   split at h
   ·rename_i hg;exact tX (by rw[hg];rfl) h
   ·rename_i d want hg
    split at h
    ·rename_i c hv
     split at h
     ·rename_i e;exact tX DW h
     ·rename_i e;exact skip DW h
    ·rename_i hv;exact skip (by rw[hg];simp[dF,hv]) h
    ·exact h.elim
def Jf(P:Program)(K:S->Fp->Prop)(KP:V->List Nat->Fp->Prop)(pr:List (List Nat))(l:List bH)(fr:Nat)(s:S)(fp:Fp):Prop:=
 ∃bY:List eT,bY.length=l.length/\(∀j o x,l[j]? =some o->bY[j]? =some x->Pf P (mI l bY s j) (fr+j) o x)/\
  (((∀x∈bY,x.ok=true)/\K (mI l bY s l.length) (fp++wL bY))\/
   ∃v wl,(∀ (j:Nat) (v':V) (ws rd:List Nat),bY[j]? =some (eT.bB v' ws rd)->v'=v/\∀id∈ws,id∈wl)/\(∃x∈bY,x.ok=false)/\
    (∀ (j:Nat),bY[j]? =some eT.de->∃i∈pr.getD (fp.length+j) [],∃j',i=fp.length+j'/\∃y,bY[j']? =some y/\y.ok=false)/\KP v wl (fp++wL bY)/\(∀x∈bY,∀id∈kx x,id∈wl)/\∀id∈fp.flatMap (·.2),id∈wl)
theorem tY{K:S->Fp->Prop}{KP:V->List Nat->Fp->Prop}{pr:List (List Nat)}:∀ (l:List bH) (fr:Nat) (s:S) (fp:Fp),kz P K KP pr l fr s fp->Jf P K KP pr l fr s fp
 |[],fr,s,fp,h=>⟨[],rfl,fun j o x hj=>by simp at hj, .inl ⟨fun x hx=>by simp at hx,by simpa[mI,wL,kz]using h⟩⟩
 |o::l,fr,s,fp,h=>by
  have step:∀ (x:eT),x.ok=true->Pf P s fr o x->kz P K KP pr l (fr+1) (vi o.dst x s) (fp++[(vC x,kx x)])->Jf P K KP pr (o::l) fr s fp:=by
   intro x Yv aS hr
   obtain⟨bY,h1,h2,h3⟩:=tY l (fr+1) _ _ hr
   refine⟨x::bY,by simp[h1],fun j o' y hj hy=> ?_, ?_⟩
   ·cases j with
    |zero=>exact H6
    |succ j=>
     have:=h2 j o' y l7 (by simpa using hy)
     exact RV
   ·rcases h3 with⟨h3,h4⟩|⟨v,wl,g1,g2,g3,g4,g5,g6⟩
    ·left
     refine⟨fun y hy=> ?_,by simpa[mI,wL]using h4⟩
     rcases List.mem_cons.1 hy with rfl|hy
     ·exact Yv
     ·exact h3 y hy
    ·right
     refine⟨v,wl,fun j v' ws rd hj=> ?_, ?_,fun j hj=> ?_,by simpa[wL]using g4,fun y hy id au=> ?_,fun id au=>g6 id (by simp only[List.flatMap_append,List.mem_append];exact .inl au)⟩
     ·cases j with
      |zero=>simp at hj;rw[hj]at Yv;cases Yv
      |succ j=>exact g1 j v' ws rd l7
     ·obtain⟨y,y1,y2⟩:=g2;exact⟨y,by simp[y1],y2⟩
     ·cases j with
      |zero=>simp at hj;rw[hj]at Yv;cases Yv
      |succ j=>
       obtain⟨i,i1,j',i2,y,i3,i4⟩:=g3 j l7
       simp only[List.length_append,List.length_cons,List.length_nil]at i1 i2
       exact⟨i,by rw[show fp.length+(j+1)=fp.length+(0+1)+j by omega];exact i1,j'+1,ae,y,by simpa using i3,i4⟩
     ·rcases List.mem_cons.1 hy with rfl|hy
      ·exact g6 id (by simp only[List.flatMap_append,List.mem_append];exact .inr (by simpa using au))
      ·exact g5 y hy id au
  have bB:∀ (v:V) (ws rd:List Nat),Pf P s fr o (.bB v ws rd)->gP P (KP v) pr l (fr+1) ⟨aU s.env o.dst .aa,s.o,s.nx⟩ (fp++[(rd,[])]) [fp.length] (ws++fp.flatMap (·.2))->Jf P K KP pr (o::l) fr s fp:=by
   intro v ws rd aS hr
   obtain⟨bY,h1,h2,h3,h4,wl,h5,h6,h7⟩:=A5 l (fr+1) _ _ _ _ hr
   refine⟨eT.bB v ws rd::bY,by simp[h1],fun j o' y hj hy=> ?_, .inr ⟨v,wl,fun j v' Pk sJ hj=> ?_,⟨eT.bB v ws rd,aJ,rfl⟩,fun j hj=> ?_,by simpa[wL,vC,kx]using h5,fun y hy id au=> ?_,fun id au=>h6 id (List.mem_append.2 (.inr au))⟩⟩
   ·cases j with
    |zero=>exact H6
    |succ j=>
     have:=h2 j o' y l7 (by simpa using hy)
     exact RV
   ·cases j with
    |zero=>simp at hj;obtain⟨rfl,rfl,rfl⟩:=hj;exact⟨rfl,fun id au=>h6 id (List.mem_append.2 (.inl au))⟩
    |succ j=>
     have hm:=List.mem_of_getElem? (show bY[j]? =some (.bB v' Pk sJ) by simpa using hj)
     rcases h4 _ hm with h|h<;>cases h
   ·cases j with
    |zero=>simp at hj
    |succ j=>
     obtain⟨i,i1,i2⟩:=h3 j l7
     simp only[List.length_append,List.length_cons,List.length_nil]at i1 i2
     refine⟨i,by rw[show fp.length+(j+1)=fp.length+(0+1)+j by omega];exact i1, ?_⟩
     rcases i2 with i2|⟨j',j1,j2,j3⟩
     ·exact⟨0,by simpa using i2,_,rfl,rfl⟩
     ·exact⟨j'+1,ae, .de,by simpa using j3,rfl⟩
   ·rcases List.mem_cons.1 hy with rfl|hy
    ·simp[kx]at au
    ·exact h7 y hy id au
  have tX:dF s o.gd true->zO P s fr o (fun v Δ rd=>kz P K KP pr l (fr+1) ⟨aU s.env o.dst v,put s.o Δ,s.nx⟩ (fp++[(rd,Δ.map (·.1))]))
   (fun v ws rd=>gP P (KP v) pr l (fr+1) ⟨aU s.env o.dst .aa,s.o,s.nx⟩ (fp++[(rd,[])]) [fp.length] (ws++fp.flatMap (·.2)))->Jf P K KP pr (o::l) fr s fp:=fun hg h=>by
   rcases A4 h with⟨v,Δ,rd,oO,h⟩|⟨v,ws,rd,oO,h⟩
   ·exact step (.val v Δ rd) rfl ⟨hg,oO⟩ h
   ·exact bB v ws rd ⟨hg,oO⟩ h
  have skip:dF s o.gd false->kz P K KP pr l (fr+1) ⟨aU s.env o.dst (.bT []),s.o,s.nx⟩ (fp++[([],[])])->Jf P K KP pr (o::l) fr s fp:=fun hg h=>step .skip rfl hg h
  simp only[kz]at h
  split at h
  ·rename_i hg;exact tX (by rw[hg];rfl) h
  ·rename_i d want hg
   split at h
   ·rename_i c hv
    split at h
    ·rename_i e;exact tX DW h
    ·rename_i e;exact skip DW h
   ·rename_i hv;exact skip (by rw[hg];simp[dF,hv]) h
   ·exact h.elim
end
end
section
def mJ(env:Nat->V):List Nat->List V->Nat->V
 |t::ps,v::vs=>mJ (aD env t v) ps vs
 |_,_=>env
def yp(pr:List (List Nat))(m:Nat):Bool:=(List.range pr.length).all fun k=>Nat.blt k m||Nat.beq ((ee pr []).getD k 0) (2^k - 1)
def Jg(P:Program)(l:List bH)(pr:List (List Nat))(Q:fL->S->Prop)(s:S):Prop:=
 ∃m,m<=l.length/\yp pr m=true/\kz P (fun s' fp=>dY pr fp=true/\oC P (fun v s=>Q (.bB v) s) (Q .normal) (l.drop m) ⟨s'.env,s'.o,s.nx+m⟩) (fun _ _ _=>False) pr (l.take m) s.nx s []
def sQ(P:Program)(n b:Nat)(rd:Bool):IC->(fL->S->Prop)->S->Prop
 | .skip,Q,s=>Q .normal s
 | .ad l,Q,s=>oC P (fun v s=>Q (.bB v) s) (Q .normal) l s
 | .db l pr,Q,s=>kz P (Da pr (s.nx+l.length) Q) (A3 pr l s Q) pr l s.nx s []\/Jg P l pr Q s
 | .seq x y,Q,s=>sQ P n b rd x (pA (sQ P n b rd y Q) Q) s
 | .cond c x y,Q,s=>match s.ev c with
   | .d (.bool t)=>pM t (sQ P n b rd x Q s) (sQ P n b rd y Q s)
   | .eW=>sQ P n b rd x Q s/\sQ P n b rd y Q s
   |_=>False
 | .block id x,Q,s=>sQ P n b rd x (eX id Q) s
 | .loop x,Q,s=>I9 b (sQ P n b rd x) Q s
 | .exit id,Q,s=>Q (.exit id) s
 | .ret,Q,s=>Q .ret s
 | .FT g ps x y,Q,s=>rd=false/\Yl P n b g ps x y Q s
 | .bad,_,_=>False
section
variable {P:Program}{n b:Nat}{rd:Bool}
theorem tZ:∀ (l:List bH) (bY:List eT) (s:S) (k:Nat) (o:bH) (x:eT),l[k]? =some o->bY[k]? =some x->mI l bY s (k+1)=vi o.dst x (mI l bY s k)
 |[],_,_,_,_,_,h,_=>by simp at h
 |o::l,[],_,_,_,_,_,h=>by simp at h
 |o::l,x::xs,s,0,o',x',h,h'=>by simp at h h';subst h;subst h';cases l<;>cases xs<;>rfl
 |o::l,x::xs,s,k+1,o',x',h,h'=>by
  simp only[mI]
  exact tZ l xs _ k o' x' (by simpa using h) (by simpa using h')
theorem wM(l:List bH)(bY:List eT)(s:S)(hl:bY.length=l.length):∀k,k<=l.length->eg (bM l) (fun i=>bY.getD i default) (fun _=>true) s k=mI l bY s k:=by
 intro k
 induction k with
 |zero=>intro _;cases l<;>cases bY<;>rfl
 |succ k ih=>
  intro hk
  have h1:l[k]? =some (bM l k):=by simp[bM,List.getD_eq_getElem?_getD,List.getElem?_eq_getElem (by omega:k<l.length)]
  have h2:bY[k]? =some (bY.getD k default):=by simp[List.getD_eq_getElem?_getD,List.getElem?_eq_getElem (by omega:k<bY.length)]
  simp only[eg,if_true,ih (by omega)]
  rw[tZ l bY s k _ _ h1 h2]
theorem mK{ops:Array Oper}:∀ (l:List Oper) (l':List bH),kK n ops l=some l'->l'.length=l.length
 |[],_,h=>by simp[kK]at h;subst h;rfl
 |o::l,l',h=>by
  simp only[kK]at h
  split at h
  ·rename_i hx;injection h with h;subst h;simp[mK l _ hx]
  ·cases h
theorem Gw(ba:P.follows .mixedOrders=true){id:Nat}{ops:Array Oper}{l:List bH}{Q Q':fL->S->Prop}{s:S}(hQ:∀e s,Q e s->Q' e s)(qN:kK n ops ops.toList=some l)(ht:xE l (fV ops)=true)
 (hp:RX (fV ops)=true) (h:kz P (Da (fV ops) (s.nx+l.length) Q) (A3 (fV ops) l s Q) (fV ops) l s.nx s []):iS P n b rd (.region id ops true) Q' s:=by
 intro M cf H0 w0 cx φ a w ro k hs
 obtain⟨bY,hl,aS,gC⟩:=tY l _ _ _ h
 have hlen:l.length=ops.size:=by rw[mK _ _ qN];simp
 have sN:∀k,k<ops.size->(fV ops).getD k []=bt ops k:=by
  intro k hk;simp[fV,List.getD_eq_getElem?_getD,List.getElem?_map,List.getElem?_range hk]
 have xM:(fV ops).length=ops.size:=by simp[fV]
 have oO:=wM l bY s hl
 have Cv:∀k,k<ops.size->l[k]? =some (bM l k):=fun k hk=>by simp[bM,List.getD_eq_getElem?_getD,List.getElem?_eq_getElem (by omega:k<l.length)]
 have vg:∀k,k<ops.size->bY[k]? =some (bY.getD k default):=fun k hk=>by simp[List.getD_eq_getElem?_getD,List.getElem?_eq_getElem (by omega:k<bY.length)]
 have tH:∀k,k<ops.size->bY.getD k default∈bY:=fun k hk=>List.mem_of_getElem? (vg k hk)
 have Md:∀k,k<ops.size->(wL bY)[k]? =some (vC (bY.getD k default),kx (bY.getD k default)):=fun k hk=>by
  simp only[wL,List.getElem?_map,vg k hk,Option.map_some]
 have Si:(wL bY).length=ops.size:=by simp[wL,hl,hlen]
 simp only[List.nil_append,List.length_nil,Nat.zero_add]at gC
 have tx:dY (fV ops) (wL bY)=true:=by
  rcases gC with⟨_,h⟩|⟨v,wl,_,_,_,h,_⟩
  ·exact h.1
  ·exact h.1
 have Gx:∀k,k<ops.size->∀j∈bt ops k,j<k:=fun k hk j hj=>by
  have:=List.all_eq_true.1 hp k (by simpa[xM]using hk)
  rw[sN k hk]at this
  simpa using List.all_eq_true.1 this j hj
 have Jh:∀k,k<(fV ops).length->∀j∈(fV ops).getD k [],j<k:=fun k hk j hj=>by
  rw[xM]at hk;rw[sN k hk]at hj;exact Gx k hk j hj
 let po:Nat->Nat->Prop:=fun k j=>((ee (fV ops) []).getD k 0).testBit j=true
 have Ev:∀E:Nat->Bool,(∀k,k<ops.size->E k=true->∀j∈bt ops k,E j=true)->∀k,k<ops.size->(∀j∈bt ops k,E j=true)->∀j,po k j->E j=true:=fun E hE k hk hj j hb=>
  o6 Jh (fun k hk iQ j hj=>by rw[xM]at hk;rw[sN k hk]at hj;exact hE k hk iQ j hj) k (by rw[xM];exact hk) (by rw[sN k hk];exact hj) j hb
 have A1:∀k,k<ops.size->∀j,po k j->j<k:=fun k hk j hb=>z8 Jh k (by rw[xM];exact hk) j hb
 have yq:∀i j,i<j->j<ops.size-> ¬po j i->Compat (bM l) (fun i=>bY.getD i default) (fun i=>vC (bY.getD i default)) i j:=by
  intro i j Mu hj hn
  have LV:=List.all_eq_true.1 (List.all_eq_true.1 ht j (by simpa[hlen]using hj)) i (by simpa using Mu)
  have vT:=List.all_eq_true.1 (List.all_eq_true.1 tx j (by simpa[Si]using hj)) i (by simpa using Mu)
  have hnc:((ee (fV ops) []).getD j 0).testBit i=false:=by simpa[po]using hn
  rw[hnc,Bool.false_or]at LV vT
  simp only[Bool.and_eq_true]at LV vT
  have gi:=Md i ae
  have gj:=Md j hj
  simp only[List.getD_eq_getElem?_getD (l:=wL bY),gi,gj,Option.getD_some]at vT
  have dj:∀ {xs ys:List Nat},kp xs ys=true->∀x∈xs,x∉ys:=fun h x hx=>by simpa using List.all_eq_true.1 h x hx
  have fo:∀ {x y:bH},qv x y=true->∀d,x.dst=some d->d∉eM y:=fun h d hd=>by simpa[qv,hd]using h
  exact WW
 have Pl:∀i,i<ops.size->Pf P (eg (bM l) (fun i=>bY.getD i default) (fun _=>true) s i) (s.nx+i) (bM l i) (bY.getD i default):=fun i hi=>by
  rw[oO i (by omega)];exact aS i _ _ (Cv i hi) (vg i hi)
 have cD:∀i,i<ops.size->∀t,(bM l i).dst=some t->(dstsOf l).contains t=true:=fun i hi t ht=>by
  simp only[List.contains_iff_mem,dstsOf,List.mem_filterMap]
  exact⟨bM l i,List.mem_of_getElem? (Cv i hi),ht⟩
 rcases gC with⟨aZ,gC⟩|⟨v,wl,q1,q2,q3,q4,q5,q6⟩
 ·refine A0 (ac:=fun i=>bY.getD i default) (dl:=dstsOf l) (wl:=(bY.flatMap kx)) ba qN Gx hs Pl (fun i hi hb=> ?_) Ev A1 yq cD (fun i hi id au=> ?_) (fun i v ws sJ hi hb=> ?_) (fun _ φ a w jQ=> ?_) (fun i v ws sJ hi hb=> ?_)
  ·have:=aZ _ (tH i hi);rw[hb]at this;cases this
  ·simp only[List.contains_iff_mem,List.mem_flatMap];exact⟨_,tH i hi,au⟩
  ·have:=aZ _ (tH i hi);rw[hb]at this;cases this
  ·rw[oO ops.size (by omega), <- hlen]at jQ
   exact⟨.normal,_,φ,hQ _ _ gC.2,jQ,trivial⟩
  ·have:=aZ _ (tH i hi);rw[hb]at this;cases this
 ·refine A0 (ac:=fun i=>bY.getD i default) (dl:=dstsOf l) (wl:=wl) ba qN Gx hs Pl (fun i hi hb=> ?_) Ev A1 yq cD (fun i hi id au=> ?_) (fun i v' ws sJ hi hb=> ?_) (fun aZ φ a w jQ=> ?_) (fun i v' ws sJ hi hb φ a w val jQ hd=> ?_)
  ·obtain⟨j,j1,j',e,y,j3,j4⟩:=q3 i Ib
   rw[sN i hi,e]at j1
   refine⟨j',j1, ?_⟩
   simp only[List.getD_eq_getElem?_getD,j3,Option.getD_some,j4]
  ·simp only[List.contains_iff_mem];exact q5 _ (tH i hi) id au
  ·intro id au
   simp only[List.contains_iff_mem]
   exact(q1 i v' ws sJ Ib).2 id au
  ·obtain⟨x,x1,x2⟩:=q2
   obtain⟨i,Ix,X1⟩:=List.getElem_of_mem x1
   have hi:i<ops.size:=ae
   have:=aZ i hi
   have e:bY.getD i default=x:=by simp[List.getD_eq_getElem?_getD,List.getElem?_eq_getElem Ix,X1]
   rw[e,x2]at this;cases this
  ·have e:=(q1 i v' ws sJ Ib).1
   subst e
   rw[<- hlen]at jQ hd
   exact⟨.bB v',_,φ,hQ _ _ q4.2,jQ,val,rfl,hd⟩
theorem wN{ops:Array Oper}:∀ (l:List Oper) (l':List bH) (m:Nat),kK n ops l=some l'->kK n ops (l.drop m)=some (l'.drop m)
 |l,l',0,h=>h
 |[],l',m+1,h=>by simp[kK]at h;subst h;simp[kK]
 |o::l,l',m+1,h=>by
  simp only[kK]at h
  split at h
  ·rename_i x xs hx F0
   injection h with h;subst h
   exact wN l xs m F0
  ·cases h
theorem Ji{l:List bH}{ac:Nat->eT}{E:Nat->Bool}{s:S}{m:Nat}:∀k,k<=m->eg (bM l) ac E s k=eg (bM (l.take m)) ac E s k:=by
 intro k
 induction k with
 |zero=>intro _;rfl
 |succ k ih=>
  intro hk
  have:bM l k=bM (l.take m) k:=by simp[bM,List.getD_eq_getElem?_getD,List.getElem?_take,(by omega:k<m)]
  simp only[eg,ih (by omega),this]
theorem Db(ba:P.follows .mixedOrders=true){id:Nat}{ops:Array Oper}{l:List bH}{Q Q':fL->S->Prop}{s:S}(hQ:∀e s,Q e s->Q' e s)(qN:kK n ops ops.toList=some l)(ht:xE l (fV ops)=true)
 (hp:RX (fV ops)=true) (h:Jg P l (fV ops) Q s):iS P n b rd (.region id ops true) Q' s:=by
 intro M cf H0 w0 cx φ a w ro k hs
 obtain⟨m,F3,hto,h⟩:=h
 obtain⟨bY,hl,aS,gC⟩:=tY (l.take m) _ _ _ h
 have hlm:(l.take m).length=m:=by rw[List.length_take];omega
 have hlen:l.length=ops.size:=by rw[mK _ _ qN];simp
 have gC:=gC.resolve_right (fun⟨_,_,_,_,_,q4,_,_⟩=>q4)
 obtain⟨aZ,gC⟩:=gC
 have R6:bY.length=m:=ae
 have sN:∀k,k<ops.size->(fV ops).getD k []=bt ops k:=by
  intro k hk;simp[fV,List.getD_eq_getElem?_getD,List.getElem?_map,List.getElem?_range hk]
 have xM:(fV ops).length=ops.size:=by simp[fV]
 have oO:∀k,k<=m->eg (bM l) (fun i=>bY.getD i default) (fun _=>true) s k=mI (l.take m) bY s k:=fun k hk=>by
  rw[Ji k hk];exact wM (l.take m) bY s hl k ae
 have Cv:∀k,k<m->(l.take m)[k]? =some (bM l k):=fun k hk=>by
  rw[List.getElem?_take,if_pos hk]
  simp[bM,List.getD_eq_getElem?_getD,List.getElem?_eq_getElem (by omega:k<l.length)]
 have vg:∀k,k<m->bY[k]? =some (bY.getD k default):=fun k hk=>by simp[List.getD_eq_getElem?_getD,List.getElem?_eq_getElem (by omega:k<bY.length)]
 have tH:∀k,k<m->bY.getD k default∈bY:=fun k hk=>List.mem_of_getElem? (vg k hk)
 have Md:∀k,k<m->(wL bY)[k]? =some (vC (bY.getD k default),kx (bY.getD k default)):=fun k hk=>by
  simp only[wL,List.getElem?_map,vg k hk,Option.map_some]
 have Si:(wL bY).length=m:=by simp[wL,R6]
 simp only[List.nil_append]at gC
 obtain⟨tx,Mv⟩:=gC
 have Gx:∀k,k<ops.size->∀j∈bt ops k,j<k:=fun k hk j hj=>by
  have:=List.all_eq_true.1 hp k (by simpa[xM]using hk)
  rw[sN k hk]at this
  simpa using List.all_eq_true.1 this j hj
 have Jh:∀k,k<(fV ops).length->∀j∈(fV ops).getD k [],j<k:=fun k hk j hj=>by
  rw[xM]at hk;rw[sN k hk]at hj;exact Gx k hk j hj
 let po:Nat->Nat->Prop:=fun k j=>((ee (fV ops) []).getD k 0).testBit j=true
 have Ev:∀E:Nat->Bool,(∀k,k<ops.size->E k=true->∀j∈bt ops k,E j=true)->∀k,k<ops.size->(∀j∈bt ops k,E j=true)->∀j,po k j->E j=true:=fun E hE k hk hj j hb=>
  o6 Jh (fun k hk iQ j hj=>by rw[xM]at hk;rw[sN k hk]at hj;exact hE k hk iQ j hj) k (by rw[xM];exact hk) (by rw[sN k hk];exact hj) j hb
 have A1:∀k,k<ops.size->∀j,po k j->j<k:=fun k hk j hb=>z8 Jh k (by rw[xM];exact hk) j hb
 have yq:∀i j,i<j->j<m-> ¬po j i->Compat (bM l) (fun i=>bY.getD i default) (fun i=>vC (bY.getD i default)) i j:=by
  intro i j Mu hj hn
  have LV:=List.all_eq_true.1 (List.all_eq_true.1 ht j oW) i (by simpa using Mu)
  have vT:=List.all_eq_true.1 (List.all_eq_true.1 tx j (by simpa[Si]using hj)) i (by simpa using Mu)
  have hnc:((ee (fV ops) []).getD j 0).testBit i=false:=by simpa[po]using hn
  rw[hnc,Bool.false_or]at LV vT
  simp only[Bool.and_eq_true]at LV vT
  have gi:=Md i ae
  have gj:=Md j hj
  simp only[List.getD_eq_getElem?_getD (l:=wL bY),gi,gj,Option.getD_some]at vT
  have dj:∀ {xs ys:List Nat},kp xs ys=true->∀x∈xs,x∉ys:=fun h x hx=>by simpa using List.all_eq_true.1 h x hx
  have fo:∀ {x y:bH},qv x y=true->∀d,x.dst=some d->d∉eM y:=fun h d hd=>by simpa[qv,hd]using h
  exact WW
 have htl:∀k,m<=k->k<ops.size->∀j,j<k->po k j:=fun k hmk hk j hj=>by
  have:=List.all_eq_true.1 hto k (by simpa[xM]using hk)
  simp only[Bool.or_eq_true]at this
  rcases this with this|this
  ·exact absurd (Nat.blt_eq.mp this) ae
  ·show((ee (fV ops) []).getD k 0).testBit j=true
   rw[Nat.eq_of_beq_eq_true this,Nat.testBit_two_pow_sub_one]
   exact decide_eq_true hj
 refine C9 (ac:=fun i=>bY.getD i default) (m:=m) (X:=fun v s=>Q' (.bB v) s) (K:=Q' .normal) ba qN Gx ae hs (fun i hi=> ?_) (fun i hi=>aZ _ (tH i hi)) Ev A1 yq htl ?_ (fun s φ a w hk jQ=>⟨.normal,s,φ,hk,jQ,trivial⟩) (fun v s' aC a' w' val hx jQ hd=>⟨.bB v,s',aC,hx,jQ,val,rfl,hd⟩)
 ·rw[oO i (by omega)];exact aS i _ _ (Cv i hi) (vg i hi)
 ·rw[oO m (Nat.le_refl _)]
  rw[hlm]at Mv
  exact je (fun s hs=>hQ _ _ hs) (fun v s hs=>hQ _ _ hs) _ _ _ (wN _ _ m qN) Mv
theorem qO{g:V}{ps:List Nat}{x y:IC}{Q Q':fL->S->Prop}{s:S}(hQ:∀e s,Q e s->Q' e s)(h:AL P n g ps x y Q s):AL P n g ps x y Q' s:=by
 obtain⟨env,h1,h2⟩:=h
 refine⟨env,h1, ?_⟩
 split at h2
 ·refine nQ.mono (fun v o n h=> ?_) (fun v o n h=>hQ _ _ h) h2
  obtain⟨nf,m,e,p,c,d,st,pd,k1,k2,k3⟩:=h
  refine⟨nf,m,e,p,c,d,st,pd,k1,k2, ?_⟩
  cases pd with
  |none=>exact hQ _ _ k3
  |some j=>cases j<;>exact hQ _ _ k3
 ·exact h2
theorem gQ(ba:P.follows .mixedOrders=true):∀ (c:Code) (Q Q':fL->S->Prop) (s:S),(∀e s,Q e s->Q' e s)->sQ P n b rd (low n c) Q s->iS P n b rd c Q' s:=by
 intro c
 induction c with
 |skip=>exact fun Q Q' s hQ h=>hQ _ _ h
 |scope x ih=>exact fun Q Q' s hQ h=>ih Q Q' s hQ h
 |label l=>exact fun Q Q' s hQ h=>hQ _ _ h
 |exit id=>exact fun Q Q' s hQ h=>hQ _ _ h
 |ret=>exact fun Q Q' s hQ h=>hQ _ _ h
 |goto l=>exact fun Q Q' s hQ h=>h.elim
 |refuse y=>exact fun Q Q' s hQ h=>h.elim
 |rangeFunc f p x y=>
  intro Q Q' s hQ h
  obtain⟨h1,s',hle,h2⟩:=h
  exact⟨h1,s',hle,qO hQ h2⟩
 |region id ops draw=>
  intro Q Q' s hQ h
  cases draw with
  |true=>
   simp only[low]at h
   split at h
   ·rename_i l hl
    split at h
    ·rename_i hc
     simp only[Bool.and_eq_true]at hc
     rcases h with h|h
     ·exact Gw ba hQ hl hc.1 hc.2 h
     ·exact Db ba hQ hl hc.1 hc.2 h
    ·exact h.elim
   ·exact h.elim
  |false=>
   simp only[low]at h
   split at h
   ·rename_i l hl;exact je (fun s hs=>hQ _ _ hs) (fun v s hs=>hQ _ _ hs) _ l s hl h
   ·exact h.elim
 |seq x y Mo Mp=>
  intro Q Q' s hQ h
  refine Mo _ _ s (fun e s he=> ?_) h
  cases e<;>first|exact Mp Q Q' s hQ he|exact hQ _ _ he
 |cond c x y Mo Mp=>
  intro Q Q' s hQ h
  simp only[low,sQ]at h
  simp only[iS]
  split at h
  ·rename_i t hc
   simp only[hc]
   exact⟨fun ht=>Mo Q Q' s hQ (h.1 ht),fun ht=>Mp Q Q' s hQ (h.2 ht)⟩
  ·rename_i hc
   simp only[hc]
   exact⟨Mo Q Q' s hQ h.1,Mp Q Q' s hQ h.2⟩
  ·exact h.elim
 |block id x ih=>
  intro Q Q' s hQ h
  refine ih _ _ s (fun e s he=> ?_) h
  cases e<;>simp only[eX]at he|- <;>first
   |exact hQ _ _ he
   |(split at he<;>rename_i e
     ·rw[if_pos e];exact hQ _ _ he
     ·rw[if_neg e];exact hQ _ _ he)
 |loop x ih=>
  intro Q Q' s hQ h
  obtain⟨J,h0,hr⟩:=h
  refine⟨J,h0,fun m s0 hJ=>ih _ _ s0 (fun e s he=> ?_) (hr m s0 hJ)⟩
  cases e<;>first|exact hQ _ _ he|exact he
structure aI (P:Program) (f:FuncId) (n:Nat) (ic:IC) (rs:List ResultVar):Prop where
 get:∃fn,P.funcs[f]? =some fn/\(fn.name== "runtime.NumGoroutine")=false/\fn.ntmps=n/\fn.results.toList=rs/\∃c,fn.body=some c/\low n c=ic
theorem cX.ua (ba:P.follows .mixedOrders=true){f:FuncId}{ic:IC}{rs:List ResultVar}(hf:aI P f n ic rs){args:List V}{o:Nat->ab}{nx:Nat}{K X:V->(Nat->ab)->Nat->Prop}(hl:args.length<=n)(h:sQ P n nx false ic (lF P rs K X) ⟨cA args,o,nx⟩):cX P f args o nx K X:=by
 obtain⟨fn,h1,h2,rfl,rfl,c,h3,rfl⟩:=hf.get
 exact cX.Eo h1 h2 h3 hl (gQ ba c _ _ _ (fun _ _ h=>h) h)
theorem aV.ua (ba:P.follows .mixedOrders=true){f:FuncId}{ic:IC}{rs:List ResultVar}(hf:aI P f n ic rs){ds:List D}{out:R}(hl:ds.length<=n)(h:sQ P n 0 false ic (AE P rs out) ⟨cA (ds.map .d),fun _=> .no,0⟩):aV P f ds out:=by
 obtain⟨fn,h1,h2,rfl,rfl,c,h3,rfl⟩:=hf.get
 exact aV.mC (cX.Eo h1 h2 h3 (by simpa using hl) (gQ ba c _ _ _ (fun e s h=>Gk e s h) h))
end
end
end Go.Proofs.YtnkamdiiakdkgaaGreat
