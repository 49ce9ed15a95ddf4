/-
  A PART. Conditions: none.
-/
import Derived.Test.YtnkamdiiakdkgaaGreatEe8
set_option linter.unusedSimpArgs false
set_option linter.unusedVariables false
set_option maxHeartbeats 8000000
namespace Go.Proofs.YtnkamdiiakdkgaaGreat
section
def uO(P:Program)(g:FuncId)(ds:List D)(Kf Kb KX:V->Prop):Prop:=
 (∃rs,aW P g ds (.ret rs)/\(Kf (kb rs)\/(D.kN rs=true/\Kb (kb rs))))\/(∃x,aW P g ds (.bU x)/\x.flat=true/\KX (.d x))\/(∃v,PVt P g ds v/\Kf v)
def jQ(P:Program)(g:FuncId)(args:List V)(o:Nat->aa)(nx fr:Nat)(K:V->List (Nat×aa)->List Nat->Prop)(KX:V->List Nat->List Nat->Prop):Prop:=
 ∃rd Δ,rd.all (fun id=>decide (id<nx))=true/\((∃rs,zh P g args rd o (.ret rs) Δ/\K (kb rs) Δ rd)\/(∃x,zh P g args rd o (.bU x) Δ/\KX (.d x) (Δ.map (·.1)) rd)\/(∃v,BO P g args rd o fr v Δ/\K v Δ rd))
def C4(P:Program)(s:S)(fr:Nat)(o:b8)(K:V->List (Nat×aa)->List Nat->Prop)(KX:V->List Nat->List Nat->Prop):Prop:=
 match o.op with
 | .call c=>match c.callee with
   | .value f=>match s.ev f with
     | .func (.func g) first cap=>match cF s.o (first++c.args.toList.map s.ev++cap)with
       |some ds=>uO P g ds (fun v=>K v (bY s.o (V.bC (first++c.args.toList.map s.ev++cap))) (pV s o.op)) (fun v=>K v [] (pV s o.op)) (fun v=>KX v [] (pV s o.op))\/jQ P g (first++c.args.toList.map s.ev++cap) s.o s.nx fr K KX
       |none=>jQ P g (first++c.args.toList.map s.ev++cap) s.o s.nx fr K KX
     |_=>False
   |_=>match gA P s fr o.op with
    |some (v,Δ,_)=>K v Δ (pV s o.op)
    |none=>False
 |op=>match gA P s fr op with
  |some (v,Δ,_)=>K v Δ (pV s o.op)
  |none=>False
abbrev Fp:=List (List Nat×List Nat)
def jg(P:Program)(KB:List Nat->Fp->Prop)(pr:List (List Nat)):List b8->Nat->S->Fp->List Nat->List Nat->Prop
 |[],_,_,fp,_,ws=>KB ws fp
 |o::l,fr,s,fp,bad,ws=>if(pr.getD fp.length []).any (fun j=>bad.contains j)=true then jg P KB pr l (fr+1) ⟨bf s.env o.dst .ag,s.o,s.nx⟩ (fp++[([],[])]) (bad++[fp.length]) ws
  else match o.gd with
  |none=>C4 P s fr o (fun v Δ rd=>jg P KB pr l (fr+1) ⟨bf s.env o.dst v,put s.o Δ,s.nx⟩ (fp++[(rd,Δ.map (·.1))]) bad (ws++Δ.map (·.1))) (fun _ _ _=>False)
  |some (d,want)=>match s.env d with
   | .d (.bool b)=>if b=want then C4 P s fr o (fun v Δ rd=>jg P KB pr l (fr+1) ⟨bf s.env o.dst v,put s.o Δ,s.nx⟩ (fp++[(rd,Δ.map (·.1))]) bad (ws++Δ.map (·.1))) (fun _ _ _=>False)
    else jg P KB pr l (fr+1) ⟨bf s.env o.dst (.cc []),s.o,s.nx⟩ (fp++[([],[])]) bad ws
   | .cc []=>jg P KB pr l (fr+1) ⟨bf s.env o.dst (.cc []),s.o,s.nx⟩ (fp++[([],[])]) bad ws
   |_=>False
def l7(P:Program)(K:S->Fp->Prop)(KP:V->List Nat->Fp->Prop)(pr:List (List Nat)):List b8->Nat->S->Fp->Prop
 |[],_,s,fp=>K s fp
 |o::l,fr,s,fp=>match o.gd with
  |none=>C4 P s fr o (fun v Δ rd=>l7 P K KP pr l (fr+1) ⟨bf s.env o.dst v,put s.o Δ,s.nx⟩ (fp++[(rd,Δ.map (·.1))]))
   (fun v ws rd=>jg P (KP v) pr l (fr+1) ⟨bf s.env o.dst .ag,s.o,s.nx⟩ (fp++[(rd,[])]) [fp.length] (ws++fp.flatMap (·.2)))
  |some (d,want)=>match s.env d with
   | .d (.bool b)=>if b=want then C4 P s fr o (fun v Δ rd=>l7 P K KP pr l (fr+1) ⟨bf s.env o.dst v,put s.o Δ,s.nx⟩ (fp++[(rd,Δ.map (·.1))]))
         (fun v ws rd=>jg P (KP v) pr l (fr+1) ⟨bf s.env o.dst .ag,s.o,s.nx⟩ (fp++[(rd,[])]) [fp.length] (ws++fp.flatMap (·.2)))
    else l7 P K KP pr l (fr+1) ⟨bf s.env o.dst (.cc []),s.o,s.nx⟩ (fp++[([],[])])
   | .cc []=>l7 P K KP pr l (fr+1) ⟨bf s.env o.dst (.cc []),s.o,s.nx⟩ (fp++[([],[])])
   |_=>False
def Hc(pr:List (List Nat))(nx:Nat)(Q:fW->S->Prop)(s:S)(fp:Fp):Prop:=eX pr fp=true/\Q .normal ⟨s.env,s.o,nx⟩
def dstsOf(l:List b8):List Nat:=l.filterMap (·.dst)
def Ed(pr:List (List Nat))(l:List b8)(s0:S)(Q:fW->S->Prop)(v:V)(wl:List Nat)(fp:Fp):Prop:=eX pr fp=true/\Q (.bU v) (vu (dstsOf l) wl l.length s0)
def oO:List b8->List fP->S->Nat->S
 |_,_,s,0=>s
 |o::l,x::xs,s,j+1=>oO l xs (yO o.dst x s) j
 |_,_,s,_=>s
def Aj(cI:List fP):Fp:=cI.map fun x=>(zj x,l5 x)
section
variable {P:Program}{n b:Nat}
theorem Ee{s:S}{fr:Nat}{o:b8}{K:V->List (Nat×aa)->List Nat->Prop}{KX:V->List Nat->List Nat->Prop}(h:C4 P s fr o K KX):(∃v Δ rd,Af P s fr o.op v Δ rd/\K v Δ rd)\/(∃v ws rd,D6 P s o.op v ws rd/\KX v ws rd):=by
 have hs:∀ {op:Op},o.op=op->(match gA P s fr op with|some (v,Δ,_)=>K v Δ (pV s o.op)|none=>False)->(∃v Δ rd,Af P s fr o.op v Δ rd/\K v Δ rd):=by
  intro op iS h
  split at h
  ·rename_i v Δ rd he;exact⟨v,Δ,_, .inl ⟨⟨rd,by rw[iS];exact he⟩,rfl⟩,h⟩
  ·exact h.elim
 unfold C4 at h
 split at h
 ·rename_i c hc
  split at h
  ·rename_i f fI
   split at h
   ·rename_i g first cap hf
    split at h
    ·rename_i ds fL
     rcases h with(⟨rs,hP,h|⟨nX,h⟩⟩|⟨x,hP,nX,h⟩|⟨v,hP,h⟩)|⟨rd,Δ,nP,⟨rs,hH,h⟩|⟨x,hH,h⟩|⟨v,hH,h⟩⟩
     ·exact .inl ⟨_,_,_, .inr ⟨c,f,g,first,cap,hc,fI,hf, .inl ⟨ds,rs,fL,hP,rfl,rfl, .inl rfl⟩⟩,h⟩
     ·exact .inl ⟨_,_,_, .inr ⟨c,f,g,first,cap,hc,fI,hf, .inl ⟨ds,rs,fL,hP,rfl,rfl, .inr ⟨nX,rfl⟩⟩⟩,h⟩
     ·exact .inr ⟨_,_,_,⟨c,f,g,first,cap,hc,fI,hf, .inl ⟨ds,x,fL,hP,nX,rfl,rfl,rfl⟩⟩,h⟩
     ·exact .inl ⟨_,_,_, .inr ⟨c,f,g,first,cap,hc,fI,hf, .inr (.inr (.inl ⟨ds,fL,hP,rfl,rfl⟩))⟩,h⟩
     ·exact acz
     ·exact acC
     ·exact acA
    ·obtain⟨rd,Δ,nP,⟨rs,hH,h⟩|⟨x,hH,h⟩|⟨v,hH,h⟩⟩:=h
     ·exact acz
     ·exact acC
     ·exact acA
   ·exact h.elim
  ·rw[hc]at h;exact .inl (hs hc (by rw[hc];exact h))
 ·exact .inl (hs rfl h)
def R8(P:Program)(KB:List Nat->Fp->Prop)(pr:List (List Nat))(l:List b8)(fr:Nat)(s:S)(fp:Fp)(bad ws:List Nat):Prop:=
    ∃cI:List fP,cI.length=l.length/\(∀j o x,l[j]? =some o->cI[j]? =some x->VF P (oO l cI s j) (fr+j) o x)/\
     (∀ (j:Nat),cI[j]? =some fP.dG->∃i∈pr.getD (fp.length+j) [],i∈bad\/∃j',j'<j/\i=fp.length+j'/\cI[j']? =some .dG)/\(∀x∈cI,x= .dG\/x.ok=true)/\
     ∃wl,KB wl (fp++Aj cI)/\(∀id∈ws,id∈wl)/\∀x∈cI,∀id∈l5 x,id∈wl
theorem Eg{KB:List Nat->Fp->Prop}{pr:List (List Nat)}:∀ (l:List b8) (fr:Nat) (s:S) (fp:Fp) (bad ws:List Nat),jg P KB pr l fr s fp bad ws->R8 P KB pr l fr s fp bad ws
 |[],fr,s,fp,bad,ws,h=>⟨[],rfl,fun j o x hj=>by simp at hj,fun j hj=>by simp at hj,fun x hx=>by simp at hx,ws,by simpa[Aj,jg]using h,fun _ h=>h,fun x hx=>by simp at hx⟩
 |o::l,fr,s,fp,bad,ws,h=>by
  have step:∀ (x:fP) (R9 VI:List Nat),VF P s fr o x->jg P KB pr l (fr+1) (yO o.dst x s) (fp++[(zj x,l5 x)]) R9 VI->(x= .dG\/x.ok=true)->(x= .dG->∃i∈pr.getD fp.length [],i∈bad)->
   (∀i∈R9,i∈bad\/(i=fp.length/\x= .dG))->(∀id∈ws,id∈VI)->(∀id∈l5 x,id∈VI)->
   R8 P KB pr (o::l) fr s fp bad ws:=by
   intro x R9 VI bp hr hbo BU YB R7 hW
   obtain⟨cI,h1,h2,h3,h4,wl,h5,h6,h7⟩:=Eg l (fr+1) _ _ R9 VI hr
   refine⟨x::cI,by simp[h1],fun j o' y hj hy=> ?_,fun j hj=> ?_,fun y hy=> ?_,wl,by simpa[Aj]using h5,fun id aq=>h6 id (R7 id aq),fun y hy id aq=> ?_⟩
   ·cases j with
    |zero=>exact Nh
    |succ j=>
     have:=h2 j o' y od (by simpa using hy)
     exact NH
   ·cases j with
    |zero=>
     simp at hj
     obtain⟨i,i1,i2⟩:=BU hj
     exact⟨i,by simpa using i1, .inl i2⟩
    |succ j=>
     obtain⟨i,i1,i2⟩:=h3 j od
     simp only[List.length_append,List.length_cons,List.length_nil]at i1 i2
     refine⟨i,by rw[show fp.length+(j+1)=fp.length+(0+1)+j by omega];exact i1, ?_⟩
     rcases i2 with i2|⟨j',j1,j2,j3⟩
     ·rcases YB i i2 with hb|⟨e1,e2⟩
      ·exact .inl hb
      ·exact .inr ⟨0,ae,ae,by simp[e2]⟩
     ·exact .inr ⟨j'+1,ae,ae,by simpa using j3⟩
   ·rcases List.mem_cons.1 hy with rfl|hy
    ·exact hbo
    ·exact h4 y hy
   ·rcases List.mem_cons.1 hy with rfl|hy
    ·exact h6 id (hW id aq)
    ·exact h7 y hy id aq
  simp only[jg]at h
  split at h
  ·rename_i hb
   obtain⟨j,hj1,Q6⟩:=List.any_eq_true.1 hb
   exact step .dG _ _ trivial h (.inl rfl) (fun _=>⟨j,hj1,by simpa using Q6⟩) (fun i hi=>by
    rcases List.mem_append.1 hi with hi|hi
    ·exact .inl hi
    ·exact .inr ⟨by simpa using hi,rfl⟩) (fun _ h=>h) (fun id aq=>by simp[l5]at aq)
  ·have xj:eD s o.gd true->C4 P s fr o (fun v Δ rd=>jg P KB pr l (fr+1) ⟨bf s.env o.dst v,put s.o Δ,s.nx⟩ (fp++[(rd,Δ.map (·.1))]) bad (ws++Δ.map (·.1))) (fun _ _ _=>False)->R8 P KB pr (o::l) fr s fp bad ws:=fun hg h=>by
    rcases Ee h with⟨v,Δ,rd,fj,h⟩|⟨v,VI,rd,_,h⟩
    ·exact step (.val v Δ rd) bad (ws++Δ.map (·.1)) ⟨hg,fj⟩ h (.inr rfl) (fun h=>by cases h) (fun i hi=> .inl hi) (fun id aq=>List.mem_append.2 (.inl aq)) (fun id aq=>List.mem_append.2 (.inr aq))
    ·exact h.elim
   have skip:eD s o.gd false->jg P KB pr l (fr+1) ⟨bf s.env o.dst (.cc []),s.o,s.nx⟩ (fp++[([],[])]) bad ws->R8 P KB pr (o::l) fr s fp bad ws:=fun hg h=>
    step .skip bad ws hg h (.inr rfl) (fun h=>by cases h) (fun i hi=> .inl hi) (fun id aq=>aq) (fun id aq=>by simp[l5]at aq)
   split at h
   ·rename_i hg;exact xj (by rw[hg];rfl) h
   ·rename_i d want hg
    split at h
    ·rename_i c hv
     split at h
     ·rename_i e;exact xj Ip h
     ·rename_i e;exact skip Ip h
    ·rename_i hv;exact skip (by rw[hg];simp[eD,hv]) h
    ·exact h.elim
def Oo(P:Program)(K:S->Fp->Prop)(KP:V->List Nat->Fp->Prop)(pr:List (List Nat))(l:List b8)(fr:Nat)(s:S)(fp:Fp):Prop:=
 ∃cI:List fP,cI.length=l.length/\(∀j o x,l[j]? =some o->cI[j]? =some x->VF P (oO l cI s j) (fr+j) o x)/\
  (((∀x∈cI,x.ok=true)/\K (oO l cI s l.length) (fp++Aj cI))\/
   ∃v wl,(∀ (j:Nat) (v':V) (ws rd:List Nat),cI[j]? =some (fP.bU v' ws rd)->v'=v/\∀id∈ws,id∈wl)/\(∃x∈cI,x.ok=false)/\
    (∀ (j:Nat),cI[j]? =some fP.dG->∃i∈pr.getD (fp.length+j) [],∃j',i=fp.length+j'/\∃y,cI[j']? =some y/\y.ok=false)/\KP v wl (fp++Aj cI)/\(∀x∈cI,∀id∈l5 x,id∈wl)/\∀id∈fp.flatMap (·.2),id∈wl)
theorem xk{K:S->Fp->Prop}{KP:V->List Nat->Fp->Prop}{pr:List (List Nat)}:∀ (l:List b8) (fr:Nat) (s:S) (fp:Fp),l7 P K KP pr l fr s fp->Oo P K KP pr l fr s fp
 |[],fr,s,fp,h=>⟨[],rfl,fun j o x hj=>by simp at hj, .inl ⟨fun x hx=>by simp at hx,by simpa[oO,Aj,l7]using h⟩⟩
 |o::l,fr,s,fp,h=>by
  have step:∀ (x:fP),x.ok=true->VF P s fr o x->l7 P K KP pr l (fr+1) (yO o.dst x s) (fp++[(zj x,l5 x)])->Oo P K KP pr (o::l) fr s fp:=by
   intro x hxo bp hr
   obtain⟨cI,h1,h2,h3⟩:=xk l (fr+1) _ _ hr
   refine⟨x::cI,by simp[h1],fun j o' y hj hy=> ?_, ?_⟩
   ·cases j with
    |zero=>exact Nh
    |succ j=>
     have:=h2 j o' y od (by simpa using hy)
     exact NH
   ·rcases h3 with⟨h3,h4⟩|⟨v,wl,g1,g2,g3,g4,g5,g6⟩
    ·left
     refine⟨fun y hy=> ?_,by simpa[oO,Aj]using h4⟩
     rcases List.mem_cons.1 hy with rfl|hy
     ·exact hxo
     ·exact h3 y hy
    ·right
     refine⟨v,wl,fun j v' ws rd hj=> ?_, ?_,fun j hj=> ?_,by simpa[Aj]using g4,fun y hy id aq=> ?_,fun id aq=>g6 id (by simp only[List.flatMap_append,List.mem_append];exact .inl aq)⟩
     ·cases j with
      |zero=>simp at hj;rw[hj]at hxo;cases hxo
      |succ j=>exact g1 j v' ws rd od
     ·obtain⟨y,y1,y2⟩:=g2;exact⟨y,by simp[y1],y2⟩
     ·cases j with
      |zero=>simp at hj;rw[hj]at hxo;cases hxo
      |succ j=>
       obtain⟨i,i1,j',i2,y,i3,i4⟩:=g3 j od
       simp only[List.length_append,List.length_cons,List.length_nil]at i1 i2
       exact⟨i,by rw[show fp.length+(j+1)=fp.length+(0+1)+j by omega];exact i1,j'+1,ae,y,by simpa using i3,i4⟩
     ·rcases List.mem_cons.1 hy with rfl|hy
      ·exact g6 id (by simp only[List.flatMap_append,List.mem_append];exact .inr (by simpa using aq))
      ·exact g5 y hy id aq
  have bU:∀ (v:V) (ws rd:List Nat),VF P s fr o (.bU v ws rd)->jg P (KP v) pr l (fr+1) ⟨bf s.env o.dst .ag,s.o,s.nx⟩ (fp++[(rd,[])]) [fp.length] (ws++fp.flatMap (·.2))->Oo P K KP pr (o::l) fr s fp:=by
   intro v ws rd bp hr
   obtain⟨cI,h1,h2,h3,h4,wl,h5,h6,h7⟩:=Eg l (fr+1) _ _ _ _ hr
   refine⟨fP.bU v ws rd::cI,by simp[h1],fun j o' y hj hy=> ?_, .inr ⟨v,wl,fun j v' VI vJ hj=> ?_,⟨fP.bU v ws rd,aJ,rfl⟩,fun j hj=> ?_,by simpa[Aj,zj,l5]using h5,fun y hy id aq=> ?_,fun id aq=>h6 id (List.mem_append.2 (.inr aq))⟩⟩
   ·cases j with
    |zero=>exact Nh
    |succ j=>
     have:=h2 j o' y od (by simpa using hy)
     exact NH
   ·cases j with
    |zero=>simp at hj;obtain⟨rfl,rfl,rfl⟩:=hj;exact⟨rfl,fun id aq=>h6 id (List.mem_append.2 (.inl aq))⟩
    |succ j=>
     have hm:=List.mem_of_getElem? (show cI[j]? =some (.bU v' VI vJ) by simpa using hj)
     rcases h4 _ hm with h|h<;>cases h
   ·cases j with
    |zero=>simp at hj
    |succ j=>
     obtain⟨i,i1,i2⟩:=h3 j od
     simp only[List.length_append,List.length_cons,List.length_nil]at i1 i2
     refine⟨i,by rw[show fp.length+(j+1)=fp.length+(0+1)+j by omega];exact i1, ?_⟩
     rcases i2 with i2|⟨j',j1,j2,j3⟩
     ·exact⟨0,by simpa using i2,_,rfl,rfl⟩
     ·exact⟨j'+1,ae, .dG,by simpa using j3,rfl⟩
   ·rcases List.mem_cons.1 hy with rfl|hy
    ·simp[l5]at aq
    ·exact h7 y hy id aq
  have xj:eD s o.gd true->C4 P s fr o (fun v Δ rd=>l7 P K KP pr l (fr+1) ⟨bf s.env o.dst v,put s.o Δ,s.nx⟩ (fp++[(rd,Δ.map (·.1))]))
   (fun v ws rd=>jg P (KP v) pr l (fr+1) ⟨bf s.env o.dst .ag,s.o,s.nx⟩ (fp++[(rd,[])]) [fp.length] (ws++fp.flatMap (·.2)))->Oo P K KP pr (o::l) fr s fp:=fun hg h=>by
   rcases Ee h with⟨v,Δ,rd,fj,h⟩|⟨v,ws,rd,fj,h⟩
   ·exact step (.val v Δ rd) rfl ⟨hg,fj⟩ h
   ·exact bU v ws rd ⟨hg,fj⟩ h
  have skip:eD s o.gd false->l7 P K KP pr l (fr+1) ⟨bf s.env o.dst (.cc []),s.o,s.nx⟩ (fp++[([],[])])->Oo P K KP pr (o::l) fr s fp:=fun hg h=>step .skip rfl hg h
  simp only[l7]at h
  split at h
  ·rename_i hg;exact xj (by rw[hg];rfl) h
  ·rename_i d want hg
   split at h
   ·rename_i c hv
    split at h
    ·rename_i e;exact xj Ip h
    ·rename_i e;exact skip Ip h
   ·rename_i hv;exact skip (by rw[hg];simp[eD,hv]) h
   ·exact h.elim
end
end
section
def oP(env:Nat->V):List Nat->List V->Nat->V
 |t::ps,v::vs=>oP (au env t v) ps vs
 |_,_=>env
def BV(pr:List (List Nat))(m:Nat):Bool:=(List.range pr.length).all fun k=>Nat.blt k m||Nat.beq ((fb pr []).getD k 0) (2^k - 1)
def Oq(P:Program)(l:List b8)(pr:List (List Nat))(Q:fW->S->Prop)(s:S):Prop:=
 ∃m,m<=l.length/\BV pr m=true/\l7 P (fun s' fp=>eX pr fp=true/\qL P (fun v s=>Q (.bU v) s) (Q .normal) (l.drop m) ⟨s'.env,s'.o,s.nx+m⟩) (fun _ _ _=>False) pr (l.take m) s.nx s []
def vQ(P:Program)(n b:Nat)(rd:Bool):IC->(fW->S->Prop)->S->Prop
 | .skip,Q,s=>Q .normal s
 | .bA l,Q,s=>qL P (fun v s=>Q (.bU v) s) (Q .normal) l s
 | .dm l pr,Q,s=>l7 P (Hc pr (s.nx+l.length) Q) (Ed pr l s Q) pr l s.nx s []\/Oq P l pr Q s
 | .seq x y,Q,s=>vQ P n b rd x (rK (vQ P n b rd y Q) Q) s
 | .cond c x y,Q,s=>match s.ev c with
   | .d (.bool t)=>rV t (vQ P n b rd x Q s) (vQ P n b rd y Q s)
   | .fl=>vQ P n b rd x Q s/\vQ P n b rd y Q s
   |_=>False
 | .block id x,Q,s=>vQ P n b rd x (fZ id Q) s
 | .loop x,Q,s=>Oh b (vQ P n b rd x) Q s
 | .exit id,Q,s=>Q (.exit id) s
 | .ret,Q,s=>Q .ret s
 | .KG g ps x y,Q,s=>rd=false/\adR P n b g ps x y Q s
 | .bad,_,_=>False
section
variable {P:Program}{n b:Nat}{rd:Bool}
theorem xm:∀ (l:List b8) (cI:List fP) (s:S) (k:Nat) (o:b8) (x:fP),l[k]? =some o->cI[k]? =some x->oO l cI s (k+1)=yO o.dst x (oO l cI s k)
 |[],_,_,_,_,_,h,_=>by simp at h
 |o::l,[],_,_,_,_,_,h=>by simp at h
 |o::l,x::xs,s,0,o',x',h,h'=>by simp at h h';subst h;subst h';cases l<;>cases xs<;>rfl
 |o::l,x::xs,s,k+1,o',x',h,h'=>by
  simp only[oO]
  exact xm l xs _ k o' x' (by simpa using h) (by simpa using h')
theorem Ak(l:List b8)(cI:List fP)(s:S)(hl:cI.length=l.length):∀k,k<=l.length->fe (cq l) (fun i=>cI.getD i default) (fun _=>true) s k=oO l cI s k:=by
 intro k
 induction k with
 |zero=>intro _;cases l<;>cases cI<;>rfl
 |succ k ih=>
  intro hk
  have h1:l[k]? =some (cq l k):=by simp[cq,List.getD_eq_getElem?_getD,List.getElem?_eq_getElem (by omega:k<l.length)]
  have h2:cI[k]? =some (cI.getD k default):=by simp[List.getD_eq_getElem?_getD,List.getElem?_eq_getElem (by omega:k<cI.length)]
  simp only[fe,if_true,ih (by omega)]
  rw[xm l cI s k _ _ h1 h2]
theorem oQ{ops:Array Oper}:∀ (l:List Oper) (l':List b8),ml n ops l=some l'->l'.length=l.length
 |[],_,h=>by simp[ml]at h;subst h;rfl
 |o::l,l',h=>by
  simp only[ml]at h
  split at h
  ·rename_i hx;injection h with h;subst h;simp[oQ l _ hx]
  ·cases h
theorem Lq(bB:P.follows .mixedOrders=true){id:Nat}{ops:Array Oper}{l:List b8}{Q Q':fW->S->Prop}{s:S}(hQ:∀e s,Q e s->Q' e s)(pY:ml n ops ops.toList=some l)(ht:Bf l (iC ops)=true)
 (hp:Yi (iC ops)=true) (h:l7 P (Hc (iC ops) (s.nx+l.length) Q) (Ed (iC ops) l s Q) (iC ops) l s.nx s []):jW P n b rd (.region id ops true) Q' s:=by
 intro M cY H0 w0 cx φ a w ro k hs
 obtain⟨cI,hl,bp,iw⟩:=xk l _ _ _ h
 have hlen:l.length=ops.size:=by rw[oQ _ _ pY];simp
 have vk:∀k,k<ops.size->(iC ops).getD k []=bL ops k:=by
  intro k hk;simp[iC,List.getD_eq_getElem?_getD,List.getElem?_map,List.getElem?_range hk]
 have vL:(iC ops).length=ops.size:=by simp[iC]
 have fj:=Ak l cI s hl
 have Gl:∀k,k<ops.size->l[k]? =some (cq l k):=fun k hk=>by simp[cq,List.getD_eq_getElem?_getD,List.getElem?_eq_getElem (by omega:k<l.length)]
 have yM:∀k,k<ops.size->cI[k]? =some (cI.getD k default):=fun k hk=>by simp[List.getD_eq_getElem?_getD,List.getElem?_eq_getElem (by omega:k<cI.length)]
 have oD:∀k,k<ops.size->cI.getD k default∈cI:=fun k hk=>List.mem_of_getElem? (yM k hk)
 have RR:∀k,k<ops.size->(Aj cI)[k]? =some (zj (cI.getD k default),l5 (cI.getD k default)):=fun k hk=>by
  simp only[Aj,List.getElem?_map,yM k hk,Option.map_some]
 have YC:(Aj cI).length=ops.size:=by simp[Aj,hl,hlen]
 simp only[List.nil_append,List.length_nil,Nat.zero_add]at iw
 have wJ:eX (iC ops) (Aj cI)=true:=by
  rcases iw with⟨_,h⟩|⟨v,wl,_,_,_,h,_⟩
  ·exact h.1
  ·exact h.1
 have Lr:∀k,k<ops.size->∀j∈bL ops k,j<k:=fun k hk j hj=>by
  have:=List.all_eq_true.1 hp k (by simpa[vL]using hk)
  rw[vk k hk]at this
  simpa using List.all_eq_true.1 this j hj
 have Ot:∀k,k<(iC ops).length->∀j∈(iC ops).getD k [],j<k:=fun k hk j hj=>by
  rw[vL]at hk;rw[vk k hk]at hj;exact Lr k hk j hj
 let po:Nat->Nat->Prop:=fun k j=>((fb (iC ops) []).getD k 0).testBit j=true
 have Jb:∀E:Nat->Bool,(∀k,k<ops.size->E k=true->∀j∈bL ops k,E j=true)->∀k,k<ops.size->(∀j∈bL ops k,E j=true)->∀j,po k j->E j=true:=fun E hE k hk hj j hb=>
  rj Ot (fun k hk jV j hj=>by rw[vL]at hk;rw[vk k hk]at hj;exact hE k hk jV j hj) k (by rw[vL];exact hk) (by rw[vk k hk];exact hj) j hb
 have Eb:∀k,k<ops.size->∀j,po k j->j<k:=fun k hk j hb=>Dp Ot k (by rw[vL];exact hk) j hb
 have BW:∀i j,i<j->j<ops.size-> ¬po j i->Compat (cq l) (fun i=>cI.getD i default) (fun i=>zj (cI.getD i default)) i j:=by
  intro i j Sa hj hn
  have RA:=List.all_eq_true.1 (List.all_eq_true.1 ht j (by simpa[hlen]using hj)) i (by simpa using Sa)
  have wu:=List.all_eq_true.1 (List.all_eq_true.1 wJ j (by simpa[YC]using hj)) i (by simpa using Sa)
  have hnc:((fb (iC ops) []).getD j 0).testBit i=false:=by simpa[po]using hn
  rw[hnc,Bool.false_or]at RA wu
  simp only[Bool.and_eq_true]at RA wu
  have gi:=RR i ae
  have gj:=RR j hj
  simp only[List.getD_eq_getElem?_getD (l:=Aj cI),gi,gj,Option.getD_some]at wu
  have dj:∀ {xs ys:List Nat},lX xs ys=true->∀x∈xs,x∉ys:=fun h x hx=>by simpa using List.all_eq_true.1 h x hx
  have fo:∀ {x y:b8},tl x y=true->∀d,x.dst=some d->d∉fM y:=fun h d hd=>by simpa[tl,hd]using h
  exact acI
 have VJ:∀i,i<ops.size->VF P (fe (cq l) (fun i=>cI.getD i default) (fun _=>true) s i) (s.nx+i) (cq l i) (cI.getD i default):=fun i hi=>by
  rw[fj i (by omega)];exact bp i _ _ (Gl i hi) (yM i hi)
 have dh:∀i,i<ops.size->∀t,(cq l i).dst=some t->(dstsOf l).contains t=true:=fun i hi t ht=>by
  simp only[List.contains_iff_mem,dstsOf,List.mem_filterMap]
  exact⟨cq l i,List.mem_of_getElem? (Gl i hi),ht⟩
 rcases iw with⟨bu,iw⟩|⟨v,wl,q1,q2,q3,q4,q5,q6⟩
 ·refine Ea (ac:=fun i=>cI.getD i default) (dl:=dstsOf l) (wl:=(cI.flatMap l5)) bB pY Lr hs VJ (fun i hi hb=> ?_) Jb Eb BW dh (fun i hi id aq=> ?_) (fun i v ws vJ hi hb=> ?_) (fun _ φ a w j7=> ?_) (fun i v ws vJ hi hb=> ?_)
  ·have:=bu _ (oD i hi);rw[hb]at this;cases this
  ·simp only[List.contains_iff_mem,List.mem_flatMap];exact⟨_,oD i hi,aq⟩
  ·have:=bu _ (oD i hi);rw[hb]at this;cases this
  ·rw[fj ops.size (by omega), <- hlen]at j7
   exact⟨.normal,_,φ,hQ _ _ iw.2,j7,trivial⟩
  ·have:=bu _ (oD i hi);rw[hb]at this;cases this
 ·refine Ea (ac:=fun i=>cI.getD i default) (dl:=dstsOf l) (wl:=wl) bB pY Lr hs VJ (fun i hi hb=> ?_) Jb Eb BW dh (fun i hi id aq=> ?_) (fun i v' ws vJ hi hb=> ?_) (fun bu φ a w j7=> ?_) (fun i v' ws vJ hi hb φ a w val j7 hd=> ?_)
  ·obtain⟨j,j1,j',e,y,j3,j4⟩:=q3 i Nn
   rw[vk i hi,e]at j1
   refine⟨j',j1, ?_⟩
   simp only[List.getD_eq_getElem?_getD,j3,Option.getD_some,j4]
  ·simp only[List.contains_iff_mem];exact q5 _ (oD i hi) id aq
  ·intro id aq
   simp only[List.contains_iff_mem]
   exact(q1 i v' ws vJ Nn).2 id aq
  ·obtain⟨x,x1,x2⟩:=q2
   obtain⟨i,II,Yk⟩:=List.getElem_of_mem x1
   have hi:i<ops.size:=ae
   have:=bu i hi
   have e:cI.getD i default=x:=by simp[List.getD_eq_getElem?_getD,List.getElem?_eq_getElem II,Yk]
   rw[e,x2]at this;cases this
  ·have e:=(q1 i v' ws vJ Nn).1
   subst e
   rw[<- hlen]at j7 hd
   exact⟨.bU v',_,φ,hQ _ _ q4.2,j7,val,rfl,hd⟩
theorem Al{ops:Array Oper}:∀ (l:List Oper) (l':List b8) (m:Nat),ml n ops l=some l'->ml n ops (l.drop m)=some (l'.drop m)
 |l,l',0,h=>h
 |[],l',m+1,h=>by simp[ml]at h;subst h;simp[ml]
 |o::l,l',m+1,h=>by
  simp only[ml]at h
  split at h
  ·rename_i x xs hx Gy
   injection h with h;subst h
   exact Al l xs m Gy
  ·cases h
theorem Ou{l:List b8}{ac:Nat->fP}{E:Nat->Bool}{s:S}{m:Nat}:∀k,k<=m->fe (cq l) ac E s k=fe (cq (l.take m)) ac E s k:=by
 intro k
 induction k with
 |zero=>intro _;rfl
 |succ k ih=>
  intro hk
  have:cq l k=cq (l.take m) k:=by simp[cq,List.getD_eq_getElem?_getD,List.getElem?_take,(by omega:k<m)]
  simp only[fe,ih (by omega),this]
theorem Hd(bB:P.follows .mixedOrders=true){id:Nat}{ops:Array Oper}{l:List b8}{Q Q':fW->S->Prop}{s:S}(hQ:∀e s,Q e s->Q' e s)(pY:ml n ops ops.toList=some l)(ht:Bf l (iC ops)=true)
 (hp:Yi (iC ops)=true) (h:Oq P l (iC ops) Q s):jW P n b rd (.region id ops true) Q' s:=by
 intro M cY H0 w0 cx φ a w ro k hs
 obtain⟨m,IU,Sb,h⟩:=h
 obtain⟨cI,hl,bp,iw⟩:=xk (l.take m) _ _ _ h
 have hlm:(l.take m).length=m:=by rw[List.length_take];omega
 have hlen:l.length=ops.size:=by rw[oQ _ _ pY];simp
 have iw:=iw.resolve_right (fun⟨_,_,_,_,_,q4,_,_⟩=>q4)
 obtain⟨bu,iw⟩:=iw
 have Yr:cI.length=m:=ae
 have vk:∀k,k<ops.size->(iC ops).getD k []=bL ops k:=by
  intro k hk;simp[iC,List.getD_eq_getElem?_getD,List.getElem?_map,List.getElem?_range hk]
 have vL:(iC ops).length=ops.size:=by simp[iC]
 have fj:∀k,k<=m->fe (cq l) (fun i=>cI.getD i default) (fun _=>true) s k=oO (l.take m) cI s k:=fun k hk=>by
  rw[Ou k hk];exact Ak (l.take m) cI s hl k ae
 have Gl:∀k,k<m->(l.take m)[k]? =some (cq l k):=fun k hk=>by
  rw[List.getElem?_take,if_pos hk]
  simp[cq,List.getD_eq_getElem?_getD,List.getElem?_eq_getElem (by omega:k<l.length)]
 have yM:∀k,k<m->cI[k]? =some (cI.getD k default):=fun k hk=>by simp[List.getD_eq_getElem?_getD,List.getElem?_eq_getElem (by omega:k<cI.length)]
 have oD:∀k,k<m->cI.getD k default∈cI:=fun k hk=>List.mem_of_getElem? (yM k hk)
 have RR:∀k,k<m->(Aj cI)[k]? =some (zj (cI.getD k default),l5 (cI.getD k default)):=fun k hk=>by
  simp only[Aj,List.getElem?_map,yM k hk,Option.map_some]
 have YC:(Aj cI).length=m:=by simp[Aj,Yr]
 simp only[List.nil_append]at iw
 obtain⟨wJ,Sc⟩:=iw
 have Lr:∀k,k<ops.size->∀j∈bL ops k,j<k:=fun k hk j hj=>by
  have:=List.all_eq_true.1 hp k (by simpa[vL]using hk)
  rw[vk k hk]at this
  simpa using List.all_eq_true.1 this j hj
 have Ot:∀k,k<(iC ops).length->∀j∈(iC ops).getD k [],j<k:=fun k hk j hj=>by
  rw[vL]at hk;rw[vk k hk]at hj;exact Lr k hk j hj
 let po:Nat->Nat->Prop:=fun k j=>((fb (iC ops) []).getD k 0).testBit j=true
 have Jb:∀E:Nat->Bool,(∀k,k<ops.size->E k=true->∀j∈bL ops k,E j=true)->∀k,k<ops.size->(∀j∈bL ops k,E j=true)->∀j,po k j->E j=true:=fun E hE k hk hj j hb=>
  rj Ot (fun k hk jV j hj=>by rw[vL]at hk;rw[vk k hk]at hj;exact hE k hk jV j hj) k (by rw[vL];exact hk) (by rw[vk k hk];exact hj) j hb
 have Eb:∀k,k<ops.size->∀j,po k j->j<k:=fun k hk j hb=>Dp Ot k (by rw[vL];exact hk) j hb
 have BW:∀i j,i<j->j<m-> ¬po j i->Compat (cq l) (fun i=>cI.getD i default) (fun i=>zj (cI.getD i default)) i j:=by
  intro i j Sa hj hn
  have RA:=List.all_eq_true.1 (List.all_eq_true.1 ht j iA) i (by simpa using Sa)
  have wu:=List.all_eq_true.1 (List.all_eq_true.1 wJ j (by simpa[YC]using hj)) i (by simpa using Sa)
  have hnc:((fb (iC ops) []).getD j 0).testBit i=false:=by simpa[po]using hn
  rw[hnc,Bool.false_or]at RA wu
  simp only[Bool.and_eq_true]at RA wu
  have gi:=RR i ae
  have gj:=RR j hj
  simp only[List.getD_eq_getElem?_getD (l:=Aj cI),gi,gj,Option.getD_some]at wu
  have dj:∀ {xs ys:List Nat},lX xs ys=true->∀x∈xs,x∉ys:=fun h x hx=>by simpa using List.all_eq_true.1 h x hx
  have fo:∀ {x y:b8},tl x y=true->∀d,x.dst=some d->d∉fM y:=fun h d hd=>by simpa[tl,hd]using h
  exact acI
 have htl:∀k,m<=k->k<ops.size->∀j,j<k->po k j:=fun k hmk hk j hj=>by
  have:=List.all_eq_true.1 Sb k (by simpa[vL]using hk)
  simp only[Bool.or_eq_true]at this
  rcases this with this|this
  ·exact absurd (Nat.blt_eq.mp this) ae
  ·show((fb (iC ops) []).getD k 0).testBit j=true
   rw[Nat.eq_of_beq_eq_true this,Nat.testBit_two_pow_sub_one]
   exact decide_eq_true hj
 refine Hb (ac:=fun i=>cI.getD i default) (m:=m) (X:=fun v s=>Q' (.bU v) s) (K:=Q' .normal) bB pY Lr ae hs (fun i hi=> ?_) (fun i hi=>bu _ (oD i hi)) Jb Eb BW htl ?_ (fun s φ a w hk j7=>⟨.normal,s,φ,hk,j7,trivial⟩) (fun v s' aH a' w' val hx j7 hd=>⟨.bU v,s',aH,hx,j7,val,rfl,hd⟩)
 ·rw[fj i (by omega)];exact bp i _ _ (Gl i hi) (yM i hi)
 ·rw[fj m (Nat.le_refl _)]
  rw[hlm]at Sc
  exact ko (fun s hs=>hQ _ _ hs) (fun v s hs=>hQ _ _ hs) _ _ _ (Al _ _ m pY) Sc
theorem tN{g:V}{ps:List Nat}{x y:IC}{Q Q':fW->S->Prop}{s:S}(hQ:∀e s,Q e s->Q' e s)(h:DW P n g ps x y Q s):DW P n g ps x y Q' s:=by
 obtain⟨env,h1,h2⟩:=h
 refine⟨env,h1, ?_⟩
 split at h2
 ·refine qf.mono (fun v o n h=> ?_) (fun v o n h=>hQ _ _ h) h2
  obtain⟨nf,m,e,p,c,d,st,pd,k1,k2,k3⟩:=h
  refine⟨nf,m,e,p,c,d,st,pd,k1,k2, ?_⟩
  cases pd with
  |none=>exact hQ _ _ k3
  |some j=>cases j<;>exact hQ _ _ k3
 ·exact h2
theorem jh(bB:P.follows .mixedOrders=true):∀ (c:Code) (Q Q':fW->S->Prop) (s:S),(∀e s,Q e s->Q' e s)->vQ P n b rd (low n c) Q s->jW P n b rd c Q' s:=by
 intro c
 induction c with
 |skip=>exact fun Q Q' s hQ h=>hQ _ _ h
 |scope x ih=>exact fun Q Q' s hQ h=>ih Q Q' s hQ h
 |label l=>exact fun Q Q' s hQ h=>hQ _ _ h
 |exit id=>exact fun Q Q' s hQ h=>hQ _ _ h
 |ret=>exact fun Q Q' s hQ h=>hQ _ _ h
 |goto l=>exact fun Q Q' s hQ h=>h.elim
 |refuse y=>exact fun Q Q' s hQ h=>h.elim
 |rangeFunc f p x y=>
  intro Q Q' s hQ h
  obtain⟨h1,s',hle,h2⟩:=h
  exact⟨h1,s',hle,tN hQ h2⟩
 |region id ops draw=>
  intro Q Q' s hQ h
  cases draw with
  |true=>
   simp only[low]at h
   split at h
   ·rename_i l hl
    split at h
    ·rename_i hc
     simp only[Bool.and_eq_true]at hc
     rcases h with h|h
     ·exact Lq bB hQ hl hc.1 hc.2 h
     ·exact Hd bB hQ hl hc.1 hc.2 h
    ·exact h.elim
   ·exact h.elim
  |false=>
   simp only[low]at h
   split at h
   ·rename_i l hl;exact ko (fun s hs=>hQ _ _ hs) (fun v s hs=>hQ _ _ hs) _ l s hl h
   ·exact h.elim
 |seq x y R3 R4=>
  intro Q Q' s hQ h
  refine R3 _ _ s (fun e s he=> ?_) h
  cases e<;>first|exact R4 Q Q' s hQ he|exact hQ _ _ he
 |cond c x y R3 R4=>
  intro Q Q' s hQ h
  simp only[low,vQ]at h
  simp only[jW]
  split at h
  ·rename_i t hc
   simp only[hc]
   exact⟨fun ht=>R3 Q Q' s hQ (h.1 ht),fun ht=>R4 Q Q' s hQ (h.2 ht)⟩
  ·rename_i hc
   simp only[hc]
   exact⟨R3 Q Q' s hQ h.1,R4 Q Q' s hQ h.2⟩
  ·exact h.elim
 |block id x ih=>
  intro Q Q' s hQ h
  refine ih _ _ s (fun e s he=> ?_) h
  cases e<;>simp only[fZ]at he|- <;>first
   |exact hQ _ _ he
   |(split at he<;>rename_i e
     ·rw[if_pos e];exact hQ _ _ he
     ·rw[if_neg e];exact hQ _ _ he)
 |loop x ih=>
  intro Q Q' s hQ h
  obtain⟨J,h0,hr⟩:=h
  refine⟨J,h0,fun m s0 hJ=>ih _ _ s0 (fun e s he=> ?_) (hr m s0 hJ)⟩
  cases e<;>first|exact hQ _ _ he|exact he
structure aL (P:Program) (f:FuncId) (n:Nat) (ic:IC) (rs:List ResultVar):Prop where
 get:∃fn,P.funcs[f]? =some fn/\(fn.name== "runtime.NumGoroutine")=false/\fn.ntmps=n/\fn.results.toList=rs/\∃c,fn.body=some c/\low n c=ic
theorem cX.xn (bB:P.follows .mixedOrders=true){f:FuncId}{ic:IC}{rs:List ResultVar}(hf:aL P f n ic rs){args:List V}{o:Nat->aa}{nx:Nat}{K X:V->(Nat->aa)->Nat->Prop}(hl:args.length<=n)(h:vQ P n nx false ic (nk P rs K X) ⟨cR args,o,nx⟩):cX P f args o nx K X:=by
 obtain⟨fn,h1,h2,rfl,rfl,c,h3,rfl⟩:=hf.get
 exact cX.I6 h1 h2 h3 hl (jh bB c _ _ _ (fun _ _ h=>h) h)
theorem aW.xn (bB:P.follows .mixedOrders=true){f:FuncId}{ic:IC}{rs:List ResultVar}(hf:aL P f n ic rs){ds:List D}{out:R}(hl:ds.length<=n)(h:vQ P n 0 false ic (GN P rs out) ⟨cR (ds.map .d),fun _=> .no,0⟩):aW P f ds out:=by
 obtain⟨fn,h1,h2,rfl,rfl,c,h3,rfl⟩:=hf.get
 exact aW.jP (cX.I6 h1 h2 h3 (by simpa using hl) (jh bB c _ _ _ (fun e s h=>Le e s h) h))
end
end
def YD(f:Nat):Bool:=f==121
@[go_sem] theorem agP (f:Nat):YD f=(f==121):=rfl
def wdT(t:Nat):Bool:=t==125
@[go_sem] theorem ahG (t:Nat):wdT t=(t==125):=rfl
end Go.Proofs.YtnkamdiiakdkgaaGreat
