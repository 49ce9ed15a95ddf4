/-
  A PART OF THE PROOF. Conditions: none.
-/
import Derived.Test.YtealblliddhgiaaGreatVr7
set_option linter.unusedSimpArgs false
set_option linter.unusedVariables false
namespace Go.Proofs.YtealblliddhgiaaGreat
def qo(P:Program)(g:FuncId)(ds:List D)(Kf Kb KX:V->Prop):Prop:=
 (∃rs,cj P g ds (.ret rs)/\(Kf (iD rs)\/(D.jg rs=true/\Kb (iD rs))))\/(∃x,cj P g ds (.bK x)/\x.flat=true/\KX (.d x))\/(∃v,NF P g ds v/\Kf v)
def il(P:Program)(g:FuncId)(args:List V)(o:Nat->ae)(nx fr:Nat)(K:V->List (Nat×ae)->List Nat->Prop)(KX:V->List Nat->List Nat->Prop):Prop:=
 ∃rd Δ,rd.all (fun id=>decide (id<nx))=true/\((∃rs,zi P g args rd o (.ret rs) Δ/\K (iD rs) Δ rd)\/(∃x,zi P g args rd o (.bK x) Δ/\KX (.d x) (Δ.map (·.1)) rd)\/(∃v,zU P g args rd o fr v Δ/\K v Δ rd))
def wN(P:Program)(s:S)(fr:Nat)(o:b7)(K:V->List (Nat×ae)->List Nat->Prop)(KX:V->List Nat->List Nat->Prop):Prop:=
 match o.op with
 | .call c=>match c.callee with
   | .value f=>match s.ev f with
     | .func (.func g) first cap=>match bU s.o (first++c.args.toList.map s.ev++cap)with
       |some ds=>qo P g ds (fun v=>K v (ck s.o (V.a8 (first++c.args.toList.map s.ev++cap))) (iR s o.op)) (fun v=>K v [] (iR s o.op)) (fun v=>KX v [] (iR s o.op))\/il P g (first++c.args.toList.map s.ev++cap) s.o s.nx fr K KX
       |none=>il P g (first++c.args.toList.map s.ev++cap) s.o s.nx fr K KX
     |_=>False
   |_=>match fT P s fr o.op with
    |some (v,Δ,_)=>K v Δ (iR s o.op)
    |none=>False
 |op=>match fT P s fr op with
  |some (v,Δ,_)=>K v Δ (iR s o.op)
  |none=>False
abbrev Fp:=List (List Nat×List Nat)
def gI(P:Program)(KB:List Nat->Fp->Prop)(pr:List (List Nat)):List b7->Nat->S->Fp->List Nat->List Nat->Prop
 |[],_,_,fp,_,ws=>KB ws fp
 |o::l,fr,s,fp,bad,ws=>if(pr.getD fp.length []).any (fun j=>bad.contains j)=true then gI P KB pr l (fr+1) ⟨aY s.env o.dst .aa,s.o,s.nx⟩ (fp++[([],[])]) (bad++[fp.length]) ws
  else match o.gd with
  |none=>wN P s fr o (fun v Δ rd=>gI P KB pr l (fr+1) ⟨aY s.env o.dst v,put s.o Δ,s.nx⟩ (fp++[(rd,Δ.map (·.1))]) bad (ws++Δ.map (·.1))) (fun _ _ _=>False)
  |some (d,want)=>match s.env d with
   | .d (.bool b)=>if b=want then wN P s fr o (fun v Δ rd=>gI P KB pr l (fr+1) ⟨aY s.env o.dst v,put s.o Δ,s.nx⟩ (fp++[(rd,Δ.map (·.1))]) bad (ws++Δ.map (·.1))) (fun _ _ _=>False)
    else gI P KB pr l (fr+1) ⟨aY s.env o.dst (.bT []),s.o,s.nx⟩ (fp++[([],[])]) bad ws
   | .bT []=>gI P KB pr l (fr+1) ⟨aY s.env o.dst (.bT []),s.o,s.nx⟩ (fp++[([],[])]) bad ws
   |_=>False
def jW(P:Program)(K:S->Fp->Prop)(KP:V->List Nat->Fp->Prop)(pr:List (List Nat)):List b7->Nat->S->Fp->Prop
 |[],_,s,fp=>K s fp
 |o::l,fr,s,fp=>match o.gd with
  |none=>wN P s fr o (fun v Δ rd=>jW P K KP pr l (fr+1) ⟨aY s.env o.dst v,put s.o Δ,s.nx⟩ (fp++[(rd,Δ.map (·.1))]))
   (fun v ws rd=>gI P (KP v) pr l (fr+1) ⟨aY s.env o.dst .aa,s.o,s.nx⟩ (fp++[(rd,[])]) [fp.length] (ws++fp.flatMap (·.2)))
  |some (d,want)=>match s.env d with
   | .d (.bool b)=>if b=want then wN P s fr o (fun v Δ rd=>jW P K KP pr l (fr+1) ⟨aY s.env o.dst v,put s.o Δ,s.nx⟩ (fp++[(rd,Δ.map (·.1))]))
         (fun v ws rd=>gI P (KP v) pr l (fr+1) ⟨aY s.env o.dst .aa,s.o,s.nx⟩ (fp++[(rd,[])]) [fp.length] (ws++fp.flatMap (·.2)))
    else jW P K KP pr l (fr+1) ⟨aY s.env o.dst (.bT []),s.o,s.nx⟩ (fp++[([],[])])
   | .bT []=>jW P K KP pr l (fr+1) ⟨aY s.env o.dst (.bT []),s.o,s.nx⟩ (fp++[([],[])])
   |_=>False
def Ab(pr:List (List Nat))(nx:Nat)(Q:e9->S->Prop)(s:S)(fp:Fp):Prop:=et pr fp=true/\Q .normal ⟨s.env,s.o,nx⟩
def dstsOf(l:List b7):List Nat:=l.filterMap (·.dst)
def xR(pr:List (List Nat))(l:List b7)(s0:S)(Q:e9->S->Prop)(v:V)(wl:List Nat)(fp:Fp):Prop:=et pr fp=true/\Q (.bK v) (rV (dstsOf l) wl l.length s0)
def mi:List b7->List eU->S->Nat->S
 |_,_,s,0=>s
 |o::l,x::xs,s,j+1=>mi l xs (tu o.dst x s) j
 |_,_,s,_=>s
def uA(bY:List eU):Fp:=bY.map fun x=>(tG x,jU x)
section
variable {P:Program}{n b:Nat}
theorem xS{s:S}{fr:Nat}{o:b7}{K:V->List (Nat×ae)->List Nat->Prop}{KX:V->List Nat->List Nat->Prop}(h:wN P s fr o K KX):(∃v Δ rd,uw P s fr o.op v Δ rd/\K v Δ rd)\/(∃v ws rd,xJ P s o.op v ws rd/\KX v ws rd):=by
 have hs:∀ {op:Op},o.op=op->(match fT P s fr op with|some (v,Δ,_)=>K v Δ (iR s o.op)|none=>False)->(∃v Δ rd,uw P s fr o.op v Δ rd/\K v Δ rd):=by
  intro op dw h
  split at h
  ·rename_i v Δ rd he;exact⟨v,Δ,_, .inl ⟨⟨rd,by rw[dw];exact he⟩,rfl⟩,h⟩
  ·exact h.elim
 unfold wN at h
 split at h
 ·rename_i c hc
  split at h
  ·rename_i f dU
   split at h
   ·rename_i g first cap hf
    split at h
    ·rename_i ds eM
     rcases h with(⟨rs,hP,h|⟨kS,h⟩⟩|⟨x,hP,kS,h⟩|⟨v,hP,h⟩)|⟨rd,Δ,lZ,⟨rs,hH,h⟩|⟨x,hH,h⟩|⟨v,hH,h⟩⟩
     ·exact .inl ⟨_,_,_, .inr ⟨c,f,g,first,cap,hc,dU,hf, .inl ⟨ds,rs,eM,hP,rfl,rfl, .inl rfl⟩⟩,h⟩
     ·exact .inl ⟨_,_,_, .inr ⟨c,f,g,first,cap,hc,dU,hf, .inl ⟨ds,rs,eM,hP,rfl,rfl, .inr ⟨kS,rfl⟩⟩⟩,h⟩
     ·exact .inr ⟨_,_,_,⟨c,f,g,first,cap,hc,dU,hf, .inl ⟨ds,x,eM,hP,kS,rfl,rfl,rfl⟩⟩,h⟩
     ·exact .inl ⟨_,_,_, .inr ⟨c,f,g,first,cap,hc,dU,hf, .inr (.inr (.inl ⟨ds,eM,hP,rfl,rfl⟩))⟩,h⟩
     ·exact .inl ⟨_,_,_, .inr ⟨c,f,g,first,cap,hc,dU,hf, .inr (.inl ⟨rs,hH,rfl,fun id aj=>by simpa using List.all_eq_true.1 lZ id aj⟩)⟩,h⟩
     ·exact .inr ⟨_,_,_,⟨c,f,g,first,cap,hc,dU,hf, .inr ⟨x,Δ,hH,rfl,rfl,fun id aj=>by simpa using List.all_eq_true.1 lZ id aj⟩⟩,h⟩
     ·exact .inl ⟨_,_,_, .inr ⟨c,f,g,first,cap,hc,dU,hf, .inr (.inr (.inr ⟨hH,fun id aj=>by simpa using List.all_eq_true.1 lZ id aj⟩))⟩,h⟩
    ·obtain⟨rd,Δ,lZ,⟨rs,hH,h⟩|⟨x,hH,h⟩|⟨v,hH,h⟩⟩:=h
     ·exact .inl ⟨_,_,_, .inr ⟨c,f,g,first,cap,hc,dU,hf, .inr (.inl ⟨rs,hH,rfl,fun id aj=>by simpa using List.all_eq_true.1 lZ id aj⟩)⟩,h⟩
     ·exact .inr ⟨_,_,_,⟨c,f,g,first,cap,hc,dU,hf, .inr ⟨x,Δ,hH,rfl,rfl,fun id aj=>by simpa using List.all_eq_true.1 lZ id aj⟩⟩,h⟩
     ·exact .inl ⟨_,_,_, .inr ⟨c,f,g,first,cap,hc,dU,hf, .inr (.inr (.inr ⟨hH,fun id aj=>by simpa using List.all_eq_true.1 lZ id aj⟩))⟩,h⟩
   ·exact h.elim
  ·rw[hc]at h;exact .inl (hs hc (by rw[hc];exact h))
 ·exact .inl (hs rfl h)
def GZ(P:Program)(KB:List Nat->Fp->Prop)(pr:List (List Nat))(l:List b7)(fr:Nat)(s:S)(fp:Fp)(bad ws:List Nat):Prop:=
    ∃bY:List eU,bY.length=l.length/\(∀j o x,l[j]? =some o->bY[j]? =some x->ID P (mi l bY s j) (fr+j) o x)/\
     (∀ (j:Nat),bY[j]? =some eU.eC->∃i∈pr.getD (fp.length+j) [],i∈bad\/∃j',j'<j/\i=fp.length+j'/\bY[j']? =some .eC)/\(∀x∈bY,x= .eC\/x.ok=true)/\
     ∃wl,KB wl (fp++uA bY)/\(∀id∈ws,id∈wl)/\∀x∈bY,∀id∈jU x,id∈wl
theorem xT{KB:List Nat->Fp->Prop}{pr:List (List Nat)}:∀ (l:List b7) (fr:Nat) (s:S) (fp:Fp) (bad ws:List Nat),gI P KB pr l fr s fp bad ws->GZ P KB pr l fr s fp bad ws
 |[],fr,s,fp,bad,ws,h=>⟨[],rfl,fun j o x hj=>by simp at hj,fun j hj=>by simp at hj,fun x hx=>by simp at hx,ws,by simpa[uA,gI]using h,fun _ h=>h,fun x hx=>by simp at hx⟩
 |o::l,fr,s,fp,bad,ws,h=>by
  have step:∀ (x:eU) (G0 IG:List Nat),ID P s fr o x->gI P KB pr l (fr+1) (tu o.dst x s) (fp++[(tG x,jU x)]) G0 IG->(x= .eC\/x.ok=true)->(x= .eC->∃i∈pr.getD fp.length [],i∈bad)->
   (∀i∈G0,i∈bad\/(i=fp.length/\x= .eC))->(∀id∈ws,id∈IG)->(∀id∈jU x,id∈IG)->
   GZ P KB pr (o::l) fr s fp bad ws:=by
   intro x G0 IG bz hr XZ J0 J3 GX hW
   obtain⟨bY,h1,h2,h3,h4,wl,h5,h6,h7⟩:=xT l (fr+1) _ _ G0 IG hr
   refine⟨x::bY,by simp[h1],fun j o' y hj hy=> ?_,fun j hj=> ?_,fun y hy=> ?_,wl,by simpa[uA]using h5,fun id aj=>h6 id (GX id aj),fun y hy id aj=> ?_⟩
   ·cases j with
    |zero=>simp at hj hy;subst hj;subst hy;exact bz
    |succ j=>
     have:=h2 j o' y (by simpa using hj) (by simpa using hy)
     rw[show fr+(j+1)=fr+1+j by omega]
     exact this
   ·cases j with
    |zero=>
     simp at hj
     obtain⟨i,i1,i2⟩:=J0 hj
     exact⟨i,by simpa using i1, .inl i2⟩
    |succ j=>
     obtain⟨i,i1,i2⟩:=h3 j (by simpa using hj)
     simp only[List.length_append,List.length_cons,List.length_nil]at i1 i2
     refine⟨i,by rw[show fp.length+(j+1)=fp.length+(0+1)+j by omega];exact i1, ?_⟩
     rcases i2 with i2|⟨j',j1,j2,j3⟩
     ·rcases J3 i i2 with hb|⟨e1,e2⟩
      ·exact .inl hb
      ·exact .inr ⟨0,by omega,by omega,by simp[e2]⟩
     ·exact .inr ⟨j'+1,by omega,by omega,by simpa using j3⟩
   ·rcases List.mem_cons.1 hy with rfl|hy
    ·exact XZ
    ·exact h4 y hy
   ·rcases List.mem_cons.1 hy with rfl|hy
    ·exact h6 id (hW id aj)
    ·exact h7 y hy id aj
  simp only[gI]at h
  split at h
  ·rename_i hb
   obtain⟨j,X0,A5⟩:=List.any_eq_true.1 hb
   exact step .eC _ _ trivial h (.inl rfl) (fun _=>⟨j,X0,by simpa using A5⟩) (fun i hi=>by
    rcases List.mem_append.1 hi with hi|hi
    ·exact .inl hi
    ·exact .inr ⟨by simpa using hi,rfl⟩) (fun _ h=>h) (fun id aj=>by simp[jU]at aj)
  ·have rY:db s o.gd true->wN P s fr o (fun v Δ rd=>gI P KB pr l (fr+1) ⟨aY s.env o.dst v,put s.o Δ,s.nx⟩ (fp++[(rd,Δ.map (·.1))]) bad (ws++Δ.map (·.1))) (fun _ _ _=>False)->GZ P KB pr (o::l) fr s fp bad ws:=fun hg h=>by
    rcases xS h with⟨v,Δ,rd,qE,h⟩|⟨v,IG,rd,_,h⟩
    ·exact step (.val v Δ rd) bad (ws++Δ.map (·.1)) ⟨hg,qE⟩ h (.inr rfl) (fun h=>by cases h) (fun i hi=> .inl hi) (fun id aj=>List.mem_append.2 (.inl aj)) (fun id aj=>List.mem_append.2 (.inr aj))
    ·exact h.elim
   have skip:db s o.gd false->gI P KB pr l (fr+1) ⟨aY s.env o.dst (.bT []),s.o,s.nx⟩ (fp++[([],[])]) bad ws->GZ P KB pr (o::l) fr s fp bad ws:=fun hg h=>
    step .skip bad ws hg h (.inr rfl) (fun h=>by cases h) (fun i hi=> .inl hi) (fun id aj=>aj) (fun id aj=>by simp[jU]at aj)
   split at h
   ·rename_i hg;exact rY (by rw[hg];rfl) h
   ·rename_i d want hg
    split at h
    ·rename_i c hv
     split at h
     ·rename_i e;exact rY (by rw[hg];simp[db,hv,e]) h
     ·rename_i e;exact skip (by rw[hg];simp[db,hv,e]) h
    ·rename_i hv;exact skip (by rw[hg];simp[db,hv]) h
    ·exact h.elim
def EK(P:Program)(K:S->Fp->Prop)(KP:V->List Nat->Fp->Prop)(pr:List (List Nat))(l:List b7)(fr:Nat)(s:S)(fp:Fp):Prop:=
 ∃bY:List eU,bY.length=l.length/\(∀j o x,l[j]? =some o->bY[j]? =some x->ID P (mi l bY s j) (fr+j) o x)/\
  (((∀x∈bY,x.ok=true)/\K (mi l bY s l.length) (fp++uA bY))\/
   ∃v wl,(∀ (j:Nat) (v':V) (ws rd:List Nat),bY[j]? =some (eU.bK v' ws rd)->v'=v/\∀id∈ws,id∈wl)/\(∃x∈bY,x.ok=false)/\
    (∀ (j:Nat),bY[j]? =some eU.eC->∃i∈pr.getD (fp.length+j) [],∃j',i=fp.length+j'/\∃y,bY[j']? =some y/\y.ok=false)/\KP v wl (fp++uA bY)/\(∀x∈bY,∀id∈jU x,id∈wl)/\∀id∈fp.flatMap (·.2),id∈wl)
theorem rZ{K:S->Fp->Prop}{KP:V->List Nat->Fp->Prop}{pr:List (List Nat)}:∀ (l:List b7) (fr:Nat) (s:S) (fp:Fp),jW P K KP pr l fr s fp->EK P K KP pr l fr s fp
 |[],fr,s,fp,h=>⟨[],rfl,fun j o x hj=>by simp at hj, .inl ⟨fun x hx=>by simp at hx,by simpa[mi,uA,jW]using h⟩⟩
 |o::l,fr,s,fp,h=>by
  have step:∀ (x:eU),x.ok=true->ID P s fr o x->jW P K KP pr l (fr+1) (tu o.dst x s) (fp++[(tG x,jU x)])->EK P K KP pr (o::l) fr s fp:=by
   intro x NL bz hr
   obtain⟨bY,h1,h2,h3⟩:=rZ l (fr+1) _ _ hr
   refine⟨x::bY,by simp[h1],fun j o' y hj hy=> ?_, ?_⟩
   ·cases j with
    |zero=>simp at hj hy;subst hj;subst hy;exact bz
    |succ j=>
     have:=h2 j o' y (by simpa using hj) (by simpa using hy)
     rw[show fr+(j+1)=fr+1+j by omega]
     exact this
   ·rcases h3 with⟨h3,h4⟩|⟨v,wl,g1,g2,g3,g4,g5,g6⟩
    ·left
     refine⟨fun y hy=> ?_,by simpa[mi,uA]using h4⟩
     rcases List.mem_cons.1 hy with rfl|hy
     ·exact NL
     ·exact h3 y hy
    ·right
     refine⟨v,wl,fun j v' ws rd hj=> ?_, ?_,fun j hj=> ?_,by simpa[uA]using g4,fun y hy id aj=> ?_,fun id aj=>g6 id (by simp only[List.flatMap_append,List.mem_append];exact .inl aj)⟩
     ·cases j with
      |zero=>simp at hj;rw[hj]at NL;cases NL
      |succ j=>exact g1 j v' ws rd (by simpa using hj)
     ·obtain⟨y,y1,y2⟩:=g2;exact⟨y,by simp[y1],y2⟩
     ·cases j with
      |zero=>simp at hj;rw[hj]at NL;cases NL
      |succ j=>
       obtain⟨i,i1,j',i2,y,i3,i4⟩:=g3 j (by simpa using hj)
       simp only[List.length_append,List.length_cons,List.length_nil]at i1 i2
       exact⟨i,by rw[show fp.length+(j+1)=fp.length+(0+1)+j by omega];exact i1,j'+1,by omega,y,by simpa using i3,i4⟩
     ·rcases List.mem_cons.1 hy with rfl|hy
      ·exact g6 id (by simp only[List.flatMap_append,List.mem_append];exact .inr (by simpa using aj))
      ·exact g5 y hy id aj
  have bK:∀ (v:V) (ws rd:List Nat),ID P s fr o (.bK v ws rd)->gI P (KP v) pr l (fr+1) ⟨aY s.env o.dst .aa,s.o,s.nx⟩ (fp++[(rd,[])]) [fp.length] (ws++fp.flatMap (·.2))->EK P K KP pr (o::l) fr s fp:=by
   intro v ws rd bz hr
   obtain⟨bY,h1,h2,h3,h4,wl,h5,h6,h7⟩:=xT l (fr+1) _ _ _ _ hr
   refine⟨eU.bK v ws rd::bY,by simp[h1],fun j o' y hj hy=> ?_, .inr ⟨v,wl,fun j v' IG uu hj=> ?_,⟨eU.bK v ws rd,by simp,rfl⟩,fun j hj=> ?_,by simpa[uA,tG,jU]using h5,fun y hy id aj=> ?_,fun id aj=>h6 id (List.mem_append.2 (.inr aj))⟩⟩
   ·cases j with
    |zero=>simp at hj hy;subst hj;subst hy;exact bz
    |succ j=>
     have:=h2 j o' y (by simpa using hj) (by simpa using hy)
     rw[show fr+(j+1)=fr+1+j by omega]
     exact this
   ·cases j with
    |zero=>simp at hj;obtain⟨rfl,rfl,rfl⟩:=hj;exact⟨rfl,fun id aj=>h6 id (List.mem_append.2 (.inl aj))⟩
    |succ j=>
     have hm:=List.mem_of_getElem? (show bY[j]? =some (.bK v' IG uu) by simpa using hj)
     rcases h4 _ hm with h|h<;>cases h
   ·cases j with
    |zero=>simp at hj
    |succ j=>
     obtain⟨i,i1,i2⟩:=h3 j (by simpa using hj)
     simp only[List.length_append,List.length_cons,List.length_nil]at i1 i2
     refine⟨i,by rw[show fp.length+(j+1)=fp.length+(0+1)+j by omega];exact i1, ?_⟩
     rcases i2 with i2|⟨j',j1,j2,j3⟩
     ·exact⟨0,by simpa using i2,_,rfl,rfl⟩
     ·exact⟨j'+1,by omega, .eC,by simpa using j3,rfl⟩
   ·rcases List.mem_cons.1 hy with rfl|hy
    ·simp[jU]at aj
    ·exact h7 y hy id aj
  have rY:db s o.gd true->wN P s fr o (fun v Δ rd=>jW P K KP pr l (fr+1) ⟨aY s.env o.dst v,put s.o Δ,s.nx⟩ (fp++[(rd,Δ.map (·.1))]))
   (fun v ws rd=>gI P (KP v) pr l (fr+1) ⟨aY s.env o.dst .aa,s.o,s.nx⟩ (fp++[(rd,[])]) [fp.length] (ws++fp.flatMap (·.2)))->EK P K KP pr (o::l) fr s fp:=fun hg h=>by
   rcases xS h with⟨v,Δ,rd,qE,h⟩|⟨v,ws,rd,qE,h⟩
   ·exact step (.val v Δ rd) rfl ⟨hg,qE⟩ h
   ·exact bK v ws rd ⟨hg,qE⟩ h
  have skip:db s o.gd false->jW P K KP pr l (fr+1) ⟨aY s.env o.dst (.bT []),s.o,s.nx⟩ (fp++[([],[])])->EK P K KP pr (o::l) fr s fp:=fun hg h=>step .skip rfl hg h
  simp only[jW]at h
  split at h
  ·rename_i hg;exact rY (by rw[hg];rfl) h
  ·rename_i d want hg
   split at h
   ·rename_i c hv
    split at h
    ·rename_i e;exact rY (by rw[hg];simp[db,hv,e]) h
    ·rename_i e;exact skip (by rw[hg];simp[db,hv,e]) h
   ·rename_i hv;exact skip (by rw[hg];simp[db,hv]) h
   ·exact h.elim
end
end Go.Proofs.YtealblliddhgiaaGreat
namespace Go.Proofs.YtealblliddhgiaaGreat
def sc(env:Nat->V):List Nat->List V->Nat->V
 |t::ps,v::vs=>sc (ao env t v) ps vs
 |_,_=>env
def EL(pr:List (List Nat))(m:Nat):Bool:=(List.range pr.length).all fun k=>Nat.blt k m||Nat.beq ((dY pr []).getD k 0) (2^k - 1)
def EM(P:Program)(l:List b7)(pr:List (List Nat))(Q:e9->S->Prop)(s:S):Prop:=
 ∃m,m<=l.length/\EL pr m=true/\jW P (fun s' fp=>et pr fp=true/\nG P (fun v s=>Q (.bK v) s) (Q .normal) (l.drop m) ⟨s'.env,s'.o,s.nx+m⟩) (fun _ _ _=>False) pr (l.take m) s.nx s []
def qU(P:Program)(n b:Nat)(rd:Bool):IC->(e9->S->Prop)->S->Prop
 | .skip,Q,s=>Q .normal s
 | .af l,Q,s=>nG P (fun v s=>Q (.bK v) s) (Q .normal) l s
 | .cO l pr,Q,s=>jW P (Ab pr (s.nx+l.length) Q) (xR pr l s Q) pr l s.nx s []\/EM P l pr Q s
 | .seq x y,Q,s=>qU P n b rd x (oC (qU P n b rd y Q) Q) s
 | .cond c x y,Q,s=>match s.ev c with
   | .d (.bool t)=>oO t (qU P n b rd x Q s) (qU P n b rd y Q s)
   | .eO=>qU P n b rd x Q s/\qU P n b rd y Q s
   |_=>False
 | .block id x,Q,s=>qU P n b rd x (eW id Q) s
 | .loop x,Q,s=>EF b (qU P n b rd x) Q s
 | .exit id,Q,s=>Q (.exit id) s
 | .ret,Q,s=>Q .ret s
 | .B4 g ps x y,Q,s=>rd=false/\xy P n (s.ev g) ps x y Q s
 | .bad,_,_=>False
section
variable {P:Program}{n b:Nat}{rd:Bool}
theorem sd:∀ (l:List b7) (bY:List eU) (s:S) (k:Nat) (o:b7) (x:eU),l[k]? =some o->bY[k]? =some x->mi l bY s (k+1)=tu o.dst x (mi l bY s k)
 |[],_,_,_,_,_,h,_=>by simp at h
 |o::l,[],_,_,_,_,_,h=>by simp at h
 |o::l,x::xs,s,0,o',x',h,h'=>by simp at h h';subst h;subst h';cases l<;>cases xs<;>rfl
 |o::l,x::xs,s,k+1,o',x',h,h'=>by
  simp only[mi]
  exact sd l xs _ k o' x' (by simpa using h) (by simpa using h')
theorem uB(l:List b7)(bY:List eU)(s:S)(hl:bY.length=l.length):∀k,k<=l.length->ez (bR l) (fun i=>bY.getD i default) (fun _=>true) s k=mi l bY s k:=by
 intro k
 induction k with
 |zero=>intro _;cases l<;>cases bY<;>rfl
 |succ k ih=>
  intro hk
  have h1:l[k]? =some (bR l k):=by simp[bR,List.getD_eq_getElem?_getD,List.getElem?_eq_getElem (by omega:k<l.length)]
  have h2:bY[k]? =some (bY.getD k default):=by simp[List.getD_eq_getElem?_getD,List.getElem?_eq_getElem (by omega:k<bY.length)]
  simp only[ez,if_true,ih (by omega)]
  rw[sd l bY s k _ _ h1 h2]
theorem mj{ops:Array Oper}:∀ (l:List Oper) (l':List b7),j9 n ops l=some l'->l'.length=l.length
 |[],_,h=>by simp[j9]at h;subst h;rfl
 |o::l,l',h=>by
  simp only[j9]at h
  split at h
  ·rename_i hx;injection h with h;subst h;simp[mj l _ hx]
  ·cases h
theorem CL(ba:P.follows .mixedOrders=true){id:Nat}{ops:Array Oper}{l:List b7}{Q Q':e9->S->Prop}{s:S}(hQ:∀e s,Q e s->Q' e s)(mX:j9 n ops ops.toList=some l)(ht:vf l (fU ops)=true)
 (hp:JL (fU ops)=true) (h:jW P (Ab (fU ops) (s.nx+l.length) Q) (xR (fU ops) l s Q) (fU ops) l s.nx s []):iy P n b rd (.region id ops true) Q' s:=by
 intro M ct H0 w0 cx φ a w ro k hs
 obtain⟨bY,hl,bz,nI⟩:=rZ l _ _ _ h
 have hlen:l.length=ops.size:=by rw[mj _ _ mX];simp
 have pC:∀k,k<ops.size->(fU ops).getD k []=bw ops k:=by
  intro k hk;simp[fU,List.getD_eq_getElem?_getD,List.getElem?_map,List.getElem?_range hk]
 have zf:(fU ops).length=ops.size:=by simp[fU]
 have qE:=uB l bY s hl
 have uC:∀k,k<ops.size->l[k]? =some (bR l k):=fun k hk=>by simp[bR,List.getD_eq_getElem?_getD,List.getElem?_eq_getElem (by omega:k<l.length)]
 have oP:∀k,k<ops.size->bY[k]? =some (bY.getD k default):=fun k hk=>by simp[List.getD_eq_getElem?_getD,List.getElem?_eq_getElem (by omega:k<bY.length)]
 have nB:∀k,k<ops.size->bY.getD k default∈bY:=fun k hk=>List.mem_of_getElem? (oP k hk)
 have GI:∀k,k<ops.size->(uA bY)[k]? =some (tG (bY.getD k default),jU (bY.getD k default)):=fun k hk=>by
  simp only[uA,List.getElem?_map,oP k hk,Option.map_some]
 have J4:(uA bY).length=ops.size:=by simp[uA,hl,hlen]
 simp only[List.nil_append,List.length_nil,Nat.zero_add]at nI
 have rz:et (fU ops) (uA bY)=true:=by
  rcases nI with⟨_,h⟩|⟨v,wl,_,_,_,h,_⟩
  ·exact h.1
  ·exact h.1
 have CM:∀k,k<ops.size->∀j∈bw ops k,j<k:=fun k hk j hj=>by
  have:=List.all_eq_true.1 hp k (by simpa[zf]using hk)
  rw[pC k hk]at this
  simpa using List.all_eq_true.1 this j hj
 have EN:∀k,k<(fU ops).length->∀j∈(fU ops).getD k [],j<k:=fun k hk j hj=>by
  rw[zf]at hk;rw[pC k hk]at hj;exact CM k hk j hj
 let po:Nat->Nat->Prop:=fun k j=>((dY (fU ops) []).getD k 0).testBit j=true
 have Bg:∀E:Nat->Bool,(∀k,k<ops.size->E k=true->∀j∈bw ops k,E j=true)->∀k,k<ops.size->(∀j∈bw ops k,E j=true)->∀j,po k j->E j=true:=fun E hE k hk hj j hb=>
  nU EN (fun k hk gk j hj=>by rw[zf]at hk;rw[pC k hk]at hj;exact hE k hk gk j hj) k (by rw[zf];exact hk) (by rw[pC k hk];exact hj) j hb
 have xP:∀k,k<ops.size->∀j,po k j->j<k:=fun k hk j hb=>wP EN k (by rw[zf];exact hk) j hb
 have vS:∀i j,i<j->j<ops.size-> ¬po j i->Compat (bR l) (fun i=>bY.getD i default) (fun i=>tG (bY.getD i default)) i j:=by
  intro i j NM hj hn
  have Eh:=List.all_eq_true.1 (List.all_eq_true.1 ht j (by simpa[hlen]using hj)) i (by simpa using NM)
  have xz:=List.all_eq_true.1 (List.all_eq_true.1 rz j (by simpa[J4]using hj)) i (by simpa using NM)
  have SV:((dY (fU ops) []).getD j 0).testBit i=false:=by simpa[po]using hn
  rw[SV,Bool.false_or]at Eh xz
  simp only[Bool.and_eq_true]at Eh xz
  have gi:=GI i (by omega)
  have gj:=GI j hj
  simp only[List.getD_eq_getElem?_getD (l:=uA bY),gi,gj,Option.getD_some]at xz
  have dj:∀ {xs ys:List Nat},jR xs ys=true->∀x∈xs,x∉ys:=fun h x hx=>by simpa using List.all_eq_true.1 h x hx
  have fo:∀ {x y:b7},pq x y=true->∀d,x.dst=some d->d∉eN y:=fun h d hd=>by simpa[pq,hd]using h
  exact⟨fo Eh.1,fo Eh.2,fun id aj=>⟨dj xz.1.1 id aj,dj xz.1.2 id aj⟩,fun id aj=>dj xz.2 id aj⟩
 have II:∀i,i<ops.size->ID P (ez (bR l) (fun i=>bY.getD i default) (fun _=>true) s i) (s.nx+i) (bR l i) (bY.getD i default):=fun i hi=>by
  rw[qE i (by omega)];exact bz i _ _ (uC i hi) (oP i hi)
 have cJ:∀i,i<ops.size->∀t,(bR l i).dst=some t->(dstsOf l).contains t=true:=fun i hi t ht=>by
  simp only[List.contains_iff_mem,dstsOf,List.mem_filterMap]
  exact⟨bR l i,List.mem_of_getElem? (uC i hi),ht⟩
 rcases nI with⟨aO,nI⟩|⟨v,wl,q1,q2,q3,q4,q5,q6⟩
 ·refine xO (ac:=fun i=>bY.getD i default) (dl:=dstsOf l) (wl:=(bY.flatMap jU)) ba mX CM hs II (fun i hi hb=> ?_) Bg xP vS cJ (fun i hi id aj=> ?_) (fun i v ws uu hi hb=> ?_) (fun _ φ a w ij=> ?_) (fun i v ws uu hi hb=> ?_)
  ·have:=aO _ (nB i hi);rw[hb]at this;cases this
  ·simp only[List.contains_iff_mem,List.mem_flatMap];exact⟨_,nB i hi,aj⟩
  ·have:=aO _ (nB i hi);rw[hb]at this;cases this
  ·rw[qE ops.size (by omega), <- hlen]at ij
   exact⟨.normal,_,φ,hQ _ _ nI.2,ij,trivial⟩
  ·have:=aO _ (nB i hi);rw[hb]at this;cases this
 ·refine xO (ac:=fun i=>bY.getD i default) (dl:=dstsOf l) (wl:=wl) ba mX CM hs II (fun i hi hb=> ?_) Bg xP vS cJ (fun i hi id aj=> ?_) (fun i v' ws uu hi hb=> ?_) (fun aO φ a w ij=> ?_) (fun i v' ws uu hi hb φ a w val ij hd=> ?_)
  ·obtain⟨j,j1,j',e,y,j3,j4⟩:=q3 i (by rw[oP i hi];exact congrArg some hb)
   rw[pC i hi,e]at j1
   refine⟨j',j1, ?_⟩
   simp only[List.getD_eq_getElem?_getD,j3,Option.getD_some,j4]
  ·simp only[List.contains_iff_mem];exact q5 _ (nB i hi) id aj
  ·intro id aj
   simp only[List.contains_iff_mem]
   exact(q1 i v' ws uu (by rw[oP i hi];exact congrArg some hb)).2 id aj
  ·obtain⟨x,x1,x2⟩:=q2
   obtain⟨i,Gn,D5⟩:=List.getElem_of_mem x1
   have hi:i<ops.size:=by omega
   have:=aO i hi
   have e:bY.getD i default=x:=by simp[List.getD_eq_getElem?_getD,List.getElem?_eq_getElem Gn,D5]
   rw[e,x2]at this;cases this
  ·have e:=(q1 i v' ws uu (by rw[oP i hi];exact congrArg some hb)).1
   subst e
   rw[<- hlen]at ij hd
   exact⟨.bK v',_,φ,hQ _ _ q4.2,ij,val,rfl,hd⟩
theorem uD{ops:Array Oper}:∀ (l:List Oper) (l':List b7) (m:Nat),j9 n ops l=some l'->j9 n ops (l.drop m)=some (l'.drop m)
 |l,l',0,h=>h
 |[],l',m+1,h=>by simp[j9]at h;subst h;simp[j9]
 |o::l,l',m+1,h=>by
  simp only[j9]at h
  split at h
  ·rename_i x xs hx Ic
   injection h with h;subst h
   exact uD l xs m Ic
  ·cases h
theorem EO{l:List b7}{ac:Nat->eU}{E:Nat->Bool}{s:S}{m:Nat}:∀k,k<=m->ez (bR l) ac E s k=ez (bR (l.take m)) ac E s k:=by
 intro k
 induction k with
 |zero=>intro _;rfl
 |succ k ih=>
  intro hk
  have:bR l k=bR (l.take m) k:=by simp[bR,List.getD_eq_getElem?_getD,List.getElem?_take,(by omega:k<m)]
  simp only[ez,ih (by omega),this]
theorem Ac(ba:P.follows .mixedOrders=true){id:Nat}{ops:Array Oper}{l:List b7}{Q Q':e9->S->Prop}{s:S}(hQ:∀e s,Q e s->Q' e s)(mX:j9 n ops ops.toList=some l)(ht:vf l (fU ops)=true)
 (hp:JL (fU ops)=true) (h:EM P l (fU ops) Q s):iy P n b rd (.region id ops true) Q' s:=by
 intro M ct H0 w0 cx φ a w ro k hs
 obtain⟨m,GK,X1,h⟩:=h
 obtain⟨bY,hl,bz,nI⟩:=rZ (l.take m) _ _ _ h
 have X2:(l.take m).length=m:=by rw[List.length_take];omega
 have hlen:l.length=ops.size:=by rw[mj _ _ mX];simp
 have nI:=nI.resolve_right (fun⟨_,_,_,_,_,q4,_,_⟩=>q4)
 obtain⟨aO,nI⟩:=nI
 have JR:bY.length=m:=by omega
 have pC:∀k,k<ops.size->(fU ops).getD k []=bw ops k:=by
  intro k hk;simp[fU,List.getD_eq_getElem?_getD,List.getElem?_map,List.getElem?_range hk]
 have zf:(fU ops).length=ops.size:=by simp[fU]
 have qE:∀k,k<=m->ez (bR l) (fun i=>bY.getD i default) (fun _=>true) s k=mi (l.take m) bY s k:=fun k hk=>by
  rw[EO k hk];exact uB (l.take m) bY s hl k (by omega)
 have uC:∀k,k<m->(l.take m)[k]? =some (bR l k):=fun k hk=>by
  rw[List.getElem?_take,if_pos hk]
  simp[bR,List.getD_eq_getElem?_getD,List.getElem?_eq_getElem (by omega:k<l.length)]
 have oP:∀k,k<m->bY[k]? =some (bY.getD k default):=fun k hk=>by simp[List.getD_eq_getElem?_getD,List.getElem?_eq_getElem (by omega:k<bY.length)]
 have nB:∀k,k<m->bY.getD k default∈bY:=fun k hk=>List.mem_of_getElem? (oP k hk)
 have GI:∀k,k<m->(uA bY)[k]? =some (tG (bY.getD k default),jU (bY.getD k default)):=fun k hk=>by
  simp only[uA,List.getElem?_map,oP k hk,Option.map_some]
 have J4:(uA bY).length=m:=by simp[uA,JR]
 simp only[List.nil_append]at nI
 obtain⟨rz,G1⟩:=nI
 have CM:∀k,k<ops.size->∀j∈bw ops k,j<k:=fun k hk j hj=>by
  have:=List.all_eq_true.1 hp k (by simpa[zf]using hk)
  rw[pC k hk]at this
  simpa using List.all_eq_true.1 this j hj
 have EN:∀k,k<(fU ops).length->∀j∈(fU ops).getD k [],j<k:=fun k hk j hj=>by
  rw[zf]at hk;rw[pC k hk]at hj;exact CM k hk j hj
 let po:Nat->Nat->Prop:=fun k j=>((dY (fU ops) []).getD k 0).testBit j=true
 have Bg:∀E:Nat->Bool,(∀k,k<ops.size->E k=true->∀j∈bw ops k,E j=true)->∀k,k<ops.size->(∀j∈bw ops k,E j=true)->∀j,po k j->E j=true:=fun E hE k hk hj j hb=>
  nU EN (fun k hk gk j hj=>by rw[zf]at hk;rw[pC k hk]at hj;exact hE k hk gk j hj) k (by rw[zf];exact hk) (by rw[pC k hk];exact hj) j hb
 have xP:∀k,k<ops.size->∀j,po k j->j<k:=fun k hk j hb=>wP EN k (by rw[zf];exact hk) j hb
 have vS:∀i j,i<j->j<m-> ¬po j i->Compat (bR l) (fun i=>bY.getD i default) (fun i=>tG (bY.getD i default)) i j:=by
  intro i j NM hj hn
  have Eh:=List.all_eq_true.1 (List.all_eq_true.1 ht j (by simp;omega)) i (by simpa using NM)
  have xz:=List.all_eq_true.1 (List.all_eq_true.1 rz j (by simpa[J4]using hj)) i (by simpa using NM)
  have SV:((dY (fU ops) []).getD j 0).testBit i=false:=by simpa[po]using hn
  rw[SV,Bool.false_or]at Eh xz
  simp only[Bool.and_eq_true]at Eh xz
  have gi:=GI i (by omega)
  have gj:=GI j hj
  simp only[List.getD_eq_getElem?_getD (l:=uA bY),gi,gj,Option.getD_some]at xz
  have dj:∀ {xs ys:List Nat},jR xs ys=true->∀x∈xs,x∉ys:=fun h x hx=>by simpa using List.all_eq_true.1 h x hx
  have fo:∀ {x y:b7},pq x y=true->∀d,x.dst=some d->d∉eN y:=fun h d hd=>by simpa[pq,hd]using h
  exact⟨fo Eh.1,fo Eh.2,fun id aj=>⟨dj xz.1.1 id aj,dj xz.1.2 id aj⟩,fun id aj=>dj xz.2 id aj⟩
 have SW:∀k,m<=k->k<ops.size->∀j,j<k->po k j:=fun k YZ hk j hj=>by
  have:=List.all_eq_true.1 X1 k (by simpa[zf]using hk)
  simp only[Bool.or_eq_true]at this
  rcases this with this|this
  ·exact absurd (Nat.blt_eq.mp this) (by omega)
  ·show((dY (fU ops) []).getD k 0).testBit j=true
   rw[Nat.eq_of_beq_eq_true this,Nat.testBit_two_pow_sub_one]
   exact decide_eq_true hj
 refine Aa (ac:=fun i=>bY.getD i default) (m:=m) (X:=fun v s=>Q' (.bK v) s) (K:=Q' .normal) ba mX CM (by omega) hs (fun i hi=> ?_) (fun i hi=>aO _ (nB i hi)) Bg xP vS SW ?_ (fun s φ a w hk ij=>⟨.normal,s,φ,hk,ij,trivial⟩) (fun v s' ay a' w' val hx ij hd=>⟨.bK v,s',ay,hx,ij,val,rfl,hd⟩)
 ·rw[qE i (by omega)];exact bz i _ _ (uC i hi) (oP i hi)
 ·rw[qE m (Nat.le_refl _)]
  rw[X2]at G1
  exact iQ (fun s hs=>hQ _ _ hs) (fun v s hs=>hQ _ _ hs) _ _ _ (uD _ _ m mX) G1
theorem uE{g:V}{ps:List Nat}{x y:IC}{Q Q':e9->S->Prop}{s:S}(hQ:∀e s,Q e s->Q' e s)(h:xy P n g ps x y Q s):xy P n g ps x y Q' s:=by
 obtain⟨env,h1,h2⟩:=h
 refine⟨env,h1, ?_⟩
 split at h2
 ·refine ma.mono (fun v o n h=> ?_) (fun v o n h=>hQ _ _ h) h2
  obtain⟨nf,m,e,p,c,d,st,pd,k1,k2,k3⟩:=h
  refine⟨nf,m,e,p,c,d,st,pd,k1,k2, ?_⟩
  cases pd with
  |none=>exact hQ _ _ k3
  |some j=>cases j<;>exact hQ _ _ k3
 ·exact h2
theorem gJ(ba:P.follows .mixedOrders=true):∀ (c:Code) (Q Q':e9->S->Prop) (s:S),(∀e s,Q e s->Q' e s)->qU P n b rd (low n c) Q s->iy P n b rd c Q' s:=by
 intro c
 induction c with
 |skip=>exact fun Q Q' s hQ h=>hQ _ _ h
 |scope x ih=>exact fun Q Q' s hQ h=>ih Q Q' s hQ h
 |label l=>exact fun Q Q' s hQ h=>hQ _ _ h
 |exit id=>exact fun Q Q' s hQ h=>hQ _ _ h
 |ret=>exact fun Q Q' s hQ h=>hQ _ _ h
 |goto l=>exact fun Q Q' s hQ h=>h.elim
 |refuse y=>exact fun Q Q' s hQ h=>h.elim
 |rangeFunc f p x y=>exact fun Q Q' s hQ h=>⟨h.1,uE hQ h.2⟩
 |region id ops draw=>
  intro Q Q' s hQ h
  cases draw with
  |true=>
   simp only[low]at h
   split at h
   ·rename_i l hl
    split at h
    ·rename_i hc
     simp only[Bool.and_eq_true]at hc
     rcases h with h|h
     ·exact CL ba hQ hl hc.1 hc.2 h
     ·exact Ac ba hQ hl hc.1 hc.2 h
    ·exact h.elim
   ·exact h.elim
  |false=>
   simp only[low]at h
   split at h
   ·rename_i l hl;exact iQ (fun s hs=>hQ _ _ hs) (fun v s hs=>hQ _ _ hs) _ l s hl h
   ·exact h.elim
 |seq x y GU GV=>
  intro Q Q' s hQ h
  refine GU _ _ s (fun e s he=> ?_) h
  cases e<;>first|exact GV Q Q' s hQ he|exact hQ _ _ he
 |cond c x y GU GV=>
  intro Q Q' s hQ h
  simp only[low,qU]at h
  simp only[iy]
  split at h
  ·rename_i t hc
   simp only[hc]
   exact⟨fun ht=>GU Q Q' s hQ (h.1 ht),fun ht=>GV Q Q' s hQ (h.2 ht)⟩
  ·rename_i hc
   simp only[hc]
   exact⟨GU Q Q' s hQ h.1,GV Q Q' s hQ h.2⟩
  ·exact h.elim
 |block id x ih=>
  intro Q Q' s hQ h
  refine ih _ _ s (fun e s he=> ?_) h
  cases e<;>simp only[eW]at he|- <;>first
   |exact hQ _ _ he
   |(split at he<;>rename_i e
     ·rw[if_pos e];exact hQ _ _ he
     ·rw[if_neg e];exact hQ _ _ he)
 |loop x ih=>
  intro Q Q' s hQ h
  obtain⟨J,h0,hr⟩:=h
  refine⟨J,h0,fun m s0 hJ=>ih _ _ s0 (fun e s he=> ?_) (hr m s0 hJ)⟩
  cases e<;>first|exact hQ _ _ he|exact he
structure aN (P:Program) (f:FuncId) (n:Nat) (ic:IC) (rs:List ResultVar):Prop where
 get:∃fn,P.funcs[f]? =some fn/\(fn.name== "runtime.NumGoroutine")=false/\fn.ntmps=n/\fn.results.toList=rs/\∃c,fn.body=some c/\low n c=ic
theorem eI.se (ba:P.follows .mixedOrders=true){f:FuncId}{ic:IC}{rs:List ResultVar}(hf:aN P f n ic rs){args:List V}{o:Nat->ae}{nx:Nat}{K X:V->(Nat->ae)->Nat->Prop}(hl:args.length<=n)(h:qU P n nx false ic (lb P rs K X) ⟨cH args,o,nx⟩):eI P f args o nx K X:=by
 obtain⟨fn,h1,h2,rfl,rfl,c,h3,rfl⟩:=hf.get
 exact eI.Bb h1 h2 h3 hl (gJ ba c _ _ _ (fun _ _ h=>h) h)
theorem cj.se (ba:P.follows .mixedOrders=true){f:FuncId}{ic:IC}{rs:List ResultVar}(hf:aN P f n ic rs){ds:List D}{out:R}(hl:ds.length<=n)(h:qU P n 0 false ic (zH P rs out) ⟨cH (ds.map .d),fun _=> .no,0⟩):cj P f ds out:=by
 obtain⟨fn,h1,h2,rfl,rfl,c,h3,rfl⟩:=hf.get
 exact cj.lg (eI.Bb h1 h2 h3 (by simpa using hl) (gJ ba c _ _ _ (fun e s h=>CB e s h) h))
end
end Go.Proofs.YtealblliddhgiaaGreat
namespace Go.Proofs.YtealblliddhgiaaGreat
abbrev Fix(α:Type){β:Type}(_:β):Type:=α
def jH(K:V->List (Nat×ae)->Prop)(x:Fix (Option fW) K):Prop:=match x with|some (v,Δ,_)=>K v Δ|none=>False
@[go_sem] theorem J5 {v:V} {Δ:List (Nat×ae)} {rd:List Nat} {K}:jH K (some (v,Δ,rd))=K v Δ:=propext Iff.rfl
@[go_sem] theorem J6 {K}:jH K none=False:=propext Iff.rfl
def V.vT (c:Bool)(v:V):V:=if c=true then v else .bT []
@[go_sem] theorem NN (b:Bool):(!!b)=b:=by simp
attribute [go_sem] true_or or_true false_or ne_eq not_false_eq_true decide_true decide_false Bool.not_true Bool.not_false Bool.and_true Bool.true_and Bool.and_false Bool.false_and Bool.or_true Bool.true_or Bool.or_false Bool.false_or beq_self_eq_true Bool.true_eq_false Bool.false_eq_true not_true_eq_false and_true true_and and_false false_and eq_self
@[go_sem] theorem V.NO (v:V):V.vT true v=v:=rfl
@[go_sem] theorem V.L7 (v:V):V.vT false v= .bT []:=rfl
def lK(c:Bool)(p:Prop):Prop:=c=true->p
@[congr] theorem IJ {c c':Bool} {p p':Prop} (h:c=c') (h2:c'=true->p=p'):lK c p=lK c' p':=by
  subst h;cases c
  ·simp[lK]
  ·simp[lK,h2 rfl]
@[go_sem] theorem J7 (p:Prop):lK true p=p:=by simp[lK]
@[go_sem] theorem IK (p:Prop):lK false p=True:=by simp[lK]
@[go_sem] theorem J8 (a:Bool):lK a True=True:=by simp[lK]
def lL(v:V)(want:Bool):Option Bool:=
 match v with
 | .d (.bool b)=>some (b==want)
 | .bT []=>some false
 |_=>none
@[go_sem] theorem J9 (b:Bool):lL (.d (.bool b)) true=some b:=by simp[lL]
@[go_sem] theorem IL (b:Bool):lL (.d (.bool b)) false=some (!b):=by simp[lL]
@[go_sem] theorem NP (want:Bool):lL (.bT []) want=some false:=rfl
@[go_sem] theorem L8 (c b want:Bool):lL (V.vT c (.d (.bool b))) want=some (c&&(b==want)):=by cases c<;>simp[lL,V.vT]
@[go_sem] theorem Ka (c b e want:Bool):lL (V.vT c (V.vT e (.d (.bool b)))) want=some (c&&e&&(b==want)):=by cases c<;>cases e<;>simp[lL,V.vT]
def jX(c:Bool)(x:Option fW):Option fW:=
 if c=true then(match x with|some (v,[],_)=>some (v,[],[])|_=>none)else some (.bT [],[],[])
@[congr] theorem G2 {c c':Bool} {x x':Option fW} (h:c=c') (h2:c'=true->x=x'):jX c x=jX c' x':=by
  subst h;cases c
  ·rfl
  ·simp[jX,h2 rfl]
def L9(v:V)(rd:List Nat):Option fW:=some (v,[],rd)
@[go_sem] theorem SX (v:V) (rd:List Nat):(some (v,[],rd):Option fW)=L9 v rd:=by unfold L9;exact Eq.trans rfl rfl
@[go_sem] theorem Kc (c:Bool) (v:V) (rd:List Nat):jX c (L9 v rd)=L9 (V.vT c v) []:=by cases c<;>rfl
@[go_sem] theorem Ma {v:V} {rd:List Nat} {K}:jH K (L9 v rd)=K v []:=propext Iff.rfl
@[go_sem] theorem IM (c:Bool) (v:V) (rd:List Nat):jX c (some (v,[],rd))=some (V.vT c v,[],[]):=by cases c<;>rfl
@[go_sem] theorem G3 (x:Option fW):jX false x=some (.bT [],[],[]):=rfl
@[go_sem] theorem NQ (b x:Bool):oI (.d (.bool b)) (V.vT b (.d (.bool x))) (.d (.bool false))=some (.d (.bool (b&&x))):=by cases b<;>rfl
@[go_sem] theorem Rz (b x:Bool):oI (.d (.bool b)) (.d (.bool true)) (V.vT (!b) (.d (.bool x)))=some (.d (.bool (b||x))):=by cases b<;>rfl
@[go_sem] theorem NR (b x:Bool):oI (.d (.bool (!b))) (.d (.bool true)) (V.vT b (.d (.bool x)))=some (.d (.bool (!b||x))):=by cases b<;>rfl
@[go_sem] theorem Mb (x y:V):oI (.d (.bool true)) x y=some x:=rfl
@[go_sem] theorem Kd (x y:V):oI (.d (.bool false)) x y=some y:=rfl
@[reducible] def jY:Op->Bool
  | .move _| .assign _| .pick .. | .load .. | .binOp .. | .unOp .. | .nilCheck _| .convert .. | .makeInterface .. | .makeFunc .. | .fieldAddr .. | .indexAddr .. | .extract .. | .build .. | .index .. | .field .. | .lookup .. =>true
  | .call c=>match c.callee with
    | .builtin .len=>true
    | .builtin .min=>true
    | .builtin .max=>true
    |_=>false
  |_=>false
def xU(P:Program)(f:V)(args:List V)(o:Nat->ae)(rs:List D):Prop:=
 match f with
 | .func (.func g) first cap=>match bU o (first++args++cap)with
   |some ds=>cj P g ds (.ret rs)/\D.jg rs=true
   |none=>False
 |_=>False
def Bi(P:Program)(f:V)(args:List V)(o:Nat->ae)(K:V->Prop)(c:Fix Bool (f,args,o,K)):Prop:=
 ∃rs,lK c (xU P f args o rs)/\K (V.vT c (iD rs))
def xV(P:Program)(g:FuncId)(nx:Nat)(K X:V->(Nat->ae)->Nat->Prop)(args:Fix (List V) (K,X))(o:Fix (Nat->ae) (K,X)):Prop:=qi P g args o nx K X
def si(P:Program)(g:FuncId)(o:Nat->ae)(nx:Nat)(K X:V->(Nat->ae)->Nat->Prop)(ds:Fix (List D) (o,nx,K,X))(all:Fix (List V) (o,nx,K,X)):Prop:=
 uv P g ds o (put o (ck o (V.a8 all))) (put o (qC o (V.a8 all))) (fun v o'=>K v o' (nx+1)) (fun v o'=>X v o' (nx+1))\/qi P g all o nx K X
def ml(P:Program)(g:FuncId)(K X:V->(Nat->ae)->Nat->Prop)(s:S)(all:List V)(ds:Fix (Option (List D)) (K,X,s,all)):Prop:=
 match ds with
 |some ds=>si P g s.o s.nx K X ds all
 |none=>xV P g s.nx K X all s.o
@[go_sem] theorem IP {P:Program} {s:S} {ds:List D} {g:FuncId} {all:List V} {K X}:
 ml P g K X s all (some ds)=si P g s.o s.nx K X ds all:=propext Iff.rfl
def uF(P:Program)(id:Nat)(K X:V->(Nat->ae)->Nat->Prop)(s:S)(args:Fix (List V) (K,X,s)):Prop:=dD P id args s.o s.nx K X
@[go_sem] theorem IQ {P:Program} {s:S} {g:FuncId} {all:List V} {K X}:ml P g K X s all none=xV P g s.nx K X all s.o:=propext Iff.rfl
def qp(P:Program)(K X:V->(Nat->ae)->Nat->Prop)(s:S)(f:Fix V (K,X,s))(args:Fix (List V) (K,X,s)):Prop:=
 match f with
 | .func (.func g) first cap=>ml P g K X s (first++args++cap) (bU s.o (first++args++cap))
 | .ke id=>uF P id K X s args
 |_=>False
@[go_sem] theorem Mc {P:Program} {s:S} {id:Nat} {args:List V} {K X}:qp P K X s (.ke id) args=uF P id K X s args:=propext Iff.rfl
@[go_sem] theorem Ke {P:Program} {s:S} {g:FuncId} {first cap args:List V} {K X}:qp P K X s (.func (.func g) first cap) args=ml P g K X s (first++args++cap) (bU s.o (first++args++cap)):=propext Iff.rfl
def CN(K:V->Prop)(v:Fix V K):Prop:=
 match v with
 | .d (.iface t y)=>K (.d (.iface t y))
 | .iface t y=>K (.iface t y)
 |_=>False
@[go_sem] theorem SY {t:TypeId} {y:D} {K}:CN K (.d (.iface t y))=K (.d (.iface t y)):=propext Iff.rfl
@[go_sem] theorem SZ {t:TypeId} {y:V} {K}:CN K (.iface t y)=K (.iface t y):=propext Iff.rfl
def uG(K:V->List (Nat×ae)->Prop)(id:Nat)(l:Fix (List (D×D)) (K,id)):Prop:=AZ id l fun v Δ _=>K v Δ
def EP(K:V->List (Nat×ae)->Prop)(str:Bool)(Md:Fix (Option fW) (K,str))(left:Fix (Option (Nat×List (D×D))) (K,str)):Prop:=
 match left with
 |some (id,l)=>str=false/\uG K id l
 |none=>jH K Md
@[go_sem] theorem Me {K} {Md:Option fW} {id:Nat} {l:List (D×D)}:EP K false Md (some (id,l))=uG K id l:=propext ⟨fun h=>h.2,fun h=>⟨rfl,h⟩⟩
@[go_sem] theorem Mf {K} {str:Bool} {Md:Option fW}:EP K str Md none=jH K Md:=propext Iff.rfl
def zj(P:Program)(X:V->S->Prop)(K:S->Prop)(o:b7)(s:Fix S (X,K,o)):Prop:=
 match o.op with
 | .next x str=>EP (fun v Δ=>K ⟨aY s.env o.dst v,put s.o Δ,s.nx+1⟩) str (nb s.o (s.ev x) str) (nd s.o (s.ev x))
 | .call c=>match c.callee with
   | .value f=>qp P (fun v o' nx'=>K ⟨aY s.env o.dst v,o',nx'⟩) (fun v o' nx'=>X v ⟨s.env,o',nx'⟩) s (s.ev f) (c.args.toList.map s.ev)
   |_=>jH (fun v Δ=>K ⟨aY s.env o.dst v,put s.o Δ,s.nx+1⟩) (fT P s s.nx o.op)
 | .panic x=>CN (fun v=>X v s) (s.ev x)
 |op=>jH (fun v Δ=>K ⟨aY s.env o.dst v,put s.o Δ,s.nx+1⟩) (fT P s s.nx op)
@[reducible] def fk:Op->Option (Operand×List Operand)
  | .call c=>match c.callee with
    | .value f=>some (f,c.args.toList)
    |_=>none
  |_=>none
def gZ(A B:Prop)(t:Fix Bool (A,B)):Prop:=oO t A B
@[go_sem] theorem Kg (A B:Prop):gZ A B true=A:=rT A B
@[go_sem] theorem IU (A B:Prop):gZ A B false=B:=qj A B
def Ad(P:Program)(X:V->S->Prop)(K:S->Prop)(o:b7)(s:S)(f:Operand)(args:List Operand)(c:Fix Bool (X,K,o,s,f,args)):Prop:=
 Bi P (s.ev f) (args.map s.ev) s.o (fun v=>K ⟨aY s.env o.dst v,s.o,s.nx+1⟩) c\/gZ (zj P X K o s) (K ⟨aY s.env o.dst (.bT []),s.o,s.nx+1⟩) c
def vU(P:Program)(X:V->S->Prop)(K:S->Prop)(o:b7)(s:S)(c:Fix (Option Bool) (X,K,o,s)):Prop:=
 match c with
 |none=>False
 |some c=>match fk o.op with
  |some (f,args)=>Ad P X K o s f args c
  |none=>if jY o.op=true then jH (fun v _=>K ⟨aY s.env o.dst v,s.o,s.nx+1⟩) (jX c (fT P s s.nx o.op))
   else gZ (zj P X K o s) (K ⟨aY s.env o.dst (.bT []),s.o,s.nx+1⟩) c
def qN(P:Program)(X:V->S->Prop)(K:S->Prop)(l:List b7)(s:Fix S (X,K,l)):Prop:=
 match l with
 |[]=>K s
 |o::l=>match o.gd with
  |none=>zj P X (qN P X K l) o s
  |some (d,want)=>vU P X (qN P X K l) o s (lL (s.env d) want)
def jk(want:Bool)(A B:Prop)(v:Fix V (A,B)):Prop:=
 match v with
 | .d (.bool b)=>oO (b==want) A B
 | .bT []=>B
 |_=>False
@[go_sem] theorem IV (b:Bool) (A B:Prop):jk true A B (.d (.bool b))=gZ A B b:=by simp[jk,gZ]
@[go_sem] theorem G4 (b:Bool) (A B:Prop):jk false A B (.d (.bool b))=gZ A B (!b):=by simp[jk,gZ]
@[go_sem] theorem Mg (want:Bool) (A B:Prop):jk want A B (.bT [])=B:=propext Iff.rfl
@[go_sem] theorem Kh (c b want:Bool) (A B:Prop):jk want A B (V.vT c (.d (.bool b)))=gZ A B (c&&(b==want)):=by cases c<;>simp[jk,V.vT,gZ]
abbrev KD:=V->List (Nat×ae)->List Nat->Prop
abbrev XD:=V->List Nat->List Nat->Prop
def ER(P:Program)(g:FuncId)(K:KD)(X:XD)(o:Nat->ae)(rd:List Nat)(ds:Fix (List D) (K,X,o,rd))(all:Fix (List V) (K,X,o,rd)):Prop:=
 qo P g ds (fun v=>K v (ck o (V.a8 all)) rd) (fun v=>K v [] rd) (fun v=>X v [] rd)
def pK(P:Program)(g:FuncId)(K:KD)(X:XD)(o:Nat->ae)(nx fr:Nat)(all:Fix (List V) (K,X,o,nx)):Prop:=il P g all o nx fr K X
def sj(P:Program)(g:FuncId)(K:KD)(X:XD)(o:Nat->ae)(nx fr:Nat)(rd:List Nat)(ds:Fix (List D) (K,X,o,nx,rd))(all:Fix (List V) (K,X,o,nx,rd)):Prop:=ER P g K X o rd ds all\/pK P g K X o nx fr all
def pL(P:Program)(K:KD)(X:XD)(o:Nat->ae)(nx fr:Nat)(rd:List Nat)(g:FuncId)(all:List V)(ds:Fix (Option (List D)) (K,X,o,nx,rd,all)):Prop:=
 match ds with
 |some ds=>sj P g K X o nx fr rd ds all
 |none=>pK P g K X o nx fr all
@[go_sem] theorem IW {P:Program} {o:Nat->ae} {nx fr:Nat} {rd:List Nat} {ds:List D} {g:FuncId} {all:List V} {K X}:pL P K X o nx fr rd g all (some ds)=sj P g K X o nx fr rd ds all:=propext Iff.rfl
@[go_sem] theorem IX {P:Program} {o:Nat->ae} {nx fr:Nat} {rd:List Nat} {g:FuncId} {all:List V} {K X}:pL P K X o nx fr rd g all none=pK P g K X o nx fr all:=propext Iff.rfl
def xW(P:Program)(K:KD)(X:XD)(o:Nat->ae)(nx fr:Nat)(rd:Fix (List Nat) (K,X,o,nx))(f:Fix V (K,X,o,nx))(args:Fix (List V) (K,X,o,nx)):Prop:=
 match f with
 | .func (.func g) first cap=>pL P K X o nx fr rd g (first++args++cap) (bU o (first++args++cap))
 |_=>False
@[go_sem] theorem Ki {P:Program} {o:Nat->ae} {nx fr:Nat} {rd:List Nat} {g:FuncId} {first cap args:List V} {K X}:xW P K X o nx fr rd (.func (.func g) first cap) args=pL P K X o nx fr rd g (first++args++cap) (bU o (first++args++cap)):=propext Iff.rfl
def sm(K:KD)(rd:List Nat)(x:Fix (Option fW) (K,rd)):Prop:=match x with|some (v,Δ,_)=>K v Δ rd|none=>False
@[go_sem] theorem Kj {v:V} {Δ:List (Nat×ae)} {r rd:List Nat} {K}:sm K rd (some (v,Δ,r))=K v Δ rd:=propext Iff.rfl
@[go_sem] theorem Mh {v:V} {r rd:List Nat} {K}:sm K rd (L9 v r)=K v [] rd:=propext Iff.rfl
def Gv(P:Program)(K:KD)(X:XD)(fr:Nat)(o:b7)(s:Fix S (K,X,o)):Prop:=
 match fk o.op with
 |some (f,args)=>xW P K X s.o s.nx fr (iR s o.op) (s.ev f) (args.map s.ev)
 |none=>sm K (iR s o.op) (fT P s fr o.op)
def CO(P:Program)(KB:List Nat->Fp->Prop)(pr:List (List Nat))(l:List b7)(fr:Nat)(fp:Fix Fp (KB,l))(bad ws:Fix (List Nat) (KB,l))(s:Fix S (KB,l)):Prop:=gI P KB pr l fr s fp bad ws
def oQ(P:Program)(K:S->Fp->Prop)(KP:V->List Nat->Fp->Prop)(pr:List (List Nat))(l:List b7)(fr:Nat)(s:Fix S (K,KP,l))(fp:Fix Fp (K,KP,l)):Prop:=
 match l with
 |[]=>K s fp
 |o::l=>match o.gd with
  |none=>Gv P (fun v Δ rd=>oQ P K KP pr l (fr+1) ⟨aY s.env o.dst v,put s.o Δ,s.nx⟩ (fp++[(rd,Δ.map (·.1))]))
   (fun v ws rd=>CO P (KP v) pr l (fr+1) (fp++[(rd,[])]) [fp.length] (ws++fp.flatMap (·.2)) ⟨aY s.env o.dst .aa,s.o,s.nx⟩) fr o s
  |some (d,want)=>jk want (Gv P (fun v Δ rd=>oQ P K KP pr l (fr+1) ⟨aY s.env o.dst v,put s.o Δ,s.nx⟩ (fp++[(rd,Δ.map (·.1))]))
   (fun v ws rd=>CO P (KP v) pr l (fr+1) (fp++[(rd,[])]) [fp.length] (ws++fp.flatMap (·.2)) ⟨aY s.env o.dst .aa,s.o,s.nx⟩) fr o s)
   (oQ P K KP pr l (fr+1) ⟨aY s.env o.dst (.bT []),s.o,s.nx⟩ (fp++[([],[])])) (s.env d)
def G5(pr:List (List Nat))(nx:Nat)(Q:e9->S->Prop)(s:Fix S Q)(fp:Fix Fp Q):Prop:=Ab pr nx Q s fp
def uH(A B:Prop)(v:Fix V (A,B)):Prop:=
 match v with
 | .d (.bool t)=>gZ A B t
 | .eO=>A/\B
 |_=>False
@[go_sem] theorem Mi (A B:Prop):uH A B .eO=(A/\B):=propext Iff.rfl
@[go_sem] theorem Kk (t:Bool) (A B:Prop):uH A B (.d (.bool t))=gZ A B t:=propext Iff.rfl
def xX{ι:Type}(b:Nat)(st:ι->S)(cQ:ι->Prop)(nJ:ι->Nat)(i:ι)(s:S):Prop:=∃j,cQ j/\nJ j<nJ i/\cq b s (st j)
def sn(next:S->Prop)(Q:e9->S->Prop)(e:e9)(s:S):Prop:=match e with| .normal=>next s|e=>Q e s
section
variable {N:S->Prop}{Q:e9->S->Prop}{s:S}
@[go_sem ↓] theorem G6:sn N Q .normal s=N s:=propext Iff.rfl
@[go_sem ↓] theorem Kl {id:Nat}:sn N Q (.exit id) s=Q (.exit id) s:=propext Iff.rfl
@[go_sem ↓] theorem Mj:sn N Q .ret s=Q .ret s:=propext Iff.rfl
@[go_sem ↓] theorem Mk {v:V}:sn N Q (.bK v) s=Q (.bK v) s:=propext Iff.rfl
end
def jI(b:Nat)(body:(e9->S->Prop)->S->Prop)(Q:e9->S->Prop)(s:Fix S (body,Q)):Prop:=
 ∃ (ι:Type) (st:ι->S) (cQ:ι->Prop) (nJ:ι->Nat) (i0:ι),cQ i0/\cq b s (st i0)/\∀i,cQ i->body (sn (xX b st cQ nJ i) Q) (st i)
theorem bn{ι:Type}{b:Nat}{body:(e9->S->Prop)->S->Prop}{Q:e9->S->Prop}{s:S}(st:ι->S)(cQ:ι->Prop)(nJ:ι->Nat)(i0:ι)(h0:cQ i0)(hle:cq b s (st i0))
 (h:∀i,cQ i->body (sn (xX b st cQ nJ i) Q) (st i)):jI b body Q s:=⟨ι,st,cQ,nJ,i0,h0,hle,h⟩
def Ae(P:Program)(n:Nat)(rd:Bool)(ps:List Nat)(x y:IC)(Q:e9->S->Prop)(s:Fix S (x,y,Q))(g:Fix V (x,y,Q)):Prop:=rd=false/\xy P n g ps x y Q s
def jZ(P:Program)(n b:Nat)(rd:Bool)(c:IC)(Q:e9->S->Prop)(s:Fix S (c,Q)):Prop:=
 match c with
 | .skip=>Q .normal s
 | .af l=>qN P (fun v s=>Q (.bK v) s) (Q .normal) l s
 | .cO l pr=>oQ P (G5 pr (s.nx+l.length) Q) (xR pr l s Q) pr l s.nx s []
 | .seq x y=>jZ P n b rd x (oC (fun s=>jZ P n b rd y Q s) Q) s
 | .cond c x y=>uH (jZ P n b rd x Q s) (jZ P n b rd y Q s) (s.ev c)
 | .block id x=>jZ P n b rd x (eW id Q) s
 | .loop x=>jI b (fun Q s=>jZ P n b rd x Q s) Q s
 | .exit id=>Q (.exit id) s
 | .ret=>Q .ret s
 | .B4 g ps x y=>Ae P n rd ps x y Q s (s.ev g)
 | .bad=>False
section
variable {P:Program}{n b:Nat}{rd:Bool}
theorem xY{s:S}{f:V}{args:List V}{K K':V->(Nat->ae)->Nat->Prop}{X X':V->(Nat->ae)->Nat->Prop}(hK:∀v o n,K v o n->K' v o n)(hX:∀v o n,X v o n->X' v o n)(h:qp P K X s f args):
 match(generalizing:=false) f with
  | .func (.func g) first cap=>match bU s.o (first++args++cap)with
    |some ds=>uv P g ds s.o (put s.o (ck s.o (V.a8 (first++args++cap)))) (put s.o (qC s.o (V.a8 (first++args++cap)))) (fun v o'=>K' v o' (s.nx+1)) (fun v o'=>X' v o' (s.nx+1))\/qi P g (first++args++cap) s.o s.nx K' X'
    |none=>qi P g (first++args++cap) s.o s.nx K' X'
  | .ke id=>dD P id args s.o s.nx K' X'
  |_=>False:=by
 unfold qp ml uF at h
 split at h
 ·rename_i g first cap
  cases eM:bU s.o (first++args++cap)with
  |some ds=>
   simp only[eM]at h|-
   rcases h with⟨out,h1,h2|⟨h3,h2⟩|⟨h3,h2⟩⟩|h
   ·exact .inl ⟨out,h1, .inl (by cases out<;>first|exact hK _ _ _ h2|exact hX _ _ _ h2)⟩
   ·exact .inl ⟨out,h1, .inr (.inl ⟨h3,by cases out<;>first|exact hK _ _ _ h2|exact hX _ _ _ h2⟩)⟩
   ·exact .inl ⟨out,h1, .inr (.inr ⟨h3,by cases out<;>first|exact hK _ _ _ h2|exact hX _ _ _ h2⟩)⟩
   ·exact .inr (ma.mono hK hX h)
  |none=>
   simp only[eM]at h|-
   exact ma.mono hK hX h
 ·exact dD.mono hK hX h
 ·exact h.elim
theorem pM{x:Option fW}{K:V->List (Nat×ae)->Prop}(h:jH K x):∃v Δ rd,x=some (v,Δ,rd)/\K v Δ:=by
 unfold jH at h;split at h
 ·exact⟨_,_,_,rfl,h⟩
 ·exact h.elim
theorem vV{s:S}{o:b7}{X X':V->S->Prop}{K K':S->Prop}(hK:∀s,K s->K' s)(hX:∀v s,X v s->X' v s)(h:zj P X K o s):DU P s o X' K':=by
 unfold zj at h
 unfold DU
 have hs:∀ {op:Op},(jH (fun v Δ=>K ⟨aY s.env o.dst v,put s.o Δ,s.nx+1⟩) (fT P s s.nx op))->(match fT P s s.nx op with|some (v,Δ,_)=>K' ⟨aY s.env o.dst v,put s.o Δ,s.nx+1⟩|none=>False):=by
  intro op h
  obtain⟨v,Δ,rd,he,h⟩:=pM h
  simp only[he];exact hK _ h
 split at h
 ·rename_i x str hx
  rw[hx]
  unfold EP at h
  simp only
  split at h
  ·rename_i id l hl
   simp only[hl]
   exact⟨h.1,fun e=>hK _ (h.2.1 e),fun i k x e=>hK _ (h.2.2 i k x e)⟩
  ·rename_i hl
   simp only[hl]
   exact hs (op:= .next x str) h
 ·rename_i c hc
  simp only[hc]
  split at h
  ·rename_i f hf
   simp only[hf]
   exact xY (K:=fun v o' nx'=>K ⟨aY s.env o.dst v,o',nx'⟩) (X:=fun v o' nx'=>X v ⟨s.env,o',nx'⟩) (fun v o n h=>hK _ h) (fun v o n h=>hX _ _ h) h
  ·rename_i hf
   rw[hc]at h
   obtain⟨Eo,args,ts⟩:=c
   cases Eo with
   |value f=>exact absurd rfl (hf f)
   |invoke r m=>obtain⟨v,Δ,rd,he,h⟩:=pM h;cases he
   |_=>exact hs h
 ·rename_i x hx
  simp only[hx]
  unfold CN at h
  split at h
  ·rename_i hv;simp only[hv];exact hX _ _ h
  ·rename_i hv;simp only[hv];exact hX _ _ h
  ·exact h.elim
 ·rename_i ni hc hp
  have h2:=hs h
  cases hh:o.op<;>first
   |exact absurd hh (hc _)
   |exact absurd hh (hp _)
   |exact absurd hh (ni _ _)
   |(rw[hh]at h2;exact h2)
theorem ES{s:S}{o:b7}{X:V->S->Prop}{K:S->Prop}(hp:jY o.op=true){v:V}{Δ:List (Nat×ae)}{rd:List Nat}(he:fT P s s.nx o.op=some (v,Δ,rd))(h:K ⟨aY s.env o.dst v,put s.o Δ,s.nx+1⟩):DU P s o X K:=by
 unfold DU
 split
 ·rename_i c hc
  split
  ·rename_i f hf;rw[hc]at hp;simp[jY,hf]at hp
  ·rename_i r m hf;rw[hc]at hp;simp[jY,hf]at hp
  ·rw[he];exact h
 ·rename_i x hx;rw[hx]at hp;simp[jY]at hp
 ·rename_i x str hx;rw[hx]at hp;simp[jY]at hp
 ·rw[he];exact h
theorem uI{X X':V->S->Prop}{K K':S->Prop}(hK:∀s,K s->K' s)(hX:∀v s,X v s->X' v s):∀ (l:List b7) (s:S),qN P X K l s->nG P X' K' l s
 |[],s,h=>hK _ h
 |o::l,s,h=>by
  have ih:=uI hK hX l
  unfold qN at h
  unfold nG
  cases hg:o.gd with
  |none=>
   simp only[hg]at h|-
   exact vV ih hX h
  |some p=>
   obtain⟨d,want⟩:=p
   simp only[hg]at h|-
   unfold vU at h
   split at h
   ·exact h.elim
   ·rename_i c hc
    have RA:∀ {A B:Prop},(c=true->A)->(c=false->B)->(match s.env d with
     | .d (.bool b)=>if b=want then A else B
     | .bT []=>B
     |_=>False):=by
     intro A B hA hB
     generalize s.env d=v at hc
     unfold lL at hc
     split at hc
     ·rename_i b
      injection hc with hc
      split
      ·rename_i e;exact hA (by rw[<- hc];simp[e])
      ·rename_i e;exact hB (by rw[<- hc];simp[e])
     ·injection hc with hc
      exact hB hc.symm
     ·cases hc
    split at h
    ·rename_i f args Af
     rcases h with h|h
     case inr=>exact RA (fun IY=>vV ih hX (h.1 IY)) (fun oR=>ih _ (h.2 oR))
     obtain⟨rs,h1,h2⟩:=h
     refine RA (fun IY=> ?_) (fun oR=> ?_)
     ·unfold fk at Af
      split at Af
      ·rename_i c' Cr
       split at Af
       ·rename_i f' qF
        injection Af with Af;injection Af with e1 e2;subst e1;subst e2
        have kT:=h1 IY
        unfold DU
        simp only[Cr,qF]
        unfold xU at kT
        split at kT
        ·rename_i g first cap rL
         simp only[rL]
         split at kT
         ·rename_i ds eM
          simp only[eM]
          refine .inl ⟨.ret rs,kT.1, .inr (.inl ⟨kT.2, ?_⟩)⟩
          refine ih _ ?_
          rw[IY]at h2
          exact h2
         ·exact kT.elim
        ·exact kT.elim
       ·cases Af
      ·cases Af
     ·refine ih _ ?_
      rw[oR]at h2
      exact h2
    ·split at h
     ·rename_i hp
      obtain⟨v,Δ,rd,he,h⟩:=pM h
      refine RA (fun IY=> ?_) (fun oR=> ?_)
      ·rw[IY]at he
       simp only[jX,if_true]at he
       split at he
       ·rename_i v' uu e8
        injection he with he;injection he with e1 e2;subst e1
        exact ES hp e8 (ih _ h)
       ·cases he
      ·rw[oR]at he
       simp only[jX]at he
       injection he with he;injection he with e1 e2;subst e1
       exact ih _ h
     ·exact RA (fun IY=>vV ih hX (h.1 IY)) (fun oR=>ih _ (h.2 oR))
theorem vW{op:Op}{f:Operand}{args:List Operand}(h:fk op=some (f,args)):∃c,op= .call c/\c.callee= .value f/\c.args.toList=args:=by
 unfold fk at h
 split at h
 ·rename_i c
  split at h
  ·rename_i f' qF
   injection h with h;injection h with e1 e2;subst e1;subst e2
   exact⟨c,rfl,qF,rfl⟩
  ·cases h
 ·cases h
theorem CP{x:Option fW}{rd:List Nat}{K:KD}(h:sm K rd x):∃v Δ r,x=some (v,Δ,r)/\K v Δ rd:=by
 unfold sm at h;split at h
 ·exact⟨_,_,_,rfl,h⟩
 ·exact h.elim
theorem il.mono {P:Program}{g:FuncId}{args:List V}{o:Nat->ae}{nx fr:Nat}{K K':KD}{X X':XD}(hK:∀v Δ r,K v Δ r->K' v Δ r)(hX:∀v w r,X v w r->X' v w r)(h:il P g args o nx fr K X):il P g args o nx fr K' X':=by
 obtain⟨rd,Δ,h1,⟨rs,h2,h3⟩|⟨x,h2,h3⟩|⟨v,h2,h3⟩⟩:=h
 ·exact⟨rd,Δ,h1, .inl ⟨rs,h2,hK _ _ _ h3⟩⟩
 ·exact⟨rd,Δ,h1, .inr (.inl ⟨x,h2,hX _ _ _ h3⟩)⟩
 ·exact⟨rd,Δ,h1, .inr (.inr ⟨v,h2,hK _ _ _ h3⟩)⟩
theorem qo.mono {P:Program}{g:FuncId}{ds:List D}{Kf Kb KX VH VI VJ:V->Prop}(h1:∀v,Kf v->VH v)(h2:∀v,Kb v->VI v)(h3:∀v,KX v->VJ v)(h:qo P g ds Kf Kb KX):qo P g ds VH VI VJ:=by
 rcases h with⟨rs,a,b|⟨b,c⟩⟩|⟨x,a,b,c⟩|⟨v,a,b⟩
 ·exact .inl ⟨rs,a, .inl (h1 _ b)⟩
 ·exact .inl ⟨rs,a, .inr ⟨b,h2 _ c⟩⟩
 ·exact .inr (.inl ⟨x,a,b,h3 _ c⟩)
 ·exact .inr (.inr ⟨v,a,h1 _ b⟩)
theorem Bj{s:S}{fr:Nat}{o:b7}{K K':KD}{X X':XD}(hK:∀v Δ r,K v Δ r->K' v Δ r)(hX:∀v w r,X v w r->X' v w r)(h:Gv P K X fr o s):wN P s fr o K' X':=by
 unfold Gv at h
 split at h
 ·rename_i f args Af
  obtain⟨c,h1,h2,h3⟩:=vW Af
  subst h3
  unfold wN
  simp only[h1,h2]
  unfold xW pL at h
  split at h
  ·rename_i g first cap hf
   simp only[hf]
   split at h
   ·rename_i ds eM
    simp only[eM]
    refine h.elim (fun h=> .inl ?_) (fun h=> .inr (il.mono hK hX h))
    refine qo.mono (fun v h=> ?_) (fun v h=> ?_) (fun v h=> ?_) h<;>(rw[h1]at h)
    ·exact hK _ _ _ h
    ·exact hK _ _ _ h
    ·exact hX _ _ _ h
   ·rename_i eM
    simp only[eM]
    exact il.mono hK hX h
  ·exact h.elim
 ·rename_i Af
  obtain⟨v,Δ,rd,he,h⟩:=CP h
  unfold wN
  split
  ·rename_i c hc
   split
   ·rename_i f hf
    exact absurd Af (by simp[fk,hc,hf])
   ·simp only[he];exact hK _ _ _ h
  ·simp only[he];exact hK _ _ _ h
theorem xZ{s:S}{fr:Nat}{o:b7}{K K':KD}{X X':XD}(hK:∀v Δ r,K v Δ r->K' v Δ r)(hX:∀v w r,X v w r->X' v w r)(h:wN P s fr o K X):wN P s fr o K' X':=by
 unfold wN at h|-
 split at h
 ·rename_i c hc
  rw[hc]at h|-
  split at h
  ·rename_i f hf
   (try simp only[hf])
   split at h
   ·rename_i rL
    (try simp only[rL])
    split at h
    ·exact h.elim (fun h=> .inl (qo.mono (fun v h=>hK _ _ _ h) (fun v h=>hK _ _ _ h) (fun v h=>hX _ _ _ h) h)) (fun h=> .inr (il.mono hK hX h))
    ·exact il.mono hK hX h
   ·exact h.elim
  ·rename_i hf
   split at h
   ·rename_i he
    (try simp only[he])
    exact hK _ _ _ h
   ·exact h.elim
 ·split at h
  ·rename_i he
   (try simp only[he]);exact hK _ _ _ h
  ·exact h.elim
theorem iT{KB VK:List Nat->Fp->Prop}{pr:List (List Nat)}(hK:∀l fp,KB l fp->VK l fp):∀ (l:List b7) (fr:Nat) (s:S) (fp:Fp) (bad ws:List Nat),gI P KB pr l fr s fp bad ws->gI P VK pr l fr s fp bad ws
 |[],_,_,_,_,_,h=>hK _ _ h
 |o::l,fr,s,fp,bad,ws,h=>by
  unfold gI at h|-
  split
  ·rename_i hb
   rw[if_pos hb]at h
   exact iT hK l _ _ _ _ _ h
  ·rename_i hb
   rw[if_neg hb]at h
   split at h
   ·exact xZ (fun v Δ r h=>iT hK l _ _ _ _ _ h) (fun _ _ _ h=>h) h
   ·split at h
    ·split at h
     ·rename_i e;simp only[e,if_true]
      exact xZ (fun v Δ r h=>iT hK l _ _ _ _ _ h) (fun _ _ _ h=>h) h
     ·rename_i e;simp only[e,if_false]
      exact iT hK l _ _ _ _ _ h
    ·exact iT hK l _ _ _ _ _ h
    ·exact h.elim
theorem kB{K K':S->Fp->Prop}{KP S0:V->List Nat->Fp->Prop}{pr:List (List Nat)}(hK:∀s fp,K s fp->K' s fp)(hP:∀v l fp,KP v l fp->S0 v l fp):∀ (l:List b7) (fr:Nat) (s:S) (fp:Fp),oQ P K KP pr l fr s fp->jW P K' S0 pr l fr s fp
 |[],_,_,_,h=>hK _ _ h
 |o::l,fr,s,fp,h=>by
  have hB:∀v ws (S1:List Nat),CO P (KP v) pr l (fr+1) (fp++[(S1,[])]) [fp.length] (ws++fp.flatMap (·.2)) ⟨aY s.env o.dst .aa,s.o,s.nx⟩->
   gI P (S0 v) pr l (fr+1) ⟨aY s.env o.dst .aa,s.o,s.nx⟩ (fp++[(S1,[])]) [fp.length] (ws++fp.flatMap (·.2)):=fun v ws S1 h=>iT (fun a b h=>hP v a b h) l _ _ _ _ _ h
  unfold oQ at h
  unfold jW
  split at h
  ·rename_i hg
   (try simp only[hg])
   exact Bj (fun v Δ r h=>kB hK hP l _ _ _ h) hB h
  ·rename_i d want hg
   (try simp only[hg])
   generalize s.env d=v at h
   unfold jk at h
   split at h
   ·rename_i bb
    by_cases e:bb=want
    ·subst e
     simp only[if_true]
     exact Bj (fun v Δ r h=>kB hK hP l _ _ _ h) hB (h.1 (by simp))
    ·simp only[if_neg e]
     exact kB hK hP l _ _ _ (h.2 (by simpa using e))
   ·exact kB hK hP l _ _ _ h
   ·exact h.elim
theorem fl:∀ (c:IC) (Q Q':e9->S->Prop) (s:S),(∀e s,Q e s->Q' e s)->jZ P n b rd c Q s->qU P n b rd c Q' s
 | .skip,_,_,_,hQ,h=>hQ _ _ h
 | .af l,_,_,_,hQ,h=>uI (fun s h=>hQ _ _ h) (fun v s h=>hQ _ _ h) l _ h
 | .cO l pr,_,_,_,hQ,h=> .inl (kB (fun s fp h=>⟨h.1,hQ _ _ h.2⟩) (fun v l fp h=>⟨h.1,hQ _ _ h.2⟩) l _ _ _ h)
 | .seq x y,Q,Q',s,hQ,h=>fl x _ _ s (fun e s h=>by
  unfold oC at h|-
  cases e with
  |normal=>exact fl y _ _ s hQ h
  |_=>exact hQ _ _ h) h
 | .cond c x y,Q,Q',s,hQ,h=>by
   unfold jZ uH gZ at h
   unfold qU
   split at h
   ·rename_i t ht
    simp only[ht]
    exact⟨fun e=>fl x _ _ s hQ (h.1 e),fun e=>fl y _ _ s hQ (h.2 e)⟩
   ·rename_i ht
    simp only[ht]
    exact⟨fl x _ _ s hQ h.1,fl y _ _ s hQ h.2⟩
   ·exact h.elim
 | .block id x,Q,Q',s,hQ,h=>fl x _ _ s (fun e s h=>by
  unfold eW at h|-
  cases e with
  |exit j=>
   simp only at h|-
   split
   ·rename_i e;rw[if_pos e]at h;exact hQ _ _ h
   ·rename_i e;rw[if_neg e]at h;exact hQ _ _ h
  |_=>exact hQ _ _ h) h
 | .loop x,Q,Q',s,hQ,h=>by
   obtain⟨ι,st,cQ,nJ,i0,h0,hle,h2⟩:=h
   refine⟨fun m s=>∃i,cQ i/\nJ i=m/\s=st i,⟨nJ i0,st i0,hle,i0,h0,rfl,rfl⟩, ?_⟩
   rintro m s0 ⟨i,hg,rfl,rfl⟩
   refine fl x _ _ _ (fun e s h=> ?_) (h2 i hg)
   cases e with
   |normal=>
    obtain⟨j,k1,k2,k3⟩:=h
    exact⟨nJ j,st j,k2,k3,j,k1,rfl,rfl⟩
   |_=>exact hQ _ _ h
 | .exit id,_,_,_,hQ,h=>hQ _ _ h
 | .ret,_,_,_,hQ,h=>hQ _ _ h
 | .B4 g ps x y,_,_,_,hQ,h=>⟨h.1,uE hQ h.2⟩
 | .bad,_,_,_,_,h=>h.elim
end
theorem cj.bt {P:Program}(ba:P.follows .mixedOrders=true){f:FuncId}{n:Nat}{ic:IC}{rs:List ResultVar}{ds:List D}{out:R}(hf:aN P f n ic rs)(hl:ds.length<=n)
 (h:jZ P n 0 false ic (zH P rs out) ⟨cH (ds.map .d),fun _=> .no,0⟩):cj P f ds out:=
 cj.se ba hf hl (fl ic _ _ _ (fun _ _ h=>h) h)
def ET(P:Program)(rs:List ResultVar)(K X:V->(Nat->ae)->Nat->Prop)(e:e9)(s:S):Prop:=lb P rs K X e s
theorem eI.bt {P:Program}(ba:P.follows .mixedOrders=true){f:FuncId}{n:Nat}{ic:IC}{rs:List ResultVar}{args:List V}{o:Nat->ae}{nx:Nat}{K X:V->(Nat->ae)->Nat->Prop}(hf:aN P f n ic rs)(hl:args.length<=n)
 (h:jZ P n nx false ic (ET P rs K X) ⟨cH args,o,nx⟩):eI P f args o nx K X:=
 eI.se ba hf hl (fl ic _ _ _ (fun _ _ h=>h) h)
section
variable {P:Program}{g:FuncId}{ds:List D}{o:Nat->ae}{nx:Nat}{K X:V->(Nat->ae)->Nat->Prop}{all:List V}
theorem aJ{rs:List D}(h:cj P g ds (.ret rs))(hf:D.jg rs=true)(hk:K (iD rs) o (nx+1)):si P g o nx K X ds all:= .inl ⟨.ret rs,h, .inr (.inl ⟨hf,hk⟩)⟩
theorem bM{rs:List D}(h:cj P g ds (.ret rs))(hk:K (iD rs) (put o (ck o (V.a8 all))) (nx+1)):si P g o nx K X ds all:= .inl ⟨.ret rs,h, .inl hk⟩
theorem gK(h:eI P g all o nx K X):si P g o nx K X ds all:= .inr (.inl h)
theorem mm{e:Nat->V}{ds:Option (List D)}(h:eI P g all o nx K X):ml P g K X ⟨e,o,nx⟩ all ds:=by
 cases ds with
 |some ds=>exact(.inr (.inl h):si P g o nx K X ds all)
 |none=>exact(.inl h:xV P g nx K X all o)
theorem cK(h:eI P g all o nx K X):xV P g nx K X all o:= .inl h
variable {K:KD}{X:XD}{rd:List Nat}{fr:Nat}
theorem dV{rs:List D}(h:cj P g ds (.ret rs))(hf:D.jg rs=true)(hk:K (iD rs) [] rd):sj P g K X o nx fr rd ds all:= .inl (.inl ⟨rs,h, .inr ⟨hf,hk⟩⟩)
theorem fC{rs:List D}(h:cj P g ds (.ret rs))(hk:K (iD rs) (ck o (V.a8 all)) rd):sj P g K X o nx fr rd ds all:= .inl (.inl ⟨rs,h, .inl hk⟩)
end
theorem fO{P:Program}{f:V}{args:List V}{o:Nat->ae}{K:V->Prop}{c:Bool}(rs:List D)(h:lK c (xU P f args o rs))(hk:K (V.vT c (iD rs))):Bi P f args o K c:=⟨rs,h,hk⟩
theorem ax{t:Bool}{A B:Prop}(h:t=true->A)(h2:t=false->B):gZ A B t:=⟨h,h2⟩
theorem aP{pr:List (List Nat)}{nx:Nat}{Q:e9->S->Prop}{s:S}{fp:List (List Nat×List Nat)}(h:et pr fp=true)(h2:Q .normal ⟨s.env,s.o,nx⟩):G5 pr nx Q s fp:=⟨h,h2⟩
@[go_sem] theorem sq (o:Nat->ae):put o []=o:=rfl
@[go_sem] theorem mN (o:Nat->ae) (x:Nat×ae) (l:List (Nat×ae)):put o (x::l)=put (ao o x.1 x.2) l:=rfl
@[go_sem] theorem ab {α:Type} (f:Nat->α) (i:Nat) (x:α):ao f i x i=x:=by simp
@[go_sem] theorem ad {α:Type} (f:Nat->α) (i j:Nat) (x:α) (h:j≠i):ao f i x j=f j:=by simp[h]
@[go_sem] theorem G7 (v:V) (l:List V):cH (v::l) 0=v:=rfl
@[go_sem] theorem G8 (v:V) (l:List V) (i:Nat):cH (v::l) (i+1)=cH l i:=rfl
@[go_sem] theorem IZ (i:Nat):cH [] i= .bT []:=by simp[cH]
@[go_sem] theorem Ml {P:Program} {o:Nat->ae} {t:TypeId} {id off:Nat}:mf P o t (.ptr id off)=match o id with
 | .row cs=>match eG P t cs off with
   |some v=>some (v,[],[id])
   |none=>none
 |_=>none:=by unfold mf;exact Eq.trans rfl rfl
@[go_sem] theorem NS {P:Program} {o:Nat->ae} {t:TypeId} {cs:List D} {off:Nat}:mf P o t (.pp cs off)=match eG P t (cs.map .d) off with
 |some v=>some (v,[],[])
 |none=>none:=by unfold mf;exact Eq.trans rfl rfl
@[go_sem] theorem NT {P:Program} {o:Nat->ae} {t:TypeId} {id ep i sz off:Nat}:mf P o t (.pe id ep i sz off)=match o id with
 | .arr gz _ mV es=>if ep=gz/\sz=mV then match es[i]? with
  |some e=>match eG P t (e.cells.map .d) off with
   |some v=>some (v,[],[id])
   |none=>none
  |none=>none
   else none
 |_=>none:=by unfold mf;exact Eq.trans rfl rfl
section
variable {P:Program}{o:Nat->ae}{t:TypeId}{op:BinOp}{nv:Bool}
@[go_sem] theorem Mm {k:IntKind} {a b:Int}:dt P o op t nv (.d (.int k a)) (.d (.int k b))=match xC op k a b with
 |some v=>one v
 |none=>pz P o op t nv (.d (.int k a)) (.d (.int k b)):=by
  simp only[dt,vF,if_true]
  cases xC op k a b<;>rfl
@[go_sem] theorem Mn {a b:Bool} (h:aR P t=true):dt P o .eql t nv (.d (.bool a)) (.d (.bool b))=one (.d (.bool (a==b))):=by simp only[dt,vF,EC,h,if_true]
@[go_sem] theorem Mo {a b:Bool} (h:aR P t=true):dt P o .neq t nv (.d (.bool a)) (.d (.bool b))=one (.d (.bool (a !=b))):=by simp only[dt,vF,EC,h,if_true]
@[go_sem] theorem Mp {a b:List UInt8}:dt P o .eql t nv (.d (.str a)) (.d (.str b))=one (.d (.bool (a==b))):=by unfold dt;exact Eq.trans rfl rfl
@[go_sem] theorem Mq {a b:List UInt8}:dt P o .neq t nv (.d (.str a)) (.d (.str b))=one (.d (.bool (a !=b))):=by unfold dt;exact Eq.trans rfl rfl
@[go_sem] theorem Mr {a b:List D}:dt P o op t nv (.d (.agg a)) (.d (.agg b))=pz P o op t nv (.d (.agg a)) (.d (.agg b)):=by unfold dt;exact Eq.trans rfl rfl
theorem oS{x:V}{y:V}(h:match y with| .d (.int _ _)| .d (.bool _)| .d (.str _)=>False|_=>True):vF P op t x y=none:=by
 unfold vF
 split<;>first|exact h.elim|rfl
@[go_sem] theorem Km {x:V}:dt P o op t nv x .aX=pz P o op t nv x .aX:=by unfold dt;rw[oS trivial]
@[go_sem] theorem Kn {x:V}:dt P o op t nv x (.d .ft)=pz P o op t nv x (.d .ft):=by unfold dt;rw[oS trivial]
@[go_sem] theorem Ko {x:V}:dt P o op t nv x (.d .gy)=pz P o op t nv x (.d .gy):=by unfold dt;rw[oS trivial]
@[go_sem] theorem Kp {x:V}:dt P o op t nv x (.d .aW)=pz P o op t nv x (.d .aW):=by unfold dt;rw[oS trivial]
@[go_sem] theorem Kq {x:V}:dt P o op t nv x (.d .cI)=pz P o op t nv x (.d .cI):=by unfold dt;rw[oS trivial]
@[go_sem] theorem NU {b:Bool}:xD .not (.d (.bool b))=some (.d (.bool !b)):=by unfold xD;exact Eq.trans rfl rfl
@[go_sem] theorem NV:xD .not .eO=some .eO:=by unfold xD;exact Eq.trans rfl rfl
@[go_sem] theorem NW {k:IntKind} {n:Int}:xD .neg (.d (.int k n))=some (.d (.int k (k.wrap (-n)))):=by unfold xD;exact Eq.trans rfl rfl
end
@[go_sem] theorem D.Ms (cs:List D):(D.agg cs).cells=cs:=rfl
@[go_sem] theorem D.Mt (k:IntKind) (n:Int):(D.int k n).cells=[.int k n]:=rfl
@[go_sem] theorem D.Kr (b:Bool):(D.bool b).cells=[.bool b]:=rfl
@[go_sem] theorem D.Mu (b:List UInt8):(D.str b).cells=[.str b]:=rfl
@[go_sem] theorem D.NX (b:List D):(D.sl b).cells=[.sl b]:=rfl
@[go_sem] theorem D.NY (a b:List D):(D.mp a b).cells=[.mp a b]:=rfl
@[go_sem] theorem D.I0 (t:TypeId) (x:D):(D.iface t x).cells=[.iface t x]:=rfl
@[go_sem] theorem D.Ks:D.ft.cells=[.ft]:=rfl
@[go_sem] theorem D.Ku:D.gy.cells=[.gy]:=rfl
@[go_sem] theorem D.Kv:D.aW.cells=[.aW]:=rfl
@[go_sem] theorem D.Kw:D.cI.cells=[.cI]:=rfl
attribute [go_sem] V.ofConst V.dm xC EC oJ zN ur nj gE gG pH fL lh oK oL oM vG iP ED kX dz bU eG vg p8 fb V.cells D.put ck V.ids V.a8 iD D.jg D.flat R.flat
attribute [go_sem] zm List.take_succ_cons List.take_zero List.take_nil List.drop_zero List.drop_succ_cons List.drop_nil
attribute [go_sem] List.map_cons List.map_nil List.length_cons List.length_nil List.cons_append List.nil_append List.append_nil List.getElem?_cons_zero List.getElem?_cons_succ Option.bind_some Option.bind_none Option.map_some Option.map_none ae.bN ae.aZ
section
variable {P:Program}{n b:Nat}{rd:Bool}{Q:e9->S->Prop}{s:S}
@[go_sem] theorem NZ:jZ P n b rd .skip Q s=Q .normal s:=propext Iff.rfl
@[go_sem] theorem RB {l:List b7}:jZ P n b rd (.af l) Q s=qN P (fun v s=>Q (.bK v) s) (Q .normal) l s:=propext Iff.rfl
@[go_sem] theorem RC {l:List b7} {pr:List (List Nat)}:jZ P n b rd (.cO l pr) Q s=oQ P (G5 pr (s.nx+l.length) Q) (xR pr l s Q) pr l s.nx s []:=propext Iff.rfl
@[go_sem] theorem RD {x y:IC}:jZ P n b rd (.seq x y) Q s=jZ P n b rd x (oC (fun s=>jZ P n b rd y Q s) Q) s:=propext Iff.rfl
@[go_sem] theorem N0 {c:Operand} {x y:IC}:jZ P n b rd (.cond c x y) Q s=uH (jZ P n b rd x Q s) (jZ P n b rd y Q s) (s.ev c):=propext Iff.rfl
@[go_sem] theorem Mv {id:Nat} {x:IC}:jZ P n b rd (.block id x) Q s=jZ P n b rd x (eW id Q) s:=propext Iff.rfl
@[go_sem] theorem N1 {x:IC}:jZ P n b rd (.loop x) Q s=jI b (fun Q s=>jZ P n b rd x Q s) Q s:=propext Iff.rfl
@[go_sem] theorem N2 {id:Nat}:jZ P n b rd (.exit id) Q s=Q (.exit id) s:=propext Iff.rfl
@[go_sem] theorem RE:jZ P n b rd .ret Q s=Q .ret s:=propext Iff.rfl
@[go_sem] theorem RF {g:Operand} {ps:List Nat} {x y:IC}:jZ P n b rd (.B4 g ps x y) Q s=Ae P n rd ps x y Q s (s.ev g):=propext Iff.rfl
@[go_sem] theorem N3 {X:V->S->Prop} {K:S->Prop}:qN P X K [] s=K s:=propext Iff.rfl
@[go_sem] theorem Mw {X:V->S->Prop} {K:S->Prop} {d:Option Nat} {op:Op} {l:List b7}:qN P X K (⟨d,op,none⟩::l) s=zj P X (qN P X K l) ⟨d,op,none⟩ s:=propext Iff.rfl
@[go_sem] theorem Mx {X:V->S->Prop} {K:S->Prop} {d:Option Nat} {op:Op} {g:Nat} {w:Bool} {l:List b7}:qN P X K (⟨d,op,some (g,w)⟩::l) s=vU P X (qN P X K l) ⟨d,op,some (g,w)⟩ s (lL (s.env g) w):=propext Iff.rfl
variable {X:V->S->Prop}{K:S->Prop}{d:Option Nat}{op:Op}{g:Option (Nat×Bool)}{f:Operand}{args:Array Operand}{ts:Array TypeId}{c:Bool}
@[reducible] def N4:Op->Bool
  | .call c=>match c.callee with
    | .value _=>true
    |_=>false
  | .panic _=>true
  | .next .. =>true
  |_=>false
@[go_sem] theorem S2 (h:N4 op=false):zj P X K ⟨d,op,g⟩ s=jH (fun v Δ=>K ⟨aY s.env d v,put s.o Δ,s.nx+1⟩) (fT P s s.nx op):=by
  unfold zj
  cases op with
  |call c=>
   obtain⟨Eo,args,ts⟩:=c
   cases Eo with
   |value f=>simp[N4]at h
   |_=>rfl
  |panic x=>simp[N4]at h
  |next x str=>simp[N4]at h
  |_=>rfl
@[go_sem] theorem N5 {x:Operand} {str:Bool}:zj P X K ⟨d, .next x str,g⟩ s=EP (fun v Δ=>K ⟨aY s.env d v,put s.o Δ,s.nx+1⟩) str (nb s.o (s.ev x) str) (nd s.o (s.ev x)):=propext Iff.rfl
@[go_sem] theorem N6:zj P X K ⟨d, .call ⟨.value f,args,ts⟩,g⟩ s=qp P (fun v o' nx'=>K ⟨aY s.env d v,o',nx'⟩) (fun v o' nx'=>X v ⟨s.env,o',nx'⟩) s (s.ev f) (args.toList.map s.ev):=propext Iff.rfl
@[go_sem] theorem My:zj P X K ⟨d, .panic f,g⟩ s=CN (fun v=>X v s) (s.ev f):=propext Iff.rfl
@[go_sem] theorem Mz:vU P X K ⟨d, .call ⟨.value f,args,ts⟩,g⟩ s (some c)=Ad P X K ⟨d, .call ⟨.value f,args,ts⟩,g⟩ s f args.toList c:=propext Iff.rfl
theorem gL{e:Nat->V}{ob:Nat->ae}{nx:Nat}(h:Bi P ((⟨e,ob,nx⟩:S).ev f) (args.toList.map (⟨e,ob,nx⟩:S).ev) ob (fun v=>K ⟨aY e d v,ob,nx+1⟩) c):Ad P X K ⟨d,op,g⟩ ⟨e,ob,nx⟩ f args.toList c:= .inl h
theorem x4{s:S}{o:b7}{l:List Operand}(h:gZ (zj P X K o s) (K ⟨aY s.env o.dst (.bT []),s.o,s.nx+1⟩) c):Ad P X K o s f l c:= .inr h
@[go_sem] theorem MA (h:jY op=true):vU P X K ⟨d,op,g⟩ s (some c)=jH (fun v _=>K ⟨aY s.env d v,s.o,s.nx+1⟩) (jX c (fT P s s.nx op)):=by
  have h2:fk op=none:=by
   cases hc:fk op with
   |none=>rfl
   |some x=>
    exfalso
    unfold fk at hc
    split at hc
    ·split at hc
     ·rename_i hv;simp[jY,hv]at h
     ·cases hc
    ·cases hc
  simp only[vU,h2,h,if_true]
@[go_sem] theorem MB (h:jY op=false) (h2:fk op=none):vU P X K ⟨d,op,g⟩ s (some c)=gZ (zj P X K ⟨d,op,g⟩ s) (K ⟨aY s.env d (.bT []),s.o,s.nx+1⟩) c:=by
  simp[vU,h2,h]
@[go_sem] theorem Kx {l:List Operand}:Ad P X K ⟨d,op,g⟩ s f l false=K ⟨aY s.env d (.bT []),s.o,s.nx+1⟩:=by
  refine propext ⟨fun h=> ?_,fun h=> .inr ⟨(fun e=>by cases e),fun _=>h⟩⟩
  rcases h with⟨rs,_,h⟩|h
  ·exact h
  ·exact h.2 rfl
@[go_sem] theorem MC {l:List Operand} (hl:args.toList=l):Ad P X K ⟨d, .call ⟨.value f,args,ts⟩,g⟩ s f l true=zj P X K ⟨d, .call ⟨.value f,args,ts⟩,g⟩ s:=by
  subst hl
  refine propext ⟨fun h=> ?_,fun h=> .inr ⟨fun _=>h,(fun e=>by cases e)⟩⟩
  rcases h with⟨rs,h1,h⟩|h
  ·have h1:=h1 rfl
   unfold xU at h1
   unfold zj qp ml
   simp only
   split at h1
   ·rename_i fv gg first cap hf
    simp only[hf]
    split at h1
    ·rename_i ds eM
     simp only[eM]
     exact .inl ⟨.ret rs,h1.1, .inr (.inl ⟨h1.2,h⟩)⟩
    ·exact h1.elim
   ·exact h1.elim
  ·exact h.1 rfl
variable {KV:KD}{XV:XD}
@[go_sem] theorem N7 {fr:Nat}:Gv P KV XV fr ⟨d, .call ⟨.value f,args,ts⟩,g⟩ s=xW P KV XV s.o s.nx fr (iR s (.call ⟨.value f,args,ts⟩)) (s.ev f) (args.toList.map s.ev):=propext Iff.rfl
@[go_sem] theorem S3 {fr:Nat} (h2:fk op=none):Gv P KV XV fr ⟨d,op,g⟩ s=sm KV (iR s op) (fT P s fr op):=by simp[Gv,h2]
variable {KS:S->Prop}
@[go_sem ↓] theorem G9:oC KS Q .normal s=KS s:=propext Iff.rfl
@[go_sem ↓] theorem Ky {id:Nat}:oC KS Q (.exit id) s=Q (.exit id) s:=propext Iff.rfl
@[go_sem ↓] theorem MD:oC KS Q .ret s=Q .ret s:=propext Iff.rfl
@[go_sem ↓] theorem ME {v:V}:oC KS Q (.bK v) s=Q (.bK v) s:=propext Iff.rfl
@[go_sem ↓] theorem Gw {id:Nat}:eW id Q .normal s=Q .normal s:=propext Iff.rfl
@[go_sem ↓] theorem I1 {id:Nat}:eW id Q (.exit id) s=Q .normal s:=by simp[eW]
@[go_sem ↓] theorem Ha {id j:Nat} (h:j≠id):eW id Q (.exit j) s=Q (.exit j) s:=by simp[eW,h]
@[go_sem ↓] theorem Kz {id:Nat}:eW id Q .ret s=Q .ret s:=propext Iff.rfl
@[go_sem ↓] theorem KA {id:Nat} {v:V}:eW id Q (.bK v) s=Q (.bK v) s:=propext Iff.rfl
def Hb(out:R)(x:Option (List D)):Prop:=match x with|some ds=>out= .ret ds|none=>False
@[go_sem] theorem MF {out:R} {ds:List D}:Hb out (some ds)=(out= .ret ds):=propext Iff.rfl
def KC(out:R)(x:Option D):Prop:=match x with|some d=>out= .bK d|none=>False
@[go_sem] theorem MG {out:R} {d:D}:KC out (some d)=(out= .bK d):=propext Iff.rfl
def Hc(out:R)(o:Nat->ae)(x:Option (List V)):Prop:=match x with|some vs=>Hb out (bU o vs)|none=>False
@[go_sem] theorem MH {out:R} {o:Nat->ae} {vs:List V}:Hc out o (some vs)=Hb out (bU o vs):=propext Iff.rfl
variable {rs:List ResultVar}{out:R}
@[go_sem ↓] theorem MI:zH P rs out .ret s=Hc out s.o (kX P s rs):=propext Iff.rfl
@[go_sem ↓] theorem Hd:zH P rs out .normal s=Hc out s.o (kX P s rs):=propext Iff.rfl
@[go_sem ↓] theorem MJ {v:V}:zH P rs out (.bK v) s=KC out (dz s.o v):=propext Iff.rfl
def x5(K:V->(Nat->ae)->Nat->Prop)(o:Nat->ae)(nx:Nat)(x:Fix (Option (List V)) (K,o,nx)):Prop:=match x with
 |some [v]=>K v o nx
 |some vs=>K (.bT vs) o nx
 |none=>False
@[go_sem] theorem N8 {K:V->(Nat->ae)->Nat->Prop} {o:Nat->ae} {nx:Nat} {v:V}:x5 K o nx (some [v])=K v o nx:=propext Iff.rfl
@[go_sem] theorem N9 {K:V->(Nat->ae)->Nat->Prop} {o:Nat->ae} {nx:Nat}:x5 K o nx (some [])=K (.bT []) o nx:=propext Iff.rfl
@[go_sem] theorem Oa {K:V->(Nat->ae)->Nat->Prop} {o:Nat->ae} {nx:Nat} {v u:V} {l:List V}:x5 K o nx (some (v::u::l))=K (.bT (v::u::l)) o nx:=propext Iff.rfl
theorem Bk{K X:V->(Nat->ae)->Nat->Prop}:lb P rs K X .ret s=x5 K s.o s.nx (kX P s rs):=by
 unfold lb x5
 cases kX P s rs with
 |none=>rfl
 |some l=>match l with
  |[]=>rfl
  |[_]=>rfl
  |_::_::_=>rfl
@[go_sem ↓] theorem Ob {K X:V->(Nat->ae)->Nat->Prop}:ET P rs K X .ret s=x5 K s.o s.nx (kX P s rs):=Bk
@[go_sem ↓] theorem I2 {K X:V->(Nat->ae)->Nat->Prop}:ET P rs K X .normal s=x5 K s.o s.nx (kX P s rs):=(Bk (X:=X):lb P rs K X .ret s=_)
@[go_sem ↓] theorem Oc {K X:V->(Nat->ae)->Nat->Prop} {v:V}:ET P rs K X (.bK v) s=X v s.o s.nx:=propext Iff.rfl
variable {KE:S->Fp->Prop}{KP:V->List Nat->Fp->Prop}{pr:List (List Nat)}{fr:Nat}{fp:Fp}
@[go_sem] theorem Od:oQ P KE KP pr [] fr s fp=KE s fp:=propext Iff.rfl
@[go_sem] theorem MK {d:Option Nat} {op:Op} {l:List b7}:oQ P KE KP pr (⟨d,op,none⟩::l) fr s fp=
 Gv P (fun v Δ rd=>oQ P KE KP pr l (fr+1) ⟨aY s.env d v,put s.o Δ,s.nx⟩ (fp++[(rd,Δ.map (·.1))]))
  (fun v ws rd=>CO P (KP v) pr l (fr+1) (fp++[(rd,[])]) [fp.length] (ws++fp.flatMap (·.2)) ⟨aY s.env d .aa,s.o,s.nx⟩) fr ⟨d,op,none⟩ s:=propext Iff.rfl
@[go_sem] theorem ML {d:Option Nat} {op:Op} {g:Nat} {w:Bool} {l:List b7}:oQ P KE KP pr (⟨d,op,some (g,w)⟩::l) fr s fp=
 jk w (Gv P (fun v Δ rd=>oQ P KE KP pr l (fr+1) ⟨aY s.env d v,put s.o Δ,s.nx⟩ (fp++[(rd,Δ.map (·.1))]))
  (fun v ws rd=>CO P (KP v) pr l (fr+1) (fp++[(rd,[])]) [fp.length] (ws++fp.flatMap (·.2)) ⟨aY s.env d .aa,s.o,s.nx⟩) fr ⟨d,op,some (g,w)⟩ s)
   (oQ P KE KP pr l (fr+1) ⟨aY s.env d (.bT []),s.o,s.nx⟩ (fp++[([],[])])) (s.env g):=propext Iff.rfl
end
attribute [go_sem] N4 fk jY fT one lj aY S.ev xU
theorem aE{ι:Type}{b:Nat}{st:ι->S}{cQ:ι->Prop}{nJ:ι->Nat}{i:ι}{s:S}(j:ι)(h1:cQ j)(h2:nJ j<nJ i)(h3:cq b s (st j)):xX b st cQ nJ i s:=⟨j,h1,h2,h3⟩
attribute [irreducible] jZ qN zj vU Ad qp ml Bi si xV jH CN gZ jk ER sj pK pL xW sm Gv oQ CO Ae uF ET x5 G5 uH jI Hb KC Hc sn xX
end Go.Proofs.YtealblliddhgiaaGreat
