/-
  A PART OF THE PROOF. Conditions: none.
-/
import Derived.Test.YtealblliddhgiaaGreatMt7
set_option linter.unusedSimpArgs false
set_option linter.unusedVariables false
namespace Go.Proofs.YtealblliddhgiaaGreat
def qK(P:Program)(g:FuncId)(ds:List D)(Kf Kb KX:V->Prop):Prop:=
 (∃rs,bC P g ds (.ret rs)/\(Kf (gr rs)\/(D.je rs=true/\Kb (gr rs))))\/(∃x,bC P g ds (.bJ x)/\x.flat=true/\KX (.d x))\/(∃v,Pl P g ds v/\Kf v)
def iy(P:Program)(g:FuncId)(args:List V)(o:Nat->ab)(nx fr:Nat)(K:V->List (Nat×ab)->List Nat->Prop)(KX:V->List Nat->List Nat->Prop):Prop:=
 ∃rd Δ,rd.all (fun id=>decide (id<nx))=true/\((∃rs,wA P g args rd o (.ret rs) Δ/\K (gr rs) Δ rd)\/(∃x,wA P g args rd o (.bJ x) Δ/\KX (.d x) (Δ.map (·.1)) rd)\/(∃v,AV P g args rd o fr v Δ/\K v Δ rd))
def xJ(P:Program)(s:S)(fr:Nat)(o:bZ)(K:V->List (Nat×ab)->List Nat->Prop)(KX:V->List Nat->List Nat->Prop):Prop:=
 match o.op with
 | .call c=>match c.callee with
   | .value f=>match s.ev f with
     | .func (.func g) first cap=>match bW s.o (first++c.args.toList.map s.ev++cap)with
       |some ds=>qK P g ds (fun v=>K v (cH s.o (V.bg (first++c.args.toList.map s.ev++cap))) (iR s o.op)) (fun v=>K v [] (iR s o.op)) (fun v=>KX v [] (iR s o.op))\/iy P g (first++c.args.toList.map s.ev++cap) s.o s.nx fr K KX
       |none=>iy P g (first++c.args.toList.map s.ev++cap) s.o s.nx fr K KX
     |_=>False
   |_=>match fP P s fr o.op with
    |some (v,Δ,_)=>K v Δ (iR s o.op)
    |none=>False
 |op=>match fP P s fr op with
  |some (v,Δ,_)=>K v Δ (iR s o.op)
  |none=>False
abbrev Fp:=List (List Nat×List Nat)
def gE(P:Program)(KB:List Nat->Fp->Prop)(pr:List (List Nat)):List bZ->Nat->S->Fp->List Nat->List Nat->Prop
 |[],_,_,fp,_,ws=>KB ws fp
 |o::l,fr,s,fp,bad,ws=>if(pr.getD fp.length []).any (fun j=>bad.contains j)=true then gE P KB pr l (fr+1) ⟨a8 s.env o.dst .af,s.o,s.nx⟩ (fp++[([],[])]) (bad++[fp.length]) ws
  else match o.gd with
  |none=>xJ P s fr o (fun v Δ rd=>gE P KB pr l (fr+1) ⟨a8 s.env o.dst v,put s.o Δ,s.nx⟩ (fp++[(rd,Δ.map (·.1))]) bad (ws++Δ.map (·.1))) (fun _ _ _=>False)
  |some (d,want)=>match s.env d with
   | .d (.bool b)=>if b=want then xJ P s fr o (fun v Δ rd=>gE P KB pr l (fr+1) ⟨a8 s.env o.dst v,put s.o Δ,s.nx⟩ (fp++[(rd,Δ.map (·.1))]) bad (ws++Δ.map (·.1))) (fun _ _ _=>False)
    else gE P KB pr l (fr+1) ⟨a8 s.env o.dst (.bU []),s.o,s.nx⟩ (fp++[([],[])]) bad ws
   | .bU []=>gE P KB pr l (fr+1) ⟨a8 s.env o.dst (.bU []),s.o,s.nx⟩ (fp++[([],[])]) bad ws
   |_=>False
def jX(P:Program)(K:S->Fp->Prop)(KP:V->List Nat->Fp->Prop)(pr:List (List Nat)):List bZ->Nat->S->Fp->Prop
 |[],_,s,fp=>K s fp
 |o::l,fr,s,fp=>match o.gd with
  |none=>xJ P s fr o (fun v Δ rd=>jX P K KP pr l (fr+1) ⟨a8 s.env o.dst v,put s.o Δ,s.nx⟩ (fp++[(rd,Δ.map (·.1))]))
   (fun v ws rd=>gE P (KP v) pr l (fr+1) ⟨a8 s.env o.dst .af,s.o,s.nx⟩ (fp++[(rd,[])]) [fp.length] (ws++fp.flatMap (·.2)))
  |some (d,want)=>match s.env d with
   | .d (.bool b)=>if b=want then xJ P s fr o (fun v Δ rd=>jX P K KP pr l (fr+1) ⟨a8 s.env o.dst v,put s.o Δ,s.nx⟩ (fp++[(rd,Δ.map (·.1))]))
         (fun v ws rd=>gE P (KP v) pr l (fr+1) ⟨a8 s.env o.dst .af,s.o,s.nx⟩ (fp++[(rd,[])]) [fp.length] (ws++fp.flatMap (·.2)))
    else jX P K KP pr l (fr+1) ⟨a8 s.env o.dst (.bU []),s.o,s.nx⟩ (fp++[([],[])])
   | .bU []=>jX P K KP pr l (fr+1) ⟨a8 s.env o.dst (.bU []),s.o,s.nx⟩ (fp++[([],[])])
   |_=>False
def A3(pr:List (List Nat))(nx:Nat)(Q:fO->S->Prop)(s:S)(fp:Fp):Prop:=eg pr fp=true/\Q .normal ⟨s.env,s.o,nx⟩
def dstsOf(l:List bZ):List Nat:=l.filterMap (·.dst)
def yN(pr:List (List Nat))(l:List bZ)(s0:S)(Q:fO->S->Prop)(v:V)(wl:List Nat)(fp:Fp):Prop:=eg pr fp=true/\Q (.bJ v) (p7 (dstsOf l) wl l.length s0)
def mi:List bZ->List eU->S->Nat->S
 |_,_,s,0=>s
 |o::l,x::xs,s,j+1=>mi l xs (ub o.dst x s) j
 |_,_,s,_=>s
def uV(bX:List eU):Fp:=bX.map fun x=>(um x,jV x)
section
variable {P:Program}{n b:Nat}
theorem yO{s:S}{fr:Nat}{o:bZ}{K:V->List (Nat×ab)->List Nat->Prop}{KX:V->List Nat->List Nat->Prop}(h:xJ P s fr o K KX):(∃v Δ rd,uR P s fr o.op v Δ rd/\K v Δ rd)\/(∃v ws rd,yF P s o.op v ws rd/\KX v ws rd):=by
 have hs:∀ {op:Op},o.op=op->(match fP P s fr op with|some (v,Δ,_)=>K v Δ (iR s o.op)|none=>False)->(∃v Δ rd,uR P s fr o.op v Δ rd/\K v Δ rd):=by
  intro op dt h
  split at h
  ·rename_i v Δ rd he;exact⟨v,Δ,_, .inl ⟨⟨rd,by rw[dt];exact he⟩,rfl⟩,h⟩
  ·exact h.elim
 unfold xJ at h
 split at h
 ·rename_i c hc
  split at h
  ·rename_i f dN
   split at h
   ·rename_i g first cap hf
    split at h
    ·rename_i ds eC
     rcases h with(⟨rs,hP,h|⟨la,h⟩⟩|⟨x,hP,la,h⟩|⟨v,hP,h⟩)|⟨rd,Δ,lS,⟨rs,hH,h⟩|⟨x,hH,h⟩|⟨v,hH,h⟩⟩
     ·exact .inl ⟨_,_,_, .inr ⟨c,f,g,first,cap,hc,dN,hf, .inl ⟨ds,rs,eC,hP,rfl,rfl, .inl rfl⟩⟩,h⟩
     ·exact .inl ⟨_,_,_, .inr ⟨c,f,g,first,cap,hc,dN,hf, .inl ⟨ds,rs,eC,hP,rfl,rfl, .inr ⟨la,rfl⟩⟩⟩,h⟩
     ·exact .inr ⟨_,_,_,⟨c,f,g,first,cap,hc,dN,hf, .inl ⟨ds,x,eC,hP,la,rfl,rfl,rfl⟩⟩,h⟩
     ·exact .inl ⟨_,_,_, .inr ⟨c,f,g,first,cap,hc,dN,hf, .inr (.inr (.inl ⟨ds,eC,hP,rfl,rfl⟩))⟩,h⟩
     ·exact .inl ⟨_,_,_, .inr ⟨c,f,g,first,cap,hc,dN,hf, .inr (.inl ⟨rs,hH,rfl,fun id aw=>by simpa using List.all_eq_true.1 lS id aw⟩)⟩,h⟩
     ·exact .inr ⟨_,_,_,⟨c,f,g,first,cap,hc,dN,hf, .inr ⟨x,Δ,hH,rfl,rfl,fun id aw=>by simpa using List.all_eq_true.1 lS id aw⟩⟩,h⟩
     ·exact .inl ⟨_,_,_, .inr ⟨c,f,g,first,cap,hc,dN,hf, .inr (.inr (.inr ⟨hH,fun id aw=>by simpa using List.all_eq_true.1 lS id aw⟩))⟩,h⟩
    ·obtain⟨rd,Δ,lS,⟨rs,hH,h⟩|⟨x,hH,h⟩|⟨v,hH,h⟩⟩:=h
     ·exact .inl ⟨_,_,_, .inr ⟨c,f,g,first,cap,hc,dN,hf, .inr (.inl ⟨rs,hH,rfl,fun id aw=>by simpa using List.all_eq_true.1 lS id aw⟩)⟩,h⟩
     ·exact .inr ⟨_,_,_,⟨c,f,g,first,cap,hc,dN,hf, .inr ⟨x,Δ,hH,rfl,rfl,fun id aw=>by simpa using List.all_eq_true.1 lS id aw⟩⟩,h⟩
     ·exact .inl ⟨_,_,_, .inr ⟨c,f,g,first,cap,hc,dN,hf, .inr (.inr (.inr ⟨hH,fun id aw=>by simpa using List.all_eq_true.1 lS id aw⟩))⟩,h⟩
   ·exact h.elim
  ·rw[hc]at h;exact .inl (hs hc (by rw[hc];exact h))
 ·exact .inl (hs rfl h)
def Ia(P:Program)(KB:List Nat->Fp->Prop)(pr:List (List Nat))(l:List bZ)(fr:Nat)(s:S)(fp:Fp)(bad ws:List Nat):Prop:=
    ∃bX:List eU,bX.length=l.length/\(∀j o x,l[j]? =some o->bX[j]? =some x->JW P (mi l bX s j) (fr+j) o x)/\
     (∀ (j:Nat),bX[j]? =some eU.eA->∃i∈pr.getD (fp.length+j) [],i∈bad\/∃j',j'<j/\i=fp.length+j'/\bX[j']? =some .eA)/\(∀x∈bX,x= .eA\/x.ok=true)/\
     ∃wl,KB wl (fp++uV bX)/\(∀id∈ws,id∈wl)/\∀x∈bX,∀id∈jV x,id∈wl
theorem yP{KB:List Nat->Fp->Prop}{pr:List (List Nat)}:∀ (l:List bZ) (fr:Nat) (s:S) (fp:Fp) (bad ws:List Nat),gE P KB pr l fr s fp bad ws->Ia P KB pr l fr s fp bad ws
 |[],fr,s,fp,bad,ws,h=>⟨[],rfl,fun j o x hj=>by simp at hj,fun j hj=>by simp at hj,fun x hx=>by simp at hx,ws,by simpa[uV,gE]using h,fun _ h=>h,fun x hx=>by simp at hx⟩
 |o::l,fr,s,fp,bad,ws,h=>by
  have step:∀ (x:eU) (Ib JZ:List Nat),JW P s fr o x->gE P KB pr l (fr+1) (ub o.dst x s) (fp++[(um x,jV x)]) Ib JZ->(x= .eA\/x.ok=true)->(x= .eA->∃i∈pr.getD fp.length [],i∈bad)->
   (∀i∈Ib,i∈bad\/(i=fp.length/\x= .eA))->(∀id∈ws,id∈JZ)->(∀id∈jV x,id∈JZ)->
   Ia P KB pr (o::l) fr s fp bad ws:=by
   intro x Ib JZ bB hr Zp Lu Ly H7 hW
   obtain⟨bX,h1,h2,h3,h4,wl,h5,h6,h7⟩:=yP l (fr+1) _ _ Ib JZ hr
   refine⟨x::bX,by simp[h1],fun j o' y hj hy=> ?_,fun j hj=> ?_,fun y hy=> ?_,wl,by simpa[uV]using h5,fun id aw=>h6 id (H7 id aw),fun y hy id aw=> ?_⟩
   ·cases j with
    |zero=>simp at hj hy;subst hj;subst hy;exact bB
    |succ j=>
     have:=h2 j o' y (by simpa using hj) (by simpa using hy)
     rw[show fr+(j+1)=fr+1+j by omega]
     exact this
   ·cases j with
    |zero=>
     simp at hj
     obtain⟨i,i1,i2⟩:=Lu hj
     exact⟨i,by simpa using i1, .inl i2⟩
    |succ j=>
     obtain⟨i,i1,i2⟩:=h3 j (by simpa using hj)
     simp only[List.length_append,List.length_cons,List.length_nil]at i1 i2
     refine⟨i,by rw[show fp.length+(j+1)=fp.length+(0+1)+j by omega];exact i1, ?_⟩
     rcases i2 with i2|⟨j',j1,j2,j3⟩
     ·rcases Ly i i2 with hb|⟨e1,e2⟩
      ·exact .inl hb
      ·exact .inr ⟨0,by omega,by omega,by simp[e2]⟩
     ·exact .inr ⟨j'+1,by omega,by omega,by simpa using j3⟩
   ·rcases List.mem_cons.1 hy with rfl|hy
    ·exact Zp
    ·exact h4 y hy
   ·rcases List.mem_cons.1 hy with rfl|hy
    ·exact h6 id (hW id aw)
    ·exact h7 y hy id aw
  simp only[gE]at h
  split at h
  ·rename_i hb
   obtain⟨j,Xp,HX⟩:=List.any_eq_true.1 hb
   exact step .eA _ _ trivial h (.inl rfl) (fun _=>⟨j,Xp,by simpa using HX⟩) (fun i hi=>by
    rcases List.mem_append.1 hi with hi|hi
    ·exact .inl hi
    ·exact .inr ⟨by simpa using hi,rfl⟩) (fun _ h=>h) (fun id aw=>by simp[jV]at aw)
  ·have sM:cT s o.gd true->xJ P s fr o (fun v Δ rd=>gE P KB pr l (fr+1) ⟨a8 s.env o.dst v,put s.o Δ,s.nx⟩ (fp++[(rd,Δ.map (·.1))]) bad (ws++Δ.map (·.1))) (fun _ _ _=>False)->Ia P KB pr (o::l) fr s fp bad ws:=fun hg h=>by
    rcases yO h with⟨v,Δ,rd,rb,h⟩|⟨v,JZ,rd,_,h⟩
    ·exact step (.val v Δ rd) bad (ws++Δ.map (·.1)) ⟨hg,rb⟩ h (.inr rfl) (fun h=>by cases h) (fun i hi=> .inl hi) (fun id aw=>List.mem_append.2 (.inl aw)) (fun id aw=>List.mem_append.2 (.inr aw))
    ·exact h.elim
   have skip:cT s o.gd false->gE P KB pr l (fr+1) ⟨a8 s.env o.dst (.bU []),s.o,s.nx⟩ (fp++[([],[])]) bad ws->Ia P KB pr (o::l) fr s fp bad ws:=fun hg h=>
    step .skip bad ws hg h (.inr rfl) (fun h=>by cases h) (fun i hi=> .inl hi) (fun id aw=>aw) (fun id aw=>by simp[jV]at aw)
   split at h
   ·rename_i hg;exact sM (by rw[hg];rfl) h
   ·rename_i d want hg
    split at h
    ·rename_i c hv
     split at h
     ·rename_i e;exact sM (by rw[hg];simp[cT,hv,e]) h
     ·rename_i e;exact skip (by rw[hg];simp[cT,hv,e]) h
    ·rename_i hv;exact skip (by rw[hg];simp[cT,hv]) h
    ·exact h.elim
def FA(P:Program)(K:S->Fp->Prop)(KP:V->List Nat->Fp->Prop)(pr:List (List Nat))(l:List bZ)(fr:Nat)(s:S)(fp:Fp):Prop:=
 ∃bX:List eU,bX.length=l.length/\(∀j o x,l[j]? =some o->bX[j]? =some x->JW P (mi l bX s j) (fr+j) o x)/\
  (((∀x∈bX,x.ok=true)/\K (mi l bX s l.length) (fp++uV bX))\/
   ∃v wl,(∀ (j:Nat) (v':V) (ws rd:List Nat),bX[j]? =some (eU.bJ v' ws rd)->v'=v/\∀id∈ws,id∈wl)/\(∃x∈bX,x.ok=false)/\
    (∀ (j:Nat),bX[j]? =some eU.eA->∃i∈pr.getD (fp.length+j) [],∃j',i=fp.length+j'/\∃y,bX[j']? =some y/\y.ok=false)/\KP v wl (fp++uV bX)/\(∀x∈bX,∀id∈jV x,id∈wl)/\∀id∈fp.flatMap (·.2),id∈wl)
theorem sN{K:S->Fp->Prop}{KP:V->List Nat->Fp->Prop}{pr:List (List Nat)}:∀ (l:List bZ) (fr:Nat) (s:S) (fp:Fp),jX P K KP pr l fr s fp->FA P K KP pr l fr s fp
 |[],fr,s,fp,h=>⟨[],rfl,fun j o x hj=>by simp at hj, .inl ⟨fun x hx=>by simp at hx,by simpa[mi,uV,jX]using h⟩⟩
 |o::l,fr,s,fp,h=>by
  have step:∀ (x:eU),x.ok=true->JW P s fr o x->jX P K KP pr l (fr+1) (ub o.dst x s) (fp++[(um x,jV x)])->FA P K KP pr (o::l) fr s fp:=by
   intro x Pq bB hr
   obtain⟨bX,h1,h2,h3⟩:=sN l (fr+1) _ _ hr
   refine⟨x::bX,by simp[h1],fun j o' y hj hy=> ?_, ?_⟩
   ·cases j with
    |zero=>simp at hj hy;subst hj;subst hy;exact bB
    |succ j=>
     have:=h2 j o' y (by simpa using hj) (by simpa using hy)
     rw[show fr+(j+1)=fr+1+j by omega]
     exact this
   ·rcases h3 with⟨h3,h4⟩|⟨v,wl,g1,g2,g3,g4,g5,g6⟩
    ·left
     refine⟨fun y hy=> ?_,by simpa[mi,uV]using h4⟩
     rcases List.mem_cons.1 hy with rfl|hy
     ·exact Pq
     ·exact h3 y hy
    ·right
     refine⟨v,wl,fun j v' ws rd hj=> ?_, ?_,fun j hj=> ?_,by simpa[uV]using g4,fun y hy id aw=> ?_,fun id aw=>g6 id (by simp only[List.flatMap_append,List.mem_append];exact .inl aw)⟩
     ·cases j with
      |zero=>simp at hj;rw[hj]at Pq;cases Pq
      |succ j=>exact g1 j v' ws rd (by simpa using hj)
     ·obtain⟨y,y1,y2⟩:=g2;exact⟨y,by simp[y1],y2⟩
     ·cases j with
      |zero=>simp at hj;rw[hj]at Pq;cases Pq
      |succ j=>
       obtain⟨i,i1,j',i2,y,i3,i4⟩:=g3 j (by simpa using hj)
       simp only[List.length_append,List.length_cons,List.length_nil]at i1 i2
       exact⟨i,by rw[show fp.length+(j+1)=fp.length+(0+1)+j by omega];exact i1,j'+1,by omega,y,by simpa using i3,i4⟩
     ·rcases List.mem_cons.1 hy with rfl|hy
      ·exact g6 id (by simp only[List.flatMap_append,List.mem_append];exact .inr (by simpa using aw))
      ·exact g5 y hy id aw
  have bJ:∀ (v:V) (ws rd:List Nat),JW P s fr o (.bJ v ws rd)->gE P (KP v) pr l (fr+1) ⟨a8 s.env o.dst .af,s.o,s.nx⟩ (fp++[(rd,[])]) [fp.length] (ws++fp.flatMap (·.2))->FA P K KP pr (o::l) fr s fp:=by
   intro v ws rd bB hr
   obtain⟨bX,h1,h2,h3,h4,wl,h5,h6,h7⟩:=yP l (fr+1) _ _ _ _ hr
   refine⟨eU.bJ v ws rd::bX,by simp[h1],fun j o' y hj hy=> ?_, .inr ⟨v,wl,fun j v' JZ uQ hj=> ?_,⟨eU.bJ v ws rd,by simp,rfl⟩,fun j hj=> ?_,by simpa[uV,um,jV]using h5,fun y hy id aw=> ?_,fun id aw=>h6 id (List.mem_append.2 (.inr aw))⟩⟩
   ·cases j with
    |zero=>simp at hj hy;subst hj;subst hy;exact bB
    |succ j=>
     have:=h2 j o' y (by simpa using hj) (by simpa using hy)
     rw[show fr+(j+1)=fr+1+j by omega]
     exact this
   ·cases j with
    |zero=>simp at hj;obtain⟨rfl,rfl,rfl⟩:=hj;exact⟨rfl,fun id aw=>h6 id (List.mem_append.2 (.inl aw))⟩
    |succ j=>
     have hm:=List.mem_of_getElem? (show bX[j]? =some (.bJ v' JZ uQ) by simpa using hj)
     rcases h4 _ hm with h|h<;>cases h
   ·cases j with
    |zero=>simp at hj
    |succ j=>
     obtain⟨i,i1,i2⟩:=h3 j (by simpa using hj)
     simp only[List.length_append,List.length_cons,List.length_nil]at i1 i2
     refine⟨i,by rw[show fp.length+(j+1)=fp.length+(0+1)+j by omega];exact i1, ?_⟩
     rcases i2 with i2|⟨j',j1,j2,j3⟩
     ·exact⟨0,by simpa using i2,_,rfl,rfl⟩
     ·exact⟨j'+1,by omega, .eA,by simpa using j3,rfl⟩
   ·rcases List.mem_cons.1 hy with rfl|hy
    ·simp[jV]at aw
    ·exact h7 y hy id aw
  have sM:cT s o.gd true->xJ P s fr o (fun v Δ rd=>jX P K KP pr l (fr+1) ⟨a8 s.env o.dst v,put s.o Δ,s.nx⟩ (fp++[(rd,Δ.map (·.1))]))
   (fun v ws rd=>gE P (KP v) pr l (fr+1) ⟨a8 s.env o.dst .af,s.o,s.nx⟩ (fp++[(rd,[])]) [fp.length] (ws++fp.flatMap (·.2)))->FA P K KP pr (o::l) fr s fp:=fun hg h=>by
   rcases yO h with⟨v,Δ,rd,rb,h⟩|⟨v,ws,rd,rb,h⟩
   ·exact step (.val v Δ rd) rfl ⟨hg,rb⟩ h
   ·exact bJ v ws rd ⟨hg,rb⟩ h
  have skip:cT s o.gd false->jX P K KP pr l (fr+1) ⟨a8 s.env o.dst (.bU []),s.o,s.nx⟩ (fp++[([],[])])->FA P K KP pr (o::l) fr s fp:=fun hg h=>step .skip rfl hg h
  simp only[jX]at h
  split at h
  ·rename_i hg;exact sM (by rw[hg];rfl) h
  ·rename_i d want hg
   split at h
   ·rename_i c hv
    split at h
    ·rename_i e;exact sM (by rw[hg];simp[cT,hv,e]) h
    ·rename_i e;exact skip (by rw[hg];simp[cT,hv,e]) h
   ·rename_i hv;exact skip (by rw[hg];simp[cT,hv]) h
   ·exact h.elim
end
end Go.Proofs.YtealblliddhgiaaGreat
namespace Go.Proofs.YtealblliddhgiaaGreat
def rq(env:Nat->V):List Nat->List V->Nat->V
 |t::ps,v::vs=>rq (ax env t v) ps vs
 |_,_=>env
def FB(pr:List (List Nat))(m:Nat):Bool:=(List.range pr.length).all fun k=>Nat.blt k m||Nat.beq ((dR pr []).getD k 0) (2^k - 1)
def FC(P:Program)(l:List bZ)(pr:List (List Nat))(Q:fO->S->Prop)(s:S):Prop:=
 ∃m,m<=l.length/\FB pr m=true/\jX P (fun s' fp=>eg pr fp=true/\nP P (fun v s=>Q (.bJ v) s) (Q .normal) (l.drop m) ⟨s'.env,s'.o,s.nx+m⟩) (fun _ _ _=>False) pr (l.take m) s.nx s []
def rD(P:Program)(n b:Nat)(rd:Bool):IC->(fO->S->Prop)->S->Prop
 | .skip,Q,s=>Q .normal s
 | .ad l,Q,s=>nP P (fun v s=>Q (.bJ v) s) (Q .normal) l s
 | .cG l pr,Q,s=>jX P (A3 pr (s.nx+l.length) Q) (yN pr l s Q) pr l s.nx s []\/FC P l pr Q s
 | .seq x y,Q,s=>rD P n b rd x (oP (rD P n b rd y Q) Q) s
 | .cond c x y,Q,s=>match s.ev c with
   | .d (.bool t)=>o8 t (rD P n b rd x Q s) (rD P n b rd y Q s)
   | .eK=>rD P n b rd x Q s/\rD P n b rd y Q s
   |_=>False
 | .block id x,Q,s=>rD P n b rd x (eZ id Q) s
 | .loop x,Q,s=>Fu b (rD P n b rd x) Q s
 | .exit id,Q,s=>Q (.exit id) s
 | .ret,Q,s=>Q .ret s
 | .C8 g ps x y,Q,s=>rd=false/\yr P n (s.ev g) ps x y Q s
 | .bad,_,_=>False
section
variable {P:Program}{n b:Nat}{rd:Bool}
theorem sO:∀ (l:List bZ) (bX:List eU) (s:S) (k:Nat) (o:bZ) (x:eU),l[k]? =some o->bX[k]? =some x->mi l bX s (k+1)=ub o.dst x (mi l bX s k)
 |[],_,_,_,_,_,h,_=>by simp at h
 |o::l,[],_,_,_,_,_,h=>by simp at h
 |o::l,x::xs,s,0,o',x',h,h'=>by simp at h h';subst h;subst h';cases l<;>cases xs<;>rfl
 |o::l,x::xs,s,k+1,o',x',h,h'=>by
  simp only[mi]
  exact sO l xs _ k o' x' (by simpa using h) (by simpa using h')
theorem uW(l:List bZ)(bX:List eU)(s:S)(hl:bX.length=l.length):∀k,k<=l.length->eo (bR l) (fun i=>bX.getD i default) (fun _=>true) s k=mi l bX s k:=by
 intro k
 induction k with
 |zero=>intro _;cases l<;>cases bX<;>rfl
 |succ k ih=>
  intro hk
  have h1:l[k]? =some (bR l k):=by simp[bR,List.getD_eq_getElem?_getD,List.getElem?_eq_getElem (by omega:k<l.length)]
  have h2:bX[k]? =some (bX.getD k default):=by simp[List.getD_eq_getElem?_getD,List.getElem?_eq_getElem (by omega:k<bX.length)]
  simp only[eo,if_true,ih (by omega)]
  rw[sO l bX s k _ _ h1 h2]
theorem mj{ops:Array Oper}:∀ (l:List Oper) (l':List bZ),kg n ops l=some l'->l'.length=l.length
 |[],_,h=>by simp[kg]at h;subst h;rfl
 |o::l,l',h=>by
  simp only[kg]at h
  split at h
  ·rename_i hx;injection h with h;subst h;simp[mj l _ hx]
  ·cases h
theorem DN(bc:P.follows .mixedOrders=true){id:Nat}{ops:Array Oper}{l:List bZ}{Q Q':fO->S->Prop}{s:S}(hQ:∀e s,Q e s->Q' e s)(nd:kg n ops ops.toList=some l)(ht:vI l (fQ ops)=true)
 (hp:Li (fQ ops)=true) (h:jX P (A3 (fQ ops) (s.nx+l.length) Q) (yN (fQ ops) l s Q) (fQ ops) l s.nx s []):iF P n b rd (.region id ops true) Q' s:=by
 intro M cu H0 w0 cx φ a w ro k hs
 obtain⟨bX,hl,bB,nR⟩:=sN l _ _ _ h
 have hlen:l.length=ops.size:=by rw[mj _ _ nd];simp
 have rB:∀k,k<ops.size->(fQ ops).getD k []=bE ops k:=by
  intro k hk;simp[fQ,List.getD_eq_getElem?_getD,List.getElem?_map,List.getElem?_range hk]
 have vO:(fQ ops).length=ops.size:=by simp[fQ]
 have rb:=uW l bX s hl
 have qL:∀k,k<ops.size->l[k]? =some (bR l k):=fun k hk=>by simp[bR,List.getD_eq_getElem?_getD,List.getElem?_eq_getElem (by omega:k<l.length)]
 have rp:∀k,k<ops.size->bX[k]? =some (bX.getD k default):=fun k hk=>by simp[List.getD_eq_getElem?_getD,List.getElem?_eq_getElem (by omega:k<bX.length)]
 have sv:∀k,k<ops.size->bX.getD k default∈bX:=fun k hk=>List.mem_of_getElem? (rp k hk)
 have HM:∀k,k<ops.size->(uV bX)[k]? =some (um (bX.getD k default),jV (bX.getD k default)):=fun k hk=>by
  simp only[uV,List.getElem?_map,rp k hk,Option.map_some]
 have Lz:(uV bX).length=ops.size:=by simp[uV,hl,hlen]
 simp only[List.nil_append,List.length_nil,Nat.zero_add]at nR
 have sb:eg (fQ ops) (uV bX)=true:=by
  rcases nR with⟨_,h⟩|⟨v,wl,_,_,_,h,_⟩
  ·exact h.1
  ·exact h.1
 have DO:∀k,k<ops.size->∀j∈bE ops k,j<k:=fun k hk j hj=>by
  have:=List.all_eq_true.1 hp k (by simpa[vO]using hk)
  rw[rB k hk]at this
  simpa using List.all_eq_true.1 this j hj
 have FE:∀k,k<(fQ ops).length->∀j∈(fQ ops).getD k [],j<k:=fun k hk j hj=>by
  rw[vO]at hk;rw[rB k hk]at hj;exact DO k hk j hj
 let po:Nat->Nat->Prop:=fun k j=>((dR (fQ ops) []).getD k 0).testBit j=true
 have B6:∀E:Nat->Bool,(∀k,k<ops.size->E k=true->∀j∈bE ops k,E j=true)->∀k,k<ops.size->(∀j∈bE ops k,E j=true)->∀j,po k j->E j=true:=fun E hE k hk hj j hb=>
  oq FE (fun k hk fZ j hj=>by rw[vO]at hk;rw[rB k hk]at hj;exact hE k hk fZ j hj) k (by rw[vO];exact hk) (by rw[rB k hk];exact hj) j hb
 have yL:∀k,k<ops.size->∀j,po k j->j<k:=fun k hk j hb=>xM FE k (by rw[vO];exact hk) j hb
 have wG:∀i j,i<j->j<ops.size-> ¬po j i->Compat (bR l) (fun i=>bX.getD i default) (fun i=>um (bX.getD i default)) i j:=by
  intro i j Pr hj hn
  have yc:=List.all_eq_true.1 (List.all_eq_true.1 ht j (by simpa[hlen]using hj)) i (by simpa using Pr)
  have yu:=List.all_eq_true.1 (List.all_eq_true.1 sb j (by simpa[Lz]using hj)) i (by simpa using Pr)
  have Uu:((dR (fQ ops) []).getD j 0).testBit i=false:=by simpa[po]using hn
  rw[Uu,Bool.false_or]at yc yu
  simp only[Bool.and_eq_true]at yc yu
  have gi:=HM i (by omega)
  have gj:=HM j hj
  simp only[List.getD_eq_getElem?_getD (l:=uV bX),gi,gj,Option.getD_some]at yu
  have dj:∀ {xs ys:List Nat},jR xs ys=true->∀x∈xs,x∉ys:=fun h x hx=>by simpa using List.all_eq_true.1 h x hx
  have fo:∀ {x y:bZ},pJ x y=true->∀d,x.dst=some d->d∉eJ y:=fun h d hd=>by simpa[pJ,hd]using h
  exact⟨fo yc.1,fo yc.2,fun id aw=>⟨dj yu.1.1 id aw,dj yu.1.2 id aw⟩,fun id aw=>dj yu.2 id aw⟩
 have J0:∀i,i<ops.size->JW P (eo (bR l) (fun i=>bX.getD i default) (fun _=>true) s i) (s.nx+i) (bR l i) (bX.getD i default):=fun i hi=>by
  rw[rb i (by omega)];exact bB i _ _ (qL i hi) (rp i hi)
 have cC:∀i,i<ops.size->∀t,(bR l i).dst=some t->(dstsOf l).contains t=true:=fun i hi t ht=>by
  simp only[List.contains_iff_mem,dstsOf,List.mem_filterMap]
  exact⟨bR l i,List.mem_of_getElem? (qL i hi),ht⟩
 rcases nR with⟨aN,nR⟩|⟨v,wl,q1,q2,q3,q4,q5,q6⟩
 ·refine yK (ac:=fun i=>bX.getD i default) (dl:=dstsOf l) (wl:=(bX.flatMap jV)) bc nd DO hs J0 (fun i hi hb=> ?_) B6 yL wG cC (fun i hi id aw=> ?_) (fun i v ws uQ hi hb=> ?_) (fun _ φ a w jA=> ?_) (fun i v ws uQ hi hb=> ?_)
  ·have:=aN _ (sv i hi);rw[hb]at this;cases this
  ·simp only[List.contains_iff_mem,List.mem_flatMap];exact⟨_,sv i hi,aw⟩
  ·have:=aN _ (sv i hi);rw[hb]at this;cases this
  ·rw[rb ops.size (by omega), <- hlen]at jA
   exact⟨.normal,_,φ,hQ _ _ nR.2,jA,trivial⟩
  ·have:=aN _ (sv i hi);rw[hb]at this;cases this
 ·refine yK (ac:=fun i=>bX.getD i default) (dl:=dstsOf l) (wl:=wl) bc nd DO hs J0 (fun i hi hb=> ?_) B6 yL wG cC (fun i hi id aw=> ?_) (fun i v' ws uQ hi hb=> ?_) (fun aN φ a w jA=> ?_) (fun i v' ws uQ hi hb φ a w val jA hd=> ?_)
  ·obtain⟨j,j1,j',e,y,j3,j4⟩:=q3 i (by rw[rp i hi];exact congrArg some hb)
   rw[rB i hi,e]at j1
   refine⟨j',j1, ?_⟩
   simp only[List.getD_eq_getElem?_getD,j3,Option.getD_some,j4]
  ·simp only[List.contains_iff_mem];exact q5 _ (sv i hi) id aw
  ·intro id aw
   simp only[List.contains_iff_mem]
   exact(q1 i v' ws uQ (by rw[rp i hi];exact congrArg some hb)).2 id aw
  ·obtain⟨x,x1,x2⟩:=q2
   obtain⟨i,HC,EU⟩:=List.getElem_of_mem x1
   have hi:i<ops.size:=by omega
   have:=aN i hi
   have e:bX.getD i default=x:=by simp[List.getD_eq_getElem?_getD,List.getElem?_eq_getElem HC,EU]
   rw[e,x2]at this;cases this
  ·have e:=(q1 i v' ws uQ (by rw[rp i hi];exact congrArg some hb)).1
   subst e
   rw[<- hlen]at jA hd
   exact⟨.bJ v',_,φ,hQ _ _ q4.2,jA,val,rfl,hd⟩
theorem uX{ops:Array Oper}:∀ (l:List Oper) (l':List bZ) (m:Nat),kg n ops l=some l'->kg n ops (l.drop m)=some (l'.drop m)
 |l,l',0,h=>h
 |[],l',m+1,h=>by simp[kg]at h;subst h;simp[kg]
 |o::l,l',m+1,h=>by
  simp only[kg]at h
  split at h
  ·rename_i x xs hx HL
   injection h with h;subst h
   exact uX l xs m HL
  ·cases h
theorem FF{l:List bZ}{ac:Nat->eU}{E:Nat->Bool}{s:S}{m:Nat}:∀k,k<=m->eo (bR l) ac E s k=eo (bR (l.take m)) ac E s k:=by
 intro k
 induction k with
 |zero=>intro _;rfl
 |succ k ih=>
  intro hk
  have:bR l k=bR (l.take m) k:=by simp[bR,List.getD_eq_getElem?_getD,List.getElem?_take,(by omega:k<m)]
  simp only[eo,ih (by omega),this]
theorem A4(bc:P.follows .mixedOrders=true){id:Nat}{ops:Array Oper}{l:List bZ}{Q Q':fO->S->Prop}{s:S}(hQ:∀e s,Q e s->Q' e s)(nd:kg n ops ops.toList=some l)(ht:vI l (fQ ops)=true)
 (hp:Li (fQ ops)=true) (h:FC P l (fQ ops) Q s):iF P n b rd (.region id ops true) Q' s:=by
 intro M cu H0 w0 cx φ a w ro k hs
 obtain⟨m,HO,Zq,h⟩:=h
 obtain⟨bX,hl,bB,nR⟩:=sN (l.take m) _ _ _ h
 have LA:(l.take m).length=m:=by rw[List.length_take];omega
 have hlen:l.length=ops.size:=by rw[mj _ _ nd];simp
 have nR:=nR.resolve_right (fun⟨_,_,_,_,_,q4,_,_⟩=>q4)
 obtain⟨aN,nR⟩:=nR
 have AD:bX.length=m:=by omega
 have rB:∀k,k<ops.size->(fQ ops).getD k []=bE ops k:=by
  intro k hk;simp[fQ,List.getD_eq_getElem?_getD,List.getElem?_map,List.getElem?_range hk]
 have vO:(fQ ops).length=ops.size:=by simp[fQ]
 have rb:∀k,k<=m->eo (bR l) (fun i=>bX.getD i default) (fun _=>true) s k=mi (l.take m) bX s k:=fun k hk=>by
  rw[FF k hk];exact uW (l.take m) bX s hl k (by omega)
 have qL:∀k,k<m->(l.take m)[k]? =some (bR l k):=fun k hk=>by
  rw[List.getElem?_take,if_pos hk]
  simp[bR,List.getD_eq_getElem?_getD,List.getElem?_eq_getElem (by omega:k<l.length)]
 have rp:∀k,k<m->bX[k]? =some (bX.getD k default):=fun k hk=>by simp[List.getD_eq_getElem?_getD,List.getElem?_eq_getElem (by omega:k<bX.length)]
 have sv:∀k,k<m->bX.getD k default∈bX:=fun k hk=>List.mem_of_getElem? (rp k hk)
 have HM:∀k,k<m->(uV bX)[k]? =some (um (bX.getD k default),jV (bX.getD k default)):=fun k hk=>by
  simp only[uV,List.getElem?_map,rp k hk,Option.map_some]
 have Lz:(uV bX).length=m:=by simp[uV,AD]
 simp only[List.nil_append]at nR
 obtain⟨sb,Ic⟩:=nR
 have DO:∀k,k<ops.size->∀j∈bE ops k,j<k:=fun k hk j hj=>by
  have:=List.all_eq_true.1 hp k (by simpa[vO]using hk)
  rw[rB k hk]at this
  simpa using List.all_eq_true.1 this j hj
 have FE:∀k,k<(fQ ops).length->∀j∈(fQ ops).getD k [],j<k:=fun k hk j hj=>by
  rw[vO]at hk;rw[rB k hk]at hj;exact DO k hk j hj
 let po:Nat->Nat->Prop:=fun k j=>((dR (fQ ops) []).getD k 0).testBit j=true
 have B6:∀E:Nat->Bool,(∀k,k<ops.size->E k=true->∀j∈bE ops k,E j=true)->∀k,k<ops.size->(∀j∈bE ops k,E j=true)->∀j,po k j->E j=true:=fun E hE k hk hj j hb=>
  oq FE (fun k hk fZ j hj=>by rw[vO]at hk;rw[rB k hk]at hj;exact hE k hk fZ j hj) k (by rw[vO];exact hk) (by rw[rB k hk];exact hj) j hb
 have yL:∀k,k<ops.size->∀j,po k j->j<k:=fun k hk j hb=>xM FE k (by rw[vO];exact hk) j hb
 have wG:∀i j,i<j->j<m-> ¬po j i->Compat (bR l) (fun i=>bX.getD i default) (fun i=>um (bX.getD i default)) i j:=by
  intro i j Pr hj hn
  have yc:=List.all_eq_true.1 (List.all_eq_true.1 ht j (by simp;omega)) i (by simpa using Pr)
  have yu:=List.all_eq_true.1 (List.all_eq_true.1 sb j (by simpa[Lz]using hj)) i (by simpa using Pr)
  have Uu:((dR (fQ ops) []).getD j 0).testBit i=false:=by simpa[po]using hn
  rw[Uu,Bool.false_or]at yc yu
  simp only[Bool.and_eq_true]at yc yu
  have gi:=HM i (by omega)
  have gj:=HM j hj
  simp only[List.getD_eq_getElem?_getD (l:=uV bX),gi,gj,Option.getD_some]at yu
  have dj:∀ {xs ys:List Nat},jR xs ys=true->∀x∈xs,x∉ys:=fun h x hx=>by simpa using List.all_eq_true.1 h x hx
  have fo:∀ {x y:bZ},pJ x y=true->∀d,x.dst=some d->d∉eJ y:=fun h d hd=>by simpa[pJ,hd]using h
  exact⟨fo yc.1,fo yc.2,fun id aw=>⟨dj yu.1.1 id aw,dj yu.1.2 id aw⟩,fun id aw=>dj yu.2 id aw⟩
 have Zr:∀k,m<=k->k<ops.size->∀j,j<k->po k j:=fun k hmk hk j hj=>by
  have:=List.all_eq_true.1 Zq k (by simpa[vO]using hk)
  simp only[Bool.or_eq_true]at this
  rcases this with this|this
  ·exact absurd (Nat.blt_eq.mp this) (by omega)
  ·show((dR (fQ ops) []).getD k 0).testBit j=true
   rw[Nat.eq_of_beq_eq_true this,Nat.testBit_two_pow_sub_one]
   exact decide_eq_true hj
 refine A2 (ac:=fun i=>bX.getD i default) (m:=m) (X:=fun v s=>Q' (.bJ v) s) (K:=Q' .normal) bc nd DO (by omega) hs (fun i hi=> ?_) (fun i hi=>aN _ (sv i hi)) B6 yL wG Zr ?_ (fun s φ a w hk jA=>⟨.normal,s,φ,hk,jA,trivial⟩) (fun v s' aB a' w' val hx jA hd=>⟨.bJ v,s',aB,hx,jA,val,rfl,hd⟩)
 ·rw[rb i (by omega)];exact bB i _ _ (qL i hi) (rp i hi)
 ·rw[rb m (Nat.le_refl _)]
  rw[LA]at Ic
  exact iQ (fun s hs=>hQ _ _ hs) (fun v s hs=>hQ _ _ hs) _ _ _ (uX _ _ m nd) Ic
theorem uY{g:V}{ps:List Nat}{x y:IC}{Q Q':fO->S->Prop}{s:S}(hQ:∀e s,Q e s->Q' e s)(h:yr P n g ps x y Q s):yr P n g ps x y Q' s:=by
 obtain⟨env,h1,h2⟩:=h
 refine⟨env,h1, ?_⟩
 split at h2
 ·refine ma.mono (fun v o n h=> ?_) (fun v o n h=>hQ _ _ h) h2
  obtain⟨nf,m,e,p,c,d,st,pd,k1,k2,k3⟩:=h
  refine⟨nf,m,e,p,c,d,st,pd,k1,k2, ?_⟩
  cases pd with
  |none=>exact hQ _ _ k3
  |some j=>cases j<;>exact hQ _ _ k3
 ·exact h2
theorem gG(bc:P.follows .mixedOrders=true):∀ (c:Code) (Q Q':fO->S->Prop) (s:S),(∀e s,Q e s->Q' e s)->rD P n b rd (low n c) Q s->iF P n b rd c Q' s:=by
 intro c
 induction c with
 |skip=>exact fun Q Q' s hQ h=>hQ _ _ h
 |scope x ih=>exact fun Q Q' s hQ h=>ih Q Q' s hQ h
 |label l=>exact fun Q Q' s hQ h=>hQ _ _ h
 |exit id=>exact fun Q Q' s hQ h=>hQ _ _ h
 |ret=>exact fun Q Q' s hQ h=>hQ _ _ h
 |goto l=>exact fun Q Q' s hQ h=>h.elim
 |refuse y=>exact fun Q Q' s hQ h=>h.elim
 |rangeFunc f p x y=>exact fun Q Q' s hQ h=>⟨h.1,uY hQ h.2⟩
 |region id ops draw=>
  intro Q Q' s hQ h
  cases draw with
  |true=>
   simp only[low]at h
   split at h
   ·rename_i l hl
    split at h
    ·rename_i hc
     simp only[Bool.and_eq_true]at hc
     rcases h with h|h
     ·exact DN bc hQ hl hc.1 hc.2 h
     ·exact A4 bc hQ hl hc.1 hc.2 h
    ·exact h.elim
   ·exact h.elim
  |false=>
   simp only[low]at h
   split at h
   ·rename_i l hl;exact iQ (fun s hs=>hQ _ _ hs) (fun v s hs=>hQ _ _ hs) _ l s hl h
   ·exact h.elim
 |seq x y H4 H5=>
  intro Q Q' s hQ h
  refine H4 _ _ s (fun e s he=> ?_) h
  cases e<;>first|exact H5 Q Q' s hQ he|exact hQ _ _ he
 |cond c x y H4 H5=>
  intro Q Q' s hQ h
  simp only[low,rD]at h
  simp only[iF]
  split at h
  ·rename_i t hc
   simp only[hc]
   exact⟨fun ht=>H4 Q Q' s hQ (h.1 ht),fun ht=>H5 Q Q' s hQ (h.2 ht)⟩
  ·rename_i hc
   simp only[hc]
   exact⟨H4 Q Q' s hQ h.1,H5 Q Q' s hQ h.2⟩
  ·exact h.elim
 |block id x ih=>
  intro Q Q' s hQ h
  refine ih _ _ s (fun e s he=> ?_) h
  cases e<;>simp only[eZ]at he|- <;>first
   |exact hQ _ _ he
   |(split at he<;>rename_i e
     ·rw[if_pos e];exact hQ _ _ he
     ·rw[if_neg e];exact hQ _ _ he)
 |loop x ih=>
  intro Q Q' s hQ h
  obtain⟨J,h0,hr⟩:=h
  refine⟨J,h0,fun m s0 hJ=>ih _ _ s0 (fun e s he=> ?_) (hr m s0 hJ)⟩
  cases e<;>first|exact hQ _ _ he|exact he
structure aO (P:Program) (f:FuncId) (n:Nat) (ic:IC) (rs:List ResultVar):Prop where
 get:∃fn,P.funcs[f]? =some fn/\(fn.name== "runtime.NumGoroutine")=false/\fn.ntmps=n/\fn.results.toList=rs/\∃c,fn.body=some c/\low n c=ic
theorem eR.sP (bc:P.follows .mixedOrders=true){f:FuncId}{ic:IC}{rs:List ResultVar}(hf:aO P f n ic rs){args:List V}{o:Nat->ab}{nx:Nat}{K X:V->(Nat->ab)->Nat->Prop}(hl:args.length<=n)(h:rD P n nx false ic (lu P rs K X) ⟨b9 args,o,nx⟩):eR P f args o nx K X:=by
 obtain⟨fn,h1,h2,rfl,rfl,c,h3,rfl⟩:=hf.get
 exact eR.B0 h1 h2 h3 hl (gG bc c _ _ _ (fun _ _ h=>h) h)
theorem bC.sP (bc:P.follows .mixedOrders=true){f:FuncId}{ic:IC}{rs:List ResultVar}(hf:aO P f n ic rs){ds:List D}{out:R}(hl:ds.length<=n)(h:rD P n 0 false ic (AF P rs out) ⟨b9 (ds.map .d),fun _=> .no,0⟩):bC P f ds out:=by
 obtain⟨fn,h1,h2,rfl,rfl,c,h3,rfl⟩:=hf.get
 exact bC.jT (eR.B0 h1 h2 h3 (by simpa using hl) (gG bc c _ _ _ (fun e s h=>DD e s h) h))
end
end Go.Proofs.YtealblliddhgiaaGreat
