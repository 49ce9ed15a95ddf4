/-
  A PART OF THE PROOF. Conditions: none.
-/
import Derived.Test.YtnkamdiiakdkgaaGreatEd8
set_option linter.unusedSimpArgs false
set_option linter.unusedVariables false
namespace Go.Proofs.YtnkamdiiakdkgaaGreat
section
def sb(P:Program)(g:FuncId)(ds:List D)(Kf Kb KX:V->Prop):Prop:=
 (∃rs,aT P g ds (.ret rs)/\(Kf (jb rs)\/(D.jy rs=true/\Kb (jb rs))))\/(∃x,aT P g ds (.bD x)/\x.flat=true/\KX (.d x))\/(∃v,Y5 P g ds v/\Kf v)
def iM(P:Program)(g:FuncId)(args:List V)(o:Nat->ab)(nx fr:Nat)(K:V->List (Nat×ab)->List Nat->Prop)(KX:V->List Nat->List Nat->Prop):Prop:=
 ∃rd Δ,rd.all (fun id=>decide (id<nx))=true/\((∃rs,EV P g args rd o (.ret rs) Δ/\K (jb rs) Δ rd)\/(∃x,EV P g args rd o (.bD x) Δ/\KX (.d x) (Δ.map (·.1)) rd)\/(∃v,yw P g args rd o fr v Δ/\K v Δ rd))
def zT(P:Program)(s:S)(fr:Nat)(o:bI)(K:V->List (Nat×ab)->List Nat->Prop)(KX:V->List Nat->List Nat->Prop):Prop:=
 match o.op with
 | .call c=>match c.callee with
   | .value f=>match s.ev f with
     | .func (.func g) first cap=>match bV s.o (first++c.args.toList.map s.ev++cap)with
       |some ds=>sb P g ds (fun v=>K v (cg s.o (V.bf (first++c.args.toList.map s.ev++cap))) (n6 s o.op)) (fun v=>K v [] (n6 s o.op)) (fun v=>KX v [] (n6 s o.op))\/iM P g (first++c.args.toList.map s.ev++cap) s.o s.nx fr K KX
       |none=>iM P g (first++c.args.toList.map s.ev++cap) s.o s.nx fr K KX
     |_=>False
   |_=>match fS P s fr o.op with
    |some (v,Δ,_)=>K v Δ (n6 s o.op)
    |none=>False
 |op=>match fS P s fr op with
  |some (v,Δ,_)=>K v Δ (n6 s o.op)
  |none=>False
abbrev Fp:=List (List Nat×List Nat)
def gP(P:Program)(KB:List Nat->Fp->Prop)(pr:List (List Nat)):List bI->Nat->S->Fp->List Nat->List Nat->Prop
 |[],_,_,fp,_,ws=>KB ws fp
 |o::l,fr,s,fp,bad,ws=>if(pr.getD fp.length []).any (fun j=>bad.contains j)=true then gP P KB pr l (fr+1) ⟨aY s.env o.dst .aa,s.o,s.nx⟩ (fp++[([],[])]) (bad++[fp.length]) ws
  else match o.gd with
  |none=>zT P s fr o (fun v Δ rd=>gP P KB pr l (fr+1) ⟨aY s.env o.dst v,put s.o Δ,s.nx⟩ (fp++[(rd,Δ.map (·.1))]) bad (ws++Δ.map (·.1))) (fun _ _ _=>False)
  |some (d,want)=>match s.env d with
   | .d (.bool b)=>if b=want then zT P s fr o (fun v Δ rd=>gP P KB pr l (fr+1) ⟨aY s.env o.dst v,put s.o Δ,s.nx⟩ (fp++[(rd,Δ.map (·.1))]) bad (ws++Δ.map (·.1))) (fun _ _ _=>False)
    else gP P KB pr l (fr+1) ⟨aY s.env o.dst (.bU []),s.o,s.nx⟩ (fp++[([],[])]) bad ws
   | .bU []=>gP P KB pr l (fr+1) ⟨aY s.env o.dst (.bU []),s.o,s.nx⟩ (fp++[([],[])]) bad ws
   |_=>False
def kG(P:Program)(K:S->Fp->Prop)(KP:V->List Nat->Fp->Prop)(pr:List (List Nat)):List bI->Nat->S->Fp->Prop
 |[],_,s,fp=>K s fp
 |o::l,fr,s,fp=>match o.gd with
  |none=>zT P s fr o (fun v Δ rd=>kG P K KP pr l (fr+1) ⟨aY s.env o.dst v,put s.o Δ,s.nx⟩ (fp++[(rd,Δ.map (·.1))]))
   (fun v ws rd=>gP P (KP v) pr l (fr+1) ⟨aY s.env o.dst .aa,s.o,s.nx⟩ (fp++[(rd,[])]) [fp.length] (ws++fp.flatMap (·.2)))
  |some (d,want)=>match s.env d with
   | .d (.bool b)=>if b=want then zT P s fr o (fun v Δ rd=>kG P K KP pr l (fr+1) ⟨aY s.env o.dst v,put s.o Δ,s.nx⟩ (fp++[(rd,Δ.map (·.1))]))
         (fun v ws rd=>gP P (KP v) pr l (fr+1) ⟨aY s.env o.dst .aa,s.o,s.nx⟩ (fp++[(rd,[])]) [fp.length] (ws++fp.flatMap (·.2)))
    else kG P K KP pr l (fr+1) ⟨aY s.env o.dst (.bU []),s.o,s.nx⟩ (fp++[([],[])])
   | .bU []=>kG P K KP pr l (fr+1) ⟨aY s.env o.dst (.bU []),s.o,s.nx⟩ (fp++[([],[])])
   |_=>False
def Dw(pr:List (List Nat))(nx:Nat)(Q:fm->S->Prop)(s:S)(fp:Fp):Prop:=dX pr fp=true/\Q .normal ⟨s.env,s.o,nx⟩
def dstsOf(l:List bI):List Nat:=l.filterMap (·.dst)
def Bc(pr:List (List Nat))(l:List bI)(s0:S)(Q:fm->S->Prop)(v:V)(wl:List Nat)(fp:Fp):Prop:=dX pr fp=true/\Q (.bD v) (uh (dstsOf l) wl l.length s0)
def mV:List bI->List eR->S->Nat->S
 |_,_,s,0=>s
 |o::l,x::xs,s,j+1=>mV l xs (vI o.dst x s) j
 |_,_,s,_=>s
def w6(bZ:List eR):Fp:=bZ.map fun x=>(vX x,kE x)
section
variable {P:Program}{n b:Nat}
theorem Bd{s:S}{fr:Nat}{o:bI}{K:V->List (Nat×ab)->List Nat->Prop}{KX:V->List Nat->List Nat->Prop}(h:zT P s fr o K KX):(∃v Δ rd,wW P s fr o.op v Δ rd/\K v Δ rd)\/(∃v ws rd,A5 P s o.op v ws rd/\KX v ws rd):=by
 have hs:∀ {op:Op},o.op=op->(match fS P s fr op with|some (v,Δ,_)=>K v Δ (n6 s o.op)|none=>False)->(∃v Δ rd,wW P s fr o.op v Δ rd/\K v Δ rd):=by
  intro op gz h
  split at h
  ·rename_i v Δ rd he;exact⟨v,Δ,_, .inl ⟨⟨rd,by rw[gz];exact he⟩,rfl⟩,h⟩
  ·exact h.elim
 unfold zT at h
 split at h
 ·rename_i c hc
  split at h
  ·rename_i f eI
   split at h
   ·rename_i g first cap hf
    split at h
    ·rename_i ds eK
     rcases h with(⟨rs,hP,h|⟨qA,h⟩⟩|⟨x,hP,qA,h⟩|⟨v,hP,h⟩)|⟨rd,Δ,nP,⟨rs,hH,h⟩|⟨x,hH,h⟩|⟨v,hH,h⟩⟩
     ·exact .inl ⟨_,_,_, .inr ⟨c,f,g,first,cap,hc,eI,hf, .inl ⟨ds,rs,eK,hP,rfl,rfl, .inl rfl⟩⟩,h⟩
     ·exact .inl ⟨_,_,_, .inr ⟨c,f,g,first,cap,hc,eI,hf, .inl ⟨ds,rs,eK,hP,rfl,rfl, .inr ⟨qA,rfl⟩⟩⟩,h⟩
     ·exact .inr ⟨_,_,_,⟨c,f,g,first,cap,hc,eI,hf, .inl ⟨ds,x,eK,hP,qA,rfl,rfl,rfl⟩⟩,h⟩
     ·exact .inl ⟨_,_,_, .inr ⟨c,f,g,first,cap,hc,eI,hf, .inr (.inr (.inl ⟨ds,eK,hP,rfl,rfl⟩))⟩,h⟩
     ·exact XG
     ·exact XJ
     ·exact XH
    ·obtain⟨rd,Δ,nP,⟨rs,hH,h⟩|⟨x,hH,h⟩|⟨v,hH,h⟩⟩:=h
     ·exact XG
     ·exact XJ
     ·exact XH
   ·exact h.elim
  ·rw[hc]at h;exact .inl (hs hc (by rw[hc];exact h))
 ·exact .inl (hs rfl h)
def Nb(P:Program)(KB:List Nat->Fp->Prop)(pr:List (List Nat))(l:List bI)(fr:Nat)(s:S)(fp:Fp)(bad ws:List Nat):Prop:=
    ∃bZ:List eR,bZ.length=l.length/\(∀j o x,l[j]? =some o->bZ[j]? =some x->Qd P (mV l bZ s j) (fr+j) o x)/\
     (∀ (j:Nat),bZ[j]? =some eR.de->∃i∈pr.getD (fp.length+j) [],i∈bad\/∃j',j'<j/\i=fp.length+j'/\bZ[j']? =some .de)/\(∀x∈bZ,x= .de\/x.ok=true)/\
     ∃wl,KB wl (fp++w6 bZ)/\(∀id∈ws,id∈wl)/\∀x∈bZ,∀id∈kE x,id∈wl
theorem Be{KB:List Nat->Fp->Prop}{pr:List (List Nat)}:∀ (l:List bI) (fr:Nat) (s:S) (fp:Fp) (bad ws:List Nat),gP P KB pr l fr s fp bad ws->Nb P KB pr l fr s fp bad ws
 |[],fr,s,fp,bad,ws,h=>⟨[],rfl,fun j o x hj=>by simp at hj,fun j hj=>by simp at hj,fun x hx=>by simp at hx,ws,by simpa[w6,gP]using h,fun _ h=>h,fun x hx=>by simp at hx⟩
 |o::l,fr,s,fp,bad,ws,h=>by
  have step:∀ (x:eR) (Nc Qg:List Nat),Qd P s fr o x->gP P KB pr l (fr+1) (vI o.dst x s) (fp++[(vX x,kE x)]) Nc Qg->(x= .de\/x.ok=true)->(x= .de->∃i∈pr.getD fp.length [],i∈bad)->
   (∀i∈Nc,i∈bad\/(i=fp.length/\x= .de))->(∀id∈ws,id∈Qg)->(∀id∈kE x,id∈Qg)->
   Nb P KB pr (o::l) fr s fp bad ws:=by
   intro x Nc Qg aW hr hbo yD Tc Na hW
   obtain⟨bZ,h1,h2,h3,h4,wl,h5,h6,h7⟩:=Be l (fr+1) _ _ Nc Qg hr
   refine⟨x::bZ,by simp[h1],fun j o' y hj hy=> ?_,fun j hj=> ?_,fun y hy=> ?_,wl,by simpa[w6]using h5,fun id au=>h6 id (Na id au),fun y hy id au=> ?_⟩
   ·cases j with
    |zero=>exact II
    |succ j=>
     have:=h2 j o' y mn (by simpa using hy)
     exact SR
   ·cases j with
    |zero=>
     simp at hj
     obtain⟨i,i1,i2⟩:=yD hj
     exact⟨i,by simpa using i1, .inl i2⟩
    |succ j=>
     obtain⟨i,i1,i2⟩:=h3 j mn
     simp only[List.length_append,List.length_cons,List.length_nil]at i1 i2
     refine⟨i,by rw[show fp.length+(j+1)=fp.length+(0+1)+j by omega];exact i1, ?_⟩
     rcases i2 with i2|⟨j',j1,j2,j3⟩
     ·rcases Tc i i2 with hb|⟨e1,e2⟩
      ·exact .inl hb
      ·exact .inr ⟨0,af,af,by simp[e2]⟩
     ·exact .inr ⟨j'+1,af,af,by simpa using j3⟩
   ·rcases List.mem_cons.1 hy with rfl|hy
    ·exact hbo
    ·exact h4 y hy
   ·rcases List.mem_cons.1 hy with rfl|hy
    ·exact h6 id (hW id au)
    ·exact h7 y hy id au
  simp only[gP]at h
  split at h
  ·rename_i hb
   obtain⟨j,hj1,S2⟩:=List.any_eq_true.1 hb
   exact step .de _ _ trivial h (.inl rfl) (fun _=>⟨j,hj1,by simpa using S2⟩) (fun i hi=>by
    rcases List.mem_append.1 hi with hi|hi
    ·exact .inl hi
    ·exact .inr ⟨by simpa using hi,rfl⟩) (fun _ h=>h) (fun id au=>by simp[kE]at au)
  ·have uk:dH s o.gd true->zT P s fr o (fun v Δ rd=>gP P KB pr l (fr+1) ⟨aY s.env o.dst v,put s.o Δ,s.nx⟩ (fp++[(rd,Δ.map (·.1))]) bad (ws++Δ.map (·.1))) (fun _ _ _=>False)->Nb P KB pr (o::l) fr s fp bad ws:=fun hg h=>by
    rcases Bd h with⟨v,Δ,rd,iW,h⟩|⟨v,Qg,rd,_,h⟩
    ·exact step (.val v Δ rd) bad (ws++Δ.map (·.1)) ⟨hg,iW⟩ h (.inr rfl) (fun h=>by cases h) (fun i hi=> .inl hi) (fun id au=>List.mem_append.2 (.inl au)) (fun id au=>List.mem_append.2 (.inr au))
    ·exact h.elim
   have skip:dH s o.gd false->gP P KB pr l (fr+1) ⟨aY s.env o.dst (.bU []),s.o,s.nx⟩ (fp++[([],[])]) bad ws->Nb P KB pr (o::l) fr s fp bad ws:=fun hg h=>
    step .skip bad ws hg h (.inr rfl) (fun h=>by cases h) (fun i hi=> .inl hi) (fun id au=>au) (fun id au=>by simp[kE]at au)
   split at h
   ·rename_i hg;exact uk (by rw[hg];rfl) h
   ·rename_i d want hg
    split at h
    ·rename_i c hv
     split at h
     ·rename_i e;exact uk El h
     ·rename_i e;exact skip El h
    ·rename_i hv;exact skip (by rw[hg];simp[dH,hv]) h
    ·exact h.elim
def JS(P:Program)(K:S->Fp->Prop)(KP:V->List Nat->Fp->Prop)(pr:List (List Nat))(l:List bI)(fr:Nat)(s:S)(fp:Fp):Prop:=
 ∃bZ:List eR,bZ.length=l.length/\(∀j o x,l[j]? =some o->bZ[j]? =some x->Qd P (mV l bZ s j) (fr+j) o x)/\
  (((∀x∈bZ,x.ok=true)/\K (mV l bZ s l.length) (fp++w6 bZ))\/
   ∃v wl,(∀ (j:Nat) (v':V) (ws rd:List Nat),bZ[j]? =some (eR.bD v' ws rd)->v'=v/\∀id∈ws,id∈wl)/\(∃x∈bZ,x.ok=false)/\
    (∀ (j:Nat),bZ[j]? =some eR.de->∃i∈pr.getD (fp.length+j) [],∃j',i=fp.length+j'/\∃y,bZ[j']? =some y/\y.ok=false)/\KP v wl (fp++w6 bZ)/\(∀x∈bZ,∀id∈kE x,id∈wl)/\∀id∈fp.flatMap (·.2),id∈wl)
theorem um{K:S->Fp->Prop}{KP:V->List Nat->Fp->Prop}{pr:List (List Nat)}:∀ (l:List bI) (fr:Nat) (s:S) (fp:Fp),kG P K KP pr l fr s fp->JS P K KP pr l fr s fp
 |[],fr,s,fp,h=>⟨[],rfl,fun j o x hj=>by simp at hj, .inl ⟨fun x hx=>by simp at hx,by simpa[mV,w6,kG]using h⟩⟩
 |o::l,fr,s,fp,h=>by
  have step:∀ (x:eR),x.ok=true->Qd P s fr o x->kG P K KP pr l (fr+1) (vI o.dst x s) (fp++[(vX x,kE x)])->JS P K KP pr (o::l) fr s fp:=by
   intro x Za aW hr
   obtain⟨bZ,h1,h2,h3⟩:=um l (fr+1) _ _ hr
   refine⟨x::bZ,by simp[h1],fun j o' y hj hy=> ?_, ?_⟩
   ·cases j with
    |zero=>exact II
    |succ j=>
     have:=h2 j o' y mn (by simpa using hy)
     exact SR
   ·rcases h3 with⟨h3,h4⟩|⟨v,wl,g1,g2,g3,g4,g5,g6⟩
    ·left
     refine⟨fun y hy=> ?_,by simpa[mV,w6]using h4⟩
     rcases List.mem_cons.1 hy with rfl|hy
     ·exact Za
     ·exact h3 y hy
    ·right
     refine⟨v,wl,fun j v' ws rd hj=> ?_, ?_,fun j hj=> ?_,by simpa[w6]using g4,fun y hy id au=> ?_,fun id au=>g6 id (by simp only[List.flatMap_append,List.mem_append];exact .inl au)⟩
     ·cases j with
      |zero=>simp at hj;rw[hj]at Za;cases Za
      |succ j=>exact g1 j v' ws rd mn
     ·obtain⟨y,y1,y2⟩:=g2;exact⟨y,by simp[y1],y2⟩
     ·cases j with
      |zero=>simp at hj;rw[hj]at Za;cases Za
      |succ j=>
       obtain⟨i,i1,j',i2,y,i3,i4⟩:=g3 j mn
       simp only[List.length_append,List.length_cons,List.length_nil]at i1 i2
       exact⟨i,by rw[show fp.length+(j+1)=fp.length+(0+1)+j by omega];exact i1,j'+1,af,y,by simpa using i3,i4⟩
     ·rcases List.mem_cons.1 hy with rfl|hy
      ·exact g6 id (by simp only[List.flatMap_append,List.mem_append];exact .inr (by simpa using au))
      ·exact g5 y hy id au
  have bD:∀ (v:V) (ws rd:List Nat),Qd P s fr o (.bD v ws rd)->gP P (KP v) pr l (fr+1) ⟨aY s.env o.dst .aa,s.o,s.nx⟩ (fp++[(rd,[])]) [fp.length] (ws++fp.flatMap (·.2))->JS P K KP pr (o::l) fr s fp:=by
   intro v ws rd aW hr
   obtain⟨bZ,h1,h2,h3,h4,wl,h5,h6,h7⟩:=Be l (fr+1) _ _ _ _ hr
   refine⟨eR.bD v ws rd::bZ,by simp[h1],fun j o' y hj hy=> ?_, .inr ⟨v,wl,fun j v' Qg s5 hj=> ?_,⟨eR.bD v ws rd,aL,rfl⟩,fun j hj=> ?_,by simpa[w6,vX,kE]using h5,fun y hy id au=> ?_,fun id au=>h6 id (List.mem_append.2 (.inr au))⟩⟩
   ·cases j with
    |zero=>exact II
    |succ j=>
     have:=h2 j o' y mn (by simpa using hy)
     exact SR
   ·cases j with
    |zero=>simp at hj;obtain⟨rfl,rfl,rfl⟩:=hj;exact⟨rfl,fun id au=>h6 id (List.mem_append.2 (.inl au))⟩
    |succ j=>
     have hm:=List.mem_of_getElem? (show bZ[j]? =some (.bD v' Qg s5) by simpa using hj)
     rcases h4 _ hm with h|h<;>cases h
   ·cases j with
    |zero=>simp at hj
    |succ j=>
     obtain⟨i,i1,i2⟩:=h3 j mn
     simp only[List.length_append,List.length_cons,List.length_nil]at i1 i2
     refine⟨i,by rw[show fp.length+(j+1)=fp.length+(0+1)+j by omega];exact i1, ?_⟩
     rcases i2 with i2|⟨j',j1,j2,j3⟩
     ·exact⟨0,by simpa using i2,_,rfl,rfl⟩
     ·exact⟨j'+1,af, .de,by simpa using j3,rfl⟩
   ·rcases List.mem_cons.1 hy with rfl|hy
    ·simp[kE]at au
    ·exact h7 y hy id au
  have uk:dH s o.gd true->zT P s fr o (fun v Δ rd=>kG P K KP pr l (fr+1) ⟨aY s.env o.dst v,put s.o Δ,s.nx⟩ (fp++[(rd,Δ.map (·.1))]))
   (fun v ws rd=>gP P (KP v) pr l (fr+1) ⟨aY s.env o.dst .aa,s.o,s.nx⟩ (fp++[(rd,[])]) [fp.length] (ws++fp.flatMap (·.2)))->JS P K KP pr (o::l) fr s fp:=fun hg h=>by
   rcases Bd h with⟨v,Δ,rd,iW,h⟩|⟨v,ws,rd,iW,h⟩
   ·exact step (.val v Δ rd) rfl ⟨hg,iW⟩ h
   ·exact bD v ws rd ⟨hg,iW⟩ h
  have skip:dH s o.gd false->kG P K KP pr l (fr+1) ⟨aY s.env o.dst (.bU []),s.o,s.nx⟩ (fp++[([],[])])->JS P K KP pr (o::l) fr s fp:=fun hg h=>step .skip rfl hg h
  simp only[kG]at h
  split at h
  ·rename_i hg;exact uk (by rw[hg];rfl) h
  ·rename_i d want hg
   split at h
   ·rename_i c hv
    split at h
    ·rename_i e;exact uk El h
    ·rename_i e;exact skip El h
   ·rename_i hv;exact skip (by rw[hg];simp[dH,hv]) h
   ·exact h.elim
end
end
section
def mW(env:Nat->V):List Nat->List V->Nat->V
 |t::ps,v::vs=>mW (aA env t v) ps vs
 |_,_=>env
def yE(pr:List (List Nat))(m:Nat):Bool:=(List.range pr.length).all fun k=>Nat.blt k m||Nat.beq ((ed pr []).getD k 0) (2^k - 1)
def JT(P:Program)(l:List bI)(pr:List (List Nat))(Q:fm->S->Prop)(s:S):Prop:=
 ∃m,m<=l.length/\yE pr m=true/\kG P (fun s' fp=>dX pr fp=true/\oN P (fun v s=>Q (.bD v) s) (Q .normal) (l.drop m) ⟨s'.env,s'.o,s.nx+m⟩) (fun _ _ _=>False) pr (l.take m) s.nx s []
def ta(P:Program)(n b:Nat)(rd:Bool):IC->(fm->S->Prop)->S->Prop
 | .skip,Q,s=>Q .normal s
 | .ae l,Q,s=>oN P (fun v s=>Q (.bD v) s) (Q .normal) l s
 | .cT l pr,Q,s=>kG P (Dw pr (s.nx+l.length) Q) (Bc pr l s Q) pr l s.nx s []\/JT P l pr Q s
 | .seq x y,Q,s=>ta P n b rd x (pE (ta P n b rd y Q) Q) s
 | .cond c x y,Q,s=>match s.ev c with
   | .d (.bool t)=>pR t (ta P n b rd x Q s) (ta P n b rd y Q s)
   | .eV=>ta P n b rd x Q s/\ta P n b rd y Q s
   |_=>False
 | .block id x,Q,s=>ta P n b rd x (eW id Q) s
 | .loop x,Q,s=>JL b (ta P n b rd x) Q s
 | .exit id,Q,s=>Q (.exit id) s
 | .ret,Q,s=>Q .ret s
 | .Gi g ps x y,Q,s=>rd=false/\Y2 P n b g ps x y Q s
 | .bad,_,_=>False
section
variable {P:Program}{n b:Nat}{rd:Bool}
theorem uo:∀ (l:List bI) (bZ:List eR) (s:S) (k:Nat) (o:bI) (x:eR),l[k]? =some o->bZ[k]? =some x->mV l bZ s (k+1)=vI o.dst x (mV l bZ s k)
 |[],_,_,_,_,_,h,_=>by simp at h
 |o::l,[],_,_,_,_,_,h=>by simp at h
 |o::l,x::xs,s,0,o',x',h,h'=>by simp at h h';subst h;subst h';cases l<;>cases xs<;>rfl
 |o::l,x::xs,s,k+1,o',x',h,h'=>by
  simp only[mV]
  exact uo l xs _ k o' x' (by simpa using h) (by simpa using h')
theorem w7(l:List bI)(bZ:List eR)(s:S)(hl:bZ.length=l.length):∀k,k<=l.length->ef (bN l) (fun i=>bZ.getD i default) (fun _=>true) s k=mV l bZ s k:=by
 intro k
 induction k with
 |zero=>intro _;cases l<;>cases bZ<;>rfl
 |succ k ih=>
  intro hk
  have h1:l[k]? =some (bN l k):=by simp[bN,List.getD_eq_getElem?_getD,List.getElem?_eq_getElem (by omega:k<l.length)]
  have h2:bZ[k]? =some (bZ.getD k default):=by simp[List.getD_eq_getElem?_getD,List.getElem?_eq_getElem (by omega:k<bZ.length)]
  simp only[ef,if_true,ih (by omega)]
  rw[uo l bZ s k _ _ h1 h2]
theorem mX{ops:Array Oper}:∀ (l:List Oper) (l':List bI),kQ n ops l=some l'->l'.length=l.length
 |[],_,h=>by simp[kQ]at h;subst h;rfl
 |o::l,l',h=>by
  simp only[kQ]at h
  split at h
  ·rename_i hx;injection h with h;subst h;simp[mX l _ hx]
  ·cases h
theorem GX(bc:P.follows .mixedOrders=true){id:Nat}{ops:Array Oper}{l:List bI}{Q Q':fm->S->Prop}{s:S}(hQ:∀e s,Q e s->Q' e s)(re:kQ n ops ops.toList=some l)(ht:xR l (fW ops)=true)
 (hp:SS (fW ops)=true) (h:kG P (Dw (fW ops) (s.nx+l.length) Q) (Bc (fW ops) l s Q) (fW ops) l s.nx s []):iU P n b rd (.region id ops true) Q' s:=by
 intro M cj H0 w0 cx φ a w ro k hs
 obtain⟨bZ,hl,aW,jA⟩:=um l _ _ _ h
 have hlen:l.length=ops.size:=by rw[mX _ _ re];simp
 have sI:∀k,k<ops.size->(fW ops).getD k []=bw ops k:=by
  intro k hk;simp[fW,List.getD_eq_getElem?_getD,List.getElem?_map,List.getElem?_range hk]
 have vE:(fW ops).length=ops.size:=by simp[fW]
 have iW:=w7 l bZ s hl
 have CN:∀k,k<ops.size->l[k]? =some (bN l k):=fun k hk=>by simp[bN,List.getD_eq_getElem?_getD,List.getElem?_eq_getElem (by omega:k<l.length)]
 have vB:∀k,k<ops.size->bZ[k]? =some (bZ.getD k default):=fun k hk=>by simp[List.getD_eq_getElem?_getD,List.getElem?_eq_getElem (by omega:k<bZ.length)]
 have mH:∀k,k<ops.size->bZ.getD k default∈bZ:=fun k hk=>List.mem_of_getElem? (vB k hk)
 have MU:∀k,k<ops.size->(w6 bZ)[k]? =some (vX (bZ.getD k default),kE (bZ.getD k default)):=fun k hk=>by
  simp only[w6,List.getElem?_map,vB k hk,Option.map_some]
 have Td:(w6 bZ).length=ops.size:=by simp[w6,hl,hlen]
 simp only[List.nil_append,List.length_nil,Nat.zero_add]at jA
 have tO:dX (fW ops) (w6 bZ)=true:=by
  rcases jA with⟨_,h⟩|⟨v,wl,_,_,_,h,_⟩
  ·exact h.1
  ·exact h.1
 have GY:∀k,k<ops.size->∀j∈bw ops k,j<k:=fun k hk j hj=>by
  have:=List.all_eq_true.1 hp k (by simpa[vE]using hk)
  rw[sI k hk]at this
  simpa using List.all_eq_true.1 this j hj
 have JU:∀k,k<(fW ops).length->∀j∈(fW ops).getD k [],j<k:=fun k hk j hj=>by
  rw[vE]at hk;rw[sI k hk]at hj;exact GY k hk j hj
 let po:Nat->Nat->Prop:=fun k j=>((ed (fW ops) []).getD k 0).testBit j=true
 have EZ:∀E:Nat->Bool,(∀k,k<ops.size->E k=true->∀j∈bw ops k,E j=true)->∀k,k<ops.size->(∀j∈bw ops k,E j=true)->∀j,po k j->E j=true:=fun E hE k hk hj j hb=>
  o9 JU (fun k hk iS j hj=>by rw[vE]at hk;rw[sI k hk]at hj;exact hE k hk iS j hj) k (by rw[vE];exact hk) (by rw[sI k hk];exact hj) j hb
 have Ba:∀k,k<ops.size->∀j,po k j->j<k:=fun k hk j hb=>Ag JU k (by rw[vE];exact hk) j hb
 have yF:∀i j,i<j->j<ops.size-> ¬po j i->Compat (bN l) (fun i=>bZ.getD i default) (fun i=>vX (bZ.getD i default)) i j:=by
  intro i j Nd hj hn
  have MC:=List.all_eq_true.1 (List.all_eq_true.1 ht j (by simpa[hlen]using hj)) i (by simpa using Nd)
  have wm:=List.all_eq_true.1 (List.all_eq_true.1 tO j (by simpa[Td]using hj)) i (by simpa using Nd)
  have hnc:((ed (fW ops) []).getD j 0).testBit i=false:=by simpa[po]using hn
  rw[hnc,Bool.false_or]at MC wm
  simp only[Bool.and_eq_true]at MC wm
  have gi:=MU i af
  have gj:=MU j hj
  simp only[List.getD_eq_getElem?_getD (l:=w6 bZ),gi,gj,Option.getD_some]at wm
  have dj:∀ {xs ys:List Nat},kz xs ys=true->∀x∈xs,x∉ys:=fun h x hx=>by simpa using List.all_eq_true.1 h x hx
  have fo:∀ {x y:bI},qJ x y=true->∀d,x.dst=some d->d∉eL y:=fun h d hd=>by simpa[qJ,hd]using h
  exact XP
 have Qh:∀i,i<ops.size->Qd P (ef (bN l) (fun i=>bZ.getD i default) (fun _=>true) s i) (s.nx+i) (bN l i) (bZ.getD i default):=fun i hi=>by
  rw[iW i (by omega)];exact aW i _ _ (CN i hi) (vB i hi)
 have cF:∀i,i<ops.size->∀t,(bN l i).dst=some t->(dstsOf l).contains t=true:=fun i hi t ht=>by
  simp only[List.contains_iff_mem,dstsOf,List.mem_filterMap]
  exact⟨bN l i,List.mem_of_getElem? (CN i hi),ht⟩
 rcases jA with⟨a7,jA⟩|⟨v,wl,q1,q2,q3,q4,q5,q6⟩
 ·refine A9 (ac:=fun i=>bZ.getD i default) (dl:=dstsOf l) (wl:=(bZ.flatMap kE)) bc re GY hs Qh (fun i hi hb=> ?_) EZ Ba yF cF (fun i hi id au=> ?_) (fun i v ws s5 hi hb=> ?_) (fun _ φ a w jU=> ?_) (fun i v ws s5 hi hb=> ?_)
  ·have:=a7 _ (mH i hi);rw[hb]at this;cases this
  ·simp only[List.contains_iff_mem,List.mem_flatMap];exact⟨_,mH i hi,au⟩
  ·have:=a7 _ (mH i hi);rw[hb]at this;cases this
  ·rw[iW ops.size (by omega), <- hlen]at jU
   exact⟨.normal,_,φ,hQ _ _ jA.2,jU,trivial⟩
  ·have:=a7 _ (mH i hi);rw[hb]at this;cases this
 ·refine A9 (ac:=fun i=>bZ.getD i default) (dl:=dstsOf l) (wl:=wl) bc re GY hs Qh (fun i hi hb=> ?_) EZ Ba yF cF (fun i hi id au=> ?_) (fun i v' ws s5 hi hb=> ?_) (fun a7 φ a w jU=> ?_) (fun i v' ws s5 hi hb φ a w val jU hd=> ?_)
  ·obtain⟨j,j1,j',e,y,j3,j4⟩:=q3 i IP
   rw[sI i hi,e]at j1
   refine⟨j',j1, ?_⟩
   simp only[List.getD_eq_getElem?_getD,j3,Option.getD_some,j4]
  ·simp only[List.contains_iff_mem];exact q5 _ (mH i hi) id au
  ·intro id au
   simp only[List.contains_iff_mem]
   exact(q1 i v' ws s5 IP).2 id au
  ·obtain⟨x,x1,x2⟩:=q2
   obtain⟨i,Je,YL⟩:=List.getElem_of_mem x1
   have hi:i<ops.size:=af
   have:=a7 i hi
   have e:bZ.getD i default=x:=by simp[List.getD_eq_getElem?_getD,List.getElem?_eq_getElem Je,YL]
   rw[e,x2]at this;cases this
  ·have e:=(q1 i v' ws s5 IP).1
   subst e
   rw[<- hlen]at jU hd
   exact⟨.bD v',_,φ,hQ _ _ q4.2,jU,val,rfl,hd⟩
theorem w8{ops:Array Oper}:∀ (l:List Oper) (l':List bI) (m:Nat),kQ n ops l=some l'->kQ n ops (l.drop m)=some (l'.drop m)
 |l,l',0,h=>h
 |[],l',m+1,h=>by simp[kQ]at h;subst h;simp[kQ]
 |o::l,l',m+1,h=>by
  simp only[kQ]at h
  split at h
  ·rename_i x xs hx C0
   injection h with h;subst h
   exact w8 l xs m C0
  ·cases h
theorem JV{l:List bI}{ac:Nat->eR}{E:Nat->Bool}{s:S}{m:Nat}:∀k,k<=m->ef (bN l) ac E s k=ef (bN (l.take m)) ac E s k:=by
 intro k
 induction k with
 |zero=>intro _;rfl
 |succ k ih=>
  intro hk
  have:bN l k=bN (l.take m) k:=by simp[bN,List.getD_eq_getElem?_getD,List.getElem?_take,(by omega:k<m)]
  simp only[ef,ih (by omega),this]
theorem Dx(bc:P.follows .mixedOrders=true){id:Nat}{ops:Array Oper}{l:List bI}{Q Q':fm->S->Prop}{s:S}(hQ:∀e s,Q e s->Q' e s)(re:kQ n ops ops.toList=some l)(ht:xR l (fW ops)=true)
 (hp:SS (fW ops)=true) (h:JT P l (fW ops) Q s):iU P n b rd (.region id ops true) Q' s:=by
 intro M cj H0 w0 cx φ a w ro k hs
 obtain⟨m,EI,Te,h⟩:=h
 obtain⟨bZ,hl,aW,jA⟩:=um (l.take m) _ _ _ h
 have hlm:(l.take m).length=m:=by rw[List.length_take];omega
 have hlen:l.length=ops.size:=by rw[mX _ _ re];simp
 have jA:=jA.resolve_right (fun⟨_,_,_,_,_,q4,_,_⟩=>q4)
 obtain⟨a7,jA⟩:=jA
 have S1:bZ.length=m:=af
 have sI:∀k,k<ops.size->(fW ops).getD k []=bw ops k:=by
  intro k hk;simp[fW,List.getD_eq_getElem?_getD,List.getElem?_map,List.getElem?_range hk]
 have vE:(fW ops).length=ops.size:=by simp[fW]
 have iW:∀k,k<=m->ef (bN l) (fun i=>bZ.getD i default) (fun _=>true) s k=mV (l.take m) bZ s k:=fun k hk=>by
  rw[JV k hk];exact w7 (l.take m) bZ s hl k af
 have CN:∀k,k<m->(l.take m)[k]? =some (bN l k):=fun k hk=>by
  rw[List.getElem?_take,if_pos hk]
  simp[bN,List.getD_eq_getElem?_getD,List.getElem?_eq_getElem (by omega:k<l.length)]
 have vB:∀k,k<m->bZ[k]? =some (bZ.getD k default):=fun k hk=>by simp[List.getD_eq_getElem?_getD,List.getElem?_eq_getElem (by omega:k<bZ.length)]
 have mH:∀k,k<m->bZ.getD k default∈bZ:=fun k hk=>List.mem_of_getElem? (vB k hk)
 have MU:∀k,k<m->(w6 bZ)[k]? =some (vX (bZ.getD k default),kE (bZ.getD k default)):=fun k hk=>by
  simp only[w6,List.getElem?_map,vB k hk,Option.map_some]
 have Td:(w6 bZ).length=m:=by simp[w6,S1]
 simp only[List.nil_append]at jA
 obtain⟨tO,Nf⟩:=jA
 have GY:∀k,k<ops.size->∀j∈bw ops k,j<k:=fun k hk j hj=>by
  have:=List.all_eq_true.1 hp k (by simpa[vE]using hk)
  rw[sI k hk]at this
  simpa using List.all_eq_true.1 this j hj
 have JU:∀k,k<(fW ops).length->∀j∈(fW ops).getD k [],j<k:=fun k hk j hj=>by
  rw[vE]at hk;rw[sI k hk]at hj;exact GY k hk j hj
 let po:Nat->Nat->Prop:=fun k j=>((ed (fW ops) []).getD k 0).testBit j=true
 have EZ:∀E:Nat->Bool,(∀k,k<ops.size->E k=true->∀j∈bw ops k,E j=true)->∀k,k<ops.size->(∀j∈bw ops k,E j=true)->∀j,po k j->E j=true:=fun E hE k hk hj j hb=>
  o9 JU (fun k hk iS j hj=>by rw[vE]at hk;rw[sI k hk]at hj;exact hE k hk iS j hj) k (by rw[vE];exact hk) (by rw[sI k hk];exact hj) j hb
 have Ba:∀k,k<ops.size->∀j,po k j->j<k:=fun k hk j hb=>Ag JU k (by rw[vE];exact hk) j hb
 have yF:∀i j,i<j->j<m-> ¬po j i->Compat (bN l) (fun i=>bZ.getD i default) (fun i=>vX (bZ.getD i default)) i j:=by
  intro i j Nd hj hn
  have MC:=List.all_eq_true.1 (List.all_eq_true.1 ht j oz) i (by simpa using Nd)
  have wm:=List.all_eq_true.1 (List.all_eq_true.1 tO j (by simpa[Td]using hj)) i (by simpa using Nd)
  have hnc:((ed (fW ops) []).getD j 0).testBit i=false:=by simpa[po]using hn
  rw[hnc,Bool.false_or]at MC wm
  simp only[Bool.and_eq_true]at MC wm
  have gi:=MU i af
  have gj:=MU j hj
  simp only[List.getD_eq_getElem?_getD (l:=w6 bZ),gi,gj,Option.getD_some]at wm
  have dj:∀ {xs ys:List Nat},kz xs ys=true->∀x∈xs,x∉ys:=fun h x hx=>by simpa using List.all_eq_true.1 h x hx
  have fo:∀ {x y:bI},qJ x y=true->∀d,x.dst=some d->d∉eL y:=fun h d hd=>by simpa[qJ,hd]using h
  exact XP
 have htl:∀k,m<=k->k<ops.size->∀j,j<k->po k j:=fun k hmk hk j hj=>by
  have:=List.all_eq_true.1 Te k (by simpa[vE]using hk)
  simp only[Bool.or_eq_true]at this
  rcases this with this|this
  ·exact absurd (Nat.blt_eq.mp this) af
  ·show((ed (fW ops) []).getD k 0).testBit j=true
   rw[Nat.eq_of_beq_eq_true this,Nat.testBit_two_pow_sub_one]
   exact decide_eq_true hj
 refine Dv (ac:=fun i=>bZ.getD i default) (m:=m) (X:=fun v s=>Q' (.bD v) s) (K:=Q' .normal) bc re GY af hs (fun i hi=> ?_) (fun i hi=>a7 _ (mH i hi)) EZ Ba yF htl ?_ (fun s φ a w hk jU=>⟨.normal,s,φ,hk,jU,trivial⟩) (fun v s' aE a' w' val hx jU hd=>⟨.bD v,s',aE,hx,jU,val,rfl,hd⟩)
 ·rw[iW i (by omega)];exact aW i _ _ (CN i hi) (vB i hi)
 ·rw[iW m (Nat.le_refl _)]
  rw[hlm]at Nf
  exact ji (fun s hs=>hQ _ _ hs) (fun v s hs=>hQ _ _ hs) _ _ _ (w8 _ _ m re) Nf
theorem rh{g:V}{ps:List Nat}{x y:IC}{Q Q':fm->S->Prop}{s:S}(hQ:∀e s,Q e s->Q' e s)(h:AW P n g ps x y Q s):AW P n g ps x y Q' s:=by
 obtain⟨env,h1,h2⟩:=h
 refine⟨env,h1, ?_⟩
 split at h2
 ·refine n7.mono (fun v o n h=> ?_) (fun v o n h=>hQ _ _ h) h2
  obtain⟨nf,m,e,p,c,d,st,pd,k1,k2,k3⟩:=h
  refine⟨nf,m,e,p,c,d,st,pd,k1,k2, ?_⟩
  cases pd with
  |none=>exact hQ _ _ k3
  |some j=>cases j<;>exact hQ _ _ k3
 ·exact h2
theorem gQ(bc:P.follows .mixedOrders=true):∀ (c:Code) (Q Q':fm->S->Prop) (s:S),(∀e s,Q e s->Q' e s)->ta P n b rd (low n c) Q s->iU P n b rd c Q' s:=by
 intro c
 induction c with
 |skip=>exact fun Q Q' s hQ h=>hQ _ _ h
 |scope x ih=>exact fun Q Q' s hQ h=>ih Q Q' s hQ h
 |label l=>exact fun Q Q' s hQ h=>hQ _ _ h
 |exit id=>exact fun Q Q' s hQ h=>hQ _ _ h
 |ret=>exact fun Q Q' s hQ h=>hQ _ _ h
 |goto l=>exact fun Q Q' s hQ h=>h.elim
 |refuse y=>exact fun Q Q' s hQ h=>h.elim
 |rangeFunc f p x y=>
  intro Q Q' s hQ h
  obtain⟨h1,s',hle,h2⟩:=h
  exact⟨h1,s',hle,rh hQ h2⟩
 |region id ops draw=>
  intro Q Q' s hQ h
  cases draw with
  |true=>
   simp only[low]at h
   split at h
   ·rename_i l hl
    split at h
    ·rename_i hc
     simp only[Bool.and_eq_true]at hc
     rcases h with h|h
     ·exact GX bc hQ hl hc.1 hc.2 h
     ·exact Dx bc hQ hl hc.1 hc.2 h
    ·exact h.elim
   ·exact h.elim
  |false=>
   simp only[low]at h
   split at h
   ·rename_i l hl;exact ji (fun s hs=>hQ _ _ hs) (fun v s hs=>hQ _ _ hs) _ l s hl h
   ·exact h.elim
 |seq x y M7 M8=>
  intro Q Q' s hQ h
  refine M7 _ _ s (fun e s he=> ?_) h
  cases e<;>first|exact M8 Q Q' s hQ he|exact hQ _ _ he
 |cond c x y M7 M8=>
  intro Q Q' s hQ h
  simp only[low,ta]at h
  simp only[iU]
  split at h
  ·rename_i t hc
   simp only[hc]
   exact⟨fun ht=>M7 Q Q' s hQ (h.1 ht),fun ht=>M8 Q Q' s hQ (h.2 ht)⟩
  ·rename_i hc
   simp only[hc]
   exact⟨M7 Q Q' s hQ h.1,M8 Q Q' s hQ h.2⟩
  ·exact h.elim
 |block id x ih=>
  intro Q Q' s hQ h
  refine ih _ _ s (fun e s he=> ?_) h
  cases e<;>simp only[eW]at he|- <;>first
   |exact hQ _ _ he
   |(split at he<;>rename_i e
     ·rw[if_pos e];exact hQ _ _ he
     ·rw[if_neg e];exact hQ _ _ he)
 |loop x ih=>
  intro Q Q' s hQ h
  obtain⟨J,h0,hr⟩:=h
  refine⟨J,h0,fun m s0 hJ=>ih _ _ s0 (fun e s he=> ?_) (hr m s0 hJ)⟩
  cases e<;>first|exact hQ _ _ he|exact he
structure aH (P:Program) (f:FuncId) (n:Nat) (ic:IC) (rs:List ResultVar):Prop where
 get:∃fn,P.funcs[f]? =some fn/\(fn.name== "runtime.NumGoroutine")=false/\fn.ntmps=n/\fn.results.toList=rs/\∃c,fn.body=some c/\low n c=ic
theorem cX.uq (bc:P.follows .mixedOrders=true){f:FuncId}{ic:IC}{rs:List ResultVar}(hf:aH P f n ic rs){args:List V}{o:Nat->ab}{nx:Nat}{K X:V->(Nat->ab)->Nat->Prop}(hl:args.length<=n)(h:ta P n nx false ic (lM P rs K X) ⟨cC args,o,nx⟩):cX P f args o nx K X:=by
 obtain⟨fn,h1,h2,rfl,rfl,c,h3,rfl⟩:=hf.get
 exact cX.ET h1 h2 h3 hl (gQ bc c _ _ _ (fun _ _ h=>h) h)
theorem aT.uq (bc:P.follows .mixedOrders=true){f:FuncId}{ic:IC}{rs:List ResultVar}(hf:aH P f n ic rs){ds:List D}{out:R}(hl:ds.length<=n)(h:ta P n 0 false ic (Dc P rs out) ⟨cC (ds.map .d),fun _=> .no,0⟩):aT P f ds out:=by
 obtain⟨fn,h1,h2,rfl,rfl,c,h3,rfl⟩:=hf.get
 exact aT.mP (cX.ET h1 h2 h3 (by simpa using hl) (gQ bc c _ _ _ (fun e s h=>GM e s h) h))
end
end
end Go.Proofs.YtnkamdiiakdkgaaGreat
