/-
  A PART OF THE PROOF. Conditions: none.
-/
import Derived.Test.YtnkamdiiakdkgaaGreatEa8
set_option linter.unusedSimpArgs false
set_option linter.unusedVariables false
namespace Go.Proofs.YtnkamdiiakdkgaaGreat
section
def qL(P:Program)(g:FuncId)(ds:List D)(Kf Kb KX:V->Prop):Prop:=
 (∃rs,aR P g ds (.ret rs)/\(Kf (iu rs)\/(D.iS rs=true/\Kb (iu rs))))\/(∃x,aR P g ds (.bD x)/\x.flat=true/\KX (.d x))\/(∃v,V9 P g ds v/\Kf v)
def gY(P:Program)(g:FuncId)(args:List V)(o:Nat->ab)(nx fr:Nat)(K:V->List (Nat×ab)->List Nat->Prop)(KX:V->List Nat->List Nat->Prop):Prop:=
 ∃rd Δ,rd.all (fun id=>decide (id<nx))=true/\((∃rs,C8 P g args rd o (.ret rs) Δ/\K (iu rs) Δ rd)\/(∃x,C8 P g args rd o (.bD x) Δ/\KX (.d x) (Δ.map (·.1)) rd)\/(∃v,w7 P g args rd o fr v Δ/\K v Δ rd))
def ya(P:Program)(s:S)(fr:Nat)(o:bI)(K:V->List (Nat×ab)->List Nat->Prop)(KX:V->List Nat->List Nat->Prop):Prop:=
 match o.op with
 | .call c=>match c.callee with
   | .value f=>match s.ev f with
     | .func (.func g) first cap=>match bQ s.o (first++c.args.toList.map s.ev++cap)with
       |some ds=>qL P g ds (fun v=>K v (bZ s.o (V.a7 (first++c.args.toList.map s.ev++cap))) (m5 s o.op)) (fun v=>K v [] (m5 s o.op)) (fun v=>KX v [] (m5 s o.op))\/gY P g (first++c.args.toList.map s.ev++cap) s.o s.nx fr K KX
       |none=>gY P g (first++c.args.toList.map s.ev++cap) s.o s.nx fr K KX
     |_=>False
   |_=>match fm P s fr o.op with
    |some (v,Δ,_)=>K v Δ (m5 s o.op)
    |none=>False
 |op=>match fm P s fr op with
  |some (v,Δ,_)=>K v Δ (m5 s o.op)
  |none=>False
abbrev Fp:=List (List Nat×List Nat)
def gk(P:Program)(KB:List Nat->Fp->Prop)(pr:List (List Nat)):List bI->Nat->S->Fp->List Nat->List Nat->Prop
 |[],_,_,fp,_,ws=>KB ws fp
 |o::l,fr,s,fp,bad,ws=>if(pr.getD fp.length []).any (fun j=>bad.contains j)=true then gk P KB pr l (fr+1) ⟨aT s.env o.dst .aa,s.o,s.nx⟩ (fp++[([],[])]) (bad++[fp.length]) ws
  else match o.gd with
  |none=>ya P s fr o (fun v Δ rd=>gk P KB pr l (fr+1) ⟨aT s.env o.dst v,put s.o Δ,s.nx⟩ (fp++[(rd,Δ.map (·.1))]) bad (ws++Δ.map (·.1))) (fun _ _ _=>False)
  |some (d,want)=>match s.env d with
   | .d (.bool b)=>if b=want then ya P s fr o (fun v Δ rd=>gk P KB pr l (fr+1) ⟨aT s.env o.dst v,put s.o Δ,s.nx⟩ (fp++[(rd,Δ.map (·.1))]) bad (ws++Δ.map (·.1))) (fun _ _ _=>False)
    else gk P KB pr l (fr+1) ⟨aT s.env o.dst (.bP []),s.o,s.nx⟩ (fp++[([],[])]) bad ws
   | .bP []=>gk P KB pr l (fr+1) ⟨aT s.env o.dst (.bP []),s.o,s.nx⟩ (fp++[([],[])]) bad ws
   |_=>False
def jK(P:Program)(K:S->Fp->Prop)(KP:V->List Nat->Fp->Prop)(pr:List (List Nat)):List bI->Nat->S->Fp->Prop
 |[],_,s,fp=>K s fp
 |o::l,fr,s,fp=>match o.gd with
  |none=>ya P s fr o (fun v Δ rd=>jK P K KP pr l (fr+1) ⟨aT s.env o.dst v,put s.o Δ,s.nx⟩ (fp++[(rd,Δ.map (·.1))]))
   (fun v ws rd=>gk P (KP v) pr l (fr+1) ⟨aT s.env o.dst .aa,s.o,s.nx⟩ (fp++[(rd,[])]) [fp.length] (ws++fp.flatMap (·.2)))
  |some (d,want)=>match s.env d with
   | .d (.bool b)=>if b=want then ya P s fr o (fun v Δ rd=>jK P K KP pr l (fr+1) ⟨aT s.env o.dst v,put s.o Δ,s.nx⟩ (fp++[(rd,Δ.map (·.1))]))
         (fun v ws rd=>gk P (KP v) pr l (fr+1) ⟨aT s.env o.dst .aa,s.o,s.nx⟩ (fp++[(rd,[])]) [fp.length] (ws++fp.flatMap (·.2)))
    else jK P K KP pr l (fr+1) ⟨aT s.env o.dst (.bP []),s.o,s.nx⟩ (fp++[([],[])])
   | .bP []=>jK P K KP pr l (fr+1) ⟨aT s.env o.dst (.bP []),s.o,s.nx⟩ (fp++[([],[])])
   |_=>False
def BW(pr:List (List Nat))(nx:Nat)(Q:eK->S->Prop)(s:S)(fp:Fp):Prop:=dH pr fp=true/\Q .normal ⟨s.env,s.o,nx⟩
def dstsOf(l:List bI):List Nat:=l.filterMap (·.dst)
def zy(pr:List (List Nat))(l:List bI)(s0:S)(Q:eK->S->Prop)(v:V)(wl:List Nat)(fp:Fp):Prop:=dH pr fp=true/\Q (.bD v) (sH (dstsOf l) wl l.length s0)
def lY:List bI->List eu->S->Nat->S
 |_,_,s,0=>s
 |o::l,x::xs,s,j+1=>lY l xs (uf o.dst x s) j
 |_,_,s,_=>s
def vu(bU:List eu):Fp:=bU.map fun x=>(uA x,jI x)
section
variable {P:Program}{n b:Nat}
theorem zA{s:S}{fr:Nat}{o:bI}{K:V->List (Nat×ab)->List Nat->Prop}{KX:V->List Nat->List Nat->Prop}(h:ya P s fr o K KX):(∃v Δ rd,vn P s fr o.op v Δ rd/\K v Δ rd)\/(∃v ws rd,zo P s o.op v ws rd/\KX v ws rd):=by
 have hs:∀ {op:Op},o.op=op->(match fm P s fr op with|some (v,Δ,_)=>K v Δ (m5 s o.op)|none=>False)->(∃v Δ rd,vn P s fr o.op v Δ rd/\K v Δ rd):=by
  intro op fN h
  split at h
  ·rename_i v Δ rd he;exact⟨v,Δ,_, .inl ⟨⟨rd,by rw[fN];exact he⟩,rfl⟩,h⟩
  ·exact h.elim
 unfold ya at h
 split at h
 ·rename_i c hc
  split at h
  ·rename_i f ee
   split at h
   ·rename_i g first cap hf
    split at h
    ·rename_i ds eg
     rcases h with(⟨rs,hP,h|⟨pw,h⟩⟩|⟨x,hP,pw,h⟩|⟨v,hP,h⟩)|⟨rd,Δ,mP,⟨rs,hH,h⟩|⟨x,hH,h⟩|⟨v,hH,h⟩⟩
     ·exact .inl ⟨_,_,_, .inr ⟨c,f,g,first,cap,hc,ee,hf, .inl ⟨ds,rs,eg,hP,rfl,rfl, .inl rfl⟩⟩,h⟩
     ·exact .inl ⟨_,_,_, .inr ⟨c,f,g,first,cap,hc,ee,hf, .inl ⟨ds,rs,eg,hP,rfl,rfl, .inr ⟨pw,rfl⟩⟩⟩,h⟩
     ·exact .inr ⟨_,_,_,⟨c,f,g,first,cap,hc,ee,hf, .inl ⟨ds,x,eg,hP,pw,rfl,rfl,rfl⟩⟩,h⟩
     ·exact .inl ⟨_,_,_, .inr ⟨c,f,g,first,cap,hc,ee,hf, .inr (.inr (.inl ⟨ds,eg,hP,rfl,rfl⟩))⟩,h⟩
     ·exact UE
     ·exact UH
     ·exact UF
    ·obtain⟨rd,Δ,mP,⟨rs,hH,h⟩|⟨x,hH,h⟩|⟨v,hH,h⟩⟩:=h
     ·exact UE
     ·exact UH
     ·exact UF
   ·exact h.elim
  ·rw[hc]at h;exact .inl (hs hc (by rw[hc];exact h))
 ·exact .inl (hs rfl h)
def KL(P:Program)(KB:List Nat->Fp->Prop)(pr:List (List Nat))(l:List bI)(fr:Nat)(s:S)(fp:Fp)(bad ws:List Nat):Prop:=
    ∃bU:List eu,bU.length=l.length/\(∀j o x,l[j]? =some o->bU[j]? =some x->Nu P (lY l bU s j) (fr+j) o x)/\
     (∀ (j:Nat),bU[j]? =some eu.cX->∃i∈pr.getD (fp.length+j) [],i∈bad\/∃j',j'<j/\i=fp.length+j'/\bU[j']? =some .cX)/\(∀x∈bU,x= .cX\/x.ok=true)/\
     ∃wl,KB wl (fp++vu bU)/\(∀id∈ws,id∈wl)/\∀x∈bU,∀id∈jI x,id∈wl
theorem zB{KB:List Nat->Fp->Prop}{pr:List (List Nat)}:∀ (l:List bI) (fr:Nat) (s:S) (fp:Fp) (bad ws:List Nat),gk P KB pr l fr s fp bad ws->KL P KB pr l fr s fp bad ws
 |[],fr,s,fp,bad,ws,h=>⟨[],rfl,fun j o x hj=>by simp at hj,fun j hj=>by simp at hj,fun x hx=>by simp at hx,ws,by simpa[vu,gk]using h,fun _ h=>h,fun x hx=>by simp at hx⟩
 |o::l,fr,s,fp,bad,ws,h=>by
  have step:∀ (x:eu) (KM Nx:List Nat),Nu P s fr o x->gk P KB pr l (fr+1) (uf o.dst x s) (fp++[(uA x,jI x)]) KM Nx->(x= .cX\/x.ok=true)->(x= .cX->∃i∈pr.getD fp.length [],i∈bad)->
   (∀i∈KM,i∈bad\/(i=fp.length/\x= .cX))->(∀id∈ws,id∈Nx)->(∀id∈jI x,id∈Nx)->
   KL P KB pr (o::l) fr s fp bad ws:=by
   intro x KM Nx aU hr hbo xd Qo KJ hW
   obtain⟨bU,h1,h2,h3,h4,wl,h5,h6,h7⟩:=zB l (fr+1) _ _ KM Nx hr
   refine⟨x::bU,by simp[h1],fun j o' y hj hy=> ?_,fun j hj=> ?_,fun y hy=> ?_,wl,by simpa[vu]using h5,fun id au=>h6 id (KJ id au),fun y hy id au=> ?_⟩
   ·cases j with
    |zero=>exact Gt
    |succ j=>
     have:=h2 j o' y lB (by simpa using hy)
     exact PY
   ·cases j with
    |zero=>
     simp at hj
     obtain⟨i,i1,i2⟩:=xd hj
     exact⟨i,by simpa using i1, .inl i2⟩
    |succ j=>
     obtain⟨i,i1,i2⟩:=h3 j lB
     simp only[List.length_append,List.length_cons,List.length_nil]at i1 i2
     refine⟨i,by rw[show fp.length+(j+1)=fp.length+(0+1)+j by omega];exact i1, ?_⟩
     rcases i2 with i2|⟨j',j1,j2,j3⟩
     ·rcases Qo i i2 with hb|⟨e1,e2⟩
      ·exact .inl hb
      ·exact .inr ⟨0,ag,ag,by simp[e2]⟩
     ·exact .inr ⟨j'+1,ag,ag,by simpa using j3⟩
   ·rcases List.mem_cons.1 hy with rfl|hy
    ·exact hbo
    ·exact h4 y hy
   ·rcases List.mem_cons.1 hy with rfl|hy
    ·exact h6 id (hW id au)
    ·exact h7 y hy id au
  simp only[gk]at h
  split at h
  ·rename_i hb
   obtain⟨j,hj1,Qf⟩:=List.any_eq_true.1 hb
   exact step .cX _ _ trivial h (.inl rfl) (fun _=>⟨j,hj1,by simpa using Qf⟩) (fun i hi=>by
    rcases List.mem_append.1 hi with hi|hi
    ·exact .inl hi
    ·exact .inr ⟨by simpa using hi,rfl⟩) (fun _ h=>h) (fun id au=>by simp[jI]at au)
  ·have sK:dq s o.gd true->ya P s fr o (fun v Δ rd=>gk P KB pr l (fr+1) ⟨aT s.env o.dst v,put s.o Δ,s.nx⟩ (fp++[(rd,Δ.map (·.1))]) bad (ws++Δ.map (·.1))) (fun _ _ _=>False)->KL P KB pr (o::l) fr s fp bad ws:=fun hg h=>by
    rcases zA h with⟨v,Δ,rd,ly,h⟩|⟨v,Nx,rd,_,h⟩
    ·exact step (.val v Δ rd) bad (ws++Δ.map (·.1)) ⟨hg,ly⟩ h (.inr rfl) (fun h=>by cases h) (fun i hi=> .inl hi) (fun id au=>List.mem_append.2 (.inl au)) (fun id au=>List.mem_append.2 (.inr au))
    ·exact h.elim
   have skip:dq s o.gd false->gk P KB pr l (fr+1) ⟨aT s.env o.dst (.bP []),s.o,s.nx⟩ (fp++[([],[])]) bad ws->KL P KB pr (o::l) fr s fp bad ws:=fun hg h=>
    step .skip bad ws hg h (.inr rfl) (fun h=>by cases h) (fun i hi=> .inl hi) (fun id au=>au) (fun id au=>by simp[jI]at au)
   split at h
   ·rename_i hg;exact sK (by rw[hg];rfl) h
   ·rename_i d want hg
    split at h
    ·rename_i c hv
     split at h
     ·rename_i e;exact sK CE h
     ·rename_i e;exact skip CE h
    ·rename_i hv;exact skip (by rw[hg];simp[dq,hv]) h
    ·exact h.elim
def Hz(P:Program)(K:S->Fp->Prop)(KP:V->List Nat->Fp->Prop)(pr:List (List Nat))(l:List bI)(fr:Nat)(s:S)(fp:Fp):Prop:=
 ∃bU:List eu,bU.length=l.length/\(∀j o x,l[j]? =some o->bU[j]? =some x->Nu P (lY l bU s j) (fr+j) o x)/\
  (((∀x∈bU,x.ok=true)/\K (lY l bU s l.length) (fp++vu bU))\/
   ∃v wl,(∀ (j:Nat) (v':V) (ws rd:List Nat),bU[j]? =some (eu.bD v' ws rd)->v'=v/\∀id∈ws,id∈wl)/\(∃x∈bU,x.ok=false)/\
    (∀ (j:Nat),bU[j]? =some eu.cX->∃i∈pr.getD (fp.length+j) [],∃j',i=fp.length+j'/\∃y,bU[j']? =some y/\y.ok=false)/\KP v wl (fp++vu bU)/\(∀x∈bU,∀id∈jI x,id∈wl)/\∀id∈fp.flatMap (·.2),id∈wl)
theorem sL{K:S->Fp->Prop}{KP:V->List Nat->Fp->Prop}{pr:List (List Nat)}:∀ (l:List bI) (fr:Nat) (s:S) (fp:Fp),jK P K KP pr l fr s fp->Hz P K KP pr l fr s fp
 |[],fr,s,fp,h=>⟨[],rfl,fun j o x hj=>by simp at hj, .inl ⟨fun x hx=>by simp at hx,by simpa[lY,vu,jK]using h⟩⟩
 |o::l,fr,s,fp,h=>by
  have step:∀ (x:eu),x.ok=true->Nu P s fr o x->jK P K KP pr l (fr+1) (uf o.dst x s) (fp++[(uA x,jI x)])->Hz P K KP pr (o::l) fr s fp:=by
   intro x We aU hr
   obtain⟨bU,h1,h2,h3⟩:=sL l (fr+1) _ _ hr
   refine⟨x::bU,by simp[h1],fun j o' y hj hy=> ?_, ?_⟩
   ·cases j with
    |zero=>exact Gt
    |succ j=>
     have:=h2 j o' y lB (by simpa using hy)
     exact PY
   ·rcases h3 with⟨h3,h4⟩|⟨v,wl,g1,g2,g3,g4,g5,g6⟩
    ·left
     refine⟨fun y hy=> ?_,by simpa[lY,vu]using h4⟩
     rcases List.mem_cons.1 hy with rfl|hy
     ·exact We
     ·exact h3 y hy
    ·right
     refine⟨v,wl,fun j v' ws rd hj=> ?_, ?_,fun j hj=> ?_,by simpa[vu]using g4,fun y hy id au=> ?_,fun id au=>g6 id (by simp only[List.flatMap_append,List.mem_append];exact .inl au)⟩
     ·cases j with
      |zero=>simp at hj;rw[hj]at We;cases We
      |succ j=>exact g1 j v' ws rd lB
     ·obtain⟨y,y1,y2⟩:=g2;exact⟨y,by simp[y1],y2⟩
     ·cases j with
      |zero=>simp at hj;rw[hj]at We;cases We
      |succ j=>
       obtain⟨i,i1,j',i2,y,i3,i4⟩:=g3 j lB
       simp only[List.length_append,List.length_cons,List.length_nil]at i1 i2
       exact⟨i,by rw[show fp.length+(j+1)=fp.length+(0+1)+j by omega];exact i1,j'+1,ag,y,by simpa using i3,i4⟩
     ·rcases List.mem_cons.1 hy with rfl|hy
      ·exact g6 id (by simp only[List.flatMap_append,List.mem_append];exact .inr (by simpa using au))
      ·exact g5 y hy id au
  have bD:∀ (v:V) (ws rd:List Nat),Nu P s fr o (.bD v ws rd)->gk P (KP v) pr l (fr+1) ⟨aT s.env o.dst .aa,s.o,s.nx⟩ (fp++[(rd,[])]) [fp.length] (ws++fp.flatMap (·.2))->Hz P K KP pr (o::l) fr s fp:=by
   intro v ws rd aU hr
   obtain⟨bU,h1,h2,h3,h4,wl,h5,h6,h7⟩:=zB l (fr+1) _ _ _ _ hr
   refine⟨eu.bD v ws rd::bU,by simp[h1],fun j o' y hj hy=> ?_, .inr ⟨v,wl,fun j v' Nx rE hj=> ?_,⟨eu.bD v ws rd,aK,rfl⟩,fun j hj=> ?_,by simpa[vu,uA,jI]using h5,fun y hy id au=> ?_,fun id au=>h6 id (List.mem_append.2 (.inr au))⟩⟩
   ·cases j with
    |zero=>exact Gt
    |succ j=>
     have:=h2 j o' y lB (by simpa using hy)
     exact PY
   ·cases j with
    |zero=>simp at hj;obtain⟨rfl,rfl,rfl⟩:=hj;exact⟨rfl,fun id au=>h6 id (List.mem_append.2 (.inl au))⟩
    |succ j=>
     have hm:=List.mem_of_getElem? (show bU[j]? =some (.bD v' Nx rE) by simpa using hj)
     rcases h4 _ hm with h|h<;>cases h
   ·cases j with
    |zero=>simp at hj
    |succ j=>
     obtain⟨i,i1,i2⟩:=h3 j lB
     simp only[List.length_append,List.length_cons,List.length_nil]at i1 i2
     refine⟨i,by rw[show fp.length+(j+1)=fp.length+(0+1)+j by omega];exact i1, ?_⟩
     rcases i2 with i2|⟨j',j1,j2,j3⟩
     ·exact⟨0,by simpa using i2,_,rfl,rfl⟩
     ·exact⟨j'+1,ag, .cX,by simpa using j3,rfl⟩
   ·rcases List.mem_cons.1 hy with rfl|hy
    ·simp[jI]at au
    ·exact h7 y hy id au
  have sK:dq s o.gd true->ya P s fr o (fun v Δ rd=>jK P K KP pr l (fr+1) ⟨aT s.env o.dst v,put s.o Δ,s.nx⟩ (fp++[(rd,Δ.map (·.1))]))
   (fun v ws rd=>gk P (KP v) pr l (fr+1) ⟨aT s.env o.dst .aa,s.o,s.nx⟩ (fp++[(rd,[])]) [fp.length] (ws++fp.flatMap (·.2)))->Hz P K KP pr (o::l) fr s fp:=fun hg h=>by
   rcases zA h with⟨v,Δ,rd,ly,h⟩|⟨v,ws,rd,ly,h⟩
   ·exact step (.val v Δ rd) rfl ⟨hg,ly⟩ h
   ·exact bD v ws rd ⟨hg,ly⟩ h
  have skip:dq s o.gd false->jK P K KP pr l (fr+1) ⟨aT s.env o.dst (.bP []),s.o,s.nx⟩ (fp++[([],[])])->Hz P K KP pr (o::l) fr s fp:=fun hg h=>step .skip rfl hg h
  simp only[jK]at h
  split at h
  ·rename_i hg;exact sK (by rw[hg];rfl) h
  ·rename_i d want hg
   split at h
   ·rename_i c hv
    split at h
    ·rename_i e;exact sK CE h
    ·rename_i e;exact skip CE h
   ·rename_i hv;exact skip (by rw[hg];simp[dq,hv]) h
   ·exact h.elim
end
end
section
def lZ(env:Nat->V):List Nat->List V->Nat->V
 |t::ps,v::vs=>lZ (aA env t v) ps vs
 |_,_=>env
def xe(pr:List (List Nat))(m:Nat):Bool:=(List.range pr.length).all fun k=>Nat.blt k m||Nat.beq ((dJ pr []).getD k 0) (2^k - 1)
def HA(P:Program)(l:List bI)(pr:List (List Nat))(Q:eK->S->Prop)(s:S):Prop:=
 ∃m,m<=l.length/\xe pr m=true/\jK P (fun s' fp=>dH pr fp=true/\nD P (fun v s=>Q (.bD v) s) (Q .normal) (l.drop m) ⟨s'.env,s'.o,s.nx+m⟩) (fun _ _ _=>False) pr (l.take m) s.nx s []
def rJ(P:Program)(n b:Nat)(rd:Bool):IC->(eK->S->Prop)->S->Prop
 | .skip,Q,s=>Q .normal s
 | .ae l,Q,s=>nD P (fun v s=>Q (.bD v) s) (Q .normal) l s
 | .cU l pr,Q,s=>jK P (BW pr (s.nx+l.length) Q) (zy pr l s Q) pr l s.nx s []\/HA P l pr Q s
 | .seq x y,Q,s=>rJ P n b rd x (ox (rJ P n b rd y Q) Q) s
 | .cond c x y,Q,s=>match s.ev c with
   | .d (.bool t)=>oJ t (rJ P n b rd x Q s) (rJ P n b rd y Q s)
   | .ey=>rJ P n b rd x Q s/\rJ P n b rd y Q s
   |_=>False
 | .block id x,Q,s=>rJ P n b rd x (ez id Q) s
 | .loop x,Q,s=>Ht b (rJ P n b rd x) Q s
 | .exit id,Q,s=>Q (.exit id) s
 | .ret,Q,s=>Q .ret s
 | .El g ps x y,Q,s=>rd=false/\V5 P n b g ps x y Q s
 | .bad,_,_=>False
section
variable {P:Program}{n b:Nat}{rd:Bool}
theorem sM:∀ (l:List bI) (bU:List eu) (s:S) (k:Nat) (o:bI) (x:eu),l[k]? =some o->bU[k]? =some x->lY l bU s (k+1)=uf o.dst x (lY l bU s k)
 |[],_,_,_,_,_,h,_=>by simp at h
 |o::l,[],_,_,_,_,_,h=>by simp at h
 |o::l,x::xs,s,0,o',x',h,h'=>by simp at h h';subst h;subst h';cases l<;>cases xs<;>rfl
 |o::l,x::xs,s,k+1,o',x',h,h'=>by
  simp only[lY]
  exact sM l xs _ k o' x' (by simpa using h) (by simpa using h')
theorem vw(l:List bI)(bU:List eu)(s:S)(hl:bU.length=l.length):∀k,k<=l.length->dK (bL l) (fun i=>bU.getD i default) (fun _=>true) s k=lY l bU s k:=by
 intro k
 induction k with
 |zero=>intro _;cases l<;>cases bU<;>rfl
 |succ k ih=>
  intro hk
  have h1:l[k]? =some (bL l k):=by simp[bL,List.getD_eq_getElem?_getD,List.getElem?_eq_getElem (by omega:k<l.length)]
  have h2:bU[k]? =some (bU.getD k default):=by simp[List.getD_eq_getElem?_getD,List.getElem?_eq_getElem (by omega:k<bU.length)]
  simp only[dK,if_true,ih (by omega)]
  rw[sM l bU s k _ _ h1 h2]
theorem l0{ops:Array Oper}:∀ (l:List Oper) (l':List bI),jS n ops l=some l'->l'.length=l.length
 |[],_,h=>by simp[jS]at h;subst h;rfl
 |o::l,l',h=>by
  simp only[jS]at h
  split at h
  ·rename_i hx;injection h with h;subst h;simp[l0 l _ hx]
  ·cases h
theorem EX(aZ:P.follows .mixedOrders=true){id:Nat}{ops:Array Oper}{l:List bI}{Q Q':eK->S->Prop}{s:S}(hQ:∀e s,Q e s->Q' e s)(pW:jS n ops ops.toList=some l)(ht:wu l (fu ops)=true)
 (hp:P6 (fu ops)=true) (h:jK P (BW (fu ops) (s.nx+l.length) Q) (zy (fu ops) l s Q) (fu ops) l s.nx s []):ik P n b rd (.region id ops true) Q' s:=by
 intro M b7 H0 w0 cx φ a w ro k hs
 obtain⟨bU,hl,aU,iV⟩:=sL l _ _ _ h
 have hlen:l.length=ops.size:=by rw[l0 _ _ pW];simp
 have rj:∀k,k<ops.size->(fu ops).getD k []=bp ops k:=by
  intro k hk;simp[fu,List.getD_eq_getElem?_getD,List.getElem?_map,List.getElem?_range hk]
 have uc:(fu ops).length=ops.size:=by simp[fu]
 have ly:=vw l bU s hl
 have Be:∀k,k<ops.size->l[k]? =some (bL l k):=fun k hk=>by simp[bL,List.getD_eq_getElem?_getD,List.getElem?_eq_getElem (by omega:k<l.length)]
 have tZ:∀k,k<ops.size->bU[k]? =some (bU.getD k default):=fun k hk=>by simp[List.getD_eq_getElem?_getD,List.getElem?_eq_getElem (by omega:k<bU.length)]
 have oo:∀k,k<ops.size->bU.getD k default∈bU:=fun k hk=>List.mem_of_getElem? (tZ k hk)
 have Kq:∀k,k<ops.size->(vu bU)[k]? =some (uA (bU.getD k default),jI (bU.getD k default)):=fun k hk=>by
  simp only[vu,List.getElem?_map,tZ k hk,Option.map_some]
 have Qp:(vu bU).length=ops.size:=by simp[vu,hl,hlen]
 simp only[List.nil_append,List.length_nil,Nat.zero_add]at iV
 have sm:dH (fu ops) (vu bU)=true:=by
  rcases iV with⟨_,h⟩|⟨v,wl,_,_,_,h,_⟩
  ·exact h.1
  ·exact h.1
 have EY:∀k,k<ops.size->∀j∈bp ops k,j<k:=fun k hk j hj=>by
  have:=List.all_eq_true.1 hp k (by simpa[uc]using hk)
  rw[rj k hk]at this
  simpa using List.all_eq_true.1 this j hj
 have HB:∀k,k<(fu ops).length->∀j∈(fu ops).getD k [],j<k:=fun k hk j hj=>by
  rw[uc]at hk;rw[rj k hk]at hj;exact EY k hk j hj
 let po:Nat->Nat->Prop:=fun k j=>((dJ (fu ops) []).getD k 0).testBit j=true
 have Dc:∀E:Nat->Bool,(∀k,k<ops.size->E k=true->∀j∈bp ops k,E j=true)->∀k,k<ops.size->(∀j∈bp ops k,E j=true)->∀j,po k j->E j=true:=fun E hE k hk hj j hb=>
  nU HB (fun k hk ig j hj=>by rw[uc]at hk;rw[rj k hk]at hj;exact hE k hk ig j hj) k (by rw[uc];exact hk) (by rw[rj k hk];exact hj) j hb
 have zw:∀k,k<ops.size->∀j,po k j->j<k:=fun k hk j hb=>yq HB k (by rw[uc];exact hk) j hb
 have xf:∀i j,i<j->j<ops.size-> ¬po j i->Compat (bL l) (fun i=>bU.getD i default) (fun i=>uA (bU.getD i default)) i j:=by
  intro i j Qq hj hn
  have J1:=List.all_eq_true.1 (List.all_eq_true.1 ht j (by simpa[hlen]using hj)) i (by simpa using Qq)
  have uO:=List.all_eq_true.1 (List.all_eq_true.1 sm j (by simpa[Qp]using hj)) i (by simpa using Qq)
  have hnc:((dJ (fu ops) []).getD j 0).testBit i=false:=by simpa[po]using hn
  rw[hnc,Bool.false_or]at J1 uO
  simp only[Bool.and_eq_true]at J1 uO
  have gi:=Kq i ag
  have gj:=Kq j hj
  simp only[List.getD_eq_getElem?_getD (l:=vu bU),gi,gj,Option.getD_some]at uO
  have dj:∀ {xs ys:List Nat},jE xs ys=true->∀x∈xs,x∉ys:=fun h x hx=>by simpa using List.all_eq_true.1 h x hx
  have fo:∀ {x y:bI},pD x y=true->∀d,x.dst=some d->d∉eh y:=fun h d hd=>by simpa[pD,hd]using h
  exact UM
 have Ny:∀i,i<ops.size->Nu P (dK (bL l) (fun i=>bU.getD i default) (fun _=>true) s i) (s.nx+i) (bL l i) (bU.getD i default):=fun i hi=>by
  rw[ly i (by omega)];exact aU i _ _ (Be i hi) (tZ i hi)
 have cz:∀i,i<ops.size->∀t,(bL l i).dst=some t->(dstsOf l).contains t=true:=fun i hi t ht=>by
  simp only[List.contains_iff_mem,dstsOf,List.mem_filterMap]
  exact⟨bL l i,List.mem_of_getElem? (Be i hi),ht⟩
 rcases iV with⟨aX,iV⟩|⟨v,wl,q1,q2,q3,q4,q5,q6⟩
 ·refine zu (ac:=fun i=>bU.getD i default) (dl:=dstsOf l) (wl:=(bU.flatMap jI)) aZ pW EY hs Ny (fun i hi hb=> ?_) Dc zw xf cz (fun i hi id au=> ?_) (fun i v ws rE hi hb=> ?_) (fun _ φ a w jl=> ?_) (fun i v ws rE hi hb=> ?_)
  ·have:=aX _ (oo i hi);rw[hb]at this;cases this
  ·simp only[List.contains_iff_mem,List.mem_flatMap];exact⟨_,oo i hi,au⟩
  ·have:=aX _ (oo i hi);rw[hb]at this;cases this
  ·rw[ly ops.size (by omega), <- hlen]at jl
   exact⟨.normal,_,φ,hQ _ _ iV.2,jl,trivial⟩
  ·have:=aX _ (oo i hi);rw[hb]at this;cases this
 ·refine zu (ac:=fun i=>bU.getD i default) (dl:=dstsOf l) (wl:=wl) aZ pW EY hs Ny (fun i hi hb=> ?_) Dc zw xf cz (fun i hi id au=> ?_) (fun i v' ws rE hi hb=> ?_) (fun aX φ a w jl=> ?_) (fun i v' ws rE hi hb φ a w val jl hd=> ?_)
  ·obtain⟨j,j1,j',e,y,j3,j4⟩:=q3 i Gy
   rw[rj i hi,e]at j1
   refine⟨j',j1, ?_⟩
   simp only[List.getD_eq_getElem?_getD,j3,Option.getD_some,j4]
  ·simp only[List.contains_iff_mem];exact q5 _ (oo i hi) id au
  ·intro id au
   simp only[List.contains_iff_mem]
   exact(q1 i v' ws rE Gy).2 id au
  ·obtain⟨x,x1,x2⟩:=q2
   obtain⟨i,Ki,VO⟩:=List.getElem_of_mem x1
   have hi:i<ops.size:=ag
   have:=aX i hi
   have e:bU.getD i default=x:=by simp[List.getD_eq_getElem?_getD,List.getElem?_eq_getElem Ki,VO]
   rw[e,x2]at this;cases this
  ·have e:=(q1 i v' ws rE Gy).1
   subst e
   rw[<- hlen]at jl hd
   exact⟨.bD v',_,φ,hQ _ _ q4.2,jl,val,rfl,hd⟩
theorem vx{ops:Array Oper}:∀ (l:List Oper) (l':List bI) (m:Nat),jS n ops l=some l'->jS n ops (l.drop m)=some (l'.drop m)
 |l,l',0,h=>h
 |[],l',m+1,h=>by simp[jS]at h;subst h;simp[jS]
 |o::l,l',m+1,h=>by
  simp only[jS]at h
  split at h
  ·rename_i x xs hx Bp
   injection h with h;subst h
   exact vx l xs m Bp
  ·cases h
theorem HC{l:List bI}{ac:Nat->eu}{E:Nat->Bool}{s:S}{m:Nat}:∀k,k<=m->dK (bL l) ac E s k=dK (bL (l.take m)) ac E s k:=by
 intro k
 induction k with
 |zero=>intro _;rfl
 |succ k ih=>
  intro hk
  have:bL l k=bL (l.take m) k:=by simp[bL,List.getD_eq_getElem?_getD,List.getElem?_take,(by omega:k<m)]
  simp only[dK,ih (by omega),this]
theorem BX(aZ:P.follows .mixedOrders=true){id:Nat}{ops:Array Oper}{l:List bI}{Q Q':eK->S->Prop}{s:S}(hQ:∀e s,Q e s->Q' e s)(pW:jS n ops ops.toList=some l)(ht:wu l (fu ops)=true)
 (hp:P6 (fu ops)=true) (h:HA P l (fu ops) Q s):ik P n b rd (.region id ops true) Q' s:=by
 intro M b7 H0 w0 cx φ a w ro k hs
 obtain⟨m,CW,Qr,h⟩:=h
 obtain⟨bU,hl,aU,iV⟩:=sL (l.take m) _ _ _ h
 have hlm:(l.take m).length=m:=by rw[List.length_take];omega
 have hlen:l.length=ops.size:=by rw[l0 _ _ pW];simp
 have iV:=iV.resolve_right (fun⟨_,_,_,_,_,q4,_,_⟩=>q4)
 obtain⟨aX,iV⟩:=iV
 have Qe:bU.length=m:=ag
 have rj:∀k,k<ops.size->(fu ops).getD k []=bp ops k:=by
  intro k hk;simp[fu,List.getD_eq_getElem?_getD,List.getElem?_map,List.getElem?_range hk]
 have uc:(fu ops).length=ops.size:=by simp[fu]
 have ly:∀k,k<=m->dK (bL l) (fun i=>bU.getD i default) (fun _=>true) s k=lY (l.take m) bU s k:=fun k hk=>by
  rw[HC k hk];exact vw (l.take m) bU s hl k ag
 have Be:∀k,k<m->(l.take m)[k]? =some (bL l k):=fun k hk=>by
  rw[List.getElem?_take,if_pos hk]
  simp[bL,List.getD_eq_getElem?_getD,List.getElem?_eq_getElem (by omega:k<l.length)]
 have tZ:∀k,k<m->bU[k]? =some (bU.getD k default):=fun k hk=>by simp[List.getD_eq_getElem?_getD,List.getElem?_eq_getElem (by omega:k<bU.length)]
 have oo:∀k,k<m->bU.getD k default∈bU:=fun k hk=>List.mem_of_getElem? (tZ k hk)
 have Kq:∀k,k<m->(vu bU)[k]? =some (uA (bU.getD k default),jI (bU.getD k default)):=fun k hk=>by
  simp only[vu,List.getElem?_map,tZ k hk,Option.map_some]
 have Qp:(vu bU).length=m:=by simp[vu,Qe]
 simp only[List.nil_append]at iV
 obtain⟨sm,KN⟩:=iV
 have EY:∀k,k<ops.size->∀j∈bp ops k,j<k:=fun k hk j hj=>by
  have:=List.all_eq_true.1 hp k (by simpa[uc]using hk)
  rw[rj k hk]at this
  simpa using List.all_eq_true.1 this j hj
 have HB:∀k,k<(fu ops).length->∀j∈(fu ops).getD k [],j<k:=fun k hk j hj=>by
  rw[uc]at hk;rw[rj k hk]at hj;exact EY k hk j hj
 let po:Nat->Nat->Prop:=fun k j=>((dJ (fu ops) []).getD k 0).testBit j=true
 have Dc:∀E:Nat->Bool,(∀k,k<ops.size->E k=true->∀j∈bp ops k,E j=true)->∀k,k<ops.size->(∀j∈bp ops k,E j=true)->∀j,po k j->E j=true:=fun E hE k hk hj j hb=>
  nU HB (fun k hk ig j hj=>by rw[uc]at hk;rw[rj k hk]at hj;exact hE k hk ig j hj) k (by rw[uc];exact hk) (by rw[rj k hk];exact hj) j hb
 have zw:∀k,k<ops.size->∀j,po k j->j<k:=fun k hk j hb=>yq HB k (by rw[uc];exact hk) j hb
 have xf:∀i j,i<j->j<m-> ¬po j i->Compat (bL l) (fun i=>bU.getD i default) (fun i=>uA (bU.getD i default)) i j:=by
  intro i j Qq hj hn
  have J1:=List.all_eq_true.1 (List.all_eq_true.1 ht j nn) i (by simpa using Qq)
  have uO:=List.all_eq_true.1 (List.all_eq_true.1 sm j (by simpa[Qp]using hj)) i (by simpa using Qq)
  have hnc:((dJ (fu ops) []).getD j 0).testBit i=false:=by simpa[po]using hn
  rw[hnc,Bool.false_or]at J1 uO
  simp only[Bool.and_eq_true]at J1 uO
  have gi:=Kq i ag
  have gj:=Kq j hj
  simp only[List.getD_eq_getElem?_getD (l:=vu bU),gi,gj,Option.getD_some]at uO
  have dj:∀ {xs ys:List Nat},jE xs ys=true->∀x∈xs,x∉ys:=fun h x hx=>by simpa using List.all_eq_true.1 h x hx
  have fo:∀ {x y:bI},pD x y=true->∀d,x.dst=some d->d∉eh y:=fun h d hd=>by simpa[pD,hd]using h
  exact UM
 have htl:∀k,m<=k->k<ops.size->∀j,j<k->po k j:=fun k hmk hk j hj=>by
  have:=List.all_eq_true.1 Qr k (by simpa[uc]using hk)
  simp only[Bool.or_eq_true]at this
  rcases this with this|this
  ·exact absurd (Nat.blt_eq.mp this) ag
  ·show((dJ (fu ops) []).getD k 0).testBit j=true
   rw[Nat.eq_of_beq_eq_true this,Nat.testBit_two_pow_sub_one]
   exact decide_eq_true hj
 refine BV (ac:=fun i=>bU.getD i default) (m:=m) (X:=fun v s=>Q' (.bD v) s) (K:=Q' .normal) aZ pW EY ag hs (fun i hi=> ?_) (fun i hi=>aX _ (oo i hi)) Dc zw xf htl ?_ (fun s φ a w hk jl=>⟨.normal,s,φ,hk,jl,trivial⟩) (fun v s' aE a' w' val hx jl hd=>⟨.bD v,s',aE,hx,jl,val,rfl,hd⟩)
 ·rw[ly i (by omega)];exact aU i _ _ (Be i hi) (tZ i hi)
 ·rw[ly m (Nat.le_refl _)]
  rw[hlm]at KN
  exact iC (fun s hs=>hQ _ _ hs) (fun v s hs=>hQ _ _ hs) _ _ _ (vx _ _ m pW) KN
theorem pX{g:V}{ps:List Nat}{x y:IC}{Q Q':eK->S->Prop}{s:S}(hQ:∀e s,Q e s->Q' e s)(h:ze P n g ps x y Q s):ze P n g ps x y Q' s:=by
 obtain⟨env,h1,h2⟩:=h
 refine⟨env,h1, ?_⟩
 split at h2
 ·refine m6.mono (fun v o n h=> ?_) (fun v o n h=>hQ _ _ h) h2
  obtain⟨nf,m,e,p,c,d,st,pd,k1,k2,k3⟩:=h
  refine⟨nf,m,e,p,c,d,st,pd,k1,k2, ?_⟩
  cases pd with
  |none=>exact hQ _ _ k3
  |some j=>cases j<;>exact hQ _ _ k3
 ·exact h2
theorem gr(aZ:P.follows .mixedOrders=true):∀ (c:Code) (Q Q':eK->S->Prop) (s:S),(∀e s,Q e s->Q' e s)->rJ P n b rd (low n c) Q s->ik P n b rd c Q' s:=by
 intro c
 induction c with
 |skip=>exact fun Q Q' s hQ h=>hQ _ _ h
 |scope x ih=>exact fun Q Q' s hQ h=>ih Q Q' s hQ h
 |label l=>exact fun Q Q' s hQ h=>hQ _ _ h
 |exit id=>exact fun Q Q' s hQ h=>hQ _ _ h
 |ret=>exact fun Q Q' s hQ h=>hQ _ _ h
 |goto l=>exact fun Q Q' s hQ h=>h.elim
 |refuse y=>exact fun Q Q' s hQ h=>h.elim
 |rangeFunc f p x y=>
  intro Q Q' s hQ h
  obtain⟨h1,s',hle,h2⟩:=h
  exact⟨h1,s',hle,pX hQ h2⟩
 |region id ops draw=>
  intro Q Q' s hQ h
  cases draw with
  |true=>
   simp only[low]at h
   split at h
   ·rename_i l hl
    split at h
    ·rename_i hc
     simp only[Bool.and_eq_true]at hc
     rcases h with h|h
     ·exact EX aZ hQ hl hc.1 hc.2 h
     ·exact BX aZ hQ hl hc.1 hc.2 h
    ·exact h.elim
   ·exact h.elim
  |false=>
   simp only[low]at h
   split at h
   ·rename_i l hl;exact iC (fun s hs=>hQ _ _ hs) (fun v s hs=>hQ _ _ hs) _ l s hl h
   ·exact h.elim
 |seq x y KG KH=>
  intro Q Q' s hQ h
  refine KG _ _ s (fun e s he=> ?_) h
  cases e<;>first|exact KH Q Q' s hQ he|exact hQ _ _ he
 |cond c x y KG KH=>
  intro Q Q' s hQ h
  simp only[low,rJ]at h
  simp only[ik]
  split at h
  ·rename_i t hc
   simp only[hc]
   exact⟨fun ht=>KG Q Q' s hQ (h.1 ht),fun ht=>KH Q Q' s hQ (h.2 ht)⟩
  ·rename_i hc
   simp only[hc]
   exact⟨KG Q Q' s hQ h.1,KH Q Q' s hQ h.2⟩
  ·exact h.elim
 |block id x ih=>
  intro Q Q' s hQ h
  refine ih _ _ s (fun e s he=> ?_) h
  cases e<;>simp only[ez]at he|- <;>first
   |exact hQ _ _ he
   |(split at he<;>rename_i e
     ·rw[if_pos e];exact hQ _ _ he
     ·rw[if_neg e];exact hQ _ _ he)
 |loop x ih=>
  intro Q Q' s hQ h
  obtain⟨J,h0,hr⟩:=h
  refine⟨J,h0,fun m s0 hJ=>ih _ _ s0 (fun e s he=> ?_) (hr m s0 hJ)⟩
  cases e<;>first|exact hQ _ _ he|exact he
structure aF (P:Program) (f:FuncId) (n:Nat) (ic:IC) (rs:List ResultVar):Prop where
 get:∃fn,P.funcs[f]? =some fn/\(fn.name== "runtime.NumGoroutine")=false/\fn.ntmps=n/\fn.results.toList=rs/\∃c,fn.body=some c/\low n c=ic
theorem cZ.sN (aZ:P.follows .mixedOrders=true){f:FuncId}{ic:IC}{rs:List ResultVar}(hf:aF P f n ic rs){args:List V}{o:Nat->ab}{nx:Nat}{K X:V->(Nat->ab)->Nat->Prop}(hl:args.length<=n)(h:rJ P n nx false ic (kJ P rs K X) ⟨ct args,o,nx⟩):cZ P f args o nx K X:=by
 obtain⟨fn,h1,h2,rfl,rfl,c,h3,rfl⟩:=hf.get
 exact cZ.C6 h1 h2 h3 hl (gr aZ c _ _ _ (fun _ _ h=>h) h)
theorem aR.sN (aZ:P.follows .mixedOrders=true){f:FuncId}{ic:IC}{rs:List ResultVar}(hf:aF P f n ic rs){ds:List D}{out:R}(hl:ds.length<=n)(h:rJ P n 0 false ic (BD P rs out) ⟨ct (ds.map .d),fun _=> .no,0⟩):aR P f ds out:=by
 obtain⟨fn,h1,h2,rfl,rfl,c,h3,rfl⟩:=hf.get
 exact aR.lT (cZ.C6 h1 h2 h3 (by simpa using hl) (gr aZ c _ _ _ (fun e s h=>EN e s h) h))
end
end
end Go.Proofs.YtnkamdiiakdkgaaGreat
