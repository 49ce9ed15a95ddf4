/-
  A PART OF THE PROOF. Conditions: none.
-/
import Derived.Test.YtnkamdiiakdkgaaGreatEu8
set_option linter.unusedSimpArgs false
set_option linter.unusedVariables false
namespace Go.Proofs.YtnkamdiiakdkgaaGreat
section
def rm(P:Program)(g:FuncId)(ds:List D)(Kf Kb KX:V->Prop):Prop:=
 (∃rs,aW P g ds (.ret rs)/\(Kf (iE rs)\/(D.ja rs=true/\Kb (iE rs))))\/(∃x,aW P g ds (.bF x)/\x.flat=true/\KX (.d x))\/(∃v,XI P g ds v/\Kf v)
def ir(P:Program)(g:FuncId)(args:List V)(o:Nat->ab)(nx fr:Nat)(K:V->List (Nat×ab)->List Nat->Prop)(KX:V->List Nat->List Nat->Prop):Prop:=
 ∃rd Δ,rd.all (fun id=>decide (id<nx))=true/\((∃rs,DU P g args rd o (.ret rs) Δ/\K (iE rs) Δ rd)\/(∃x,DU P g args rd o (.bF x) Δ/\KX (.d x) (Δ.map (·.1)) rd)\/(∃v,xJ P g args rd o fr v Δ/\K v Δ rd))
def yO(P:Program)(s:S)(fr:Nat)(o:bL)(K:V->List (Nat×ab)->List Nat->Prop)(KX:V->List Nat->List Nat->Prop):Prop:=
 match o.op with
 | .call c=>match c.callee with
   | .value f=>match s.ev f with
     | .func (.func g) first cap=>match bT s.o (first++c.args.toList.map s.ev++cap)with
       |some ds=>rm P g ds (fun v=>K v (cc s.o (V.bg (first++c.args.toList.map s.ev++cap))) (nr s o.op)) (fun v=>K v [] (nr s o.op)) (fun v=>KX v [] (nr s o.op))\/ir P g (first++c.args.toList.map s.ev++cap) s.o s.nx fr K KX
       |none=>ir P g (first++c.args.toList.map s.ev++cap) s.o s.nx fr K KX
     |_=>False
   |_=>match fK P s fr o.op with
    |some (v,Δ,_)=>K v Δ (nr s o.op)
    |none=>False
 |op=>match fK P s fr op with
  |some (v,Δ,_)=>K v Δ (nr s o.op)
  |none=>False
abbrev Fp:=List (List Nat×List Nat)
def gG(P:Program)(KB:List Nat->Fp->Prop)(pr:List (List Nat)):List bL->Nat->S->Fp->List Nat->List Nat->Prop
 |[],_,_,fp,_,ws=>KB ws fp
 |o::l,fr,s,fp,bad,ws=>if(pr.getD fp.length []).any (fun j=>bad.contains j)=true then gG P KB pr l (fr+1) ⟨aY s.env o.dst .aa,s.o,s.nx⟩ (fp++[([],[])]) (bad++[fp.length]) ws
  else match o.gd with
  |none=>yO P s fr o (fun v Δ rd=>gG P KB pr l (fr+1) ⟨aY s.env o.dst v,put s.o Δ,s.nx⟩ (fp++[(rd,Δ.map (·.1))]) bad (ws++Δ.map (·.1))) (fun _ _ _=>False)
  |some (d,want)=>match s.env d with
   | .d (.bool b)=>if b=want then yO P s fr o (fun v Δ rd=>gG P KB pr l (fr+1) ⟨aY s.env o.dst v,put s.o Δ,s.nx⟩ (fp++[(rd,Δ.map (·.1))]) bad (ws++Δ.map (·.1))) (fun _ _ _=>False)
    else gG P KB pr l (fr+1) ⟨aY s.env o.dst (.bS []),s.o,s.nx⟩ (fp++[([],[])]) bad ws
   | .bS []=>gG P KB pr l (fr+1) ⟨aY s.env o.dst (.bS []),s.o,s.nx⟩ (fp++[([],[])]) bad ws
   |_=>False
def jT(P:Program)(K:S->Fp->Prop)(KP:V->List Nat->Fp->Prop)(pr:List (List Nat)):List bL->Nat->S->Fp->Prop
 |[],_,s,fp=>K s fp
 |o::l,fr,s,fp=>match o.gd with
  |none=>yO P s fr o (fun v Δ rd=>jT P K KP pr l (fr+1) ⟨aY s.env o.dst v,put s.o Δ,s.nx⟩ (fp++[(rd,Δ.map (·.1))]))
   (fun v ws rd=>gG P (KP v) pr l (fr+1) ⟨aY s.env o.dst .aa,s.o,s.nx⟩ (fp++[(rd,[])]) [fp.length] (ws++fp.flatMap (·.2)))
  |some (d,want)=>match s.env d with
   | .d (.bool b)=>if b=want then yO P s fr o (fun v Δ rd=>jT P K KP pr l (fr+1) ⟨aY s.env o.dst v,put s.o Δ,s.nx⟩ (fp++[(rd,Δ.map (·.1))]))
         (fun v ws rd=>gG P (KP v) pr l (fr+1) ⟨aY s.env o.dst .aa,s.o,s.nx⟩ (fp++[(rd,[])]) [fp.length] (ws++fp.flatMap (·.2)))
    else jT P K KP pr l (fr+1) ⟨aY s.env o.dst (.bS []),s.o,s.nx⟩ (fp++[([],[])])
   | .bS []=>jT P K KP pr l (fr+1) ⟨aY s.env o.dst (.bS []),s.o,s.nx⟩ (fp++[([],[])])
   |_=>False
def CE(pr:List (List Nat))(nx:Nat)(Q:eS->S->Prop)(s:S)(fp:Fp):Prop:=dR pr fp=true/\Q .normal ⟨s.env,s.o,nx⟩
def dstsOf(l:List bL):List Nat:=l.filterMap (·.dst)
def Ae(pr:List (List Nat))(l:List bL)(s0:S)(Q:eS->S->Prop)(v:V)(wl:List Nat)(fp:Fp):Prop:=dR pr fp=true/\Q (.bF v) (tj (dstsOf l) wl l.length s0)
def mf:List bL->List eJ->S->Nat->S
 |_,_,s,0=>s
 |o::l,x::xs,s,j+1=>mf l xs (uN o.dst x s) j
 |_,_,s,_=>s
def v8(bX:List eJ):Fp:=bX.map fun x=>(u5 x,jR x)
section
variable {P:Program}{n b:Nat}
theorem Af{s:S}{fr:Nat}{o:bL}{K:V->List (Nat×ab)->List Nat->Prop}{KX:V->List Nat->List Nat->Prop}(h:yO P s fr o K KX):(∃v Δ rd,vX P s fr o.op v Δ rd/\K v Δ rd)\/(∃v ws rd,zZ P s o.op v ws rd/\KX v ws rd):=by
 have hs:∀ {op:Op},o.op=op->(match fK P s fr op with|some (v,Δ,_)=>K v Δ (nr s o.op)|none=>False)->(∃v Δ rd,vX P s fr o.op v Δ rd/\K v Δ rd):=by
  intro op gr h
  split at h
  ·rename_i v Δ rd he;exact⟨v,Δ,_, .inl ⟨⟨rd,by rw[gr];exact he⟩,rfl⟩,h⟩
  ·exact h.elim
 unfold yO at h
 split at h
 ·rename_i c hc
  split at h
  ·rename_i f eB
   split at h
   ·rename_i g first cap hf
    split at h
    ·rename_i ds eD
     rcases h with(⟨rs,hP,h|⟨kJ,h⟩⟩|⟨x,hP,kJ,h⟩|⟨v,hP,h⟩)|⟨rd,Δ,nd,⟨rs,hH,h⟩|⟨x,hH,h⟩|⟨v,hH,h⟩⟩
     ·exact .inl ⟨_,_,_, .inr ⟨c,f,g,first,cap,hc,eB,hf, .inl ⟨ds,rs,eD,hP,rfl,rfl, .inl rfl⟩⟩,h⟩
     ·exact .inl ⟨_,_,_, .inr ⟨c,f,g,first,cap,hc,eB,hf, .inl ⟨ds,rs,eD,hP,rfl,rfl, .inr ⟨kJ,rfl⟩⟩⟩,h⟩
     ·exact .inr ⟨_,_,_,⟨c,f,g,first,cap,hc,eB,hf, .inl ⟨ds,x,eD,hP,kJ,rfl,rfl,rfl⟩⟩,h⟩
     ·exact .inl ⟨_,_,_, .inr ⟨c,f,g,first,cap,hc,eB,hf, .inr (.inr (.inl ⟨ds,eD,hP,rfl,rfl⟩))⟩,h⟩
     ·exact V4
     ·exact V7
     ·exact V5
    ·obtain⟨rd,Δ,nd,⟨rs,hH,h⟩|⟨x,hH,h⟩|⟨v,hH,h⟩⟩:=h
     ·exact V4
     ·exact V7
     ·exact V5
   ·exact h.elim
  ·rw[hc]at h;exact .inl (hs hc (by rw[hc];exact h))
 ·exact .inl (hs rfl h)
def L8(P:Program)(KB:List Nat->Fp->Prop)(pr:List (List Nat))(l:List bL)(fr:Nat)(s:S)(fp:Fp)(bad ws:List Nat):Prop:=
    ∃bX:List eJ,bX.length=l.length/\(∀j o x,l[j]? =some o->bX[j]? =some x->OR P (mf l bX s j) (fr+j) o x)/\
     (∀ (j:Nat),bX[j]? =some eJ.c8->∃i∈pr.getD (fp.length+j) [],i∈bad\/∃j',j'<j/\i=fp.length+j'/\bX[j']? =some .c8)/\(∀x∈bX,x= .c8\/x.ok=true)/\
     ∃wl,KB wl (fp++v8 bX)/\(∀id∈ws,id∈wl)/\∀x∈bX,∀id∈jR x,id∈wl
theorem Ag{KB:List Nat->Fp->Prop}{pr:List (List Nat)}:∀ (l:List bL) (fr:Nat) (s:S) (fp:Fp) (bad ws:List Nat),gG P KB pr l fr s fp bad ws->L8 P KB pr l fr s fp bad ws
 |[],fr,s,fp,bad,ws,h=>⟨[],rfl,fun j o x hj=>by simp at hj,fun j hj=>by simp at hj,fun x hx=>by simp at hx,ws,by simpa[v8,gG]using h,fun _ h=>h,fun x hx=>by simp at hx⟩
 |o::l,fr,s,fp,bad,ws,h=>by
  have step:∀ (x:eJ) (L9 OU:List Nat),OR P s fr o x->gG P KB pr l (fr+1) (uN o.dst x s) (fp++[(u5 x,jR x)]) L9 OU->(x= .c8\/x.ok=true)->(x= .c8->∃i∈pr.getD fp.length [],i∈bad)->
   (∀i∈L9,i∈bad\/(i=fp.length/\x= .c8))->(∀id∈ws,id∈OU)->(∀id∈jR x,id∈OU)->
   L8 P KB pr (o::l) fr s fp bad ws:=by
   intro x L9 OU aZ hr hbo xP FV L6 hW
   obtain⟨bX,h1,h2,h3,h4,wl,h5,h6,h7⟩:=Ag l (fr+1) _ _ L9 OU hr
   refine⟨x::bX,by simp[h1],fun j o' y hj hy=> ?_,fun j hj=> ?_,fun y hy=> ?_,wl,by simpa[v8]using h5,fun id au=>h6 id (L6 id au),fun y hy id au=> ?_⟩
   ·cases j with
    |zero=>exact Hr
    |succ j=>
     have:=h2 j o' y lO (by simpa using hy)
     exact Rr
   ·cases j with
    |zero=>
     simp at hj
     obtain⟨i,i1,i2⟩:=xP hj
     exact⟨i,by simpa using i1, .inl i2⟩
    |succ j=>
     obtain⟨i,i1,i2⟩:=h3 j lO
     simp only[List.length_append,List.length_cons,List.length_nil]at i1 i2
     refine⟨i,by rw[show fp.length+(j+1)=fp.length+(0+1)+j by omega];exact i1, ?_⟩
     rcases i2 with i2|⟨j',j1,j2,j3⟩
     ·rcases FV i i2 with hb|⟨e1,e2⟩
      ·exact .inl hb
      ·exact .inr ⟨0,ah,ah,by simp[e2]⟩
     ·exact .inr ⟨j'+1,ah,ah,by simpa using j3⟩
   ·rcases List.mem_cons.1 hy with rfl|hy
    ·exact hbo
    ·exact h4 y hy
   ·rcases List.mem_cons.1 hy with rfl|hy
    ·exact h6 id (hW id au)
    ·exact h7 y hy id au
  simp only[gG]at h
  split at h
  ·rename_i hb
   obtain⟨j,hj1,RB⟩:=List.any_eq_true.1 hb
   exact step .c8 _ _ trivial h (.inl rfl) (fun _=>⟨j,hj1,by simpa using RB⟩) (fun i hi=>by
    rcases List.mem_append.1 hi with hi|hi
    ·exact .inl hi
    ·exact .inr ⟨by simpa using hi,rfl⟩) (fun _ h=>h) (fun id au=>by simp[jR]at au)
  ·have tp:dB s o.gd true->yO P s fr o (fun v Δ rd=>gG P KB pr l (fr+1) ⟨aY s.env o.dst v,put s.o Δ,s.nx⟩ (fp++[(rd,Δ.map (·.1))]) bad (ws++Δ.map (·.1))) (fun _ _ _=>False)->L8 P KB pr (o::l) fr s fp bad ws:=fun hg h=>by
    rcases Af h with⟨v,Δ,rd,oi,h⟩|⟨v,OU,rd,_,h⟩
    ·exact step (.val v Δ rd) bad (ws++Δ.map (·.1)) ⟨hg,oi⟩ h (.inr rfl) (fun h=>by cases h) (fun i hi=> .inl hi) (fun id au=>List.mem_append.2 (.inl au)) (fun id au=>List.mem_append.2 (.inr au))
    ·exact h.elim
   have skip:dB s o.gd false->gG P KB pr l (fr+1) ⟨aY s.env o.dst (.bS []),s.o,s.nx⟩ (fp++[([],[])]) bad ws->L8 P KB pr (o::l) fr s fp bad ws:=fun hg h=>
    step .skip bad ws hg h (.inr rfl) (fun h=>by cases h) (fun i hi=> .inl hi) (fun id au=>au) (fun id au=>by simp[jR]at au)
   split at h
   ·rename_i hg;exact tp (by rw[hg];rfl) h
   ·rename_i d want hg
    split at h
    ·rename_i c hv
     split at h
     ·rename_i e;exact tp Dm h
     ·rename_i e;exact skip Dm h
    ·rename_i hv;exact skip (by rw[hg];simp[dB,hv]) h
    ·exact h.elim
def IB(P:Program)(K:S->Fp->Prop)(KP:V->List Nat->Fp->Prop)(pr:List (List Nat))(l:List bL)(fr:Nat)(s:S)(fp:Fp):Prop:=
 ∃bX:List eJ,bX.length=l.length/\(∀j o x,l[j]? =some o->bX[j]? =some x->OR P (mf l bX s j) (fr+j) o x)/\
  (((∀x∈bX,x.ok=true)/\K (mf l bX s l.length) (fp++v8 bX))\/
   ∃v wl,(∀ (j:Nat) (v':V) (ws rd:List Nat),bX[j]? =some (eJ.bF v' ws rd)->v'=v/\∀id∈ws,id∈wl)/\(∃x∈bX,x.ok=false)/\
    (∀ (j:Nat),bX[j]? =some eJ.c8->∃i∈pr.getD (fp.length+j) [],∃j',i=fp.length+j'/\∃y,bX[j']? =some y/\y.ok=false)/\KP v wl (fp++v8 bX)/\(∀x∈bX,∀id∈jR x,id∈wl)/\∀id∈fp.flatMap (·.2),id∈wl)
theorem tq{K:S->Fp->Prop}{KP:V->List Nat->Fp->Prop}{pr:List (List Nat)}:∀ (l:List bL) (fr:Nat) (s:S) (fp:Fp),jT P K KP pr l fr s fp->IB P K KP pr l fr s fp
 |[],fr,s,fp,h=>⟨[],rfl,fun j o x hj=>by simp at hj, .inl ⟨fun x hx=>by simp at hx,by simpa[mf,v8,jT]using h⟩⟩
 |o::l,fr,s,fp,h=>by
  have step:∀ (x:eJ),x.ok=true->OR P s fr o x->jT P K KP pr l (fr+1) (uN o.dst x s) (fp++[(u5 x,jR x)])->IB P K KP pr (o::l) fr s fp:=by
   intro x XN aZ hr
   obtain⟨bX,h1,h2,h3⟩:=tq l (fr+1) _ _ hr
   refine⟨x::bX,by simp[h1],fun j o' y hj hy=> ?_, ?_⟩
   ·cases j with
    |zero=>exact Hr
    |succ j=>
     have:=h2 j o' y lO (by simpa using hy)
     exact Rr
   ·rcases h3 with⟨h3,h4⟩|⟨v,wl,g1,g2,g3,g4,g5,g6⟩
    ·left
     refine⟨fun y hy=> ?_,by simpa[mf,v8]using h4⟩
     rcases List.mem_cons.1 hy with rfl|hy
     ·exact XN
     ·exact h3 y hy
    ·right
     refine⟨v,wl,fun j v' ws rd hj=> ?_, ?_,fun j hj=> ?_,by simpa[v8]using g4,fun y hy id au=> ?_,fun id au=>g6 id (by simp only[List.flatMap_append,List.mem_append];exact .inl au)⟩
     ·cases j with
      |zero=>simp at hj;rw[hj]at XN;cases XN
      |succ j=>exact g1 j v' ws rd lO
     ·obtain⟨y,y1,y2⟩:=g2;exact⟨y,by simp[y1],y2⟩
     ·cases j with
      |zero=>simp at hj;rw[hj]at XN;cases XN
      |succ j=>
       obtain⟨i,i1,j',i2,y,i3,i4⟩:=g3 j lO
       simp only[List.length_append,List.length_cons,List.length_nil]at i1 i2
       exact⟨i,by rw[show fp.length+(j+1)=fp.length+(0+1)+j by omega];exact i1,j'+1,ah,y,by simpa using i3,i4⟩
     ·rcases List.mem_cons.1 hy with rfl|hy
      ·exact g6 id (by simp only[List.flatMap_append,List.mem_append];exact .inr (by simpa using au))
      ·exact g5 y hy id au
  have bF:∀ (v:V) (ws rd:List Nat),OR P s fr o (.bF v ws rd)->gG P (KP v) pr l (fr+1) ⟨aY s.env o.dst .aa,s.o,s.nx⟩ (fp++[(rd,[])]) [fp.length] (ws++fp.flatMap (·.2))->IB P K KP pr (o::l) fr s fp:=by
   intro v ws rd aZ hr
   obtain⟨bX,h1,h2,h3,h4,wl,h5,h6,h7⟩:=Ag l (fr+1) _ _ _ _ hr
   refine⟨eJ.bF v ws rd::bX,by simp[h1],fun j o' y hj hy=> ?_, .inr ⟨v,wl,fun j v' OU se hj=> ?_,⟨eJ.bF v ws rd,aI,rfl⟩,fun j hj=> ?_,by simpa[v8,u5,jR]using h5,fun y hy id au=> ?_,fun id au=>h6 id (List.mem_append.2 (.inr au))⟩⟩
   ·cases j with
    |zero=>exact Hr
    |succ j=>
     have:=h2 j o' y lO (by simpa using hy)
     exact Rr
   ·cases j with
    |zero=>simp at hj;obtain⟨rfl,rfl,rfl⟩:=hj;exact⟨rfl,fun id au=>h6 id (List.mem_append.2 (.inl au))⟩
    |succ j=>
     have hm:=List.mem_of_getElem? (show bX[j]? =some (.bF v' OU se) by simpa using hj)
     rcases h4 _ hm with h|h<;>cases h
   ·cases j with
    |zero=>simp at hj
    |succ j=>
     obtain⟨i,i1,i2⟩:=h3 j lO
     simp only[List.length_append,List.length_cons,List.length_nil]at i1 i2
     refine⟨i,by rw[show fp.length+(j+1)=fp.length+(0+1)+j by omega];exact i1, ?_⟩
     rcases i2 with i2|⟨j',j1,j2,j3⟩
     ·exact⟨0,by simpa using i2,_,rfl,rfl⟩
     ·exact⟨j'+1,ah, .c8,by simpa using j3,rfl⟩
   ·rcases List.mem_cons.1 hy with rfl|hy
    ·simp[jR]at au
    ·exact h7 y hy id au
  have tp:dB s o.gd true->yO P s fr o (fun v Δ rd=>jT P K KP pr l (fr+1) ⟨aY s.env o.dst v,put s.o Δ,s.nx⟩ (fp++[(rd,Δ.map (·.1))]))
   (fun v ws rd=>gG P (KP v) pr l (fr+1) ⟨aY s.env o.dst .aa,s.o,s.nx⟩ (fp++[(rd,[])]) [fp.length] (ws++fp.flatMap (·.2)))->IB P K KP pr (o::l) fr s fp:=fun hg h=>by
   rcases Af h with⟨v,Δ,rd,oi,h⟩|⟨v,ws,rd,oi,h⟩
   ·exact step (.val v Δ rd) rfl ⟨hg,oi⟩ h
   ·exact bF v ws rd ⟨hg,oi⟩ h
  have skip:dB s o.gd false->jT P K KP pr l (fr+1) ⟨aY s.env o.dst (.bS []),s.o,s.nx⟩ (fp++[([],[])])->IB P K KP pr (o::l) fr s fp:=fun hg h=>step .skip rfl hg h
  simp only[jT]at h
  split at h
  ·rename_i hg;exact tp (by rw[hg];rfl) h
  ·rename_i d want hg
   split at h
   ·rename_i c hv
    split at h
    ·rename_i e;exact tp Dm h
    ·rename_i e;exact skip Dm h
   ·rename_i hv;exact skip (by rw[hg];simp[dB,hv]) h
   ·exact h.elim
end
end
section
def mh(env:Nat->V):List Nat->List V->Nat->V
 |t::ps,v::vs=>mh (aF env t v) ps vs
 |_,_=>env
def xQ(pr:List (List Nat))(m:Nat):Bool:=(List.range pr.length).all fun k=>Nat.blt k m||Nat.beq ((dV pr []).getD k 0) (2^k - 1)
def ID(P:Program)(l:List bL)(pr:List (List Nat))(Q:eS->S->Prop)(s:S):Prop:=
 ∃m,m<=l.length/\xQ pr m=true/\jT P (fun s' fp=>dR pr fp=true/\nW P (fun v s=>Q (.bF v) s) (Q .normal) (l.drop m) ⟨s'.env,s'.o,s.nx+m⟩) (fun _ _ _=>False) pr (l.take m) s.nx s []
def sr(P:Program)(n b:Nat)(rd:Bool):IC->(eS->S->Prop)->S->Prop
 | .skip,Q,s=>Q .normal s
 | .ad l,Q,s=>nW P (fun v s=>Q (.bF v) s) (Q .normal) l s
 | .cT l pr,Q,s=>jT P (CE pr (s.nx+l.length) Q) (Ae pr l s Q) pr l s.nx s []\/ID P l pr Q s
 | .seq x y,Q,s=>sr P n b rd x (oT (sr P n b rd y Q) Q) s
 | .cond c x y,Q,s=>match s.ev c with
   | .d (.bool t)=>pb t (sr P n b rd x Q s) (sr P n b rd y Q s)
   | .eN=>sr P n b rd x Q s/\sr P n b rd y Q s
   |_=>False
 | .block id x,Q,s=>sr P n b rd x (eO id Q) s
 | .loop x,Q,s=>Iv b (sr P n b rd x) Q s
 | .exit id,Q,s=>Q (.exit id) s
 | .ret,Q,s=>Q .ret s
 | .Fh g ps x y,Q,s=>rd=false/\XE P n b g ps x y Q s
 | .bad,_,_=>False
section
variable {P:Program}{n b:Nat}{rd:Bool}
theorem tt:∀ (l:List bL) (bX:List eJ) (s:S) (k:Nat) (o:bL) (x:eJ),l[k]? =some o->bX[k]? =some x->mf l bX s (k+1)=uN o.dst x (mf l bX s k)
 |[],_,_,_,_,_,h,_=>by simp at h
 |o::l,[],_,_,_,_,_,h=>by simp at h
 |o::l,x::xs,s,0,o',x',h,h'=>by simp at h h';subst h;subst h';cases l<;>cases xs<;>rfl
 |o::l,x::xs,s,k+1,o',x',h,h'=>by
  simp only[mf]
  exact tt l xs _ k o' x' (by simpa using h) (by simpa using h')
theorem wa(l:List bL)(bX:List eJ)(s:S)(hl:bX.length=l.length):∀k,k<=l.length->dX (bO l) (fun i=>bX.getD i default) (fun _=>true) s k=mf l bX s k:=by
 intro k
 induction k with
 |zero=>intro _;cases l<;>cases bX<;>rfl
 |succ k ih=>
  intro hk
  have h1:l[k]? =some (bO l k):=by simp[bO,List.getD_eq_getElem?_getD,List.getElem?_eq_getElem (by omega:k<l.length)]
  have h2:bX[k]? =some (bX.getD k default):=by simp[List.getD_eq_getElem?_getD,List.getElem?_eq_getElem (by omega:k<bX.length)]
  simp only[dX,if_true,ih (by omega)]
  rw[tt l bX s k _ _ h1 h2]
theorem mi{ops:Array Oper}:∀ (l:List Oper) (l':List bL),ke n ops l=some l'->l'.length=l.length
 |[],_,h=>by simp[ke]at h;subst h;rfl
 |o::l,l',h=>by
  simp only[ke]at h
  split at h
  ·rename_i hx;injection h with h;subst h;simp[mi l _ hx]
  ·cases h
theorem FX(bf:P.follows .mixedOrders=true){id:Nat}{ops:Array Oper}{l:List bL}{Q Q':eS->S->Prop}{s:S}(hQ:∀e s,Q e s->Q' e s)(qp:ke n ops ops.toList=some l)(ht:w9 l (fP ops)=true)
 (hp:Ru (fP ops)=true) (h:jT P (CE (fP ops) (s.nx+l.length) Q) (Ae (fP ops) l s Q) (fP ops) l s.nx s []):iA P n b rd (.region id ops true) Q' s:=by
 intro M cg H0 w0 cx φ a w ro k hs
 obtain⟨bX,hl,aZ,iF⟩:=tq l _ _ _ h
 have hlen:l.length=ops.size:=by rw[mi _ _ qp];simp
 have sm:∀k,k<ops.size->(fP ops).getD k []=bz ops k:=by
  intro k hk;simp[fP,List.getD_eq_getElem?_getD,List.getElem?_map,List.getElem?_range hk]
 have uX:(fP ops).length=ops.size:=by simp[fP]
 have oi:=wa l bX s hl
 have BU:∀k,k<ops.size->l[k]? =some (bO l k):=fun k hk=>by simp[bO,List.getD_eq_getElem?_getD,List.getElem?_eq_getElem (by omega:k<l.length)]
 have uK:∀k,k<ops.size->bX[k]? =some (bX.getD k default):=fun k hk=>by simp[List.getD_eq_getElem?_getD,List.getElem?_eq_getElem (by omega:k<bX.length)]
 have sZ:∀k,k<ops.size->bX.getD k default∈bX:=fun k hk=>List.mem_of_getElem? (uK k hk)
 have LO:∀k,k<ops.size->(v8 bX)[k]? =some (u5 (bX.getD k default),jR (bX.getD k default)):=fun k hk=>by
  simp only[v8,List.getElem?_map,uK k hk,Option.map_some]
 have RJ:(v8 bX).length=ops.size:=by simp[v8,hl,hlen]
 simp only[List.nil_append,List.length_nil,Nat.zero_add]at iF
 have sS:dR (fP ops) (v8 bX)=true:=by
  rcases iF with⟨_,h⟩|⟨v,wl,_,_,_,h,_⟩
  ·exact h.1
  ·exact h.1
 have FY:∀k,k<ops.size->∀j∈bz ops k,j<k:=fun k hk j hj=>by
  have:=List.all_eq_true.1 hp k (by simpa[uX]using hk)
  rw[sm k hk]at this
  simpa using List.all_eq_true.1 this j hj
 have IE:∀k,k<(fP ops).length->∀j∈(fP ops).getD k [],j<k:=fun k hk j hj=>by
  rw[uX]at hk;rw[sm k hk]at hj;exact FY k hk j hj
 let po:Nat->Nat->Prop:=fun k j=>((dV (fP ops) []).getD k 0).testBit j=true
 have DY:∀E:Nat->Bool,(∀k,k<ops.size->E k=true->∀j∈bz ops k,E j=true)->∀k,k<ops.size->(∀j∈bz ops k,E j=true)->∀j,po k j->E j=true:=fun E hE k hk hj j hb=>
  oA IE (fun k hk iy j hj=>by rw[uX]at hk;rw[sm k hk]at hj;exact hE k hk iy j hj) k (by rw[uX];exact hk) (by rw[sm k hk];exact hj) j hb
 have Ac:∀k,k<ops.size->∀j,po k j->j<k:=fun k hk j hb=>zc IE k (by rw[uX];exact hk) j hb
 have xR:∀i j,i<j->j<ops.size-> ¬po j i->Compat (bO l) (fun i=>bX.getD i default) (fun i=>u5 (bX.getD i default)) i j:=by
  intro i j RK hj hn
  have Fb:=List.all_eq_true.1 (List.all_eq_true.1 ht j (by simpa[hlen]using hj)) i (by simpa using RK)
  have vm:=List.all_eq_true.1 (List.all_eq_true.1 sS j (by simpa[RJ]using hj)) i (by simpa using RK)
  have hnc:((dV (fP ops) []).getD j 0).testBit i=false:=by simpa[po]using hn
  rw[hnc,Bool.false_or]at Fb vm
  simp only[Bool.and_eq_true]at Fb vm
  have gi:=LO i ah
  have gj:=LO j hj
  simp only[List.getD_eq_getElem?_getD (l:=v8 bX),gi,gj,Option.getD_some]at vm
  have dj:∀ {xs ys:List Nat},jO xs ys=true->∀x∈xs,x∉ys:=fun h x hx=>by simpa using List.all_eq_true.1 h x hx
  have fo:∀ {x y:bL},p7 x y=true->∀d,x.dst=some d->d∉eE y:=fun h d hd=>by simpa[p7,hd]using h
  exact Wc
 have OV:∀i,i<ops.size->OR P (dX (bO l) (fun i=>bX.getD i default) (fun _=>true) s i) (s.nx+i) (bO l i) (bX.getD i default):=fun i hi=>by
  rw[oi i (by omega)];exact aZ i _ _ (BU i hi) (uK i hi)
 have cB:∀i,i<ops.size->∀t,(bO l i).dst=some t->(dstsOf l).contains t=true:=fun i hi t ht=>by
  simp only[List.contains_iff_mem,dstsOf,List.mem_filterMap]
  exact⟨bO l i,List.mem_of_getElem? (BU i hi),ht⟩
 rcases iF with⟨bc,iF⟩|⟨v,wl,q1,q2,q3,q4,q5,q6⟩
 ·refine Ab (ac:=fun i=>bX.getD i default) (dl:=dstsOf l) (wl:=(bX.flatMap jR)) bf qp FY hs OV (fun i hi hb=> ?_) DY Ac xR cB (fun i hi id au=> ?_) (fun i v ws se hi hb=> ?_) (fun _ φ a w ju=> ?_) (fun i v ws se hi hb=> ?_)
  ·have:=bc _ (sZ i hi);rw[hb]at this;cases this
  ·simp only[List.contains_iff_mem,List.mem_flatMap];exact⟨_,sZ i hi,au⟩
  ·have:=bc _ (sZ i hi);rw[hb]at this;cases this
  ·rw[oi ops.size (by omega), <- hlen]at ju
   exact⟨.normal,_,φ,hQ _ _ iF.2,ju,trivial⟩
  ·have:=bc _ (sZ i hi);rw[hb]at this;cases this
 ·refine Ab (ac:=fun i=>bX.getD i default) (dl:=dstsOf l) (wl:=wl) bf qp FY hs OV (fun i hi hb=> ?_) DY Ac xR cB (fun i hi id au=> ?_) (fun i v' ws se hi hb=> ?_) (fun bc φ a w ju=> ?_) (fun i v' ws se hi hb φ a w val ju hd=> ?_)
  ·obtain⟨j,j1,j',e,y,j3,j4⟩:=q3 i Hx
   rw[sm i hi,e]at j1
   refine⟨j',j1, ?_⟩
   simp only[List.getD_eq_getElem?_getD,j3,Option.getD_some,j4]
  ·simp only[List.contains_iff_mem];exact q5 _ (sZ i hi) id au
  ·intro id au
   simp only[List.contains_iff_mem]
   exact(q1 i v' ws se Hx).2 id au
  ·obtain⟨x,x1,x2⟩:=q2
   obtain⟨i,LG,Xk⟩:=List.getElem_of_mem x1
   have hi:i<ops.size:=ah
   have:=bc i hi
   have e:bX.getD i default=x:=by simp[List.getD_eq_getElem?_getD,List.getElem?_eq_getElem LG,Xk]
   rw[e,x2]at this;cases this
  ·have e:=(q1 i v' ws se Hx).1
   subst e
   rw[<- hlen]at ju hd
   exact⟨.bF v',_,φ,hQ _ _ q4.2,ju,val,rfl,hd⟩
theorem wb{ops:Array Oper}:∀ (l:List Oper) (l':List bL) (m:Nat),ke n ops l=some l'->ke n ops (l.drop m)=some (l'.drop m)
 |l,l',0,h=>h
 |[],l',m+1,h=>by simp[ke]at h;subst h;simp[ke]
 |o::l,l',m+1,h=>by
  simp only[ke]at h
  split at h
  ·rename_i x xs hx DE
   injection h with h;subst h
   exact wb l xs m DE
  ·cases h
theorem IF{l:List bL}{ac:Nat->eJ}{E:Nat->Bool}{s:S}{m:Nat}:∀k,k<=m->dX (bO l) ac E s k=dX (bO (l.take m)) ac E s k:=by
 intro k
 induction k with
 |zero=>intro _;rfl
 |succ k ih=>
  intro hk
  have:bO l k=bO (l.take m) k:=by simp[bO,List.getD_eq_getElem?_getD,List.getElem?_take,(by omega:k<m)]
  simp only[dX,ih (by omega),this]
theorem CF(bf:P.follows .mixedOrders=true){id:Nat}{ops:Array Oper}{l:List bL}{Q Q':eS->S->Prop}{s:S}(hQ:∀e s,Q e s->Q' e s)(qp:ke n ops ops.toList=some l)(ht:w9 l (fP ops)=true)
 (hp:Ru (fP ops)=true) (h:ID P l (fP ops) Q s):iA P n b rd (.region id ops true) Q' s:=by
 intro M cg H0 w0 cx φ a w ro k hs
 obtain⟨m,Fs,hto,h⟩:=h
 obtain⟨bX,hl,aZ,iF⟩:=tq (l.take m) _ _ _ h
 have hlm:(l.take m).length=m:=by rw[List.length_take];omega
 have hlen:l.length=ops.size:=by rw[mi _ _ qp];simp
 have iF:=iF.resolve_right (fun⟨_,_,_,_,_,q4,_,_⟩=>q4)
 obtain⟨bc,iF⟩:=iF
 have Ib:bX.length=m:=ah
 have sm:∀k,k<ops.size->(fP ops).getD k []=bz ops k:=by
  intro k hk;simp[fP,List.getD_eq_getElem?_getD,List.getElem?_map,List.getElem?_range hk]
 have uX:(fP ops).length=ops.size:=by simp[fP]
 have oi:∀k,k<=m->dX (bO l) (fun i=>bX.getD i default) (fun _=>true) s k=mf (l.take m) bX s k:=fun k hk=>by
  rw[IF k hk];exact wa (l.take m) bX s hl k ah
 have BU:∀k,k<m->(l.take m)[k]? =some (bO l k):=fun k hk=>by
  rw[List.getElem?_take,if_pos hk]
  simp[bO,List.getD_eq_getElem?_getD,List.getElem?_eq_getElem (by omega:k<l.length)]
 have uK:∀k,k<m->bX[k]? =some (bX.getD k default):=fun k hk=>by simp[List.getD_eq_getElem?_getD,List.getElem?_eq_getElem (by omega:k<bX.length)]
 have sZ:∀k,k<m->bX.getD k default∈bX:=fun k hk=>List.mem_of_getElem? (uK k hk)
 have LO:∀k,k<m->(v8 bX)[k]? =some (u5 (bX.getD k default),jR (bX.getD k default)):=fun k hk=>by
  simp only[v8,List.getElem?_map,uK k hk,Option.map_some]
 have RJ:(v8 bX).length=m:=by simp[v8,Ib]
 simp only[List.nil_append]at iF
 obtain⟨sS,Ma⟩:=iF
 have FY:∀k,k<ops.size->∀j∈bz ops k,j<k:=fun k hk j hj=>by
  have:=List.all_eq_true.1 hp k (by simpa[uX]using hk)
  rw[sm k hk]at this
  simpa using List.all_eq_true.1 this j hj
 have IE:∀k,k<(fP ops).length->∀j∈(fP ops).getD k [],j<k:=fun k hk j hj=>by
  rw[uX]at hk;rw[sm k hk]at hj;exact FY k hk j hj
 let po:Nat->Nat->Prop:=fun k j=>((dV (fP ops) []).getD k 0).testBit j=true
 have DY:∀E:Nat->Bool,(∀k,k<ops.size->E k=true->∀j∈bz ops k,E j=true)->∀k,k<ops.size->(∀j∈bz ops k,E j=true)->∀j,po k j->E j=true:=fun E hE k hk hj j hb=>
  oA IE (fun k hk iy j hj=>by rw[uX]at hk;rw[sm k hk]at hj;exact hE k hk iy j hj) k (by rw[uX];exact hk) (by rw[sm k hk];exact hj) j hb
 have Ac:∀k,k<ops.size->∀j,po k j->j<k:=fun k hk j hb=>zc IE k (by rw[uX];exact hk) j hb
 have xR:∀i j,i<j->j<m-> ¬po j i->Compat (bO l) (fun i=>bX.getD i default) (fun i=>u5 (bX.getD i default)) i j:=by
  intro i j RK hj hn
  have Fb:=List.all_eq_true.1 (List.all_eq_true.1 ht j ow) i (by simpa using RK)
  have vm:=List.all_eq_true.1 (List.all_eq_true.1 sS j (by simpa[RJ]using hj)) i (by simpa using RK)
  have hnc:((dV (fP ops) []).getD j 0).testBit i=false:=by simpa[po]using hn
  rw[hnc,Bool.false_or]at Fb vm
  simp only[Bool.and_eq_true]at Fb vm
  have gi:=LO i ah
  have gj:=LO j hj
  simp only[List.getD_eq_getElem?_getD (l:=v8 bX),gi,gj,Option.getD_some]at vm
  have dj:∀ {xs ys:List Nat},jO xs ys=true->∀x∈xs,x∉ys:=fun h x hx=>by simpa using List.all_eq_true.1 h x hx
  have fo:∀ {x y:bL},p7 x y=true->∀d,x.dst=some d->d∉eE y:=fun h d hd=>by simpa[p7,hd]using h
  exact Wc
 have htl:∀k,m<=k->k<ops.size->∀j,j<k->po k j:=fun k hmk hk j hj=>by
  have:=List.all_eq_true.1 hto k (by simpa[uX]using hk)
  simp only[Bool.or_eq_true]at this
  rcases this with this|this
  ·exact absurd (Nat.blt_eq.mp this) ah
  ·show((dV (fP ops) []).getD k 0).testBit j=true
   rw[Nat.eq_of_beq_eq_true this,Nat.testBit_two_pow_sub_one]
   exact decide_eq_true hj
 refine CD (ac:=fun i=>bX.getD i default) (m:=m) (X:=fun v s=>Q' (.bF v) s) (K:=Q' .normal) bf qp FY ah hs (fun i hi=> ?_) (fun i hi=>bc _ (sZ i hi)) DY Ac xR htl ?_ (fun s φ a w hk ju=>⟨.normal,s,φ,hk,ju,trivial⟩) (fun v s' aD a' w' val hx ju hd=>⟨.bF v,s',aD,hx,ju,val,rfl,hd⟩)
 ·rw[oi i (by omega)];exact aZ i _ _ (BU i hi) (uK i hi)
 ·rw[oi m (Nat.le_refl _)]
  rw[hlm]at Ma
  exact iK (fun s hs=>hQ _ _ hs) (fun v s hs=>hQ _ _ hs) _ _ _ (wb _ _ m qp) Ma
theorem qq{g:V}{ps:List Nat}{x y:IC}{Q Q':eS->S->Prop}{s:S}(hQ:∀e s,Q e s->Q' e s)(h:zQ P n g ps x y Q s):zQ P n g ps x y Q' s:=by
 obtain⟨env,h1,h2⟩:=h
 refine⟨env,h1, ?_⟩
 split at h2
 ·refine nu.mono (fun v o n h=> ?_) (fun v o n h=>hQ _ _ h) h2
  obtain⟨nf,m,e,p,c,d,st,pd,k1,k2,k3⟩:=h
  refine⟨nf,m,e,p,c,d,st,pd,k1,k2, ?_⟩
  cases pd with
  |none=>exact hQ _ _ k3
  |some j=>cases j<;>exact hQ _ _ k3
 ·exact h2
theorem gH(bf:P.follows .mixedOrders=true):∀ (c:Code) (Q Q':eS->S->Prop) (s:S),(∀e s,Q e s->Q' e s)->sr P n b rd (low n c) Q s->iA P n b rd c Q' s:=by
 intro c
 induction c with
 |skip=>exact fun Q Q' s hQ h=>hQ _ _ h
 |scope x ih=>exact fun Q Q' s hQ h=>ih Q Q' s hQ h
 |label l=>exact fun Q Q' s hQ h=>hQ _ _ h
 |exit id=>exact fun Q Q' s hQ h=>hQ _ _ h
 |ret=>exact fun Q Q' s hQ h=>hQ _ _ h
 |goto l=>exact fun Q Q' s hQ h=>h.elim
 |refuse y=>exact fun Q Q' s hQ h=>h.elim
 |rangeFunc f p x y=>
  intro Q Q' s hQ h
  obtain⟨h1,s',hle,h2⟩:=h
  exact⟨h1,s',hle,qq hQ h2⟩
 |region id ops draw=>
  intro Q Q' s hQ h
  cases draw with
  |true=>
   simp only[low]at h
   split at h
   ·rename_i l hl
    split at h
    ·rename_i hc
     simp only[Bool.and_eq_true]at hc
     rcases h with h|h
     ·exact FX bf hQ hl hc.1 hc.2 h
     ·exact CF bf hQ hl hc.1 hc.2 h
    ·exact h.elim
   ·exact h.elim
  |false=>
   simp only[low]at h
   split at h
   ·rename_i l hl;exact iK (fun s hs=>hQ _ _ hs) (fun v s hs=>hQ _ _ hs) _ l s hl h
   ·exact h.elim
 |seq x y L3 L4=>
  intro Q Q' s hQ h
  refine L3 _ _ s (fun e s he=> ?_) h
  cases e<;>first|exact L4 Q Q' s hQ he|exact hQ _ _ he
 |cond c x y L3 L4=>
  intro Q Q' s hQ h
  simp only[low,sr]at h
  simp only[iA]
  split at h
  ·rename_i t hc
   simp only[hc]
   exact⟨fun ht=>L3 Q Q' s hQ (h.1 ht),fun ht=>L4 Q Q' s hQ (h.2 ht)⟩
  ·rename_i hc
   simp only[hc]
   exact⟨L3 Q Q' s hQ h.1,L4 Q Q' s hQ h.2⟩
  ·exact h.elim
 |block id x ih=>
  intro Q Q' s hQ h
  refine ih _ _ s (fun e s he=> ?_) h
  cases e<;>simp only[eO]at he|- <;>first
   |exact hQ _ _ he
   |(split at he<;>rename_i e
     ·rw[if_pos e];exact hQ _ _ he
     ·rw[if_neg e];exact hQ _ _ he)
 |loop x ih=>
  intro Q Q' s hQ h
  obtain⟨J,h0,hr⟩:=h
  refine⟨J,h0,fun m s0 hJ=>ih _ _ s0 (fun e s he=> ?_) (hr m s0 hJ)⟩
  cases e<;>first|exact hQ _ _ he|exact he
structure aG (P:Program) (f:FuncId) (n:Nat) (ic:IC) (rs:List ResultVar):Prop where
 get:∃fn,P.funcs[f]? =some fn/\(fn.name== "runtime.NumGoroutine")=false/\fn.ntmps=n/\fn.results.toList=rs/\∃c,fn.body=some c/\low n c=ic
theorem de.tu (bf:P.follows .mixedOrders=true){f:FuncId}{ic:IC}{rs:List ResultVar}(hf:aG P f n ic rs){args:List V}{o:Nat->ab}{nx:Nat}{K X:V->(Nat->ab)->Nat->Prop}(hl:args.length<=n)(h:sr P n nx false ic (kY P rs K X) ⟨cp args,o,nx⟩):de P f args o nx K X:=by
 obtain⟨fn,h1,h2,rfl,rfl,c,h3,rfl⟩:=hf.get
 exact de.DS h1 h2 h3 hl (gH bf c _ _ _ (fun _ _ h=>h) h)
theorem aW.tu (bf:P.follows .mixedOrders=true){f:FuncId}{ic:IC}{rs:List ResultVar}(hf:aG P f n ic rs){ds:List D}{out:R}(hl:ds.length<=n)(h:sr P n 0 false ic (Ci P rs out) ⟨cp (ds.map .d),fun _=> .no,0⟩):aW P f ds out:=by
 obtain⟨fn,h1,h2,rfl,rfl,c,h3,rfl⟩:=hf.get
 exact aW.l9 (de.DS h1 h2 h3 (by simpa using hl) (gH bf c _ _ _ (fun e s h=>FM e s h) h))
end
end
end Go.Proofs.YtnkamdiiakdkgaaGreat
