/-
  A PART OF THE PROOF. Conditions: none.
-/
import Derived.Test.YtlhemmpklhhgoaaGreatQb8
set_option linter.unusedSimpArgs false
set_option linter.unusedVariables false
namespace Go.Proofs.YtlhemmpklhhgoaaGreat
section
def qh(P:Program)(g:FuncId)(ds:List D)(Kf Kb KX:V->Prop):Prop:=
 (∃rs,aX P g ds (.ret rs)/\(Kf (ir rs)\/(D.iq rs=true/\Kb (ir rs))))\/(∃x,aX P g ds (.bu x)/\x.flat=true/\KX (.d x))\/(∃v,TM P g ds v/\Kf v)
def gB(P:Program)(g:FuncId)(args:List V)(o:Nat->ab)(nx fr:Nat)(K:V->List (Nat×ab)->List Nat->Prop)(KX:V->List Nat->List Nat->Prop):Prop:=
 ∃rd Δ,rd.all (fun id=>decide (id<nx))=true/\((∃rs,F2 P g args rd o (.ret rs) Δ/\K (ir rs) Δ rd)\/(∃x,F2 P g args rd o (.bu x) Δ/\KX (.d x) (Δ.map (·.1)) rd)\/(∃v,xm P g args rd o fr v Δ/\K v Δ rd))
def xo(P:Program)(s:S)(fr:Nat)(o:bB)(K:V->List (Nat×ab)->List Nat->Prop)(KX:V->List Nat->List Nat->Prop):Prop:=
 match o.op with
 | .call c=>match c.callee with
   | .value f=>match s.ev f with
     | .func (.func g) first cap=>match bI s.o (first++c.args.toList.map s.ev++cap)with
       |some ds=>qh P g ds (fun v=>K v (bP s.o (V.aZ (first++c.args.toList.map s.ev++cap))) (mh s o.op)) (fun v=>K v [] (mh s o.op)) (fun v=>KX v [] (mh s o.op))\/gB P g (first++c.args.toList.map s.ev++cap) s.o s.nx fr K KX
       |none=>gB P g (first++c.args.toList.map s.ev++cap) s.o s.nx fr K KX
     |_=>False
   |_=>match eR P s fr o.op with
    |some (v,Δ,_)=>K v Δ (mh s o.op)
    |none=>False
 |op=>match eR P s fr op with
  |some (v,Δ,_)=>K v Δ (mh s o.op)
  |none=>False
abbrev Fp:=List (List Nat×List Nat)
def fF(P:Program)(KB:List Nat->Fp->Prop)(pr:List (List Nat)):List bB->Nat->S->Fp->List Nat->List Nat->Prop
 |[],_,_,fp,_,ws=>KB ws fp
 |o::l,fr,s,fp,bad,ws=>if(pr.getD fp.length []).any (fun j=>bad.contains j)=true then fF P KB pr l (fr+1) ⟨aS s.env o.dst .aa,s.o,s.nx⟩ (fp++[([],[])]) (bad++[fp.length]) ws
  else match o.gd with
  |none=>xo P s fr o (fun v Δ rd=>fF P KB pr l (fr+1) ⟨aS s.env o.dst v,put s.o Δ,s.nx⟩ (fp++[(rd,Δ.map (·.1))]) bad (ws++Δ.map (·.1))) (fun _ _ _=>False)
  |some (d,want)=>match s.env d with
   | .d (.bool b)=>if b=want then xo P s fr o (fun v Δ rd=>fF P KB pr l (fr+1) ⟨aS s.env o.dst v,put s.o Δ,s.nx⟩ (fp++[(rd,Δ.map (·.1))]) bad (ws++Δ.map (·.1))) (fun _ _ _=>False)
    else fF P KB pr l (fr+1) ⟨aS s.env o.dst (.bH []),s.o,s.nx⟩ (fp++[([],[])]) bad ws
   | .bH []=>fF P KB pr l (fr+1) ⟨aS s.env o.dst (.bH []),s.o,s.nx⟩ (fp++[([],[])]) bad ws
   |_=>False
def jl(P:Program)(K:S->Fp->Prop)(KP:V->List Nat->Fp->Prop)(pr:List (List Nat)):List bB->Nat->S->Fp->Prop
 |[],_,s,fp=>K s fp
 |o::l,fr,s,fp=>match o.gd with
  |none=>xo P s fr o (fun v Δ rd=>jl P K KP pr l (fr+1) ⟨aS s.env o.dst v,put s.o Δ,s.nx⟩ (fp++[(rd,Δ.map (·.1))]))
   (fun v ws rd=>fF P (KP v) pr l (fr+1) ⟨aS s.env o.dst .aa,s.o,s.nx⟩ (fp++[(rd,[])]) [fp.length] (ws++fp.flatMap (·.2)))
  |some (d,want)=>match s.env d with
   | .d (.bool b)=>if b=want then xo P s fr o (fun v Δ rd=>jl P K KP pr l (fr+1) ⟨aS s.env o.dst v,put s.o Δ,s.nx⟩ (fp++[(rd,Δ.map (·.1))]))
         (fun v ws rd=>fF P (KP v) pr l (fr+1) ⟨aS s.env o.dst .aa,s.o,s.nx⟩ (fp++[(rd,[])]) [fp.length] (ws++fp.flatMap (·.2)))
    else jl P K KP pr l (fr+1) ⟨aS s.env o.dst (.bH []),s.o,s.nx⟩ (fp++[([],[])])
   | .bH []=>jl P K KP pr l (fr+1) ⟨aS s.env o.dst (.bH []),s.o,s.nx⟩ (fp++[([],[])])
   |_=>False
def AV(pr:List (List Nat))(nx:Nat)(Q:eT->S->Prop)(s:S)(fp:Fp):Prop:=dK pr fp=true/\Q .normal ⟨s.env,s.o,nx⟩
def dstsOf(l:List bB):List Nat:=l.filterMap (·.dst)
def yy(pr:List (List Nat))(l:List bB)(s0:S)(Q:eT->S->Prop)(v:V)(wl:List Nat)(fp:Fp):Prop:=dK pr fp=true/\Q (.bu v) (rT (dstsOf l) wl l.length s0)
def kZ:List bB->List dX->S->Nat->S
 |_,_,s,0=>s
 |o::l,x::xs,s,j+1=>kZ l xs (tl o.dst x s) j
 |_,_,s,_=>s
def uK(bK:List dX):Fp:=bK.map fun x=>(tL x,jj x)
section
variable {P:Program}{n b:Nat}
theorem yz{s:S}{fr:Nat}{o:bB}{K:V->List (Nat×ab)->List Nat->Prop}{KX:V->List Nat->List Nat->Prop}(h:xo P s fr o K KX):(∃v Δ rd,uG P s fr o.op v Δ rd/\K v Δ rd)\/(∃v ws rd,yo P s o.op v ws rd/\KX v ws rd):=by
 have hs:∀ {op:Op},o.op=op->(match eR P s fr op with|some (v,Δ,_)=>K v Δ (mh s o.op)|none=>False)->(∃v Δ rd,uG P s fr o.op v Δ rd/\K v Δ rd):=by
  intro op fh h
  split at h
  ·rename_i v Δ rd he;exact⟨v,Δ,_, .inl ⟨⟨rd,by rw[fh];exact he⟩,rfl⟩,h⟩
  ·exact h.elim
 unfold xo at h
 split at h
 ·rename_i c hc
  split at h
  ·rename_i f dS
   split at h
   ·rename_i g first cap hf
    split at h
    ·rename_i ds dT
     rcases h with(⟨rs,hP,h|⟨nj,h⟩⟩|⟨x,hP,nj,h⟩|⟨v,hP,h⟩)|⟨rd,Δ,l6,⟨rs,hH,h⟩|⟨x,hH,h⟩|⟨v,hH,h⟩⟩
     ·exact .inl ⟨_,_,_, .inr ⟨c,f,g,first,cap,hc,dS,hf, .inl ⟨ds,rs,dT,hP,rfl,rfl, .inl rfl⟩⟩,h⟩
     ·exact .inl ⟨_,_,_, .inr ⟨c,f,g,first,cap,hc,dS,hf, .inl ⟨ds,rs,dT,hP,rfl,rfl, .inr ⟨nj,rfl⟩⟩⟩,h⟩
     ·exact .inr ⟨_,_,_,⟨c,f,g,first,cap,hc,dS,hf, .inl ⟨ds,x,dT,hP,nj,rfl,rfl,rfl⟩⟩,h⟩
     ·exact .inl ⟨_,_,_, .inr ⟨c,f,g,first,cap,hc,dS,hf, .inr (.inr (.inl ⟨ds,dT,hP,rfl,rfl⟩))⟩,h⟩
     ·exact R1
     ·exact R4
     ·exact R2
    ·obtain⟨rd,Δ,l6,⟨rs,hH,h⟩|⟨x,hH,h⟩|⟨v,hH,h⟩⟩:=h
     ·exact R1
     ·exact R4
     ·exact R2
   ·exact h.elim
  ·rw[hc]at h;exact .inl (hs hc (by rw[hc];exact h))
 ·exact .inl (hs rfl h)
def IV(P:Program)(KB:List Nat->Fp->Prop)(pr:List (List Nat))(l:List bB)(fr:Nat)(s:S)(fp:Fp)(bad ws:List Nat):Prop:=
    ∃bK:List dX,bK.length=l.length/\(∀j o x,l[j]? =some o->bK[j]? =some x->Lk P (kZ l bK s j) (fr+j) o x)/\
     (∀ (j:Nat),bK[j]? =some dX.dR->∃i∈pr.getD (fp.length+j) [],i∈bad\/∃j',j'<j/\i=fp.length+j'/\bK[j']? =some .dR)/\(∀x∈bK,x= .dR\/x.ok=true)/\
     ∃wl,KB wl (fp++uK bK)/\(∀id∈ws,id∈wl)/\∀x∈bK,∀id∈jj x,id∈wl
theorem yA{KB:List Nat->Fp->Prop}{pr:List (List Nat)}:∀ (l:List bB) (fr:Nat) (s:S) (fp:Fp) (bad ws:List Nat),fF P KB pr l fr s fp bad ws->IV P KB pr l fr s fp bad ws
 |[],fr,s,fp,bad,ws,h=>⟨[],rfl,fun j o x hj=>by simp at hj,fun j hj=>by simp at hj,fun x hx=>by simp at hx,ws,by simpa[uK,fF]using h,fun _ h=>h,fun x hx=>by simp at hx⟩
 |o::l,fr,s,fp,bad,ws,h=>by
  have step:∀ (x:dX) (IW Ln:List Nat),Lk P s fr o x->fF P KB pr l (fr+1) (tl o.dst x s) (fp++[(tL x,jj x)]) IW Ln->(x= .dR\/x.ok=true)->(x= .dR->∃i∈pr.getD fp.length [],i∈bad)->
   (∀i∈IW,i∈bad\/(i=fp.length/\x= .dR))->(∀id∈ws,id∈Ln)->(∀id∈jj x,id∈Ln)->
   IV P KB pr (o::l) fr s fp bad ws:=by
   intro x IW Ln aQ hr NM NI NL IU hW
   obtain⟨bK,h1,h2,h3,h4,wl,h5,h6,h7⟩:=yA l (fr+1) _ _ IW Ln hr
   refine⟨x::bK,by simp[h1],fun j o' y hj hy=> ?_,fun j hj=> ?_,fun y hy=> ?_,wl,by simpa[uK]using h5,fun id au=>h6 id (IU id au),fun y hy id au=> ?_⟩
   ·cases j with
    |zero=>exact M9
    |succ j=>
     have:=h2 j o' y kF (by simpa using hy)
     exact Ns
   ·cases j with
    |zero=>
     simp at hj
     obtain⟨i,i1,i2⟩:=NI hj
     exact⟨i,by simpa using i1, .inl i2⟩
    |succ j=>
     obtain⟨i,i1,i2⟩:=h3 j kF
     simp only[List.length_append,List.length_cons,List.length_nil]at i1 i2
     refine⟨i,by rw[show fp.length+(j+1)=fp.length+(0+1)+j by omega];exact i1, ?_⟩
     rcases i2 with i2|⟨j',j1,j2,j3⟩
     ·rcases NL i i2 with hb|⟨e1,e2⟩
      ·exact .inl hb
      ·exact .inr ⟨0,af,af,by simp[e2]⟩
     ·exact .inr ⟨j'+1,af,af,by simpa using j3⟩
   ·rcases List.mem_cons.1 hy with rfl|hy
    ·exact NM
    ·exact h4 y hy
   ·rcases List.mem_cons.1 hy with rfl|hy
    ·exact h6 id (hW id au)
    ·exact h7 y hy id au
  simp only[fF]at h
  split at h
  ·rename_i hb
   obtain⟨j,hj1,Xv⟩:=List.any_eq_true.1 hb
   exact step .dR _ _ trivial h (.inl rfl) (fun _=>⟨j,hj1,by simpa using Xv⟩) (fun i hi=>by
    rcases List.mem_append.1 hi with hi|hi
    ·exact .inl hi
    ·exact .inr ⟨by simpa using hi,rfl⟩) (fun _ h=>h) (fun id au=>by simp[jj]at au)
  ·have rW:de s o.gd true->xo P s fr o (fun v Δ rd=>fF P KB pr l (fr+1) ⟨aS s.env o.dst v,put s.o Δ,s.nx⟩ (fp++[(rd,Δ.map (·.1))]) bad (ws++Δ.map (·.1))) (fun _ _ _=>False)->IV P KB pr (o::l) fr s fp bad ws:=fun hg h=>by
    rcases yz h with⟨v,Δ,rd,ky,h⟩|⟨v,Ln,rd,_,h⟩
    ·exact step (.val v Δ rd) bad (ws++Δ.map (·.1)) ⟨hg,ky⟩ h (.inr rfl) (fun h=>by cases h) (fun i hi=> .inl hi) (fun id au=>List.mem_append.2 (.inl au)) (fun id au=>List.mem_append.2 (.inr au))
    ·exact h.elim
   have skip:de s o.gd false->fF P KB pr l (fr+1) ⟨aS s.env o.dst (.bH []),s.o,s.nx⟩ (fp++[([],[])]) bad ws->IV P KB pr (o::l) fr s fp bad ws:=fun hg h=>
    step .skip bad ws hg h (.inr rfl) (fun h=>by cases h) (fun i hi=> .inl hi) (fun id au=>au) (fun id au=>by simp[jj]at au)
   split at h
   ·rename_i hg;exact rW (by rw[hg];rfl) h
   ·rename_i d want hg
    split at h
    ·rename_i c hv
     split at h
     ·rename_i e;exact rW BK h
     ·rename_i e;exact skip BK h
    ·rename_i hv;exact skip (by rw[hg];simp[de,hv]) h
    ·exact h.elim
def F8(P:Program)(K:S->Fp->Prop)(KP:V->List Nat->Fp->Prop)(pr:List (List Nat))(l:List bB)(fr:Nat)(s:S)(fp:Fp):Prop:=
 ∃bK:List dX,bK.length=l.length/\(∀j o x,l[j]? =some o->bK[j]? =some x->Lk P (kZ l bK s j) (fr+j) o x)/\
  (((∀x∈bK,x.ok=true)/\K (kZ l bK s l.length) (fp++uK bK))\/
   ∃v wl,(∀ (j:Nat) (v':V) (ws rd:List Nat),bK[j]? =some (dX.bu v' ws rd)->v'=v/\∀id∈ws,id∈wl)/\(∃x∈bK,x.ok=false)/\
    (∀ (j:Nat),bK[j]? =some dX.dR->∃i∈pr.getD (fp.length+j) [],∃j',i=fp.length+j'/\∃y,bK[j']? =some y/\y.ok=false)/\KP v wl (fp++uK bK)/\(∀x∈bK,∀id∈jj x,id∈wl)/\∀id∈fp.flatMap (·.2),id∈wl)
theorem rX{K:S->Fp->Prop}{KP:V->List Nat->Fp->Prop}{pr:List (List Nat)}:∀ (l:List bB) (fr:Nat) (s:S) (fp:Fp),jl P K KP pr l fr s fp->F8 P K KP pr l fr s fp
 |[],fr,s,fp,h=>⟨[],rfl,fun j o x hj=>by simp at hj, .inl ⟨fun x hx=>by simp at hx,by simpa[kZ,uK,jl]using h⟩⟩
 |o::l,fr,s,fp,h=>by
  have step:∀ (x:dX),x.ok=true->Lk P s fr o x->jl P K KP pr l (fr+1) (tl o.dst x s) (fp++[(tL x,jj x)])->F8 P K KP pr (o::l) fr s fp:=by
   intro x TR aQ hr
   obtain⟨bK,h1,h2,h3⟩:=rX l (fr+1) _ _ hr
   refine⟨x::bK,by simp[h1],fun j o' y hj hy=> ?_, ?_⟩
   ·cases j with
    |zero=>exact M9
    |succ j=>
     have:=h2 j o' y kF (by simpa using hy)
     exact Ns
   ·rcases h3 with⟨h3,h4⟩|⟨v,wl,g1,g2,g3,g4,g5,g6⟩
    ·left
     refine⟨fun y hy=> ?_,by simpa[kZ,uK]using h4⟩
     rcases List.mem_cons.1 hy with rfl|hy
     ·exact TR
     ·exact h3 y hy
    ·right
     refine⟨v,wl,fun j v' ws rd hj=> ?_, ?_,fun j hj=> ?_,by simpa[uK]using g4,fun y hy id au=> ?_,fun id au=>g6 id (by simp only[List.flatMap_append,List.mem_append];exact .inl au)⟩
     ·cases j with
      |zero=>simp at hj;rw[hj]at TR;cases TR
      |succ j=>exact g1 j v' ws rd kF
     ·obtain⟨y,y1,y2⟩:=g2;exact⟨y,by simp[y1],y2⟩
     ·cases j with
      |zero=>simp at hj;rw[hj]at TR;cases TR
      |succ j=>
       obtain⟨i,i1,j',i2,y,i3,i4⟩:=g3 j kF
       simp only[List.length_append,List.length_cons,List.length_nil]at i1 i2
       exact⟨i,by rw[show fp.length+(j+1)=fp.length+(0+1)+j by omega];exact i1,j'+1,af,y,by simpa using i3,i4⟩
     ·rcases List.mem_cons.1 hy with rfl|hy
      ·exact g6 id (by simp only[List.flatMap_append,List.mem_append];exact .inr (by simpa using au))
      ·exact g5 y hy id au
  have bu:∀ (v:V) (ws rd:List Nat),Lk P s fr o (.bu v ws rd)->fF P (KP v) pr l (fr+1) ⟨aS s.env o.dst .aa,s.o,s.nx⟩ (fp++[(rd,[])]) [fp.length] (ws++fp.flatMap (·.2))->F8 P K KP pr (o::l) fr s fp:=by
   intro v ws rd aQ hr
   obtain⟨bK,h1,h2,h3,h4,wl,h5,h6,h7⟩:=yA l (fr+1) _ _ _ _ hr
   refine⟨dX.bu v ws rd::bK,by simp[h1],fun j o' y hj hy=> ?_, .inr ⟨v,wl,fun j v' Ln qM hj=> ?_,⟨dX.bu v ws rd,aK,rfl⟩,fun j hj=> ?_,by simpa[uK,tL,jj]using h5,fun y hy id au=> ?_,fun id au=>h6 id (List.mem_append.2 (.inr au))⟩⟩
   ·cases j with
    |zero=>exact M9
    |succ j=>
     have:=h2 j o' y kF (by simpa using hy)
     exact Ns
   ·cases j with
    |zero=>simp at hj;obtain⟨rfl,rfl,rfl⟩:=hj;exact⟨rfl,fun id au=>h6 id (List.mem_append.2 (.inl au))⟩
    |succ j=>
     have hm:=List.mem_of_getElem? (show bK[j]? =some (.bu v' Ln qM) by simpa using hj)
     rcases h4 _ hm with h|h<;>cases h
   ·cases j with
    |zero=>simp at hj
    |succ j=>
     obtain⟨i,i1,i2⟩:=h3 j kF
     simp only[List.length_append,List.length_cons,List.length_nil]at i1 i2
     refine⟨i,by rw[show fp.length+(j+1)=fp.length+(0+1)+j by omega];exact i1, ?_⟩
     rcases i2 with i2|⟨j',j1,j2,j3⟩
     ·exact⟨0,by simpa using i2,_,rfl,rfl⟩
     ·exact⟨j'+1,af, .dR,by simpa using j3,rfl⟩
   ·rcases List.mem_cons.1 hy with rfl|hy
    ·simp[jj]at au
    ·exact h7 y hy id au
  have rW:de s o.gd true->xo P s fr o (fun v Δ rd=>jl P K KP pr l (fr+1) ⟨aS s.env o.dst v,put s.o Δ,s.nx⟩ (fp++[(rd,Δ.map (·.1))]))
   (fun v ws rd=>fF P (KP v) pr l (fr+1) ⟨aS s.env o.dst .aa,s.o,s.nx⟩ (fp++[(rd,[])]) [fp.length] (ws++fp.flatMap (·.2)))->F8 P K KP pr (o::l) fr s fp:=fun hg h=>by
   rcases yz h with⟨v,Δ,rd,ky,h⟩|⟨v,ws,rd,ky,h⟩
   ·exact step (.val v Δ rd) rfl ⟨hg,ky⟩ h
   ·exact bu v ws rd ⟨hg,ky⟩ h
  have skip:de s o.gd false->jl P K KP pr l (fr+1) ⟨aS s.env o.dst (.bH []),s.o,s.nx⟩ (fp++[([],[])])->F8 P K KP pr (o::l) fr s fp:=fun hg h=>step .skip rfl hg h
  simp only[jl]at h
  split at h
  ·rename_i hg;exact rW (by rw[hg];rfl) h
  ·rename_i d want hg
   split at h
   ·rename_i c hv
    split at h
    ·rename_i e;exact rW BK h
    ·rename_i e;exact skip BK h
   ·rename_i hv;exact skip (by rw[hg];simp[de,hv]) h
   ·exact h.elim
end
end
section
def n9(env:Nat->V):List Nat->List V->Nat->V
 |t::ps,v::vs=>n9 (aI env t v) ps vs
 |_,_=>env
def AW(pr:List (List Nat))(m:Nat):Bool:=(List.range pr.length).all fun k=>Nat.blt k m||Nat.beq ((dF pr []).getD k 0) (2^k - 1)
def F9(P:Program)(l:List bB)(pr:List (List Nat))(Q:eT->S->Prop)(s:S):Prop:=
 ∃m,m<=l.length/\AW pr m=true/\jl P (fun s' fp=>dK pr fp=true/\mT P (fun v s=>Q (.bu v) s) (Q .normal) (l.drop m) ⟨s'.env,s'.o,s.nx+m⟩) (fun _ _ _=>False) pr (l.take m) s.nx s []
def qS(P:Program)(n b:Nat)(rd:Bool):IC->(eT->S->Prop)->S->Prop
 | .skip,Q,s=>Q .normal s
 | .ad l,Q,s=>mT P (fun v s=>Q (.bu v) s) (Q .normal) l s
 | .cX l pr,Q,s=>jl P (AV pr (s.nx+l.length) Q) (yy pr l s Q) pr l s.nx s []\/F9 P l pr Q s
 | .seq x y,Q,s=>qS P n b rd x (nP (qS P n b rd y Q) Q) s
 | .cond c x y,Q,s=>match s.ev c with
   | .d (.bool t)=>n6 t (qS P n b rd x Q s) (qS P n b rd y Q s)
   | .eg=>qS P n b rd x Q s/\qS P n b rd y Q s
   |_=>False
 | .block id x,Q,s=>qS P n b rd x (eh id Q) s
 | .loop x,Q,s=>F1 b (qS P n b rd x) Q s
 | .exit id,Q,s=>Q (.exit id) s
 | .ret,Q,s=>Q .ret s
 | .EI g ps x y,Q,s=>rd=false/\TG P n b g ps x y Q s
 | .bad,_,_=>False
section
variable {P:Program}{n b:Nat}{rd:Bool}
theorem rY:∀ (l:List bB) (bK:List dX) (s:S) (k:Nat) (o:bB) (x:dX),l[k]? =some o->bK[k]? =some x->kZ l bK s (k+1)=tl o.dst x (kZ l bK s k)
 |[],_,_,_,_,_,h,_=>by simp at h
 |o::l,[],_,_,_,_,_,h=>by simp at h
 |o::l,x::xs,s,0,o',x',h,h'=>by simp at h h';subst h;subst h';cases l<;>cases xs<;>rfl
 |o::l,x::xs,s,k+1,o',x',h,h'=>by
  simp only[kZ]
  exact rY l xs _ k o' x' (by simpa using h) (by simpa using h')
theorem uL(l:List bB)(bK:List dX)(s:S)(hl:bK.length=l.length):∀k,k<=l.length->dG (bC l) (fun i=>bK.getD i default) (fun _=>true) s k=kZ l bK s k:=by
 intro k
 induction k with
 |zero=>intro _;cases l<;>cases bK<;>rfl
 |succ k ih=>
  intro hk
  have h1:l[k]? =some (bC l k):=by simp[bC,List.getD_eq_getElem?_getD,List.getElem?_eq_getElem (by omega:k<l.length)]
  have h2:bK[k]? =some (bK.getD k default):=by simp[List.getD_eq_getElem?_getD,List.getElem?_eq_getElem (by omega:k<bK.length)]
  simp only[dG,if_true,ih (by omega)]
  rw[rY l bK s k _ _ h1 h2]
theorem la{ops:Array Oper}:∀ (l:List Oper) (l':List bB),ju n ops l=some l'->l'.length=l.length
 |[],_,h=>by simp[ju]at h;subst h;rfl
 |o::l,l',h=>by
  simp only[ju]at h
  split at h
  ·rename_i hx;injection h with h;subst h;simp[la l _ hx]
  ·cases h
theorem DX(aY:P.follows .mixedOrders=true){id:Nat}{ops:Array Oper}{l:List bB}{Q Q':eT->S->Prop}{s:S}(hQ:∀e s,Q e s->Q' e s)(px:ju n ops ops.toList=some l)(ht:vu l (eV ops)=true)
 (hp:Nv (eV ops)=true) (h:jl P (AV (eV ops) (s.nx+l.length) Q) (yy (eV ops) l s Q) (eV ops) l s.nx s []):gH P n b rd (.region id ops true) Q' s:=by
 intro M b7 H0 w0 cx φ a w ro k hs
 obtain⟨bK,hl,aQ,fj⟩:=rX l _ _ _ h
 have hlen:l.length=ops.size:=by rw[la _ _ px];simp
 have pY:∀k,k<ops.size->(eV ops).getD k []=bf ops k:=by
  intro k hk;simp[eV,List.getD_eq_getElem?_getD,List.getElem?_map,List.getElem?_range hk]
 have vF:(eV ops).length=ops.size:=by simp[eV]
 have ky:=uL l bK s hl
 have ED:∀k,k<ops.size->l[k]? =some (bC l k):=fun k hk=>by simp[bC,List.getD_eq_getElem?_getD,List.getElem?_eq_getElem (by omega:k<l.length)]
 have tg:∀k,k<ops.size->bK[k]? =some (bK.getD k default):=fun k hk=>by simp[List.getD_eq_getElem?_getD,List.getElem?_eq_getElem (by omega:k<bK.length)]
 have l9:∀k,k<ops.size->bK.getD k default∈bK:=fun k hk=>List.mem_of_getElem? (tg k hk)
 have Iy:∀k,k<ops.size->(uK bK)[k]? =some (tL (bK.getD k default),jj (bK.getD k default)):=fun k hk=>by
  simp only[uK,List.getElem?_map,tg k hk,Option.map_some]
 have NN:(uK bK).length=ops.size:=by simp[uK,hl,hlen]
 simp only[List.nil_append,List.length_nil,Nat.zero_add]at fj
 have vC:dK (eV ops) (uK bK)=true:=by
  rcases fj with⟨_,h⟩|⟨v,wl,_,_,_,h,_⟩
  ·exact h.1
  ·exact h.1
 have DY:∀k,k<ops.size->∀j∈bf ops k,j<k:=fun k hk j hj=>by
  have:=List.all_eq_true.1 hp k (by simpa[vF]using hk)
  rw[pY k hk]at this
  simpa using List.all_eq_true.1 this j hj
 have Ga:∀k,k<(eV ops).length->∀j∈(eV ops).getD k [],j<k:=fun k hk j hj=>by
  rw[vF]at hk;rw[pY k hk]at hj;exact DY k hk j hj
 let po:Nat->Nat->Prop:=fun k j=>((dF (eV ops) []).getD k 0).testBit j=true
 have Cl:∀E:Nat->Bool,(∀k,k<ops.size->E k=true->∀j∈bf ops k,E j=true)->∀k,k<ops.size->(∀j∈bf ops k,E j=true)->∀j,po k j->E j=true:=fun E hE k hk hj j hb=>
  nv Ga (fun k hk gE j hj=>by rw[vF]at hk;rw[pY k hk]at hj;exact hE k hk gE j hj) k (by rw[vF];exact hk) (by rw[pY k hk];exact hj) j hb
 have yw:∀k,k<ops.size->∀j,po k j->j<k:=fun k hk j hb=>xC Ga k (by rw[vF];exact hk) j hb
 have wo:∀i j,i<j->j<ops.size-> ¬po j i->Compat (bC l) (fun i=>bK.getD i default) (fun i=>tL (bK.getD i default)) i j:=by
  intro i j TS hj hn
  have Ii:=List.all_eq_true.1 (List.all_eq_true.1 ht j (by simpa[hlen]using hj)) i (by simpa using TS)
  have tT:=List.all_eq_true.1 (List.all_eq_true.1 vC j (by simpa[NN]using hj)) i (by simpa using TS)
  have Zg:((dF (eV ops) []).getD j 0).testBit i=false:=by simpa[po]using hn
  rw[Zg,Bool.false_or]at Ii tT
  simp only[Bool.and_eq_true]at Ii tT
  have gi:=Iy i af
  have gj:=Iy j hj
  simp only[List.getD_eq_getElem?_getD (l:=uK bK),gi,gj,Option.getD_some]at tT
  have dj:∀ {xs ys:List Nat},je xs ys=true->∀x∈xs,x∉ys:=fun h x hx=>by simpa using List.all_eq_true.1 h x hx
  have fo:∀ {x y:bB},oU x y=true->∀d,x.dst=some d->d∉dU y:=fun h d hd=>by simpa[oU,hd]using h
  exact R6
 have Lo:∀i,i<ops.size->Lk P (dG (bC l) (fun i=>bK.getD i default) (fun _=>true) s i) (s.nx+i) (bC l i) (bK.getD i default):=fun i hi=>by
  rw[ky i (by omega)];exact aQ i _ _ (ED i hi) (tg i hi)
 have cq:∀i,i<ops.size->∀t,(bC l i).dst=some t->(dstsOf l).contains t=true:=fun i hi t ht=>by
  simp only[List.contains_iff_mem,dstsOf,List.mem_filterMap]
  exact⟨bC l i,List.mem_of_getElem? (ED i hi),ht⟩
 rcases fj with⟨aT,fj⟩|⟨v,wl,q1,q2,q3,q4,q5,q6⟩
 ·refine yu (ac:=fun i=>bK.getD i default) (dl:=dstsOf l) (wl:=(bK.flatMap jj)) aY px DY hs Lo (fun i hi hb=> ?_) Cl yw wo cq (fun i hi id au=> ?_) (fun i v ws qM hi hb=> ?_) (fun _ φ a w iI=> ?_) (fun i v ws qM hi hb=> ?_)
  ·have:=aT _ (l9 i hi);rw[hb]at this;cases this
  ·simp only[List.contains_iff_mem,List.mem_flatMap];exact⟨_,l9 i hi,au⟩
  ·have:=aT _ (l9 i hi);rw[hb]at this;cases this
  ·rw[ky ops.size (by omega), <- hlen]at iI
   exact⟨.normal,_,φ,hQ _ _ fj.2,iI,trivial⟩
  ·have:=aT _ (l9 i hi);rw[hb]at this;cases this
 ·refine yu (ac:=fun i=>bK.getD i default) (dl:=dstsOf l) (wl:=wl) aY px DY hs Lo (fun i hi hb=> ?_) Cl yw wo cq (fun i hi id au=> ?_) (fun i v' ws qM hi hb=> ?_) (fun aT φ a w iI=> ?_) (fun i v' ws qM hi hb φ a w val iI hd=> ?_)
  ·obtain⟨j,j1,j',e,y,j3,j4⟩:=q3 i Fa
   rw[pY i hi,e]at j1
   refine⟨j',j1, ?_⟩
   simp only[List.getD_eq_getElem?_getD,j3,Option.getD_some,j4]
  ·simp only[List.contains_iff_mem];exact q5 _ (l9 i hi) id au
  ·intro id au
   simp only[List.contains_iff_mem]
   exact(q1 i v' ws qM Fa).2 id au
  ·obtain⟨x,x1,x2⟩:=q2
   obtain⟨i,Is,To⟩:=List.getElem_of_mem x1
   have hi:i<ops.size:=af
   have:=aT i hi
   have e:bK.getD i default=x:=by simp[List.getD_eq_getElem?_getD,List.getElem?_eq_getElem Is,To]
   rw[e,x2]at this;cases this
  ·have e:=(q1 i v' ws qM Fa).1
   subst e
   rw[<- hlen]at iI hd
   exact⟨.bu v',_,φ,hQ _ _ q4.2,iI,val,rfl,hd⟩
theorem uM{ops:Array Oper}:∀ (l:List Oper) (l':List bB) (m:Nat),ju n ops l=some l'->ju n ops (l.drop m)=some (l'.drop m)
 |l,l',0,h=>h
 |[],l',m+1,h=>by simp[ju]at h;subst h;simp[ju]
 |o::l,l',m+1,h=>by
  simp only[ju]at h
  split at h
  ·rename_i x xs hx KY
   injection h with h;subst h
   exact uM l xs m KY
  ·cases h
theorem Gb{l:List bB}{ac:Nat->dX}{E:Nat->Bool}{s:S}{m:Nat}:∀k,k<=m->dG (bC l) ac E s k=dG (bC (l.take m)) ac E s k:=by
 intro k
 induction k with
 |zero=>intro _;rfl
 |succ k ih=>
  intro hk
  have:bC l k=bC (l.take m) k:=by simp[bC,List.getD_eq_getElem?_getD,List.getElem?_take,(by omega:k<m)]
  simp only[dG,ih (by omega),this]
theorem AX(aY:P.follows .mixedOrders=true){id:Nat}{ops:Array Oper}{l:List bB}{Q Q':eT->S->Prop}{s:S}(hQ:∀e s,Q e s->Q' e s)(px:ju n ops ops.toList=some l)(ht:vu l (eV ops)=true)
 (hp:Nv (eV ops)=true) (h:F9 P l (eV ops) Q s):gH P n b rd (.region id ops true) Q' s:=by
 intro M b7 H0 w0 cx φ a w ro k hs
 obtain⟨m,B5,hto,h⟩:=h
 obtain⟨bK,hl,aQ,fj⟩:=rX (l.take m) _ _ _ h
 have hlm:(l.take m).length=m:=by rw[List.length_take];omega
 have hlen:l.length=ops.size:=by rw[la _ _ px];simp
 have fj:=fj.resolve_right (fun⟨_,_,_,_,_,q4,_,_⟩=>q4)
 obtain⟨aT,fj⟩:=fj
 have FL:bK.length=m:=af
 have pY:∀k,k<ops.size->(eV ops).getD k []=bf ops k:=by
  intro k hk;simp[eV,List.getD_eq_getElem?_getD,List.getElem?_map,List.getElem?_range hk]
 have vF:(eV ops).length=ops.size:=by simp[eV]
 have ky:∀k,k<=m->dG (bC l) (fun i=>bK.getD i default) (fun _=>true) s k=kZ (l.take m) bK s k:=fun k hk=>by
  rw[Gb k hk];exact uL (l.take m) bK s hl k af
 have ED:∀k,k<m->(l.take m)[k]? =some (bC l k):=fun k hk=>by
  rw[List.getElem?_take,if_pos hk]
  simp[bC,List.getD_eq_getElem?_getD,List.getElem?_eq_getElem (by omega:k<l.length)]
 have tg:∀k,k<m->bK[k]? =some (bK.getD k default):=fun k hk=>by simp[List.getD_eq_getElem?_getD,List.getElem?_eq_getElem (by omega:k<bK.length)]
 have l9:∀k,k<m->bK.getD k default∈bK:=fun k hk=>List.mem_of_getElem? (tg k hk)
 have Iy:∀k,k<m->(uK bK)[k]? =some (tL (bK.getD k default),jj (bK.getD k default)):=fun k hk=>by
  simp only[uK,List.getElem?_map,tg k hk,Option.map_some]
 have NN:(uK bK).length=m:=by simp[uK,FL]
 simp only[List.nil_append]at fj
 obtain⟨vC,IX⟩:=fj
 have DY:∀k,k<ops.size->∀j∈bf ops k,j<k:=fun k hk j hj=>by
  have:=List.all_eq_true.1 hp k (by simpa[vF]using hk)
  rw[pY k hk]at this
  simpa using List.all_eq_true.1 this j hj
 have Ga:∀k,k<(eV ops).length->∀j∈(eV ops).getD k [],j<k:=fun k hk j hj=>by
  rw[vF]at hk;rw[pY k hk]at hj;exact DY k hk j hj
 let po:Nat->Nat->Prop:=fun k j=>((dF (eV ops) []).getD k 0).testBit j=true
 have Cl:∀E:Nat->Bool,(∀k,k<ops.size->E k=true->∀j∈bf ops k,E j=true)->∀k,k<ops.size->(∀j∈bf ops k,E j=true)->∀j,po k j->E j=true:=fun E hE k hk hj j hb=>
  nv Ga (fun k hk gE j hj=>by rw[vF]at hk;rw[pY k hk]at hj;exact hE k hk gE j hj) k (by rw[vF];exact hk) (by rw[pY k hk];exact hj) j hb
 have yw:∀k,k<ops.size->∀j,po k j->j<k:=fun k hk j hb=>xC Ga k (by rw[vF];exact hk) j hb
 have wo:∀i j,i<j->j<m-> ¬po j i->Compat (bC l) (fun i=>bK.getD i default) (fun i=>tL (bK.getD i default)) i j:=by
  intro i j TS hj hn
  have Ii:=List.all_eq_true.1 (List.all_eq_true.1 ht j tZ) i (by simpa using TS)
  have tT:=List.all_eq_true.1 (List.all_eq_true.1 vC j (by simpa[NN]using hj)) i (by simpa using TS)
  have Zg:((dF (eV ops) []).getD j 0).testBit i=false:=by simpa[po]using hn
  rw[Zg,Bool.false_or]at Ii tT
  simp only[Bool.and_eq_true]at Ii tT
  have gi:=Iy i af
  have gj:=Iy j hj
  simp only[List.getD_eq_getElem?_getD (l:=uK bK),gi,gj,Option.getD_some]at tT
  have dj:∀ {xs ys:List Nat},je xs ys=true->∀x∈xs,x∉ys:=fun h x hx=>by simpa using List.all_eq_true.1 h x hx
  have fo:∀ {x y:bB},oU x y=true->∀d,x.dst=some d->d∉dU y:=fun h d hd=>by simpa[oU,hd]using h
  exact R6
 have htl:∀k,m<=k->k<ops.size->∀j,j<k->po k j:=fun k jd hk j hj=>by
  have:=List.all_eq_true.1 hto k (by simpa[vF]using hk)
  simp only[Bool.or_eq_true]at this
  rcases this with this|this
  ·exact absurd (Nat.blt_eq.mp this) af
  ·show((dF (eV ops) []).getD k 0).testBit j=true
   rw[Nat.eq_of_beq_eq_true this,Nat.testBit_two_pow_sub_one]
   exact decide_eq_true hj
 refine AU (ac:=fun i=>bK.getD i default) (m:=m) (X:=fun v s=>Q' (.bu v) s) (K:=Q' .normal) aY px DY af hs (fun i hi=> ?_) (fun i hi=>aT _ (l9 i hi)) Cl yw wo htl ?_ (fun s φ a w hk iI=>⟨.normal,s,φ,hk,iI,trivial⟩) (fun v s' aA a' w' val hx iI hd=>⟨.bu v,s',aA,hx,iI,val,rfl,hd⟩)
 ·rw[ky i (by omega)];exact aQ i _ _ (ED i hi) (tg i hi)
 ·rw[ky m (Nat.le_refl _)]
  rw[hlm]at IX
  exact gU (fun s hs=>hQ _ _ hs) (fun v s hs=>hQ _ _ hs) _ _ _ (uM _ _ m px) IX
theorem py{g:V}{ps:List Nat}{x y:IC}{Q Q':eT->S->Prop}{s:S}(hQ:∀e s,Q e s->Q' e s)(h:yf P n g ps x y Q s):yf P n g ps x y Q' s:=by
 obtain⟨env,h1,h2⟩:=h
 refine⟨env,h1, ?_⟩
 split at h2
 ·refine mi.mono (fun v o n h=> ?_) (fun v o n h=>hQ _ _ h) h2
  obtain⟨nf,m,e,p,c,d,st,pd,k1,k2,k3⟩:=h
  refine⟨nf,m,e,p,c,d,st,pd,k1,k2, ?_⟩
  cases pd with
  |none=>exact hQ _ _ k3
  |some j=>cases j<;>exact hQ _ _ k3
 ·exact h2
theorem fG(aY:P.follows .mixedOrders=true):∀ (c:Code) (Q Q':eT->S->Prop) (s:S),(∀e s,Q e s->Q' e s)->qS P n b rd (low n c) Q s->gH P n b rd c Q' s:=by
 intro c
 induction c with
 |skip=>exact fun Q Q' s hQ h=>hQ _ _ h
 |scope x ih=>exact fun Q Q' s hQ h=>ih Q Q' s hQ h
 |label l=>exact fun Q Q' s hQ h=>hQ _ _ h
 |exit id=>exact fun Q Q' s hQ h=>hQ _ _ h
 |ret=>exact fun Q Q' s hQ h=>hQ _ _ h
 |goto l=>exact fun Q Q' s hQ h=>h.elim
 |refuse y=>exact fun Q Q' s hQ h=>h.elim
 |rangeFunc f p x y=>
  intro Q Q' s hQ h
  obtain⟨h1,s',hle,h2⟩:=h
  exact⟨h1,s',hle,py hQ h2⟩
 |region id ops draw=>
  intro Q Q' s hQ h
  cases draw with
  |true=>
   simp only[low]at h
   split at h
   ·rename_i l hl
    split at h
    ·rename_i hc
     simp only[Bool.and_eq_true]at hc
     rcases h with h|h
     ·exact DX aY hQ hl hc.1 hc.2 h
     ·exact AX aY hQ hl hc.1 hc.2 h
    ·exact h.elim
   ·exact h.elim
  |false=>
   simp only[low]at h
   split at h
   ·rename_i l hl;exact gU (fun s hs=>hQ _ _ hs) (fun v s hs=>hQ _ _ hs) _ l s hl h
   ·exact h.elim
 |seq x y IL IM=>
  intro Q Q' s hQ h
  refine IL _ _ s (fun e s he=> ?_) h
  cases e<;>first|exact IM Q Q' s hQ he|exact hQ _ _ he
 |cond c x y IL IM=>
  intro Q Q' s hQ h
  simp only[low,qS]at h
  simp only[gH]
  split at h
  ·rename_i t hc
   simp only[hc]
   exact⟨fun ht=>IL Q Q' s hQ (h.1 ht),fun ht=>IM Q Q' s hQ (h.2 ht)⟩
  ·rename_i hc
   simp only[hc]
   exact⟨IL Q Q' s hQ h.1,IM Q Q' s hQ h.2⟩
  ·exact h.elim
 |block id x ih=>
  intro Q Q' s hQ h
  refine ih _ _ s (fun e s he=> ?_) h
  cases e<;>simp only[eh]at he|- <;>first
   |exact hQ _ _ he
   |(split at he<;>rename_i e
     ·rw[if_pos e];exact hQ _ _ he
     ·rw[if_neg e];exact hQ _ _ he)
 |loop x ih=>
  intro Q Q' s hQ h
  obtain⟨J,h0,hr⟩:=h
  refine⟨J,h0,fun m s0 hJ=>ih _ _ s0 (fun e s he=> ?_) (hr m s0 hJ)⟩
  cases e<;>first|exact hQ _ _ he|exact he
structure aG (P:Program) (f:FuncId) (n:Nat) (ic:IC) (rs:List ResultVar):Prop where
 get:∃fn,P.funcs[f]? =some fn/\(fn.name== "runtime.NumGoroutine")=false/\fn.ntmps=n/\fn.results.toList=rs/\∃c,fn.body=some c/\low n c=ic
theorem dA.rZ (aY:P.follows .mixedOrders=true){f:FuncId}{ic:IC}{rs:List ResultVar}(hf:aG P f n ic rs){args:List V}{o:Nat->ab}{nx:Nat}{K X:V->(Nat->ab)->Nat->Prop}(hl:args.length<=n)(h:qS P n nx false ic (jW P rs K X) ⟨cj args,o,nx⟩):dA P f args o nx K X:=by
 obtain⟨fn,h1,h2,rfl,rfl,c,h3,rfl⟩:=hf.get
 exact dA.Cg h1 h2 h3 hl (fG aY c _ _ _ (fun _ _ h=>h) h)
theorem aX.rZ (aY:P.follows .mixedOrders=true){f:FuncId}{ic:IC}{rs:List ResultVar}(hf:aG P f n ic rs){ds:List D}{out:R}(hl:ds.length<=n)(h:qS P n 0 false ic (vQ P rs out) ⟨cj (ds.map .d),fun _=> .no,0⟩):aX P f ds out:=by
 obtain⟨fn,h1,h2,rfl,rfl,c,h3,rfl⟩:=hf.get
 exact aX.mS (dA.Cg h1 h2 h3 (by simpa using hl) (fG aY c _ _ _ (fun e s h=>DM e s h) h))
end
end
section
abbrev Fix(α:Type){β:Type}(_:β):Type:=α
def iV(K:V->List (Nat×ab)->Prop)(x:Fix (Option eD) K):Prop:=match x with|some (v,Δ,_)=>K v Δ|none=>False
@[go_sem] theorem NO {v:V} {Δ:List (Nat×ab)} {rd:List Nat} {K}:iV K (some (v,Δ,rd))=K v Δ:=propext Iff.rfl
@[go_sem] theorem NP {K}:iV K none=False:=propext Iff.rfl
def V.wq (c:Bool)(v:V):V:=if c=true then v else .bH []
@[go_sem] theorem TT (b:Bool):(!!b)=b:=aK
attribute [go_sem] true_or or_true false_or ne_eq not_false_eq_true decide_true decide_false Bool.not_true Bool.not_false Bool.and_true Bool.true_and Bool.and_false Bool.false_and Bool.or_true Bool.true_or Bool.or_false Bool.false_or beq_self_eq_true Bool.true_eq_false Bool.false_eq_true not_true_eq_false and_true true_and and_false false_and eq_self
@[go_sem] theorem V.TU (v:V):V.wq true v=v:=rfl
@[go_sem] theorem V.QJ (v:V):V.wq false v= .bH []:=rfl
def ko(c:Bool)(p:Prop):Prop:=c=true->p
@[congr] theorem Lp {c c':Bool} {p p':Prop} (h:c=c') (h2:c'=true->p=p'):ko c p=ko c' p':=by
  subst h;cases c
  ·simp[ko]
  ·simp[ko,h2 rfl]
@[go_sem] theorem NQ (p:Prop):ko true p=p:=by simp[ko]
@[go_sem] theorem Lq (p:Prop):ko false p=True:=by simp[ko]
@[go_sem] theorem NR (a:Bool):ko a True=True:=by simp[ko]
def kp(v:V)(want:Bool):Option Bool:=
 match v with
 | .d (.bool b)=>some (b==want)
 | .bH []=>some false
 |_=>none
@[go_sem] theorem NS (b:Bool):kp (.d (.bool b)) true=some b:=by simp[kp]
@[go_sem] theorem Lr (b:Bool):kp (.d (.bool b)) false=some (!b):=by simp[kp]
@[go_sem] theorem TV (want:Bool):kp (.bH []) want=some false:=rfl
@[go_sem] theorem QK (c b want:Bool):kp (V.wq c (.d (.bool b))) want=some (c&&(b==want)):=by cases c<;>simp[kp,V.wq]
@[go_sem] theorem NT (c b e want:Bool):kp (V.wq c (V.wq e (.d (.bool b)))) want=some (c&&e&&(b==want)):=by cases c<;>cases e<;>simp[kp,V.wq]
def jm(c:Bool)(x:Option eD):Option eD:=
 if c=true then(match x with|some (v,[],_)=>some (v,[],[])|_=>none)else some (.bH [],[],[])
@[congr] theorem IY {c c':Bool} {x x':Option eD} (h:c=c') (h2:c'=true->x=x'):jm c x=jm c' x':=by
  subst h;cases c
  ·rfl
  ·simp[jm,h2 rfl]
def QL(v:V)(rd:List Nat):Option eD:=some (v,[],rd)
@[go_sem] theorem Zh (v:V) (rd:List Nat):(some (v,[],rd):Option eD)=QL v rd:=by unfold QL;exact Eq.trans rfl rfl
@[go_sem] theorem NU (c:Bool) (v:V) (rd:List Nat):jm c (QL v rd)=QL (V.wq c v) []:=by cases c<;>rfl
@[go_sem] theorem QM {v:V} {rd:List Nat} {K}:iV K (QL v rd)=K v []:=propext Iff.rfl
@[go_sem] theorem Ls (c:Bool) (v:V) (rd:List Nat):jm c (some (v,[],rd))=some (V.wq c v,[],[]):=by cases c<;>rfl
@[go_sem] theorem IZ (x:Option eD):jm false x=some (.bH [],[],[]):=rfl
@[go_sem] theorem TW (b x:Bool):nV (.d (.bool b)) (V.wq b (.d (.bool x))) (.d (.bool false))=some (.d (.bool (b&&x))):=xz
@[go_sem] theorem Xx (b x:Bool):nV (.d (.bool b)) (.d (.bool true)) (V.wq (!b) (.d (.bool x)))=some (.d (.bool (b||x))):=xz
@[go_sem] theorem TX (b x:Bool):nV (.d (.bool (!b))) (.d (.bool true)) (V.wq b (.d (.bool x)))=some (.d (.bool (!b||x))):=xz
@[go_sem] theorem QN (x y:V):nV (.d (.bool true)) x y=some x:=rfl
@[go_sem] theorem NV (x y:V):nV (.d (.bool false)) x y=some y:=rfl
@[reducible] def jn:Op->Bool
  | .move _| .assign _| .pick .. | .load .. | .binOp .. | .unOp .. | .nilCheck _| .convert .. | .makeInterface .. | .makeFunc .. | .fieldAddr .. | .indexAddr .. | .extract .. | .build .. | .index .. | .field .. | .lookup .. =>true
  | .call c=>match c.callee with
    | .builtin .len=>true
    | .builtin .min=>true
    | .builtin .max=>true
    |_=>false
  |_=>false
def yB(P:Program)(f:V)(args:List V)(o:Nat->ab)(rs:List D):Prop:=
 match f with
 | .func (.func g) first cap=>match bI o (first++args++cap)with
   |some ds=>aX P g ds (.ret rs)/\D.iq rs=true
   |none=>False
 |_=>False
def Cn(P:Program)(f:V)(args:List V)(o:Nat->ab)(K:V->Prop)(c:Fix Bool (f,args,o,K)):Prop:=
 ∃rs,ko c (yB P f args o rs)/\K (V.wq c (ir rs))
def yC(P:Program)(g:FuncId)(nx:Nat)(K X:V->(Nat->ab)->Nat->Prop)(args:Fix (List V) (K,X))(o:Fix (Nat->ab) (K,X)):Prop:=qc P g args o nx K X
def r8(P:Program)(g:FuncId)(o:Nat->ab)(nx:Nat)(K X:V->(Nat->ab)->Nat->Prop)(ds:Fix (List D) (o,nx,K,X))(all:Fix (List V) (o,nx,K,X)):Prop:=
 rQ P g ds o (put o (bP o (V.aZ all))) (put o (oY o (V.aZ all))) (fun v o'=>K v o' (nx+1)) (fun v o'=>X v o' (nx+1))\/qc P g all o nx K X
def lb(P:Program)(g:FuncId)(K X:V->(Nat->ab)->Nat->Prop)(s:S)(all:List V)(ds:Fix (Option (List D)) (K,X,s,all)):Prop:=
 match ds with
 |some ds=>r8 P g s.o s.nx K X ds all
 |none=>yC P g s.nx K X all s.o
@[go_sem] theorem Lt {P:Program} {s:S} {ds:List D} {g:FuncId} {all:List V} {K X}:
 lb P g K X s all (some ds)=r8 P g s.o s.nx K X ds all:=propext Iff.rfl
def uN(P:Program)(id:Nat)(K X:V->(Nat->ab)->Nat->Prop)(s:S)(args:Fix (List V) (K,X,s)):Prop:=c6 P id args s.o s.nx K X
@[go_sem] theorem Lu {P:Program} {s:S} {g:FuncId} {all:List V} {K X}:lb P g K X s all none=yC P g s.nx K X all s.o:=propext Iff.rfl
def qi(P:Program)(K X:V->(Nat->ab)->Nat->Prop)(s:S)(f:Fix V (K,X,s))(args:Fix (List V) (K,X,s)):Prop:=
 match f with
 | .func (.func g) first cap=>lb P g K X s (first++args++cap) (bI s.o (first++args++cap))
 | .js id=>uN P id K X s args
 |_=>False
@[go_sem] theorem QO {P:Program} {s:S} {id:Nat} {args:List V} {K X}:qi P K X s (.js id) args=uN P id K X s args:=propext Iff.rfl
@[go_sem] theorem NW {P:Program} {s:S} {g:FuncId} {first cap args:List V} {K X}:qi P K X s (.func (.func g) first cap) args=lb P g K X s (first++args++cap) (bI s.o (first++args++cap)):=propext Iff.rfl
def Gc(P:Program)(g:FuncId)(o:Nat->ab)(nx:Nat)(K X:V->(Nat->ab)->Nat->Prop)(ds:Fix (List D) (o,nx,K,X))(all:Fix (List V) (o,nx,K,X)):Prop:=
 rQ P g ds o (put o (bP o (V.aZ all))) (put o (oY o (V.aZ all))) (fun v o'=>K v o' (nx+1)) (fun v o'=>X v o' (nx+1))
def yD(P:Program)(g:FuncId)(K X:V->(Nat->ab)->Nat->Prop)(s:S)(all:List V)(ds:Fix (Option (List D)) (K,X,s,all)):Prop:=
 match ds with
 |some ds=>Gc P g s.o s.nx K X ds all
 |none=>False
@[go_sem] theorem NX {P:Program} {s:S} {ds:List D} {g:FuncId} {all:List V} {K X}:yD P g K X s all (some ds)=Gc P g s.o s.nx K X ds all:=propext Iff.rfl
def Gd(P:Program)(K X:V->(Nat->ab)->Nat->Prop)(s:S)(args:Fix (List V) (K,X,s))(r:Fix (Option (FuncId×V)) (K,X,s)):Prop:=
 match r with
 |some (g,y)=>yD P g K X s (y::args) (bI s.o (y::args))
 |none=>False
@[go_sem] theorem QP {P:Program} {s:S} {g:FuncId} {y:V} {args:List V} {K X}:Gd P K X s args (some (g,y))=yD P g K X s (y::args) (bI s.o (y::args)):=propext Iff.rfl
def DZ(K:V->Prop)(v:Fix V K):Prop:=
 match v with
 | .d (.iface t y)=>K (.d (.iface t y))
 | .iface t y=>K (.iface t y)
 |_=>False
@[go_sem] theorem Zi {t:TypeId} {y:D} {K}:DZ K (.d (.iface t y))=K (.d (.iface t y)):=propext Iff.rfl
@[go_sem] theorem Zj {t:TypeId} {y:V} {K}:DZ K (.iface t y)=K (.iface t y):=propext Iff.rfl
def Co(K:V->List (Nat×ab)->Prop)(id:Nat)(l:Fix (List (D×D)) (K,id)):Prop:=BZ id l fun v Δ _=>K v Δ
def Ge(K:V->List (Nat×ab)->Prop)(str:Bool)(QQ:Fix (Option eD) (K,str))(left:Fix (Option (Nat×List (D×D))) (K,str)):Prop:=
 match left with
 |some (id,l)=>str=false/\Co K id l
 |none=>iV K QQ
@[go_sem] theorem QR {K} {QQ:Option eD} {id:Nat} {l:List (D×D)}:Ge K false QQ (some (id,l))=Co K id l:=propext ⟨fun h=>h.2,fun h=>⟨rfl,h⟩⟩
@[go_sem] theorem QS {K} {str:Bool} {QQ:Option eD}:Ge K str QQ none=iV K QQ:=propext Iff.rfl
def yE(P:Program)(X:V->S->Prop)(K:S->Prop)(o:bB)(s:Fix S (X,K,o)):Prop:=
 match o.op with
 | .next x str=>Ge (fun v Δ=>K ⟨aS s.env o.dst v,put s.o Δ,s.nx+1⟩) str (mw s.o (s.ev x) str) (my s.o (s.ev x))
 | .call c=>match c.callee with
   | .value f=>qi P (fun v o' nx'=>K ⟨aS s.env o.dst v,o',nx'⟩) (fun v o' nx'=>X v ⟨s.env,o',nx'⟩) s (s.ev f) (c.args.toList.map s.ev)
   | .invoke r m=>Gd P (fun v o' nx'=>K ⟨aS s.env o.dst v,o',nx'⟩) (fun v o' nx'=>X v ⟨s.env,o',nx'⟩) s (c.args.toList.map s.ev) (rH P m (s.ev r))
   |_=>iV (fun v Δ=>K ⟨aS s.env o.dst v,put s.o Δ,s.nx+1⟩) (eR P s s.nx o.op)
 | .panic x=>DZ (fun v=>X v s) (s.ev x)
 |op=>iV (fun v Δ=>K ⟨aS s.env o.dst v,put s.o Δ,s.nx+1⟩) (eR P s s.nx op)
@[reducible] def dH:Op->Option (Operand×List Operand)
  | .call c=>match c.callee with
    | .value f=>some (f,c.args.toList)
    |_=>none
  |_=>none
def gf(A B:Prop)(t:Fix Bool (A,B)):Prop:=n6 t A B
@[go_sem] theorem NY (A B:Prop):gf A B true=A:=rR A B
@[go_sem] theorem Lw (A B:Prop):gf A B false=B:=qd A B
def AY(P:Program)(X:V->S->Prop)(K:S->Prop)(o:bB)(s:S)(f:Operand)(args:List Operand)(c:Fix Bool (X,K,o,s,f,args)):Prop:=
 Cn P (s.ev f) (args.map s.ev) s.o (fun v=>K ⟨aS s.env o.dst v,s.o,s.nx+1⟩) c\/gf (yE P X K o s) (K ⟨aS s.env o.dst (.bH []),s.o,s.nx+1⟩) c
def wu(P:Program)(X:V->S->Prop)(K:S->Prop)(o:bB)(s:S)(c:Fix (Option Bool) (X,K,o,s)):Prop:=
 match c with
 |none=>False
 |some c=>match dH o.op with
  |some (f,args)=>AY P X K o s f args c
  |none=>if jn o.op=true then iV (fun v _=>K ⟨aS s.env o.dst v,s.o,s.nx+1⟩) (jm c (eR P s s.nx o.op))
   else gf (yE P X K o s) (K ⟨aS s.env o.dst (.bH []),s.o,s.nx+1⟩) c
def pz(P:Program)(X:V->S->Prop)(K:S->Prop)(l:List bB)(s:Fix S (X,K,l)):Prop:=
 match l with
 |[]=>K s
 |o::l=>match o.gd with
  |none=>yE P X (pz P X K l) o s
  |some (d,want)=>wu P X (pz P X K l) o s (kp (s.env d) want)
def iw(want:Bool)(A B:Prop)(v:Fix V (A,B)):Prop:=
 match v with
 | .d (.bool b)=>n6 (b==want) A B
 | .bH []=>B
 |_=>False
@[go_sem] theorem Lx (b:Bool) (A B:Prop):iw true A B (.d (.bool b))=gf A B b:=by simp[iw,gf]
@[go_sem] theorem I0 (b:Bool) (A B:Prop):iw false A B (.d (.bool b))=gf A B (!b):=by simp[iw,gf]
@[go_sem] theorem QT (want:Bool) (A B:Prop):iw want A B (.bH [])=B:=propext Iff.rfl
@[go_sem] theorem NZ (c b want:Bool) (A B:Prop):iw want A B (V.wq c (.d (.bool b)))=gf A B (c&&(b==want)):=by cases c<;>simp[iw,V.wq,gf]
abbrev KD:=V->List (Nat×ab)->List Nat->Prop
abbrev XD:=V->List Nat->List Nat->Prop
def Gf(P:Program)(g:FuncId)(K:KD)(X:XD)(o:Nat->ab)(rd:List Nat)(ds:Fix (List D) (K,X,o,rd))(all:Fix (List V) (K,X,o,rd)):Prop:=
 qh P g ds (fun v=>K v (bP o (V.aZ all)) rd) (fun v=>K v [] rd) (fun v=>X v [] rd)
def wv(P:Program)(g:FuncId)(K:KD)(X:XD)(o:Nat->ab)(nx fr:Nat)(all:Fix (List V) (K,X,o,nx)):Prop:=gB P g all o nx fr K X
def pA(P:Program)(g:FuncId)(K:KD)(X:XD)(o:Nat->ab)(nx fr:Nat)(rd:List Nat)(ds:Fix (List D) (K,X,o,nx,rd))(all:Fix (List V) (K,X,o,nx,rd)):Prop:=Gf P g K X o rd ds all\/wv P g K X o nx fr all
def pB(P:Program)(K:KD)(X:XD)(o:Nat->ab)(nx fr:Nat)(rd:List Nat)(g:FuncId)(all:List V)(ds:Fix (Option (List D)) (K,X,o,nx,rd,all)):Prop:=
 match ds with
 |some ds=>pA P g K X o nx fr rd ds all
 |none=>wv P g K X o nx fr all
@[go_sem] theorem Ly {P:Program} {o:Nat->ab} {nx fr:Nat} {rd:List Nat} {ds:List D} {g:FuncId} {all:List V} {K X}:pB P K X o nx fr rd g all (some ds)=pA P g K X o nx fr rd ds all:=propext Iff.rfl
@[go_sem] theorem Lz {P:Program} {o:Nat->ab} {nx fr:Nat} {rd:List Nat} {g:FuncId} {all:List V} {K X}:pB P K X o nx fr rd g all none=wv P g K X o nx fr all:=propext Iff.rfl
def yF(P:Program)(K:KD)(X:XD)(o:Nat->ab)(nx fr:Nat)(rd:Fix (List Nat) (K,X,o,nx))(f:Fix V (K,X,o,nx))(args:Fix (List V) (K,X,o,nx)):Prop:=
 match f with
 | .func (.func g) first cap=>pB P K X o nx fr rd g (first++args++cap) (bI o (first++args++cap))
 |_=>False
@[go_sem] theorem N0 {P:Program} {o:Nat->ab} {nx fr:Nat} {rd:List Nat} {g:FuncId} {first cap args:List V} {K X}:yF P K X o nx fr rd (.func (.func g) first cap) args=pB P K X o nx fr rd g (first++args++cap) (bI o (first++args++cap)):=propext Iff.rfl
def r9(K:KD)(rd:List Nat)(x:Fix (Option eD) (K,rd)):Prop:=match x with|some (v,Δ,_)=>K v Δ rd|none=>False
@[go_sem] theorem N1 {v:V} {Δ:List (Nat×ab)} {r rd:List Nat} {K}:r9 K rd (some (v,Δ,r))=K v Δ rd:=propext Iff.rfl
@[go_sem] theorem QU {v:V} {r rd:List Nat} {K}:r9 K rd (QL v r)=K v [] rd:=propext Iff.rfl
def H3(P:Program)(K:KD)(X:XD)(fr:Nat)(o:bB)(s:Fix S (K,X,o)):Prop:=
 match dH o.op with
 |some (f,args)=>yF P K X s.o s.nx fr (mh s o.op) (s.ev f) (args.map s.ev)
 |none=>r9 K (mh s o.op) (eR P s fr o.op)
def D0(P:Program)(KB:List Nat->Fp->Prop)(pr:List (List Nat))(l:List bB)(fr:Nat)(fp:Fix Fp (KB,l))(bad ws:Fix (List Nat) (KB,l))(s:Fix S (KB,l)):Prop:=fF P KB pr l fr s fp bad ws
def mV(P:Program)(K:S->Fp->Prop)(KP:V->List Nat->Fp->Prop)(pr:List (List Nat))(l:List bB)(fr:Nat)(s:Fix S (K,KP,l))(fp:Fix Fp (K,KP,l)):Prop:=
 match l with
 |[]=>K s fp
 |o::l=>match o.gd with
  |none=>H3 P (fun v Δ rd=>mV P K KP pr l (fr+1) ⟨aS s.env o.dst v,put s.o Δ,s.nx⟩ (fp++[(rd,Δ.map (·.1))]))
   (fun v ws rd=>D0 P (KP v) pr l (fr+1) (fp++[(rd,[])]) [fp.length] (ws++fp.flatMap (·.2)) ⟨aS s.env o.dst .aa,s.o,s.nx⟩) fr o s
  |some (d,want)=>iw want (H3 P (fun v Δ rd=>mV P K KP pr l (fr+1) ⟨aS s.env o.dst v,put s.o Δ,s.nx⟩ (fp++[(rd,Δ.map (·.1))]))
   (fun v ws rd=>D0 P (KP v) pr l (fr+1) (fp++[(rd,[])]) [fp.length] (ws++fp.flatMap (·.2)) ⟨aS s.env o.dst .aa,s.o,s.nx⟩) fr o s)
   (mV P K KP pr l (fr+1) ⟨aS s.env o.dst (.bH []),s.o,s.nx⟩ (fp++[([],[])])) (s.env d)
def I1(pr:List (List Nat))(nx:Nat)(Q:eT->S->Prop)(s:Fix S Q)(fp:Fix Fp Q):Prop:=AV pr nx Q s fp
def pC(l:List bB)(k:Fix Nat l):Option Nat:=match l with
 |[]=>none
 |o::l=>match o.gd,dH o.op with
  |none,some (.tmp _,_)=>some k
  |_,_=>pC l (k+1)
def LA(P:Program)(pr:List (List Nat))(l:List bB)(nx:Nat)(Q:eT->S->Prop)(s:Fix S (P,pr,l,nx,Q))(fp:Fix Fp (P,pr,l,nx,Q)):Prop:=dK pr fp=true/\pz P (fun v s=>Q (.bu v) s) (Q .normal) l ⟨s.env,s.o,nx⟩
def I2(P:Program)(l:List bB)(pr:List (List Nat))(Q:eT->S->Prop)(s:S)(sp:Fix (Option Nat) (P,l,pr,Q,s)):Prop:=match sp with
 |none=>mV P (I1 pr (s.nx+l.length) Q) (yy pr l s Q) pr l s.nx s []
 |some m=>m<=l.length/\AW pr m=true/\mV P (LA P pr (l.drop m) (s.nx+m) Q) (fun _ _ _=>False) pr (l.take m) s.nx s []
def uO(A B:Prop)(v:Fix V (A,B)):Prop:=
 match v with
 | .d (.bool t)=>gf A B t
 | .eg=>A/\B
 |_=>False
@[go_sem] theorem QV (A B:Prop):uO A B .eg=(A/\B):=propext Iff.rfl
@[go_sem] theorem N2 (t:Bool) (A B:Prop):uO A B (.d (.bool t))=gf A B t:=propext Iff.rfl
def Cq{ι:Type}(b:Nat)(st:ι->S)(cc:ι->Prop)(mW:ι->Nat)(i:ι)(s:S):Prop:=∃j,cc j/\mW j<mW i/\bG b s (st j)
def sa(next:S->Prop)(Q:eT->S->Prop)(e:eT)(s:S):Prop:=match e with| .normal=>next s|e=>Q e s
section
variable {N:S->Prop}{Q:eT->S->Prop}{s:S}
@[go_sem ↓] theorem I3:sa N Q .normal s=N s:=propext Iff.rfl
@[go_sem ↓] theorem N3 {id:Nat}:sa N Q (.exit id) s=Q (.exit id) s:=propext Iff.rfl
@[go_sem ↓] theorem QW:sa N Q .ret s=Q .ret s:=propext Iff.rfl
@[go_sem ↓] theorem QX {v:V}:sa N Q (.bu v) s=Q (.bu v) s:=propext Iff.rfl
end
def Cr(b:Nat)(body:(eT->S->Prop)->S->Prop)(Q:eT->S->Prop)(s:Fix S (body,Q)):Prop:=
 ∃ (ι:Type) (st:ι->S) (cc:ι->Prop) (mW:ι->Nat) (i0:ι),cc i0/\bG b s (st i0)/\∀i,cc i->body (sa (Cq b st cc mW i) Q) (st i)
theorem aH{ι:Type}{b:Nat}{body:(eT->S->Prop)->S->Prop}{Q:eT->S->Prop}{s:S}(st:ι->S)(cc:ι->Prop)(mW:ι->Nat)(i0:ι)(h0:cc i0)(hle:bG b s (st i0))
 (h:∀i,cc i->body (sa (Cq b st cc mW i) Q) (st i)):Cr b body Q s:=⟨ι,st,cc,mW,i0,h0,hle,h⟩
def yG(P:Program)(n b:Nat)(rd:Bool)(gop:Operand)(ps:List Nat)(x y:IC)(Q:eT->S->Prop)(s:Fix S (x,y,Q))(g:Fix V (x,y,Q)):Prop:=rd=false/\(yf P n g ps x y Q s\/∃s',bG b s s'/\yf P n (s'.ev gop) ps x y Q s')
def kq(P:Program)(n b:Nat)(rd:Bool)(c:IC)(Q:eT->S->Prop)(s:Fix S (c,Q)):Prop:=
 match c with
 | .skip=>Q .normal s
 | .ad l=>pz P (fun v s=>Q (.bu v) s) (Q .normal) l s
 | .cX l pr=>I2 P l pr Q s (pC l 0)
 | .seq x y=>kq P n b rd x (nP (fun s=>kq P n b rd y Q s) Q) s
 | .cond c x y=>uO (kq P n b rd x Q s) (kq P n b rd y Q s) (s.ev c)
 | .block id x=>kq P n b rd x (eh id Q) s
 | .loop x=>Cr b (fun Q s=>kq P n b rd x Q s) Q s
 | .exit id=>Q (.exit id) s
 | .ret=>Q .ret s
 | .EI g ps x y=>yG P n b rd g ps x y Q s (s.ev g)
 | .bad=>False
section
variable {P:Program}{n b:Nat}{rd:Bool}
theorem yH{s:S}{f:V}{args:List V}{K K':V->(Nat->ab)->Nat->Prop}{X X':V->(Nat->ab)->Nat->Prop}(hK:∀v o n,K v o n->K' v o n)(hX:∀v o n,X v o n->X' v o n)(h:qi P K X s f args):
 match(generalizing:=false) f with
  | .func (.func g) first cap=>match bI s.o (first++args++cap)with
    |some ds=>rQ P g ds s.o (put s.o (bP s.o (V.aZ (first++args++cap)))) (put s.o (oY s.o (V.aZ (first++args++cap)))) (fun v o'=>K' v o' (s.nx+1)) (fun v o'=>X' v o' (s.nx+1))\/qc P g (first++args++cap) s.o s.nx K' X'
    |none=>qc P g (first++args++cap) s.o s.nx K' X'
  | .js id=>c6 P id args s.o s.nx K' X'
  |_=>False:=by
 unfold qi lb uN at h
 split at h
 ·rename_i g first cap
  cases dT:bI s.o (first++args++cap)with
  |some ds=>
   simp only[dT]at h|-
   rcases h with⟨out,h1,h2|⟨h3,h2⟩|⟨h3,h2⟩⟩|h
   ·exact .inl ⟨out,h1, .inl (by cases out<;>first|exact hK _ _ _ h2|exact hX _ _ _ h2)⟩
   ·exact .inl ⟨out,h1, .inr (.inl ⟨h3,by cases out<;>first|exact hK _ _ _ h2|exact hX _ _ _ h2⟩)⟩
   ·exact .inl ⟨out,h1, .inr (.inr ⟨h3,by cases out<;>first|exact hK _ _ _ h2|exact hX _ _ _ h2⟩)⟩
   ·exact .inr (mi.mono hK hX h)
  |none=>
   simp only[dT]at h|-
   exact mi.mono hK hX h
 ·exact c6.mono hK hX h
 ·exact h.elim
theorem uP{x:Option eD}{K:V->List (Nat×ab)->Prop}(h:iV K x):∃v Δ rd,x=some (v,Δ,rd)/\K v Δ:=by
 unfold iV at h;split at h
 ·exact⟨_,_,_,rfl,h⟩
 ·exact h.elim
theorem wx{s:S}{o:bB}{X X':V->S->Prop}{K K':S->Prop}(hK:∀s,K s->K' s)(hX:∀v s,X v s->X' v s)(h:yE P X K o s):ES P s o X' K':=by
 unfold yE at h
 unfold ES
 have hs:∀ {op:Op},(iV (fun v Δ=>K ⟨aS s.env o.dst v,put s.o Δ,s.nx+1⟩) (eR P s s.nx op))->(match eR P s s.nx op with|some (v,Δ,_)=>K' ⟨aS s.env o.dst v,put s.o Δ,s.nx+1⟩|none=>False):=by
  intro op h
  obtain⟨v,Δ,rd,he,h⟩:=uP h
  simp only[he];exact hK _ h
 split at h
 ·rename_i x str hx
  rw[hx]
  unfold Ge at h
  simp only
  split at h
  ·rename_i id l hl
   simp only[hl]
   exact⟨h.1,fun e=>hK _ (h.2.1 e),fun i k x e=>hK _ (h.2.2 i k x e)⟩
  ·rename_i hl
   simp only[hl]
   exact hs (op:= .next x str) h
 ·rename_i c hc
  simp only[hc]
  split at h
  ·rename_i f hf
   simp only[hf]
   exact yH (K:=fun v o' nx'=>K ⟨aS s.env o.dst v,o',nx'⟩) (X:=fun v o' nx'=>X v ⟨s.env,o',nx'⟩) (fun v o n h=>hK _ h) (fun v o n h=>hX _ _ h) h
  ·rename_i r m hf
   simp only[hf]
   unfold Gd at h
   split at h
   ·rename_i g y hr
    simp only[hr]
    unfold yD at h
    split at h
    ·rename_i ds dT
     obtain⟨out,h1,h2⟩:=h
     refine .inl ⟨ds,dT,out,h1, ?_⟩
     rcases h2 with h2|⟨h3,h2⟩|⟨h3,h2⟩
     ·exact .inl (by cases out<;>first|exact hK _ h2|exact hX _ _ h2)
     ·exact .inr (.inl ⟨h3,by cases out<;>first|exact hK _ h2|exact hX _ _ h2⟩)
     ·exact .inr (.inr ⟨h3,by cases out<;>first|exact hK _ h2|exact hX _ _ h2⟩)
    ·exact h.elim
   ·exact h.elim
  ·rename_i hf hi
   rw[hc]at h
   obtain⟨FN,args,ts⟩:=c
   cases FN with
   |value f=>exact absurd rfl (hf f)
   |invoke r m=>exact absurd rfl (hi r m)
   |_=>exact hs h
 ·rename_i x hx
  simp only[hx]
  unfold DZ at h
  split at h
  ·rename_i hv;simp only[hv];exact hX _ _ h
  ·rename_i hv;simp only[hv];exact hX _ _ h
  ·exact h.elim
 ·rename_i tj hc hp
  have h2:=hs h
  cases hh:o.op<;>first
   |exact absurd hh (hc _)
   |exact absurd hh (hp _)
   |exact absurd hh (tj _ _)
   |(rw[hh]at h2;exact h2)
theorem Gg{s:S}{o:bB}{X:V->S->Prop}{K:S->Prop}(hp:jn o.op=true){v:V}{Δ:List (Nat×ab)}{rd:List Nat}(he:eR P s s.nx o.op=some (v,Δ,rd))(h:K ⟨aS s.env o.dst v,put s.o Δ,s.nx+1⟩):ES P s o X K:=by
 unfold ES
 split
 ·rename_i c hc
  split
  ·rename_i f hf;rw[hc]at hp;simp[jn,hf]at hp
  ·rename_i r m hf;rw[hc]at hp;simp[jn,hf]at hp
  ·rw[he];exact h
 ·rename_i x hx;rw[hx]at hp;simp[jn]at hp
 ·rename_i x str hx;rw[hx]at hp;simp[jn]at hp
 ·rw[he];exact h
theorem pD{X X':V->S->Prop}{K K':S->Prop}(hK:∀s,K s->K' s)(hX:∀v s,X v s->X' v s):∀ (l:List bB) (s:S),pz P X K l s->mT P X' K' l s
 |[],s,h=>hK _ h
 |o::l,s,h=>by
  have ih:=pD hK hX l
  unfold pz at h
  unfold mT
  cases hg:o.gd with
  |none=>
   simp only[hg]at h|-
   exact wx ih hX h
  |some p=>
   obtain⟨d,want⟩:=p
   simp only[hg]at h|-
   unfold wu at h
   split at h
   ·exact h.elim
   ·rename_i c hc
    have N4:∀ {A B:Prop},(c=true->A)->(c=false->B)->(match s.env d with
     | .d (.bool b)=>if b=want then A else B
     | .bH []=>B
     |_=>False):=by
     intro A B hA hB
     generalize s.env d=v at hc
     unfold kp at hc
     split at hc
     ·rename_i b
      injection hc with hc
      split
      ·rename_i e;exact hA (by rw[<- hc];simp[e])
      ·rename_i e;exact hB (by rw[<- hc];simp[e])
     ·injection hc with hc
      exact hB hc.symm
     ·cases hc
    split at h
    ·rename_i f args ET
     rcases h with h|h
     case inr=>exact N4 (fun LB=>wx ih hX (h.1 LB)) (fun N5=>ih _ (h.2 N5))
     obtain⟨rs,h1,h2⟩:=h
     refine N4 (fun LB=> ?_) (fun N5=> ?_)
     ·unfold dH at ET
      split at ET
      ·rename_i c' xl
       split at ET
       ·rename_i f' tI
        injection ET with ET;injection ET with e1 e2;subst e1;subst e2
        have jR:=h1 LB
        unfold ES
        simp only[xl,tI]
        unfold yB at jR
        split at jR
        ·rename_i g first cap tA
         simp only[tA]
         split at jR
         ·rename_i ds dT
          simp only[dT]
          refine .inl ⟨.ret rs,jR.1, .inr (.inl ⟨jR.2, ?_⟩)⟩
          refine ih _ ?_
          rw[LB]at h2
          exact h2
         ·exact jR.elim
        ·exact jR.elim
       ·cases ET
      ·cases ET
     ·refine ih _ ?_
      rw[N5]at h2
      exact h2
    ·split at h
     ·rename_i hp
      obtain⟨v,Δ,rd,he,h⟩:=uP h
      refine N4 (fun LB=> ?_) (fun N5=> ?_)
      ·rw[LB]at he
       simp only[jm,if_true]at he
       split at he
       ·rename_i v' qM ni
        injection he with he;injection he with e1 e2;subst e1
        exact Gg hp ni (ih _ h)
       ·cases he
      ·rw[N5]at he
       simp only[jm]at he
       injection he with he;injection he with e1 e2;subst e1
       exact ih _ h
     ·exact N4 (fun LB=>wx ih hX (h.1 LB)) (fun N5=>ih _ (h.2 N5))
theorem wy{op:Op}{f:Operand}{args:List Operand}(h:dH op=some (f,args)):∃c,op= .call c/\c.callee= .value f/\c.args.toList=args:=by
 unfold dH at h
 split at h
 ·rename_i c
  split at h
  ·rename_i f' tI
   injection h with h;injection h with e1 e2;subst e1;subst e2
   exact⟨c,rfl,tI,rfl⟩
  ·cases h
 ·cases h
theorem D1{x:Option eD}{rd:List Nat}{K:KD}(h:r9 K rd x):∃v Δ r,x=some (v,Δ,r)/\K v Δ rd:=by
 unfold r9 at h;split at h
 ·exact⟨_,_,_,rfl,h⟩
 ·exact h.elim
theorem gB.mono {P:Program}{g:FuncId}{args:List V}{o:Nat->ab}{nx fr:Nat}{K K':KD}{X X':XD}(hK:∀v Δ r,K v Δ r->K' v Δ r)(hX:∀v w r,X v w r->X' v w r)(h:gB P g args o nx fr K X):gB P g args o nx fr K' X':=by
 obtain⟨rd,Δ,h1,⟨rs,h2,h3⟩|⟨x,h2,h3⟩|⟨v,h2,h3⟩⟩:=h
 ·exact⟨rd,Δ,h1, .inl ⟨rs,h2,hK _ _ _ h3⟩⟩
 ·exact⟨rd,Δ,h1, .inr (.inl ⟨x,h2,hX _ _ _ h3⟩)⟩
 ·exact⟨rd,Δ,h1, .inr (.inr ⟨v,h2,hK _ _ _ h3⟩)⟩
theorem qh.mono {P:Program}{g:FuncId}{ds:List D}{Kf Kb KX Kf' Kb' KX':V->Prop}(h1:∀v,Kf v->Kf' v)(h2:∀v,Kb v->Kb' v)(h3:∀v,KX v->KX' v)(h:qh P g ds Kf Kb KX):qh P g ds Kf' Kb' KX':=by
 rcases h with⟨rs,a,b|⟨b,c⟩⟩|⟨x,a,b,c⟩|⟨v,a,b⟩
 ·exact .inl ⟨rs,a, .inl (h1 _ b)⟩
 ·exact .inl ⟨rs,a, .inr ⟨b,h2 _ c⟩⟩
 ·exact .inr (.inl ⟨x,a,b,h3 _ c⟩)
 ·exact .inr (.inr ⟨v,a,h1 _ b⟩)
theorem Cs{s:S}{fr:Nat}{o:bB}{K K':KD}{X X':XD}(hK:∀v Δ r,K v Δ r->K' v Δ r)(hX:∀v w r,X v w r->X' v w r)(h:H3 P K X fr o s):xo P s fr o K' X':=by
 unfold H3 at h
 split at h
 ·rename_i f args ET
  obtain⟨c,h1,h2,h3⟩:=wy ET
  subst h3
  unfold xo
  simp only[h1,h2]
  unfold yF pB at h
  split at h
  ·rename_i g first cap hf
   simp only[hf]
   split at h
   ·rename_i ds dT
    simp only[dT]
    refine h.elim (fun h=> .inl ?_) (fun h=> .inr (gB.mono hK hX h))
    refine qh.mono (fun v h=> ?_) (fun v h=> ?_) (fun v h=> ?_) h<;>(rw[h1]at h)
    ·exact hK _ _ _ h
    ·exact hK _ _ _ h
    ·exact hX _ _ _ h
   ·rename_i dT
    simp only[dT]
    exact gB.mono hK hX h
  ·exact h.elim
 ·rename_i ET
  obtain⟨v,Δ,rd,he,h⟩:=D1 h
  unfold xo
  split
  ·rename_i c hc
   split
   ·rename_i f hf
    exact absurd ET (by simp[dH,hc,hf])
   ·simp only[he];exact hK _ _ _ h
  ·simp only[he];exact hK _ _ _ h
theorem yI{s:S}{fr:Nat}{o:bB}{K K':KD}{X X':XD}(hK:∀v Δ r,K v Δ r->K' v Δ r)(hX:∀v w r,X v w r->X' v w r)(h:xo P s fr o K X):xo P s fr o K' X':=by
 unfold xo at h|-
 split at h
 ·rename_i c hc
  rw[hc]at h|-
  split at h
  ·rename_i f hf
   (try simp only[hf])
   split at h
   ·rename_i tA
    (try simp only[tA])
    split at h
    ·exact h.elim (fun h=> .inl (qh.mono (fun v h=>hK _ _ _ h) (fun v h=>hK _ _ _ h) (fun v h=>hX _ _ _ h) h)) (fun h=> .inr (gB.mono hK hX h))
    ·exact gB.mono hK hX h
   ·exact h.elim
  ·rename_i hf
   split at h
   ·rename_i he
    (try simp only[he])
    exact hK _ _ _ h
   ·exact h.elim
 ·split at h
  ·rename_i he
   (try simp only[he]);exact hK _ _ _ h
  ·exact h.elim
theorem gV{KB KB':List Nat->Fp->Prop}{pr:List (List Nat)}(hK:∀l fp,KB l fp->KB' l fp):∀ (l:List bB) (fr:Nat) (s:S) (fp:Fp) (bad ws:List Nat),fF P KB pr l fr s fp bad ws->fF P KB' pr l fr s fp bad ws
 |[],_,_,_,_,_,h=>hK _ _ h
 |o::l,fr,s,fp,bad,ws,h=>by
  unfold fF at h|-
  split
  ·rename_i hb
   rw[if_pos hb]at h
   exact gV hK l _ _ _ _ _ h
  ·rename_i hb
   rw[if_neg hb]at h
   split at h
   ·exact yI (fun v Δ r h=>gV hK l _ _ _ _ _ h) (fun _ _ _ h=>h) h
   ·split at h
    ·split at h
     ·rename_i e;simp only[e,if_true]
      exact yI (fun v Δ r h=>gV hK l _ _ _ _ _ h) (fun _ _ _ h=>h) h
     ·rename_i e;simp only[e,if_false]
      exact gV hK l _ _ _ _ _ h
    ·exact gV hK l _ _ _ _ _ h
    ·exact h.elim
theorem gW{K K':S->Fp->Prop}{KP Zk:V->List Nat->Fp->Prop}{pr:List (List Nat)}(hK:∀s fp,K s fp->K' s fp)(hP:∀v l fp,KP v l fp->Zk v l fp):∀ (l:List bB) (fr:Nat) (s:S) (fp:Fp),mV P K KP pr l fr s fp->jl P K' Zk pr l fr s fp
 |[],_,_,_,h=>hK _ _ h
 |o::l,fr,s,fp,h=>by
  have hB:∀v ws (Zl:List Nat),D0 P (KP v) pr l (fr+1) (fp++[(Zl,[])]) [fp.length] (ws++fp.flatMap (·.2)) ⟨aS s.env o.dst .aa,s.o,s.nx⟩->
   fF P (Zk v) pr l (fr+1) ⟨aS s.env o.dst .aa,s.o,s.nx⟩ (fp++[(Zl,[])]) [fp.length] (ws++fp.flatMap (·.2)):=fun v ws Zl h=>gV (fun a b h=>hP v a b h) l _ _ _ _ _ h
  unfold mV at h
  unfold jl
  split at h
  ·rename_i hg
   (try simp only[hg])
   exact Cs (fun v Δ r h=>gW hK hP l _ _ _ h) hB h
  ·rename_i d want hg
   (try simp only[hg])
   generalize s.env d=v at h
   unfold iw at h
   split at h
   ·rename_i bb
    by_cases e:bb=want
    ·subst e
     simp only[if_true]
     exact Cs (fun v Δ r h=>gW hK hP l _ _ _ h) hB (h.1 aK)
    ·simp only[if_neg e]
     exact gW hK hP l _ _ _ (h.2 (by simpa using e))
   ·exact gW hK hP l _ _ _ h
   ·exact h.elim
theorem ez:∀ (c:IC) (Q Q':eT->S->Prop) (s:S),(∀e s,Q e s->Q' e s)->kq P n b rd c Q s->qS P n b rd c Q' s
 | .skip,_,_,_,hQ,h=>hQ _ _ h
 | .ad l,_,_,_,hQ,h=>pD (fun s h=>hQ _ _ h) (fun v s h=>hQ _ _ h) l _ h
 | .cX l pr,_,_,_,hQ,h=>by
   unfold kq at h
   generalize pC l 0=sp at h
   cases sp with
   |none=>exact .inl (gW (fun s fp h=>⟨h.1,hQ _ _ h.2⟩) (fun v l fp h=>⟨h.1,hQ _ _ h.2⟩) l _ _ _ h)
   |some m=>exact .inr ⟨m,h.1,h.2.1,gW (fun s fp h=>⟨h.1,pD (fun s h=>hQ _ _ h) (fun v s h=>hQ _ _ h) _ _ h.2⟩) (fun v l fp h=>h.elim) _ _ _ _ h.2.2⟩
 | .seq x y,Q,Q',s,hQ,h=>ez x _ _ s (fun e s h=>by
  unfold nP at h|-
  cases e with
  |normal=>exact ez y _ _ s hQ h
  |_=>exact hQ _ _ h) h
 | .cond c x y,Q,Q',s,hQ,h=>by
   unfold kq uO gf at h
   unfold qS
   split at h
   ·rename_i t ht
    simp only[ht]
    exact⟨fun e=>ez x _ _ s hQ (h.1 e),fun e=>ez y _ _ s hQ (h.2 e)⟩
   ·rename_i ht
    simp only[ht]
    exact⟨ez x _ _ s hQ h.1,ez y _ _ s hQ h.2⟩
   ·exact h.elim
 | .block id x,Q,Q',s,hQ,h=>ez x _ _ s (fun e s h=>by
  unfold eh at h|-
  cases e with
  |exit j=>
   simp only at h|-
   split
   ·rename_i e;rw[if_pos e]at h;exact hQ _ _ h
   ·rename_i e;rw[if_neg e]at h;exact hQ _ _ h
  |_=>exact hQ _ _ h) h
 | .loop x,Q,Q',s,hQ,h=>by
   obtain⟨ι,st,cc,mW,i0,h0,hle,h2⟩:=h
   refine⟨fun m s=>∃i,cc i/\mW i=m/\s=st i,⟨mW i0,st i0,hle,i0,h0,rfl,rfl⟩, ?_⟩
   rintro m s0 ⟨i,hg,rfl,rfl⟩
   refine ez x _ _ _ (fun e s h=> ?_) (h2 i hg)
   cases e with
   |normal=>
    obtain⟨j,k1,k2,k3⟩:=h
    exact⟨mW j,st j,k2,k3,j,k1,rfl,rfl⟩
   |_=>exact hQ _ _ h
 | .exit id,_,_,_,hQ,h=>hQ _ _ h
 | .ret,_,_,_,hQ,h=>hQ _ _ h
 | .EI g ps x y,_,_,_,hQ,h=>⟨h.1,match h.2 with
   | .inl h=>⟨_, .inl rfl,py hQ h⟩
   | .inr ⟨s',hle,h⟩=>⟨s', .inr hle,py hQ h⟩⟩
 | .bad,_,_,_,_,h=>h.elim
end
theorem aX.aM {P:Program}(aY:P.follows .mixedOrders=true){f:FuncId}{n:Nat}{ic:IC}{rs:List ResultVar}{ds:List D}{out:R}(hf:aG P f n ic rs)(hl:ds.length<=n)
 (h:kq P n 0 false ic (vQ P rs out) ⟨cj (ds.map .d),fun _=> .no,0⟩):aX P f ds out:=
 aX.rZ aY hf hl (ez ic _ _ _ (fun _ _ h=>h) h)
def Gh(P:Program)(rs:List ResultVar)(K X:V->(Nat->ab)->Nat->Prop)(e:eT)(s:S):Prop:=jW P rs K X e s
theorem dA.aM {P:Program}(aY:P.follows .mixedOrders=true){f:FuncId}{n:Nat}{ic:IC}{rs:List ResultVar}{args:List V}{o:Nat->ab}{nx:Nat}{K X:V->(Nat->ab)->Nat->Prop}(hf:aG P f n ic rs)(hl:args.length<=n)
 (h:kq P n nx false ic (Gh P rs K X) ⟨cj args,o,nx⟩):dA P f args o nx K X:=
 dA.rZ aY hf hl (ez ic _ _ _ (fun _ _ h=>h) h)
section
variable {P:Program}{g:FuncId}{ds:List D}{o:Nat->ab}{nx:Nat}{K X:V->(Nat->ab)->Nat->Prop}{all:List V}
theorem ao{rs:List D}(h:aX P g ds (.ret rs))(hf:D.iq rs=true)(hk:K (ir rs) o (nx+1)):r8 P g o nx K X ds all:= .inl ⟨.ret rs,h, .inr (.inl ⟨hf,hk⟩)⟩
theorem bE{rs:List D}(h:aX P g ds (.ret rs))(hk:K (ir rs) (put o (bP o (V.aZ all))) (nx+1)):r8 P g o nx K X ds all:= .inl ⟨.ret rs,h, .inl hk⟩
theorem dY(h:dA P g all o nx K X):r8 P g o nx K X ds all:= .inr (.inl h)
theorem gh{e:Nat->V}{ds:Option (List D)}(h:dA P g all o nx K X):lb P g K X ⟨e,o,nx⟩ all ds:=by
 cases ds with
 |some ds=>exact(.inr (.inl h):r8 P g o nx K X ds all)
 |none=>exact(.inl h:yC P g nx K X all o)
theorem bX(h:dA P g all o nx K X):yC P g nx K X all o:= .inl h
variable {K:KD}{X:XD}{rd:List Nat}{fr:Nat}
theorem bc{rs:List D}(h:aX P g ds (.ret rs))(hf:D.iq rs=true)(hk:K (ir rs) [] rd):pA P g K X o nx fr rd ds all:= .inl (.inl ⟨rs,h, .inr ⟨hf,hk⟩⟩)
theorem cU{rs:List D}(h:aX P g ds (.ret rs))(hk:K (ir rs) (bP o (V.aZ all)) rd):pA P g K X o nx fr rd ds all:= .inl (.inl ⟨rs,h, .inl hk⟩)
theorem D2{v:V}{qM:List Nat}{Δ:List (Nat×ab)}(l6:qM.all (fun id=>decide (id<nx))=true)(h:xm P g all qM o fr v Δ)(hk:K v Δ qM):pA P g K X o nx fr rd ds all:= .inr ⟨qM,Δ,l6, .inr (.inr ⟨v,h,hk⟩)⟩
end
theorem eO{P:Program}{f:V}{args:List V}{o:Nat->ab}{K:V->Prop}{c:Bool}(rs:List D)(h:ko c (yB P f args o rs))(hk:K (V.wq c (ir rs))):Cn P f args o K c:=⟨rs,h,hk⟩
theorem ak{t:Bool}{A B:Prop}(h:t=true->A)(h2:t=false->B):gf A B t:=⟨h,h2⟩
theorem aR{pr:List (List Nat)}{nx:Nat}{Q:eT->S->Prop}{s:S}{fp:List (List Nat×List Nat)}(h:dK pr fp=true)(h2:Q .normal ⟨s.env,s.o,nx⟩):I1 pr nx Q s fp:=⟨h,h2⟩
@[go_sem] theorem TY (o:Nat->ab):put o []=o:=rfl
@[go_sem] theorem QY (o:Nat->ab) (x:Nat×ab) (l:List (Nat×ab)):put o (x::l)=put (aI o x.1 x.2) l:=rfl
@[go_sem] theorem ae {α:Type} (f:Nat->α) (i:Nat) (x:α):aI f i x i=x:=aK
@[go_sem] theorem ah {α:Type} (f:Nat->α) (i j:Nat) (x:α) (h:j≠i):aI f i x j=f j:=by simp[h]
@[go_sem] theorem I4 (v:V) (l:List V):cj (v::l) 0=v:=rfl
@[go_sem] theorem I5 (v:V) (l:List V) (i:Nat):cj (v::l) (i+1)=cj l i:=rfl
@[go_sem] theorem LC (i:Nat):cj [] i= .bH []:=by simp[cj]
@[go_sem] theorem QZ {P:Program} {o:Nat->ab} {t:TypeId} {id off:Nat}:kV P o t (.ptr id off)=match o id with
 | .row cs=>match dM P t cs off with
   |some v=>some (v,[],[id])
   |none=>none
 |_=>none:=by unfold kV;exact Eq.trans rfl rfl
@[go_sem] theorem TZ {P:Program} {o:Nat->ab} {t:TypeId} {cs:List D} {off:Nat}:kV P o t (.pp cs off)=match dM P t (cs.map .d) off with
 |some v=>some (v,[],[])
 |none=>none:=by unfold kV;exact Eq.trans rfl rfl
@[go_sem] theorem T0 {P:Program} {o:Nat->ab} {t:TypeId} {id ep i sz off:Nat}:kV P o t (.pe id ep i sz off)=match o id with
 | .arr fU _ oP es=>if ep=fU/\sz=oP then match es[i]? with
  |some e=>match dM P t (e.cells.map .d) off with
   |some v=>some (v,[],[id])
   |none=>none
  |none=>none
   else none
 |_=>none:=by unfold kV;exact Eq.trans rfl rfl
section
variable {P:Program}{o:Nat->ab}{t:TypeId}{op:BinOp}{l7:Bool}
@[go_sem] theorem Q0 {k:IntKind} {a b:Int}:ed P o op t l7 (.d (.int k a)) (.d (.int k b))=match yi op k a b with
 |some v=>one v
 |none=>o9 P o op t l7 (.d (.int k a)) (.d (.int k b)):=by
  simp only[ed,vW,if_true]
  cases yi op k a b<;>rfl
@[go_sem] theorem Q1 {a b:Bool} (h:lR P t=true):ed P o .eql t l7 (.d (.bool a)) (.d (.bool b))=one (.d (.bool (a==b))):=by simp only[ed,vW,FY,h,if_true]
@[go_sem] theorem Q2 {a b:Bool} (h:lR P t=true):ed P o .neq t l7 (.d (.bool a)) (.d (.bool b))=one (.d (.bool (a !=b))):=by simp only[ed,vW,FY,h,if_true]
@[go_sem] theorem Q3 {a b:List UInt8}:ed P o .eql t l7 (.d (.str a)) (.d (.str b))=one (.d (.bool (a==b))):=Fb
@[go_sem] theorem Q4 {a b:List UInt8}:ed P o .neq t l7 (.d (.str a)) (.d (.str b))=one (.d (.bool (a !=b))):=Fb
@[go_sem] theorem Q5 {a b:List D}:ed P o op t l7 (.d (.agg a)) (.d (.agg b))=o9 P o op t l7 (.d (.agg a)) (.d (.agg b)):=Fb
theorem Ik{x:V}{y:V}(h:match y with| .d (.int _ _)| .d (.bool _)| .d (.str _)=>False|_=>True):vW P op t x y=none:=by
 unfold vW
 split<;>first|exact h.elim|rfl
@[go_sem] theorem N6 {x:V}:ed P o op t l7 x .aE=o9 P o op t l7 x .aE:=E5
@[go_sem] theorem N7 {x:V}:ed P o op t l7 x (.d .fi)=o9 P o op t l7 x (.d .fi):=E5
@[go_sem] theorem N8 {x:V}:ed P o op t l7 x (.d .kz)=o9 P o op t l7 x (.d .kz):=E5
@[go_sem] theorem N9 {x:V}:ed P o op t l7 x (.d .bO)=o9 P o op t l7 x (.d .bO):=E5
@[go_sem] theorem Oa {x:V}:ed P o op t l7 x (.d .eQ)=o9 P o op t l7 x (.d .eQ):=E5
@[go_sem] theorem T1 {b:Bool}:Dg .not (.d (.bool b))=some (.d (.bool !b)):=Fe
@[go_sem] theorem T2:Dg .not .eg=some .eg:=Fe
@[go_sem] theorem T3 {k:IntKind} {n:Int}:Dg .neg (.d (.int k n))=some (.d (.int k (k.wrap (-n)))):=Fe
end
@[go_sem] theorem D.Q6 (cs:List D):(D.agg cs).cells=cs:=rfl
@[go_sem] theorem D.Q7 (k:IntKind) (n:Int):(D.int k n).cells=[.int k n]:=rfl
@[go_sem] theorem D.Ob (b:Bool):(D.bool b).cells=[.bool b]:=rfl
@[go_sem] theorem D.Q8 (b:List UInt8):(D.str b).cells=[.str b]:=rfl
@[go_sem] theorem D.T4 (b:List D):(D.sl b).cells=[.sl b]:=rfl
@[go_sem] theorem D.T5 (a b:List D):(D.mp a b).cells=[.mp a b]:=rfl
@[go_sem] theorem D.LD (t:TypeId) (x:D):(D.iface t x).cells=[.iface t x]:=rfl
@[go_sem] theorem D.Oc:D.fi.cells=[.fi]:=rfl
@[go_sem] theorem D.Od:D.kz.cells=[.kz]:=rfl
@[go_sem] theorem D.Oe:D.bO.cells=[.bO]:=rfl
@[go_sem] theorem D.Of:D.eQ.cells=[.eQ]:=rfl
attribute [go_sem] V.ofConst V.cO yi FY nW AG uF mC fC fD pt eL jX nX nY nZ vX gS FZ jU dv bI dM vA pT mo V.cells D.put bP V.ids V.aZ ir D.iq D.flat R.flat
attribute [go_sem] Ai List.take_succ_cons List.take_zero List.take_nil List.drop_zero List.drop_succ_cons List.drop_nil
attribute [go_sem] List.map_cons List.map_nil List.length_cons List.length_nil List.cons_append List.nil_append List.append_nil List.getElem?_cons_zero List.getElem?_cons_succ Option.bind_some Option.bind_none Option.map_some Option.map_none ab.bM ab.bQ
section
variable {P:Program}{n b:Nat}{rd:Bool}{Q:eT->S->Prop}{s:S}
@[go_sem] theorem T6:kq P n b rd .skip Q s=Q .normal s:=propext Iff.rfl
@[go_sem] theorem Xy {l:List bB}:kq P n b rd (.ad l) Q s=pz P (fun v s=>Q (.bu v) s) (Q .normal) l s:=propext Iff.rfl
@[go_sem] theorem Xz {l:List bB} {pr:List (List Nat)}:kq P n b rd (.cX l pr) Q s=I2 P l pr Q s (pC l 0):=propext Iff.rfl
@[go_sem] theorem Q9 {l:List bB} {pr:List (List Nat)}:I2 P l pr Q s none=mV P (I1 pr (s.nx+l.length) Q) (yy pr l s Q) pr l s.nx s []:=propext Iff.rfl
@[go_sem] theorem T7 {k:Nat}:pC [] k=none:=rfl
@[go_sem] theorem T8 {d:Option Nat} {t:Nat} {args:Array Operand} {ts:Array TypeId} {l:List bB} {k:Nat}:pC (⟨d, .call ⟨.value (.tmp t),args,ts⟩,none⟩::l) k=some k:=rfl
@[go_sem] theorem XA {d:Option Nat} {op:Op} {g:Nat×Bool} {l:List bB} {k:Nat}:pC (⟨d,op,some g⟩::l) k=pC l (k+1):=rfl
@[go_sem] theorem T9 {d:Option Nat} {f:Nat} {args:Array Operand} {ts:Array TypeId} {l:List bB} {k:Nat}:pC (⟨d, .call ⟨.value (.func f),args,ts⟩,none⟩::l) k=pC l (k+1):=rfl
@[go_sem] theorem XB {d:Option Nat} {op:Op} {l:List bB} {k:Nat} (h:dH op=none):pC (⟨d,op,none⟩::l) k=pC l (k+1):=by rw[pC.eq_2];simp only[h]
@[go_sem] theorem XC {x y:IC}:kq P n b rd (.seq x y) Q s=kq P n b rd x (nP (fun s=>kq P n b rd y Q s) Q) s:=propext Iff.rfl
@[go_sem] theorem Ua {c:Operand} {x y:IC}:kq P n b rd (.cond c x y) Q s=uO (kq P n b rd x Q s) (kq P n b rd y Q s) (s.ev c):=propext Iff.rfl
@[go_sem] theorem Ra {id:Nat} {x:IC}:kq P n b rd (.block id x) Q s=kq P n b rd x (eh id Q) s:=propext Iff.rfl
@[go_sem] theorem Ub {x:IC}:kq P n b rd (.loop x) Q s=Cr b (fun Q s=>kq P n b rd x Q s) Q s:=propext Iff.rfl
@[go_sem] theorem Uc {id:Nat}:kq P n b rd (.exit id) Q s=Q (.exit id) s:=propext Iff.rfl
@[go_sem] theorem XE:kq P n b rd .ret Q s=Q .ret s:=propext Iff.rfl
@[go_sem] theorem XF {g:Operand} {ps:List Nat} {x y:IC}:kq P n b rd (.EI g ps x y) Q s=yG P n b rd g ps x y Q s (s.ev g):=propext Iff.rfl
@[go_sem] theorem Ud {X:V->S->Prop} {K:S->Prop}:pz P X K [] s=K s:=propext Iff.rfl
@[go_sem] theorem Rb {X:V->S->Prop} {K:S->Prop} {d:Option Nat} {op:Op} {l:List bB}:pz P X K (⟨d,op,none⟩::l) s=yE P X (pz P X K l) ⟨d,op,none⟩ s:=propext Iff.rfl
@[go_sem] theorem Rc {X:V->S->Prop} {K:S->Prop} {d:Option Nat} {op:Op} {g:Nat} {w:Bool} {l:List bB}:pz P X K (⟨d,op,some (g,w)⟩::l) s=wu P X (pz P X K l) ⟨d,op,some (g,w)⟩ s (kp (s.env g) w):=propext Iff.rfl
variable {X:V->S->Prop}{K:S->Prop}{d:Option Nat}{op:Op}{g:Option (Nat×Bool)}{f:Operand}{args:Array Operand}{ts:Array TypeId}{c:Bool}
@[reducible] def Re:Op->Bool
  | .call c=>match c.callee with
    | .value _=>true
    | .invoke .. =>true
    |_=>false
  | .panic _=>true
  | .next .. =>true
  |_=>false
@[go_sem] theorem Zm (h:Re op=false):yE P X K ⟨d,op,g⟩ s=iV (fun v Δ=>K ⟨aS s.env d v,put s.o Δ,s.nx+1⟩) (eR P s s.nx op):=by
  unfold yE
  cases op with
  |call c=>
   obtain⟨FN,args,ts⟩:=c
   cases FN with
   |value f=>simp[Re]at h
   |invoke r m=>simp[Re]at h
   |_=>rfl
  |panic x=>simp[Re]at h
  |next x str=>simp[Re]at h
  |_=>rfl
@[go_sem] theorem Ue {x:Operand} {str:Bool}:yE P X K ⟨d, .next x str,g⟩ s=Ge (fun v Δ=>K ⟨aS s.env d v,put s.o Δ,s.nx+1⟩) str (mw s.o (s.ev x) str) (my s.o (s.ev x)):=propext Iff.rfl
@[go_sem] theorem Uf:yE P X K ⟨d, .call ⟨.value f,args,ts⟩,g⟩ s=qi P (fun v o' nx'=>K ⟨aS s.env d v,o',nx'⟩) (fun v o' nx'=>X v ⟨s.env,o',nx'⟩) s (s.ev f) (args.toList.map s.ev):=propext Iff.rfl
@[go_sem] theorem Og {m:String}:yE P X K ⟨d, .call ⟨.invoke f m,args,ts⟩,g⟩ s=Gd P (fun v o' nx'=>K ⟨aS s.env d v,o',nx'⟩) (fun v o' nx'=>X v ⟨s.env,o',nx'⟩) s (args.toList.map s.ev) (rH P m (s.ev f)):=propext Iff.rfl
@[go_sem] theorem Rf:yE P X K ⟨d, .panic f,g⟩ s=DZ (fun v=>X v s) (s.ev f):=propext Iff.rfl
@[go_sem] theorem Rg:wu P X K ⟨d, .call ⟨.value f,args,ts⟩,g⟩ s (some c)=AY P X K ⟨d, .call ⟨.value f,args,ts⟩,g⟩ s f args.toList c:=propext Iff.rfl
theorem fH{e:Nat->V}{ob:Nat->ab}{nx:Nat}(h:Cn P ((⟨e,ob,nx⟩:S).ev f) (args.toList.map (⟨e,ob,nx⟩:S).ev) ob (fun v=>K ⟨aS e d v,ob,nx+1⟩) c):AY P X K ⟨d,op,g⟩ ⟨e,ob,nx⟩ f args.toList c:= .inl h
theorem yJ{s:S}{o:bB}{l:List Operand}(h:gf (yE P X K o s) (K ⟨aS s.env o.dst (.bH []),s.o,s.nx+1⟩) c):AY P X K o s f l c:= .inr h
@[go_sem] theorem Rh (h:jn op=true):wu P X K ⟨d,op,g⟩ s (some c)=iV (fun v _=>K ⟨aS s.env d v,s.o,s.nx+1⟩) (jm c (eR P s s.nx op)):=by
  have h2:dH op=none:=by
   cases hc:dH op with
   |none=>rfl
   |some x=>
    exfalso
    unfold dH at hc
    split at hc
    ·split at hc
     ·rename_i hv;simp[jn,hv]at h
     ·cases hc
    ·cases hc
  simp only[wu,h2,h,if_true]
@[go_sem] theorem Ri (h:jn op=false) (h2:dH op=none):wu P X K ⟨d,op,g⟩ s (some c)=gf (yE P X K ⟨d,op,g⟩ s) (K ⟨aS s.env d (.bH []),s.o,s.nx+1⟩) c:=by
  simp[wu,h2,h]
@[go_sem] theorem Oh {l:List Operand}:AY P X K ⟨d,op,g⟩ s f l false=K ⟨aS s.env d (.bH []),s.o,s.nx+1⟩:=by
  refine propext ⟨fun h=> ?_,fun h=> .inr ⟨(fun e=>by cases e),fun _=>h⟩⟩
  rcases h with⟨rs,_,h⟩|h
  ·exact h
  ·exact h.2 rfl
@[go_sem] theorem Rj {l:List Operand} (hl:args.toList=l):AY P X K ⟨d, .call ⟨.value f,args,ts⟩,g⟩ s f l true=yE P X K ⟨d, .call ⟨.value f,args,ts⟩,g⟩ s:=by
  subst hl
  refine propext ⟨fun h=> ?_,fun h=> .inr ⟨fun _=>h,(fun e=>by cases e)⟩⟩
  rcases h with⟨rs,h1,h⟩|h
  ·have h1:=h1 rfl
   unfold yB at h1
   unfold yE qi lb
   simp only
   split at h1
   ·rename_i fv gg first cap hf
    simp only[hf]
    split at h1
    ·rename_i ds dT
     simp only[dT]
     exact .inl ⟨.ret rs,h1.1, .inr (.inl ⟨h1.2,h⟩)⟩
    ·exact h1.elim
   ·exact h1.elim
  ·exact h.1 rfl
variable {KV:KD}{XV:XD}
@[go_sem] theorem Ug {fr:Nat}:H3 P KV XV fr ⟨d, .call ⟨.value f,args,ts⟩,g⟩ s=yF P KV XV s.o s.nx fr (mh s (.call ⟨.value f,args,ts⟩)) (s.ev f) (args.toList.map s.ev):=propext Iff.rfl
@[go_sem] theorem Zn {fr:Nat} (h2:dH op=none):H3 P KV XV fr ⟨d,op,g⟩ s=r9 KV (mh s op) (eR P s fr op):=by simp[H3,h2]
variable {KS:S->Prop}
@[go_sem ↓] theorem I6:nP KS Q .normal s=KS s:=propext Iff.rfl
@[go_sem ↓] theorem Oi {id:Nat}:nP KS Q (.exit id) s=Q (.exit id) s:=propext Iff.rfl
@[go_sem ↓] theorem Rk:nP KS Q .ret s=Q .ret s:=propext Iff.rfl
@[go_sem ↓] theorem Rl {v:V}:nP KS Q (.bu v) s=Q (.bu v) s:=propext Iff.rfl
@[go_sem ↓] theorem H4 {id:Nat}:eh id Q .normal s=Q .normal s:=propext Iff.rfl
@[go_sem ↓] theorem LF {id:Nat}:eh id Q (.exit id) s=Q .normal s:=by simp[eh]
@[go_sem ↓] theorem I7 {id j:Nat} (h:j≠id):eh id Q (.exit j) s=Q (.exit j) s:=by simp[eh,h]
@[go_sem ↓] theorem Oj {id:Nat}:eh id Q .ret s=Q .ret s:=propext Iff.rfl
@[go_sem ↓] theorem Ol {id:Nat} {v:V}:eh id Q (.bu v) s=Q (.bu v) s:=propext Iff.rfl
def I8(out:R)(x:Option (List D)):Prop:=match x with|some ds=>out= .ret ds|none=>False
@[go_sem] theorem Rm {out:R} {ds:List D}:I8 out (some ds)=(out= .ret ds):=propext Iff.rfl
def Om(out:R)(x:Option D):Prop:=match x with|some d=>out= .bu d|none=>False
@[go_sem] theorem Rn {out:R} {d:D}:Om out (some d)=(out= .bu d):=propext Iff.rfl
def I9(out:R)(o:Nat->ab)(x:Option (List V)):Prop:=match x with|some vs=>I8 out (bI o vs)|none=>False
@[go_sem] theorem Ro {out:R} {o:Nat->ab} {vs:List V}:I9 out o (some vs)=I8 out (bI o vs):=propext Iff.rfl
variable {rs:List ResultVar}{out:R}
@[go_sem ↓] theorem Rp:vQ P rs out .ret s=I9 out s.o (jU P s rs):=propext Iff.rfl
@[go_sem ↓] theorem Ja:vQ P rs out .normal s=I9 out s.o (jU P s rs):=propext Iff.rfl
@[go_sem ↓] theorem Rq {v:V}:vQ P rs out (.bu v) s=Om out (dv s.o v):=propext Iff.rfl
def yK(K:V->(Nat->ab)->Nat->Prop)(o:Nat->ab)(nx:Nat)(x:Fix (Option (List V)) (K,o,nx)):Prop:=match x with
 |some [v]=>K v o nx
 |some vs=>K (.bH vs) o nx
 |none=>False
@[go_sem] theorem Uh {K:V->(Nat->ab)->Nat->Prop} {o:Nat->ab} {nx:Nat} {v:V}:yK K o nx (some [v])=K v o nx:=propext Iff.rfl
@[go_sem] theorem Ui {K:V->(Nat->ab)->Nat->Prop} {o:Nat->ab} {nx:Nat}:yK K o nx (some [])=K (.bH []) o nx:=propext Iff.rfl
@[go_sem] theorem Uj {K:V->(Nat->ab)->Nat->Prop} {o:Nat->ab} {nx:Nat} {v u:V} {l:List V}:yK K o nx (some (v::u::l))=K (.bH (v::u::l)) o nx:=propext Iff.rfl
theorem Ct{K X:V->(Nat->ab)->Nat->Prop}:jW P rs K X .ret s=yK K s.o s.nx (jU P s rs):=by
 unfold jW yK
 cases jU P s rs with
 |none=>rfl
 |some l=>match l with
  |[]=>rfl
  |[_]=>rfl
  |_::_::_=>rfl
@[go_sem ↓] theorem Uk {K X:V->(Nat->ab)->Nat->Prop}:Gh P rs K X .ret s=yK K s.o s.nx (jU P s rs):=Ct
@[go_sem ↓] theorem LG {K X:V->(Nat->ab)->Nat->Prop}:Gh P rs K X .normal s=yK K s.o s.nx (jU P s rs):=(Ct (X:=X):jW P rs K X .ret s=_)
@[go_sem ↓] theorem Ul {K X:V->(Nat->ab)->Nat->Prop} {v:V}:Gh P rs K X (.bu v) s=X v s.o s.nx:=propext Iff.rfl
variable {KE:S->Fp->Prop}{KP:V->List Nat->Fp->Prop}{pr:List (List Nat)}{fr:Nat}{fp:Fp}
@[go_sem] theorem Um:mV P KE KP pr [] fr s fp=KE s fp:=propext Iff.rfl
@[go_sem] theorem Rr {d:Option Nat} {op:Op} {l:List bB}:mV P KE KP pr (⟨d,op,none⟩::l) fr s fp=
 H3 P (fun v Δ rd=>mV P KE KP pr l (fr+1) ⟨aS s.env d v,put s.o Δ,s.nx⟩ (fp++[(rd,Δ.map (·.1))]))
  (fun v ws rd=>D0 P (KP v) pr l (fr+1) (fp++[(rd,[])]) [fp.length] (ws++fp.flatMap (·.2)) ⟨aS s.env d .aa,s.o,s.nx⟩) fr ⟨d,op,none⟩ s:=propext Iff.rfl
@[go_sem] theorem Rs {d:Option Nat} {op:Op} {g:Nat} {w:Bool} {l:List bB}:mV P KE KP pr (⟨d,op,some (g,w)⟩::l) fr s fp=
 iw w (H3 P (fun v Δ rd=>mV P KE KP pr l (fr+1) ⟨aS s.env d v,put s.o Δ,s.nx⟩ (fp++[(rd,Δ.map (·.1))]))
  (fun v ws rd=>D0 P (KP v) pr l (fr+1) (fp++[(rd,[])]) [fp.length] (ws++fp.flatMap (·.2)) ⟨aS s.env d .aa,s.o,s.nx⟩) fr ⟨d,op,some (g,w)⟩ s)
   (mV P KE KP pr l (fr+1) ⟨aS s.env d (.bH []),s.o,s.nx⟩ (fp++[([],[])])) (s.env g):=propext Iff.rfl
end
attribute [go_sem] Re dH jn eR one jY aS S.ev yB
theorem aw{ι:Type}{b:Nat}{st:ι->S}{cc:ι->Prop}{mW:ι->Nat}{i:ι}{s:S}(j:ι)(h1:cc j)(h2:mW j<mW i)(h3:bG b s (st j)):Cq b st cc mW i s:=⟨j,h1,h2,h3⟩
attribute [irreducible] I2 LA kq pz yE wu AY qi lb yD Gc Gd Cn r8 yC iV DZ gf iw Gf pA wv pB yF r9 H3 mV D0 yG uN Gh yK I1 uO Cr I8 Om I9 sa Cq
end
end Go.Proofs.YtlhemmpklhhgoaaGreat
