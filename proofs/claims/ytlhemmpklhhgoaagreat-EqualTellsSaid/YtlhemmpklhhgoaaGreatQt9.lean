/-
  A PART OF THE PROOF. Conditions: none.
-/
import Derived.Test.YtlhemmpklhhgoaaGreatQt8
set_option linter.unusedSimpArgs false
set_option linter.unusedVariables false
namespace Go.Proofs.YtlhemmpklhhgoaaGreat
section
def tA(P:Program)(g:FuncId)(ds:List D)(Kf Kb KX:V->Prop):Prop:=
 (∃rs,aV P g ds (.ret rs)/\(Kf (iV rs)\/(D.jL rs=true/\Kb (iV rs))))\/(∃x,aV P g ds (.bL x)/\x.flat=true/\KX (.d x))\/(∃v,Nd P g ds v/\Kf v)
def iX(P:Program)(g:FuncId)(args:List V)(o:Nat->ab)(nx fr:Nat)(K:V->List (Nat×ab)->List Nat->Prop)(KX:V->List Nat->List Nat->Prop):Prop:=
 ∃rd Δ,rd.all (fun id=>decide (id<nx))=true/\((∃rs,Bn P g args rd o (.ret rs) Δ/\K (iV rs) Δ rd)\/(∃x,Bn P g args rd o (.bL x) Δ/\KX (.d x) (Δ.map (·.1)) rd)\/(∃v,Bo P g args rd o fr v Δ/\K v Δ rd))
def Bq(P:Program)(s:S)(fr:Nat)(o:bV)(K:V->List (Nat×ab)->List Nat->Prop)(KX:V->List Nat->List Nat->Prop):Prop:=
 match o.op with
 | .call c=>match c.callee with
   | .value f=>match s.ev f with
     | .func (.func g) first cap=>match cf s.o (first++c.args.toList.map s.ev++cap)with
       |some ds=>tA P g ds (fun v=>K v (bE s.o (V.bp (first++c.args.toList.map s.ev++cap))) (oR s o.op)) (fun v=>K v [] (oR s o.op)) (fun v=>KX v [] (oR s o.op))\/iX P g (first++c.args.toList.map s.ev++cap) s.o s.nx fr K KX
       |none=>iX P g (first++c.args.toList.map s.ev++cap) s.o s.nx fr K KX
     |_=>False
   |_=>match gG P s fr o.op with
    |some (v,Δ,_)=>K v Δ (oR s o.op)
    |none=>False
 |op=>match gG P s fr op with
  |some (v,Δ,_)=>K v Δ (oR s o.op)
  |none=>False
abbrev Fp:=List (List Nat×List Nat)
def iq(P:Program)(KB:List Nat->Fp->Prop)(pr:List (List Nat)):List bV->Nat->S->Fp->List Nat->List Nat->Prop
 |[],_,_,fp,_,ws=>KB ws fp
 |o::l,fr,s,fp,bad,ws=>if(pr.getD fp.length []).any (fun j=>bad.contains j)=true then iq P KB pr l (fr+1) ⟨a8 s.env o.dst .ad,s.o,s.nx⟩ (fp++[([],[])]) (bad++[fp.length]) ws
  else match o.gd with
  |none=>Bq P s fr o (fun v Δ rd=>iq P KB pr l (fr+1) ⟨a8 s.env o.dst v,put s.o Δ,s.nx⟩ (fp++[(rd,Δ.map (·.1))]) bad (ws++Δ.map (·.1))) (fun _ _ _=>False)
  |some (d,want)=>match s.env d with
   | .d (.bool b)=>if b=want then Bq P s fr o (fun v Δ rd=>iq P KB pr l (fr+1) ⟨a8 s.env o.dst v,put s.o Δ,s.nx⟩ (fp++[(rd,Δ.map (·.1))]) bad (ws++Δ.map (·.1))) (fun _ _ _=>False)
    else iq P KB pr l (fr+1) ⟨a8 s.env o.dst (.bS []),s.o,s.nx⟩ (fp++[([],[])]) bad ws
   | .bS []=>iq P KB pr l (fr+1) ⟨a8 s.env o.dst (.bS []),s.o,s.nx⟩ (fp++[([],[])]) bad ws
   |_=>False
def kQ(P:Program)(K:S->Fp->Prop)(KP:V->List Nat->Fp->Prop)(pr:List (List Nat)):List bV->Nat->S->Fp->Prop
 |[],_,s,fp=>K s fp
 |o::l,fr,s,fp=>match o.gd with
  |none=>Bq P s fr o (fun v Δ rd=>kQ P K KP pr l (fr+1) ⟨a8 s.env o.dst v,put s.o Δ,s.nx⟩ (fp++[(rd,Δ.map (·.1))]))
   (fun v ws rd=>iq P (KP v) pr l (fr+1) ⟨a8 s.env o.dst .ad,s.o,s.nx⟩ (fp++[(rd,[])]) [fp.length] (ws++fp.flatMap (·.2)))
  |some (d,want)=>match s.env d with
   | .d (.bool b)=>if b=want then Bq P s fr o (fun v Δ rd=>kQ P K KP pr l (fr+1) ⟨a8 s.env o.dst v,put s.o Δ,s.nx⟩ (fp++[(rd,Δ.map (·.1))]))
         (fun v ws rd=>iq P (KP v) pr l (fr+1) ⟨a8 s.env o.dst .ad,s.o,s.nx⟩ (fp++[(rd,[])]) [fp.length] (ws++fp.flatMap (·.2)))
    else kQ P K KP pr l (fr+1) ⟨a8 s.env o.dst (.bS []),s.o,s.nx⟩ (fp++[([],[])])
   | .bS []=>kQ P K KP pr l (fr+1) ⟨a8 s.env o.dst (.bS []),s.o,s.nx⟩ (fp++[([],[])])
   |_=>False
def EJ(pr:List (List Nat))(nx:Nat)(Q:fL->S->Prop)(s:S)(fp:Fp):Prop:=eS pr fp=true/\Q .normal ⟨s.env,s.o,nx⟩
def dstsOf(l:List bV):List Nat:=l.filterMap (·.dst)
def Cw(pr:List (List Nat))(l:List bV)(s0:S)(Q:fL->S->Prop)(v:V)(wl:List Nat)(fp:Fp):Prop:=eS pr fp=true/\Q (.bL v) (vG (dstsOf l) wl l.length s0)
def nz:List bV->List fq->S->Nat->S
 |_,_,s,0=>s
 |o::l,x::xs,s,j+1=>nz l xs (xj o.dst x s) j
 |_,_,s,_=>s
def yD(cm:List fq):Fp:=cm.map fun x=>(xJ x,kO x)
section
variable {P:Program}{n b:Nat}
theorem Cy{s:S}{fr:Nat}{o:bV}{K:V->List (Nat×ab)->List Nat->Prop}{KX:V->List Nat->List Nat->Prop}(h:Bq P s fr o K KX):(∃v Δ rd,yz P s fr o.op v Δ rd/\K v Δ rd)\/(∃v ws rd,Co P s o.op v ws rd/\KX v ws rd):=by
 have hs:∀ {op:Op},o.op=op->(match gG P s fr op with|some (v,Δ,_)=>K v Δ (oR s o.op)|none=>False)->(∃v Δ rd,yz P s fr o.op v Δ rd/\K v Δ rd):=by
  intro op gf h
  split at h
  ·rename_i v Δ rd he;exact⟨v,Δ,_, .inl ⟨⟨rd,by rw[gf];exact he⟩,rfl⟩,h⟩
  ·exact h.elim
 unfold Bq at h
 split at h
 ·rename_i c hc
  split at h
  ·rename_i f fe
   split at h
   ·rename_i g first cap hf
    split at h
    ·rename_i ds ff
     rcases h with(⟨rs,hP,h|⟨mV,h⟩⟩|⟨x,hP,mV,h⟩|⟨v,hP,h⟩)|⟨rd,Δ,mJ,⟨rs,hH,h⟩|⟨x,hH,h⟩|⟨v,hH,h⟩⟩
     ·exact .inl ⟨_,_,_, .inr ⟨c,f,g,first,cap,hc,fe,hf, .inl ⟨ds,rs,ff,hP,rfl,rfl, .inl rfl⟩⟩,h⟩
     ·exact .inl ⟨_,_,_, .inr ⟨c,f,g,first,cap,hc,fe,hf, .inl ⟨ds,rs,ff,hP,rfl,rfl, .inr ⟨mV,rfl⟩⟩⟩,h⟩
     ·exact .inr ⟨_,_,_,⟨c,f,g,first,cap,hc,fe,hf, .inl ⟨ds,x,ff,hP,mV,rfl,rfl,rfl⟩⟩,h⟩
     ·exact .inl ⟨_,_,_, .inr ⟨c,f,g,first,cap,hc,fe,hf, .inr (.inr (.inl ⟨ds,ff,hP,rfl,rfl⟩))⟩,h⟩
     ·exact Yx
     ·exact YA
     ·exact Yy
    ·obtain⟨rd,Δ,mJ,⟨rs,hH,h⟩|⟨x,hH,h⟩|⟨v,hH,h⟩⟩:=h
     ·exact Yx
     ·exact YA
     ·exact Yy
   ·exact h.elim
  ·rw[hc]at h;exact .inl (hs hc (by rw[hc];exact h))
 ·exact .inl (hs rfl h)
def N5(P:Program)(KB:List Nat->Fp->Prop)(pr:List (List Nat))(l:List bV)(fr:Nat)(s:S)(fp:Fp)(bad ws:List Nat):Prop:=
    ∃cm:List fq,cm.length=l.length/\(∀j o x,l[j]? =some o->cm[j]? =some x->Rj P (nz l cm s j) (fr+j) o x)/\
     (∀ (j:Nat),cm[j]? =some fq.ej->∃i∈pr.getD (fp.length+j) [],i∈bad\/∃j',j'<j/\i=fp.length+j'/\cm[j']? =some .ej)/\(∀x∈cm,x= .ej\/x.ok=true)/\
     ∃wl,KB wl (fp++yD cm)/\(∀id∈ws,id∈wl)/\∀x∈cm,∀id∈kO x,id∈wl
theorem Cz{KB:List Nat->Fp->Prop}{pr:List (List Nat)}:∀ (l:List bV) (fr:Nat) (s:S) (fp:Fp) (bad ws:List Nat),iq P KB pr l fr s fp bad ws->N5 P KB pr l fr s fp bad ws
 |[],fr,s,fp,bad,ws,h=>⟨[],rfl,fun j o x hj=>by simp at hj,fun j hj=>by simp at hj,fun x hx=>by simp at hx,ws,by simpa[yD,iq]using h,fun _ h=>h,fun x hx=>by simp at hx⟩
 |o::l,fr,s,fp,bad,ws,h=>by
  have step:∀ (x:fq) (N6 Rm:List Nat),Rj P s fr o x->iq P KB pr l (fr+1) (xj o.dst x s) (fp++[(xJ x,kO x)]) N6 Rm->(x= .ej\/x.ok=true)->(x= .ej->∃i∈pr.getD fp.length [],i∈bad)->
   (∀i∈N6,i∈bad\/(i=fp.length/\x= .ej))->(∀id∈ws,id∈Rm)->(∀id∈kO x,id∈Rm)->
   N5 P KB pr (o::l) fr s fp bad ws:=by
   intro x N6 Rm aW hr T4 Ih T3 N4 hW
   obtain⟨cm,h1,h2,h3,h4,wl,h5,h6,h7⟩:=Cz l (fr+1) _ _ N6 Rm hr
   refine⟨x::cm,by simp[h1],fun j o' y hj hy=> ?_,fun j hj=> ?_,fun y hy=> ?_,wl,by simpa[yD]using h5,fun id aw=>h6 id (N4 id aw),fun y hy id aw=> ?_⟩
   ·cases j with
    |zero=>exact JM
    |succ j=>
     have:=h2 j o' y mP (by simpa using hy)
     exact TO
   ·cases j with
    |zero=>
     simp at hj
     obtain⟨i,i1,i2⟩:=Ih hj
     exact⟨i,by simpa using i1, .inl i2⟩
    |succ j=>
     obtain⟨i,i1,i2⟩:=h3 j mP
     simp only[List.length_append,List.length_cons,List.length_nil]at i1 i2
     refine⟨i,by rw[show fp.length+(j+1)=fp.length+(0+1)+j by omega];exact i1, ?_⟩
     rcases i2 with i2|⟨j',j1,j2,j3⟩
     ·rcases T3 i i2 with hb|⟨e1,e2⟩
      ·exact .inl hb
      ·exact .inr ⟨0,af,af,by simp[e2]⟩
     ·exact .inr ⟨j'+1,af,af,by simpa using j3⟩
   ·rcases List.mem_cons.1 hy with rfl|hy
    ·exact T4
    ·exact h4 y hy
   ·rcases List.mem_cons.1 hy with rfl|hy
    ·exact h6 id (hW id aw)
    ·exact h7 y hy id aw
  simp only[iq]at h
  split at h
  ·rename_i hb
   obtain⟨j,hj1,Nb⟩:=List.any_eq_true.1 hb
   exact step .ej _ _ trivial h (.inl rfl) (fun _=>⟨j,hj1,by simpa using Nb⟩) (fun i hi=>by
    rcases List.mem_append.1 hi with hi|hi
    ·exact .inl hi
    ·exact .inr ⟨by simpa using hi,rfl⟩) (fun _ h=>h) (fun id aw=>by simp[kO]at aw)
  ·have vK:dT s o.gd true->Bq P s fr o (fun v Δ rd=>iq P KB pr l (fr+1) ⟨a8 s.env o.dst v,put s.o Δ,s.nx⟩ (fp++[(rd,Δ.map (·.1))]) bad (ws++Δ.map (·.1))) (fun _ _ _=>False)->N5 P KB pr (o::l) fr s fp bad ws:=fun hg h=>by
    rcases Cy h with⟨v,Δ,rd,jZ,h⟩|⟨v,Rm,rd,_,h⟩
    ·exact step (.val v Δ rd) bad (ws++Δ.map (·.1)) ⟨hg,jZ⟩ h (.inr rfl) (fun h=>by cases h) (fun i hi=> .inl hi) (fun id aw=>List.mem_append.2 (.inl aw)) (fun id aw=>List.mem_append.2 (.inr aw))
    ·exact h.elim
   have skip:dT s o.gd false->iq P KB pr l (fr+1) ⟨a8 s.env o.dst (.bS []),s.o,s.nx⟩ (fp++[([],[])]) bad ws->N5 P KB pr (o::l) fr s fp bad ws:=fun hg h=>
    step .skip bad ws hg h (.inr rfl) (fun h=>by cases h) (fun i hi=> .inl hi) (fun id aw=>aw) (fun id aw=>by simp[kO]at aw)
   split at h
   ·rename_i hg;exact vK (by rw[hg];rfl) h
   ·rename_i d want hg
    split at h
    ·rename_i c hv
     split at h
     ·rename_i e;exact vK FH h
     ·rename_i e;exact skip FH h
    ·rename_i hv;exact skip (by rw[hg];simp[dT,hv]) h
    ·exact h.elim
def KU(P:Program)(K:S->Fp->Prop)(KP:V->List Nat->Fp->Prop)(pr:List (List Nat))(l:List bV)(fr:Nat)(s:S)(fp:Fp):Prop:=
 ∃cm:List fq,cm.length=l.length/\(∀j o x,l[j]? =some o->cm[j]? =some x->Rj P (nz l cm s j) (fr+j) o x)/\
  (((∀x∈cm,x.ok=true)/\K (nz l cm s l.length) (fp++yD cm))\/
   ∃v wl,(∀ (j:Nat) (v':V) (ws rd:List Nat),cm[j]? =some (fq.bL v' ws rd)->v'=v/\∀id∈ws,id∈wl)/\(∃x∈cm,x.ok=false)/\
    (∀ (j:Nat),cm[j]? =some fq.ej->∃i∈pr.getD (fp.length+j) [],∃j',i=fp.length+j'/\∃y,cm[j']? =some y/\y.ok=false)/\KP v wl (fp++yD cm)/\(∀x∈cm,∀id∈kO x,id∈wl)/\∀id∈fp.flatMap (·.2),id∈wl)
theorem vL{K:S->Fp->Prop}{KP:V->List Nat->Fp->Prop}{pr:List (List Nat)}:∀ (l:List bV) (fr:Nat) (s:S) (fp:Fp),kQ P K KP pr l fr s fp->KU P K KP pr l fr s fp
 |[],fr,s,fp,h=>⟨[],rfl,fun j o x hj=>by simp at hj, .inl ⟨fun x hx=>by simp at hx,by simpa[nz,yD,kQ]using h⟩⟩
 |o::l,fr,s,fp,h=>by
  have step:∀ (x:fq),x.ok=true->Rj P s fr o x->kQ P K KP pr l (fr+1) (xj o.dst x s) (fp++[(xJ x,kO x)])->KU P K KP pr (o::l) fr s fp:=by
   intro x hxo aW hr
   obtain⟨cm,h1,h2,h3⟩:=vL l (fr+1) _ _ hr
   refine⟨x::cm,by simp[h1],fun j o' y hj hy=> ?_, ?_⟩
   ·cases j with
    |zero=>exact JM
    |succ j=>
     have:=h2 j o' y mP (by simpa using hy)
     exact TO
   ·rcases h3 with⟨h3,h4⟩|⟨v,wl,g1,g2,g3,g4,g5,g6⟩
    ·left
     refine⟨fun y hy=> ?_,by simpa[nz,yD]using h4⟩
     rcases List.mem_cons.1 hy with rfl|hy
     ·exact hxo
     ·exact h3 y hy
    ·right
     refine⟨v,wl,fun j v' ws rd hj=> ?_, ?_,fun j hj=> ?_,by simpa[yD]using g4,fun y hy id aw=> ?_,fun id aw=>g6 id (by simp only[List.flatMap_append,List.mem_append];exact .inl aw)⟩
     ·cases j with
      |zero=>simp at hj;rw[hj]at hxo;cases hxo
      |succ j=>exact g1 j v' ws rd mP
     ·obtain⟨y,y1,y2⟩:=g2;exact⟨y,by simp[y1],y2⟩
     ·cases j with
      |zero=>simp at hj;rw[hj]at hxo;cases hxo
      |succ j=>
       obtain⟨i,i1,j',i2,y,i3,i4⟩:=g3 j mP
       simp only[List.length_append,List.length_cons,List.length_nil]at i1 i2
       exact⟨i,by rw[show fp.length+(j+1)=fp.length+(0+1)+j by omega];exact i1,j'+1,af,y,by simpa using i3,i4⟩
     ·rcases List.mem_cons.1 hy with rfl|hy
      ·exact g6 id (by simp only[List.flatMap_append,List.mem_append];exact .inr (by simpa using aw))
      ·exact g5 y hy id aw
  have bL:∀ (v:V) (ws rd:List Nat),Rj P s fr o (.bL v ws rd)->iq P (KP v) pr l (fr+1) ⟨a8 s.env o.dst .ad,s.o,s.nx⟩ (fp++[(rd,[])]) [fp.length] (ws++fp.flatMap (·.2))->KU P K KP pr (o::l) fr s fp:=by
   intro v ws rd aW hr
   obtain⟨cm,h1,h2,h3,h4,wl,h5,h6,h7⟩:=Cz l (fr+1) _ _ _ _ hr
   refine⟨fq.bL v ws rd::cm,by simp[h1],fun j o' y hj hy=> ?_, .inr ⟨v,wl,fun j v' Rm um hj=> ?_,⟨fq.bL v ws rd,aH,rfl⟩,fun j hj=> ?_,by simpa[yD,xJ,kO]using h5,fun y hy id aw=> ?_,fun id aw=>h6 id (List.mem_append.2 (.inr aw))⟩⟩
   ·cases j with
    |zero=>exact JM
    |succ j=>
     have:=h2 j o' y mP (by simpa using hy)
     exact TO
   ·cases j with
    |zero=>simp at hj;obtain⟨rfl,rfl,rfl⟩:=hj;exact⟨rfl,fun id aw=>h6 id (List.mem_append.2 (.inl aw))⟩
    |succ j=>
     have hm:=List.mem_of_getElem? (show cm[j]? =some (.bL v' Rm um) by simpa using hj)
     rcases h4 _ hm with h|h<;>cases h
   ·cases j with
    |zero=>simp at hj
    |succ j=>
     obtain⟨i,i1,i2⟩:=h3 j mP
     simp only[List.length_append,List.length_cons,List.length_nil]at i1 i2
     refine⟨i,by rw[show fp.length+(j+1)=fp.length+(0+1)+j by omega];exact i1, ?_⟩
     rcases i2 with i2|⟨j',j1,j2,j3⟩
     ·exact⟨0,by simpa using i2,_,rfl,rfl⟩
     ·exact⟨j'+1,af, .ej,by simpa using j3,rfl⟩
   ·rcases List.mem_cons.1 hy with rfl|hy
    ·simp[kO]at aw
    ·exact h7 y hy id aw
  have vK:dT s o.gd true->Bq P s fr o (fun v Δ rd=>kQ P K KP pr l (fr+1) ⟨a8 s.env o.dst v,put s.o Δ,s.nx⟩ (fp++[(rd,Δ.map (·.1))]))
   (fun v ws rd=>iq P (KP v) pr l (fr+1) ⟨a8 s.env o.dst .ad,s.o,s.nx⟩ (fp++[(rd,[])]) [fp.length] (ws++fp.flatMap (·.2)))->KU P K KP pr (o::l) fr s fp:=fun hg h=>by
   rcases Cy h with⟨v,Δ,rd,jZ,h⟩|⟨v,ws,rd,jZ,h⟩
   ·exact step (.val v Δ rd) rfl ⟨hg,jZ⟩ h
   ·exact bL v ws rd ⟨hg,jZ⟩ h
  have skip:dT s o.gd false->kQ P K KP pr l (fr+1) ⟨a8 s.env o.dst (.bS []),s.o,s.nx⟩ (fp++[([],[])])->KU P K KP pr (o::l) fr s fp:=fun hg h=>step .skip rfl hg h
  simp only[kQ]at h
  split at h
  ·rename_i hg;exact vK (by rw[hg];rfl) h
  ·rename_i d want hg
   split at h
   ·rename_i c hv
    split at h
    ·rename_i e;exact vK FH h
    ·rename_i e;exact skip FH h
   ·rename_i hv;exact skip (by rw[hg];simp[dT,hv]) h
   ·exact h.elim
end
end
section
def pH(env:Nat->V):List Nat->List V->Nat->V
 |t::ps,v::vs=>pH (ay env t v) ps vs
 |_,_=>env
def EK(pr:List (List Nat))(m:Nat):Bool:=(List.range pr.length).all fun k=>Nat.blt k m||Nat.beq ((eJ pr []).getD k 0) (2^k - 1)
def KW(P:Program)(l:List bV)(pr:List (List Nat))(Q:fL->S->Prop)(s:S):Prop:=
 ∃m,m<=l.length/\EK pr m=true/\kQ P (fun s' fp=>eS pr fp=true/\pF P (fun v s=>Q (.bL v) s) (Q .normal) (l.drop m) ⟨s'.env,s'.o,s.nx+m⟩) (fun _ _ _=>False) pr (l.take m) s.nx s []
def ux(P:Program)(n b:Nat)(rd:Bool):IC->(fL->S->Prop)->S->Prop
 | .skip,Q,s=>Q .normal s
 | .ag l,Q,s=>pF P (fun v s=>Q (.bL v) s) (Q .normal) l s
 | .de l pr,Q,s=>kQ P (EJ pr (s.nx+l.length) Q) (Cw pr l s Q) pr l s.nx s []\/KW P l pr Q s
 | .seq x y,Q,s=>ux P n b rd x (qB (ux P n b rd y Q) Q) s
 | .cond c x y,Q,s=>match s.ev c with
   | .d (.bool t)=>qN t (ux P n b rd x Q s) (ux P n b rd y Q s)
   | .fC=>ux P n b rd x Q s/\ux P n b rd y Q s
   |_=>False
 | .block id x,Q,s=>ux P n b rd x (fF id Q) s
 | .loop x,Q,s=>KL b (ux P n b rd x) Q s
 | .exit id,Q,s=>Q (.exit id) s
 | .ret,Q,s=>Q .ret s
 | .Jj g ps x y,Q,s=>rd=false/\Z2 P n b g ps x y Q s
 | .bad,_,_=>False
section
variable {P:Program}{n b:Nat}{rd:Bool}
theorem vM:∀ (l:List bV) (cm:List fq) (s:S) (k:Nat) (o:bV) (x:fq),l[k]? =some o->cm[k]? =some x->nz l cm s (k+1)=xj o.dst x (nz l cm s k)
 |[],_,_,_,_,_,h,_=>by simp at h
 |o::l,[],_,_,_,_,_,h=>by simp at h
 |o::l,x::xs,s,0,o',x',h,h'=>by simp at h h';subst h;subst h';cases l<;>cases xs<;>rfl
 |o::l,x::xs,s,k+1,o',x',h,h'=>by
  simp only[nz]
  exact vM l xs _ k o' x' (by simpa using h) (by simpa using h')
theorem yE(l:List bV)(cm:List fq)(s:S)(hl:cm.length=l.length):∀k,k<=l.length->eL (bY l) (fun i=>cm.getD i default) (fun _=>true) s k=nz l cm s k:=by
 intro k
 induction k with
 |zero=>intro _;cases l<;>cases cm<;>rfl
 |succ k ih=>
  intro hk
  have h1:l[k]? =some (bY l k):=by simp[bY,List.getD_eq_getElem?_getD,List.getElem?_eq_getElem (by omega:k<l.length)]
  have h2:cm[k]? =some (cm.getD k default):=by simp[List.getD_eq_getElem?_getD,List.getElem?_eq_getElem (by omega:k<cm.length)]
  simp only[eL,if_true,ih (by omega)]
  rw[vM l cm s k _ _ h1 h2]
theorem nA{ops:Array Oper}:∀ (l:List Oper) (l':List bV),lj n ops l=some l'->l'.length=l.length
 |[],_,h=>by simp[lj]at h;subst h;rfl
 |o::l,l',h=>by
  simp only[lj]at h
  split at h
  ·rename_i hx;injection h with h;subst h;simp[nA l _ hx]
  ·cases h
theorem Il(br:P.follows .mixedOrders=true){id:Nat}{ops:Array Oper}{l:List bV}{Q Q':fL->S->Prop}{s:S}(hQ:∀e s,Q e s->Q' e s)(su:lj n ops ops.toList=some l)(ht:zE l (gK ops)=true)
 (hp:TQ (gK ops)=true) (h:kQ P (EJ (gK ops) (s.nx+l.length) Q) (Cw (gK ops) l s Q) (gK ops) l s.nx s []):jd P n b rd (.region id ops true) Q' s:=by
 intro M cL H0 w0 cx φ a w ro k hs
 obtain⟨cm,hl,aW,jl⟩:=vL l _ _ _ h
 have hlen:l.length=ops.size:=by rw[nA _ _ su];simp
 have tn:∀k,k<ops.size->(gK ops).getD k []=bF ops k:=by
  intro k hk;simp[gK,List.getD_eq_getElem?_getD,List.getElem?_map,List.getElem?_range hk]
 have zO:(gK ops).length=ops.size:=by simp[gK]
 have jZ:=yE l cm s hl
 have Jg:∀k,k<ops.size->l[k]? =some (bY l k):=fun k hk=>by simp[bY,List.getD_eq_getElem?_getD,List.getElem?_eq_getElem (by omega:k<l.length)]
 have xg:∀k,k<ops.size->cm[k]? =some (cm.getD k default):=fun k hk=>by simp[List.getD_eq_getElem?_getD,List.getElem?_eq_getElem (by omega:k<cm.length)]
 have oI:∀k,k<ops.size->cm.getD k default∈cm:=fun k hk=>List.mem_of_getElem? (xg k hk)
 have NP:∀k,k<ops.size->(yD cm)[k]? =some (xJ (cm.getD k default),kO (cm.getD k default)):=fun k hk=>by
  simp only[yD,List.getElem?_map,xg k hk,Option.map_some]
 have T5:(yD cm).length=ops.size:=by simp[yD,hl,hlen]
 simp only[List.nil_append,List.length_nil,Nat.zero_add]at jl
 have u9:eS (gK ops) (yD cm)=true:=by
  rcases jl with⟨_,h⟩|⟨v,wl,_,_,_,h,_⟩
  ·exact h.1
  ·exact h.1
 have Im:∀k,k<ops.size->∀j∈bF ops k,j<k:=fun k hk j hj=>by
  have:=List.all_eq_true.1 hp k (by simpa[zO]using hk)
  rw[tn k hk]at this
  simpa using List.all_eq_true.1 this j hj
 have KY:∀k,k<(gK ops).length->∀j∈(gK ops).getD k [],j<k:=fun k hk j hj=>by
  rw[zO]at hk;rw[tn k hk]at hj;exact Im k hk j hj
 let po:Nat->Nat->Prop:=fun k j=>((eJ (gK ops) []).getD k 0).testBit j=true
 have Gn:∀E:Nat->Bool,(∀k,k<ops.size->E k=true->∀j∈bF ops k,E j=true)->∀k,k<ops.size->(∀j∈bF ops k,E j=true)->∀j,po k j->E j=true:=fun E hE k hk hj j hb=>
  qd KY (fun k hk jc j hj=>by rw[zO]at hk;rw[tn k hk]at hj;exact hE k hk jc j hj) k (by rw[zO];exact hk) (by rw[tn k hk];exact hj) j hb
 have Cu:∀k,k<ops.size->∀j,po k j->j<k:=fun k hk j hb=>BE KY k (by rw[zO];exact hk) j hb
 have Ar:∀i j,i<j->j<ops.size-> ¬po j i->Compat (bY l) (fun i=>cm.getD i default) (fun i=>xJ (cm.getD i default)) i j:=by
  intro i j hij hj hn
  have Nw:=List.all_eq_true.1 (List.all_eq_true.1 ht j (by simpa[hlen]using hj)) i (by simpa using hij)
  have xS:=List.all_eq_true.1 (List.all_eq_true.1 u9 j (by simpa[T5]using hj)) i (by simpa using hij)
  have hnc:((eJ (gK ops) []).getD j 0).testBit i=false:=by simpa[po]using hn
  rw[hnc,Bool.false_or]at Nw xS
  simp only[Bool.and_eq_true]at Nw xS
  have gi:=NP i af
  have gj:=NP j hj
  simp only[List.getD_eq_getElem?_getD (l:=yD cm),gi,gj,Option.getD_some]at xS
  have dj:∀ {xs ys:List Nat},kJ xs ys=true->∀x∈xs,x∉ys:=fun h x hx=>by simpa using List.all_eq_true.1 h x hx
  have fo:∀ {x y:bV},rS x y=true->∀d,x.dst=some d->d∉fg y:=fun h d hd=>by simpa[rS,hd]using h
  exact YD
 have Rn:∀i,i<ops.size->Rj P (eL (bY l) (fun i=>cm.getD i default) (fun _=>true) s i) (s.nx+i) (bY l i) (cm.getD i default):=fun i hi=>by
  rw[jZ i (by omega)];exact aW i _ _ (Jg i hi) (xg i hi)
 have cX:∀i,i<ops.size->∀t,(bY l i).dst=some t->(dstsOf l).contains t=true:=fun i hi t ht=>by
  simp only[List.contains_iff_mem,dstsOf,List.mem_filterMap]
  exact⟨bY l i,List.mem_of_getElem? (Jg i hi),ht⟩
 rcases jl with⟨bf,jl⟩|⟨v,wl,q1,q2,q3,q4,q5,q6⟩
 ·refine Ct (ac:=fun i=>cm.getD i default) (dl:=dstsOf l) (wl:=(cm.flatMap kO)) br su Im hs Rn (fun i hi hb=> ?_) Gn Cu Ar cX (fun i hi id aw=> ?_) (fun i v ws um hi hb=> ?_) (fun _ φ a w j7=> ?_) (fun i v ws um hi hb=> ?_)
  ·have:=bf _ (oI i hi);rw[hb]at this;cases this
  ·simp only[List.contains_iff_mem,List.mem_flatMap];exact⟨_,oI i hi,aw⟩
  ·have:=bf _ (oI i hi);rw[hb]at this;cases this
  ·rw[jZ ops.size (by omega), <- hlen]at j7
   exact⟨.normal,_,φ,hQ _ _ jl.2,j7,trivial⟩
  ·have:=bf _ (oI i hi);rw[hb]at this;cases this
 ·refine Ct (ac:=fun i=>cm.getD i default) (dl:=dstsOf l) (wl:=wl) br su Im hs Rn (fun i hi hb=> ?_) Gn Cu Ar cX (fun i hi id aw=> ?_) (fun i v' ws um hi hb=> ?_) (fun bf φ a w j7=> ?_) (fun i v' ws um hi hb φ a w val j7 hd=> ?_)
  ·obtain⟨j,j1,j',e,y,j3,j4⟩:=q3 i JS
   rw[tn i hi,e]at j1
   refine⟨j',j1, ?_⟩
   simp only[List.getD_eq_getElem?_getD,j3,Option.getD_some,j4]
  ·simp only[List.contains_iff_mem];exact q5 _ (oI i hi) id aw
  ·intro id aw
   simp only[List.contains_iff_mem]
   exact(q1 i v' ws um JS).2 id aw
  ·obtain⟨x,x1,x2⟩:=q2
   obtain⟨i,NI,ZM⟩:=List.getElem_of_mem x1
   have hi:i<ops.size:=af
   have:=bf i hi
   have e:cm.getD i default=x:=by simp[List.getD_eq_getElem?_getD,List.getElem?_eq_getElem NI,ZM]
   rw[e,x2]at this;cases this
  ·have e:=(q1 i v' ws um JS).1
   subst e
   rw[<- hlen]at j7 hd
   exact⟨.bL v',_,φ,hQ _ _ q4.2,j7,val,rfl,hd⟩
theorem yF{ops:Array Oper}:∀ (l:List Oper) (l':List bV) (m:Nat),lj n ops l=some l'->lj n ops (l.drop m)=some (l'.drop m)
 |l,l',0,h=>h
 |[],l',m+1,h=>by simp[lj]at h;subst h;simp[lj]
 |o::l,l',m+1,h=>by
  simp only[lj]at h
  split at h
  ·rename_i x xs hx M8
   injection h with h;subst h
   exact yF l xs m M8
  ·cases h
theorem KZ{l:List bV}{ac:Nat->fq}{E:Nat->Bool}{s:S}{m:Nat}:∀k,k<=m->eL (bY l) ac E s k=eL (bY (l.take m)) ac E s k:=by
 intro k
 induction k with
 |zero=>intro _;rfl
 |succ k ih=>
  intro hk
  have:bY l k=bY (l.take m) k:=by simp[bY,List.getD_eq_getElem?_getD,List.getElem?_take,(by omega:k<m)]
  simp only[eL,ih (by omega),this]
theorem EL(br:P.follows .mixedOrders=true){id:Nat}{ops:Array Oper}{l:List bV}{Q Q':fL->S->Prop}{s:S}(hQ:∀e s,Q e s->Q' e s)(su:lj n ops ops.toList=some l)(ht:zE l (gK ops)=true)
 (hp:TQ (gK ops)=true) (h:KW P l (gK ops) Q s):jd P n b rd (.region id ops true) Q' s:=by
 intro M cL H0 w0 cx φ a w ro k hs
 obtain⟨m,Jl,hto,h⟩:=h
 obtain⟨cm,hl,aW,jl⟩:=vL (l.take m) _ _ _ h
 have hlm:(l.take m).length=m:=by rw[List.length_take];omega
 have hlen:l.length=ops.size:=by rw[nA _ _ su];simp
 have jl:=jl.resolve_right (fun⟨_,_,_,_,_,q4,_,_⟩=>q4)
 obtain⟨bf,jl⟩:=jl
 have Kr:cm.length=m:=af
 have tn:∀k,k<ops.size->(gK ops).getD k []=bF ops k:=by
  intro k hk;simp[gK,List.getD_eq_getElem?_getD,List.getElem?_map,List.getElem?_range hk]
 have zO:(gK ops).length=ops.size:=by simp[gK]
 have jZ:∀k,k<=m->eL (bY l) (fun i=>cm.getD i default) (fun _=>true) s k=nz (l.take m) cm s k:=fun k hk=>by
  rw[KZ k hk];exact yE (l.take m) cm s hl k af
 have Jg:∀k,k<m->(l.take m)[k]? =some (bY l k):=fun k hk=>by
  rw[List.getElem?_take,if_pos hk]
  simp[bY,List.getD_eq_getElem?_getD,List.getElem?_eq_getElem (by omega:k<l.length)]
 have xg:∀k,k<m->cm[k]? =some (cm.getD k default):=fun k hk=>by simp[List.getD_eq_getElem?_getD,List.getElem?_eq_getElem (by omega:k<cm.length)]
 have oI:∀k,k<m->cm.getD k default∈cm:=fun k hk=>List.mem_of_getElem? (xg k hk)
 have NP:∀k,k<m->(yD cm)[k]? =some (xJ (cm.getD k default),kO (cm.getD k default)):=fun k hk=>by
  simp only[yD,List.getElem?_map,xg k hk,Option.map_some]
 have T5:(yD cm).length=m:=by simp[yD,Kr]
 simp only[List.nil_append]at jl
 obtain⟨u9,N7⟩:=jl
 have Im:∀k,k<ops.size->∀j∈bF ops k,j<k:=fun k hk j hj=>by
  have:=List.all_eq_true.1 hp k (by simpa[zO]using hk)
  rw[tn k hk]at this
  simpa using List.all_eq_true.1 this j hj
 have KY:∀k,k<(gK ops).length->∀j∈(gK ops).getD k [],j<k:=fun k hk j hj=>by
  rw[zO]at hk;rw[tn k hk]at hj;exact Im k hk j hj
 let po:Nat->Nat->Prop:=fun k j=>((eJ (gK ops) []).getD k 0).testBit j=true
 have Gn:∀E:Nat->Bool,(∀k,k<ops.size->E k=true->∀j∈bF ops k,E j=true)->∀k,k<ops.size->(∀j∈bF ops k,E j=true)->∀j,po k j->E j=true:=fun E hE k hk hj j hb=>
  qd KY (fun k hk jc j hj=>by rw[zO]at hk;rw[tn k hk]at hj;exact hE k hk jc j hj) k (by rw[zO];exact hk) (by rw[tn k hk];exact hj) j hb
 have Cu:∀k,k<ops.size->∀j,po k j->j<k:=fun k hk j hb=>BE KY k (by rw[zO];exact hk) j hb
 have Ar:∀i j,i<j->j<m-> ¬po j i->Compat (bY l) (fun i=>cm.getD i default) (fun i=>xJ (cm.getD i default)) i j:=by
  intro i j hij hj hn
  have Nw:=List.all_eq_true.1 (List.all_eq_true.1 ht j fI) i (by simpa using hij)
  have xS:=List.all_eq_true.1 (List.all_eq_true.1 u9 j (by simpa[T5]using hj)) i (by simpa using hij)
  have hnc:((eJ (gK ops) []).getD j 0).testBit i=false:=by simpa[po]using hn
  rw[hnc,Bool.false_or]at Nw xS
  simp only[Bool.and_eq_true]at Nw xS
  have gi:=NP i af
  have gj:=NP j hj
  simp only[List.getD_eq_getElem?_getD (l:=yD cm),gi,gj,Option.getD_some]at xS
  have dj:∀ {xs ys:List Nat},kJ xs ys=true->∀x∈xs,x∉ys:=fun h x hx=>by simpa using List.all_eq_true.1 h x hx
  have fo:∀ {x y:bV},rS x y=true->∀d,x.dst=some d->d∉fg y:=fun h d hd=>by simpa[rS,hd]using h
  exact YD
 have htl:∀k,m<=k->k<ops.size->∀j,j<k->po k j:=fun k lW hk j hj=>by
  have:=List.all_eq_true.1 hto k (by simpa[zO]using hk)
  simp only[Bool.or_eq_true]at this
  rcases this with this|this
  ·exact absurd (Nat.blt_eq.mp this) af
  ·show((eJ (gK ops) []).getD k 0).testBit j=true
   rw[Nat.eq_of_beq_eq_true this,Nat.testBit_two_pow_sub_one]
   exact decide_eq_true hj
 refine EI (ac:=fun i=>cm.getD i default) (m:=m) (X:=fun v s=>Q' (.bL v) s) (K:=Q' .normal) br su Im af hs (fun i hi=> ?_) (fun i hi=>bf _ (oI i hi)) Gn Cu Ar htl ?_ (fun s φ a w hk j7=>⟨.normal,s,φ,hk,j7,trivial⟩) (fun v s' aI a' w' val hx j7 hd=>⟨.bL v,s',aI,hx,j7,val,rfl,hd⟩)
 ·rw[jZ i (by omega)];exact aW i _ _ (Jg i hi) (xg i hi)
 ·rw[jZ m (Nat.le_refl _)]
  rw[hlm]at N7
  exact jr (fun s hs=>hQ _ _ hs) (fun v s hs=>hQ _ _ hs) _ _ _ (yF _ _ m su) N7
theorem sv{g:V}{ps:List Nat}{x y:IC}{Q Q':fL->S->Prop}{s:S}(hQ:∀e s,Q e s->Q' e s)(h:Cf P n g ps x y Q s):Cf P n g ps x y Q' s:=by
 obtain⟨env,h1,h2⟩:=h
 refine⟨env,h1, ?_⟩
 split at h2
 ·refine oS.mono (fun v o n h=> ?_) (fun v o n h=>hQ _ _ h) h2
  obtain⟨nf,m,e,p,c,d,st,pd,k1,k2,k3⟩:=h
  refine⟨nf,m,e,p,c,d,st,pd,k1,k2, ?_⟩
  cases pd with
  |none=>exact hQ _ _ k3
  |some j=>cases j<;>exact hQ _ _ k3
 ·exact h2
theorem ir(br:P.follows .mixedOrders=true):∀ (c:Code) (Q Q':fL->S->Prop) (s:S),(∀e s,Q e s->Q' e s)->ux P n b rd (low n c) Q s->jd P n b rd c Q' s:=by
 intro c
 induction c with
 |skip=>exact fun Q Q' s hQ h=>hQ _ _ h
 |scope x ih=>exact fun Q Q' s hQ h=>ih Q Q' s hQ h
 |label l=>exact fun Q Q' s hQ h=>hQ _ _ h
 |exit id=>exact fun Q Q' s hQ h=>hQ _ _ h
 |ret=>exact fun Q Q' s hQ h=>hQ _ _ h
 |goto l=>exact fun Q Q' s hQ h=>h.elim
 |refuse y=>exact fun Q Q' s hQ h=>h.elim
 |rangeFunc f p x y=>
  intro Q Q' s hQ h
  obtain⟨h1,s',hle,h2⟩:=h
  exact⟨h1,s',hle,sv hQ h2⟩
 |region id ops draw=>
  intro Q Q' s hQ h
  cases draw with
  |true=>
   simp only[low]at h
   split at h
   ·rename_i l hl
    split at h
    ·rename_i hc
     simp only[Bool.and_eq_true]at hc
     rcases h with h|h
     ·exact Il br hQ hl hc.1 hc.2 h
     ·exact EL br hQ hl hc.1 hc.2 h
    ·exact h.elim
   ·exact h.elim
  |false=>
   simp only[low]at h
   split at h
   ·rename_i l hl;exact jr (fun s hs=>hQ _ _ hs) (fun v s hs=>hQ _ _ hs) _ l s hl h
   ·exact h.elim
 |seq x y N0 N1=>
  intro Q Q' s hQ h
  refine N0 _ _ s (fun e s he=> ?_) h
  cases e<;>first|exact N1 Q Q' s hQ he|exact hQ _ _ he
 |cond c x y N0 N1=>
  intro Q Q' s hQ h
  simp only[low,ux]at h
  simp only[jd]
  split at h
  ·rename_i t hc
   simp only[hc]
   exact⟨fun ht=>N0 Q Q' s hQ (h.1 ht),fun ht=>N1 Q Q' s hQ (h.2 ht)⟩
  ·rename_i hc
   simp only[hc]
   exact⟨N0 Q Q' s hQ h.1,N1 Q Q' s hQ h.2⟩
  ·exact h.elim
 |block id x ih=>
  intro Q Q' s hQ h
  refine ih _ _ s (fun e s he=> ?_) h
  cases e<;>simp only[fF]at he|- <;>first
   |exact hQ _ _ he
   |(split at he<;>rename_i e
     ·rw[if_pos e];exact hQ _ _ he
     ·rw[if_neg e];exact hQ _ _ he)
 |loop x ih=>
  intro Q Q' s hQ h
  obtain⟨J,h0,hr⟩:=h
  refine⟨J,h0,fun m s0 hJ=>ih _ _ s0 (fun e s he=> ?_) (hr m s0 hJ)⟩
  cases e<;>first|exact hQ _ _ he|exact he
structure aN (P:Program) (f:FuncId) (n:Nat) (ic:IC) (rs:List ResultVar):Prop where
 get:∃fn,P.funcs[f]? =some fn/\(fn.name== "runtime.NumGoroutine")=false/\fn.ntmps=n/\fn.results.toList=rs/\∃c,fn.body=some c/\low n c=ic
theorem bZ.vN (br:P.follows .mixedOrders=true){f:FuncId}{ic:IC}{rs:List ResultVar}(hf:aN P f n ic rs){args:List V}{o:Nat->ab}{nx:Nat}{K X:V->(Nat->ab)->Nat->Prop}(hl:args.length<=n)(h:ux P n nx false ic (mf P rs K X) ⟨cw args,o,nx⟩):bZ P f args o nx K X:=by
 obtain⟨fn,h1,h2,rfl,rfl,c,h3,rfl⟩:=hf.get
 exact bZ.Gh h1 h2 h3 hl (ir br c _ _ _ (fun _ _ h=>h) h)
theorem aV.vN (br:P.follows .mixedOrders=true){f:FuncId}{ic:IC}{rs:List ResultVar}(hf:aN P f n ic rs){ds:List D}{out:R}(hl:ds.length<=n)(h:ux P n 0 false ic (zY P rs out) ⟨cw (ds.map .d),fun _=> .no,0⟩):aV P f ds out:=by
 obtain⟨fn,h1,h2,rfl,rfl,c,h3,rfl⟩:=hf.get
 exact aV.kM (bZ.Gh h1 h2 h3 (by simpa using hl) (ir br c _ _ _ (fun e s h=>H9 e s h) h))
end
end
section
abbrev Fix(α:Type){β:Type}(_:β):Type:=α
def kB(K:V->List (Nat×ab)->Prop)(x:Fix (Option fX) K):Prop:=match x with|some (v,Δ,_)=>K v Δ|none=>False
@[go_sem] theorem T6 {v:V} {Δ:List (Nat×ab)} {rd:List Nat} {K}:kB K (some (v,Δ,rd))=K v Δ:=propext Iff.rfl
@[go_sem] theorem T7 {K}:kB K none=False:=propext Iff.rfl
def V.As (c:Bool)(v:V):V:=if c=true then v else .bS []
@[go_sem] theorem aab (b:Bool):(!!b)=b:=aH
attribute [go_sem] true_or or_true false_or ne_eq not_false_eq_true decide_true decide_false Bool.not_true Bool.not_false Bool.and_true Bool.true_and Bool.and_false Bool.false_and Bool.or_true Bool.true_or Bool.or_false Bool.false_or beq_self_eq_true Bool.true_eq_false Bool.false_eq_true not_true_eq_false and_true true_and and_false false_and eq_self
@[go_sem] theorem V.aac (v:V):V.As true v=v:=rfl
@[go_sem] theorem V.W3 (v:V):V.As false v= .bS []:=rfl
def mE(c:Bool)(p:Prop):Prop:=c=true->p
@[congr] theorem Ro {c c':Bool} {p p':Prop} (h:c=c') (h2:c'=true->p=p'):mE c p=mE c' p':=by
  subst h;cases c
  ·simp[mE]
  ·simp[mE,h2 rfl]
@[go_sem] theorem T8 (p:Prop):mE true p=p:=by simp[mE]
@[go_sem] theorem Rp (p:Prop):mE false p=True:=by simp[mE]
@[go_sem] theorem T9 (a:Bool):mE a True=True:=by simp[mE]
def mF(v:V)(want:Bool):Option Bool:=
 match v with
 | .d (.bool b)=>some (b==want)
 | .bS []=>some false
 |_=>none
@[go_sem] theorem Ua (b:Bool):mF (.d (.bool b)) true=some b:=by simp[mF]
@[go_sem] theorem Rq (b:Bool):mF (.d (.bool b)) false=some (!b):=by simp[mF]
@[go_sem] theorem aad (want:Bool):mF (.bS []) want=some false:=rfl
@[go_sem] theorem W4 (c b want:Bool):mF (V.As c (.d (.bool b))) want=some (c&&(b==want)):=by cases c<;>simp[mF,V.As]
@[go_sem] theorem Ub (c b e want:Bool):mF (V.As c (V.As e (.d (.bool b)))) want=some (c&&e&&(b==want)):=by cases c<;>cases e<;>simp[mF,V.As]
def kR(c:Bool)(x:Option fX):Option fX:=
 if c=true then(match x with|some (v,[],_)=>some (v,[],[])|_=>none)else some (.bS [],[],[])
@[congr] theorem N8 {c c':Bool} {x x':Option fX} (h:c=c') (h2:c'=true->x=x'):kR c x=kR c' x':=by
  subst h;cases c
  ·rfl
  ·simp[kR,h2 rfl]
def W5(v:V)(rd:List Nat):Option fX:=some (v,[],rd)
@[go_sem] theorem aed (v:V) (rd:List Nat):(some (v,[],rd):Option fX)=W5 v rd:=by unfold W5;exact Eq.trans rfl rfl
@[go_sem] theorem Uc (c:Bool) (v:V) (rd:List Nat):kR c (W5 v rd)=W5 (V.As c v) []:=by cases c<;>rfl
@[go_sem] theorem W6 {v:V} {rd:List Nat} {K}:kB K (W5 v rd)=K v []:=propext Iff.rfl
@[go_sem] theorem Rr (c:Bool) (v:V) (rd:List Nat):kR c (some (v,[],rd))=some (V.As c v,[],[]):=by cases c<;>rfl
@[go_sem] theorem N9 (x:Option fX):kR false x=some (.bS [],[],[]):=rfl
@[go_sem] theorem aae (b x:Bool):qI (.d (.bool b)) (V.As b (.d (.bool x))) (.d (.bool false))=some (.d (.bool (b&&x))):=BB
@[go_sem] theorem adr (b x:Bool):qI (.d (.bool b)) (.d (.bool true)) (V.As (!b) (.d (.bool x)))=some (.d (.bool (b||x))):=BB
@[go_sem] theorem aaf (b x:Bool):qI (.d (.bool (!b))) (.d (.bool true)) (V.As b (.d (.bool x)))=some (.d (.bool (!b||x))):=BB
@[go_sem] theorem W7 (x y:V):qI (.d (.bool true)) x y=some x:=rfl
@[go_sem] theorem Ud (x y:V):qI (.d (.bool false)) x y=some y:=rfl
@[reducible] def kS:Op->Bool
  | .move _| .assign _| .pick .. | .load .. | .binOp .. | .unOp .. | .nilCheck _| .convert .. | .makeInterface .. | .makeFunc .. | .fieldAddr .. | .indexAddr .. | .extract .. | .build .. | .index .. | .field .. | .lookup .. =>true
  | .call c=>match c.callee with
    | .builtin .len=>true
    | .builtin .min=>true
    | .builtin .max=>true
    |_=>false
  |_=>false
def CA(P:Program)(f:V)(args:List V)(o:Nat->ab)(rs:List D):Prop:=
 match f with
 | .func (.func g) first cap=>match cf o (first++args++cap)with
   |some ds=>aV P g ds (.ret rs)/\D.jL rs=true
   |none=>False
 |_=>False
def Gq(P:Program)(f:V)(args:List V)(o:Nat->ab)(K:V->Prop)(c:Fix Bool (f,args,o,K)):Prop:=
 ∃rs,mE c (CA P f args o rs)/\K (V.As c (iV rs))
def CB(P:Program)(g:FuncId)(nx:Nat)(K X:V->(Nat->ab)->Nat->Prop)(args:Fix (List V) (K,X))(o:Fix (Nat->ab) (K,X)):Prop:=tu P g args o nx K X
def vO(P:Program)(g:FuncId)(o:Nat->ab)(nx:Nat)(K X:V->(Nat->ab)->Nat->Prop)(ds:Fix (List D) (o,nx,K,X))(all:Fix (List V) (o,nx,K,X)):Prop:=
 vC P g ds o (put o (bE o (V.bp all))) (put o (rV o (V.bp all))) (fun v o'=>K v o' (nx+1)) (fun v o'=>X v o' (nx+1))\/tu P g all o nx K X
def nB(P:Program)(g:FuncId)(K X:V->(Nat->ab)->Nat->Prop)(s:S)(all:List V)(ds:Fix (Option (List D)) (K,X,s,all)):Prop:=
 match ds with
 |some ds=>vO P g s.o s.nx K X ds all
 |none=>CB P g s.nx K X all s.o
@[go_sem] theorem Rs {P:Program} {s:S} {ds:List D} {g:FuncId} {all:List V} {K X}:
 nB P g K X s all (some ds)=vO P g s.o s.nx K X ds all:=propext Iff.rfl
def yG(P:Program)(id:Nat)(K X:V->(Nat->ab)->Nat->Prop)(s:S)(args:Fix (List V) (K,X,s)):Prop:=dO P id args s.o s.nx K X
@[go_sem] theorem Rt {P:Program} {s:S} {g:FuncId} {all:List V} {K X}:nB P g K X s all none=CB P g s.nx K X all s.o:=propext Iff.rfl
def tC(P:Program)(K X:V->(Nat->ab)->Nat->Prop)(s:S)(f:Fix V (K,X,s))(args:Fix (List V) (K,X,s)):Prop:=
 match f with
 | .func (.func g) first cap=>nB P g K X s (first++args++cap) (cf s.o (first++args++cap))
 | .kn id=>yG P id K X s args
 |_=>False
@[go_sem] theorem W8 {P:Program} {s:S} {id:Nat} {args:List V} {K X}:tC P K X s (.kn id) args=yG P id K X s args:=propext Iff.rfl
@[go_sem] theorem Ue {P:Program} {s:S} {g:FuncId} {first cap args:List V} {K X}:tC P K X s (.func (.func g) first cap) args=nB P g K X s (first++args++cap) (cf s.o (first++args++cap)):=propext Iff.rfl
def K0(P:Program)(g:FuncId)(o:Nat->ab)(nx:Nat)(K X:V->(Nat->ab)->Nat->Prop)(ds:Fix (List D) (o,nx,K,X))(all:Fix (List V) (o,nx,K,X)):Prop:=
 vC P g ds o (put o (bE o (V.bp all))) (put o (rV o (V.bp all))) (fun v o'=>K v o' (nx+1)) (fun v o'=>X v o' (nx+1))
def CC(P:Program)(g:FuncId)(K X:V->(Nat->ab)->Nat->Prop)(s:S)(all:List V)(ds:Fix (Option (List D)) (K,X,s,all)):Prop:=
 match ds with
 |some ds=>K0 P g s.o s.nx K X ds all
 |none=>False
@[go_sem] theorem Uf {P:Program} {s:S} {ds:List D} {g:FuncId} {all:List V} {K X}:CC P g K X s all (some ds)=K0 P g s.o s.nx K X ds all:=propext Iff.rfl
def K1(P:Program)(K X:V->(Nat->ab)->Nat->Prop)(s:S)(args:Fix (List V) (K,X,s))(r:Fix (Option (FuncId×V)) (K,X,s)):Prop:=
 match r with
 |some (g,y)=>CC P g K X s (y::args) (cf s.o (y::args))
 |none=>False
@[go_sem] theorem W9 {P:Program} {s:S} {g:FuncId} {y:V} {args:List V} {K X}:K1 P K X s args (some (g,y))=CC P g K X s (y::args) (cf s.o (y::args)):=propext Iff.rfl
def Io(K:V->Prop)(v:Fix V K):Prop:=
 match v with
 | .d (.iface t y)=>K (.d (.iface t y))
 | .iface t y=>K (.iface t y)
 |_=>False
@[go_sem] theorem aee {t:TypeId} {y:D} {K}:Io K (.d (.iface t y))=K (.d (.iface t y)):=propext Iff.rfl
@[go_sem] theorem aef {t:TypeId} {y:V} {K}:Io K (.iface t y)=K (.iface t y):=propext Iff.rfl
def Gs(K:V->List (Nat×ab)->Prop)(id:Nat)(l:Fix (List (D×D)) (K,id)):Prop:=FY id l fun v Δ _=>K v Δ
def K2(K:V->List (Nat×ab)->Prop)(str:Bool)(Xa:Fix (Option fX) (K,str))(left:Fix (Option (Nat×List (D×D))) (K,str)):Prop:=
 match left with
 |some (id,l)=>str=false/\Gs K id l
 |none=>kB K Xa
@[go_sem] theorem Xb {K} {Xa:Option fX} {id:Nat} {l:List (D×D)}:K2 K false Xa (some (id,l))=Gs K id l:=propext ⟨fun h=>h.2,fun h=>⟨rfl,h⟩⟩
@[go_sem] theorem Xc {K} {str:Bool} {Xa:Option fX}:K2 K str Xa none=kB K Xa:=propext Iff.rfl
def CD(P:Program)(X:V->S->Prop)(K:S->Prop)(o:bV)(s:Fix S (X,K,o)):Prop:=
 match o.op with
 | .next x str=>K2 (fun v Δ=>K ⟨a8 s.env o.dst v,put s.o Δ,s.nx+1⟩) str (o6 s.o (s.ev x) str) (o7 s.o (s.ev x))
 | .call c=>match c.callee with
   | .value f=>tC P (fun v o' nx'=>K ⟨a8 s.env o.dst v,o',nx'⟩) (fun v o' nx'=>X v ⟨s.env,o',nx'⟩) s (s.ev f) (c.args.toList.map s.ev)
   | .invoke r m=>K1 P (fun v o' nx'=>K ⟨a8 s.env o.dst v,o',nx'⟩) (fun v o' nx'=>X v ⟨s.env,o',nx'⟩) s (c.args.toList.map s.ev) (vo P m (s.ev r))
   |_=>kB (fun v Δ=>K ⟨a8 s.env o.dst v,put s.o Δ,s.nx+1⟩) (gG P s s.nx o.op)
 | .panic x=>Io (fun v=>X v s) (s.ev x)
 |op=>kB (fun v Δ=>K ⟨a8 s.env o.dst v,put s.o Δ,s.nx+1⟩) (gG P s s.nx op)
@[reducible] def eM:Op->Option (Operand×List Operand)
  | .call c=>match c.callee with
    | .value f=>some (f,c.args.toList)
    |_=>none
  |_=>none
def iL(A B:Prop)(t:Fix Bool (A,B)):Prop:=qN t A B
@[go_sem] theorem Ug (A B:Prop):iL A B true=A:=vE A B
@[go_sem] theorem Ru (A B:Prop):iL A B false=B:=tv A B
def EM(P:Program)(X:V->S->Prop)(K:S->Prop)(o:bV)(s:S)(f:Operand)(args:List Operand)(c:Fix Bool (X,K,o,s,f,args)):Prop:=
 Gq P (s.ev f) (args.map s.ev) s.o (fun v=>K ⟨a8 s.env o.dst v,s.o,s.nx+1⟩) c\/iL (CD P X K o s) (K ⟨a8 s.env o.dst (.bS []),s.o,s.nx+1⟩) c
def Au(P:Program)(X:V->S->Prop)(K:S->Prop)(o:bV)(s:S)(c:Fix (Option Bool) (X,K,o,s)):Prop:=
 match c with
 |none=>False
 |some c=>match eM o.op with
  |some (f,args)=>EM P X K o s f args c
  |none=>if kS o.op=true then kB (fun v _=>K ⟨a8 s.env o.dst v,s.o,s.nx+1⟩) (kR c (gG P s s.nx o.op))
   else iL (CD P X K o s) (K ⟨a8 s.env o.dst (.bS []),s.o,s.nx+1⟩) c
def sw(P:Program)(X:V->S->Prop)(K:S->Prop)(l:List bV)(s:Fix S (X,K,l)):Prop:=
 match l with
 |[]=>K s
 |o::l=>match o.gd with
  |none=>CD P X (sw P X K l) o s
  |some (d,want)=>Au P X (sw P X K l) o s (mF (s.env d) want)
def jN(want:Bool)(A B:Prop)(v:Fix V (A,B)):Prop:=
 match v with
 | .d (.bool b)=>qN (b==want) A B
 | .bS []=>B
 |_=>False
@[go_sem] theorem Rv (b:Bool) (A B:Prop):jN true A B (.d (.bool b))=iL A B b:=by simp[jN,iL]
@[go_sem] theorem Oa (b:Bool) (A B:Prop):jN false A B (.d (.bool b))=iL A B (!b):=by simp[jN,iL]
@[go_sem] theorem Xd (want:Bool) (A B:Prop):jN want A B (.bS [])=B:=propext Iff.rfl
@[go_sem] theorem Uh (c b want:Bool) (A B:Prop):jN want A B (V.As c (.d (.bool b)))=iL A B (c&&(b==want)):=by cases c<;>simp[jN,V.As,iL]
abbrev KD:=V->List (Nat×ab)->List Nat->Prop
abbrev XD:=V->List Nat->List Nat->Prop
def K4(P:Program)(g:FuncId)(K:KD)(X:XD)(o:Nat->ab)(rd:List Nat)(ds:Fix (List D) (K,X,o,rd))(all:Fix (List V) (K,X,o,rd)):Prop:=
 tA P g ds (fun v=>K v (bE o (V.bp all)) rd) (fun v=>K v [] rd) (fun v=>X v [] rd)
def sy(P:Program)(g:FuncId)(K:KD)(X:XD)(o:Nat->ab)(nx fr:Nat)(all:Fix (List V) (K,X,o,nx)):Prop:=iX P g all o nx fr K X
def mj(P:Program)(g:FuncId)(K:KD)(X:XD)(o:Nat->ab)(nx fr:Nat)(rd:List Nat)(ds:Fix (List D) (K,X,o,nx,rd))(all:Fix (List V) (K,X,o,nx,rd)):Prop:=K4 P g K X o rd ds all\/sy P g K X o nx fr all
def sA(P:Program)(K:KD)(X:XD)(o:Nat->ab)(nx fr:Nat)(rd:List Nat)(g:FuncId)(all:List V)(ds:Fix (Option (List D)) (K,X,o,nx,rd,all)):Prop:=
 match ds with
 |some ds=>mj P g K X o nx fr rd ds all
 |none=>sy P g K X o nx fr all
@[go_sem] theorem Rw {P:Program} {o:Nat->ab} {nx fr:Nat} {rd:List Nat} {ds:List D} {g:FuncId} {all:List V} {K X}:sA P K X o nx fr rd g all (some ds)=mj P g K X o nx fr rd ds all:=propext Iff.rfl
@[go_sem] theorem Rx {P:Program} {o:Nat->ab} {nx fr:Nat} {rd:List Nat} {g:FuncId} {all:List V} {K X}:sA P K X o nx fr rd g all none=sy P g K X o nx fr all:=propext Iff.rfl
def CE(P:Program)(K:KD)(X:XD)(o:Nat->ab)(nx fr:Nat)(rd:Fix (List Nat) (K,X,o,nx))(f:Fix V (K,X,o,nx))(args:Fix (List V) (K,X,o,nx)):Prop:=
 match f with
 | .func (.func g) first cap=>sA P K X o nx fr rd g (first++args++cap) (cf o (first++args++cap))
 |_=>False
@[go_sem] theorem Ui {P:Program} {o:Nat->ab} {nx fr:Nat} {rd:List Nat} {g:FuncId} {first cap args:List V} {K X}:CE P K X o nx fr rd (.func (.func g) first cap) args=sA P K X o nx fr rd g (first++args++cap) (cf o (first++args++cap)):=propext Iff.rfl
def vP(K:KD)(rd:List Nat)(x:Fix (Option fX) (K,rd)):Prop:=match x with|some (v,Δ,_)=>K v Δ rd|none=>False
@[go_sem] theorem Uj {v:V} {Δ:List (Nat×ab)} {r rd:List Nat} {K}:vP K rd (some (v,Δ,r))=K v Δ rd:=propext Iff.rfl
@[go_sem] theorem Xe {v:V} {r rd:List Nat} {K}:vP K rd (W5 v r)=K v [] rd:=propext Iff.rfl
def Nf(P:Program)(K:KD)(X:XD)(fr:Nat)(o:bV)(s:Fix S (K,X,o)):Prop:=
 match eM o.op with
 |some (f,args)=>CE P K X s.o s.nx fr (oR s o.op) (s.ev f) (args.map s.ev)
 |none=>vP K (oR s o.op) (gG P s fr o.op)
def Ip(P:Program)(KB:List Nat->Fp->Prop)(pr:List (List Nat))(l:List bV)(fr:Nat)(fp:Fix Fp (KB,l))(bad ws:Fix (List Nat) (KB,l))(s:Fix S (KB,l)):Prop:=iq P KB pr l fr s fp bad ws
def pI(P:Program)(K:S->Fp->Prop)(KP:V->List Nat->Fp->Prop)(pr:List (List Nat))(l:List bV)(fr:Nat)(s:Fix S (K,KP,l))(fp:Fix Fp (K,KP,l)):Prop:=
 match l with
 |[]=>K s fp
 |o::l=>match o.gd with
  |none=>Nf P (fun v Δ rd=>pI P K KP pr l (fr+1) ⟨a8 s.env o.dst v,put s.o Δ,s.nx⟩ (fp++[(rd,Δ.map (·.1))]))
   (fun v ws rd=>Ip P (KP v) pr l (fr+1) (fp++[(rd,[])]) [fp.length] (ws++fp.flatMap (·.2)) ⟨a8 s.env o.dst .ad,s.o,s.nx⟩) fr o s
  |some (d,want)=>jN want (Nf P (fun v Δ rd=>pI P K KP pr l (fr+1) ⟨a8 s.env o.dst v,put s.o Δ,s.nx⟩ (fp++[(rd,Δ.map (·.1))]))
   (fun v ws rd=>Ip P (KP v) pr l (fr+1) (fp++[(rd,[])]) [fp.length] (ws++fp.flatMap (·.2)) ⟨a8 s.env o.dst .ad,s.o,s.nx⟩) fr o s)
   (pI P K KP pr l (fr+1) ⟨a8 s.env o.dst (.bS []),s.o,s.nx⟩ (fp++[([],[])])) (s.env d)
def Ob(pr:List (List Nat))(nx:Nat)(Q:fL->S->Prop)(s:Fix S Q)(fp:Fix Fp Q):Prop:=EJ pr nx Q s fp
def sB(l:List bV)(k:Fix Nat l):Option Nat:=match l with
 |[]=>none
 |o::l=>match o.gd,eM o.op with
  |none,some (.tmp _,_)=>some k
  |_,_=>sB l (k+1)
def Ry(P:Program)(pr:List (List Nat))(l:List bV)(nx:Nat)(Q:fL->S->Prop)(s:Fix S (P,pr,l,nx,Q))(fp:Fix Fp (P,pr,l,nx,Q)):Prop:=eS pr fp=true/\sw P (fun v s=>Q (.bL v) s) (Q .normal) l ⟨s.env,s.o,nx⟩
def Oc(P:Program)(l:List bV)(pr:List (List Nat))(Q:fL->S->Prop)(s:S)(sp:Fix (Option Nat) (P,l,pr,Q,s)):Prop:=match sp with
 |none=>pI P (Ob pr (s.nx+l.length) Q) (Cw pr l s Q) pr l s.nx s []
 |some m=>m<=l.length/\EK pr m=true/\pI P (Ry P pr (l.drop m) (s.nx+m) Q) (fun _ _ _=>False) pr (l.take m) s.nx s []
def yH(A B:Prop)(v:Fix V (A,B)):Prop:=
 match v with
 | .d (.bool t)=>iL A B t
 | .fC=>A/\B
 |_=>False
@[go_sem] theorem Xf (A B:Prop):yH A B .fC=(A/\B):=propext Iff.rfl
@[go_sem] theorem Uk (t:Bool) (A B:Prop):yH A B (.d (.bool t))=iL A B t:=propext Iff.rfl
def Gt{ι:Type}(b:Nat)(st:ι->S)(cA:ι->Prop)(pJ:ι->Nat)(i:ι)(s:S):Prop:=∃j,cA j/\pJ j<pJ i/\bH b s (st j)
def vQ(next:S->Prop)(Q:fL->S->Prop)(e:fL)(s:S):Prop:=match e with| .normal=>next s|e=>Q e s
section
variable {N:S->Prop}{Q:fL->S->Prop}{s:S}
@[go_sem ↓] theorem Od:vQ N Q .normal s=N s:=propext Iff.rfl
@[go_sem ↓] theorem Ul {id:Nat}:vQ N Q (.exit id) s=Q (.exit id) s:=propext Iff.rfl
@[go_sem ↓] theorem Xg:vQ N Q .ret s=Q .ret s:=propext Iff.rfl
@[go_sem ↓] theorem Xh {v:V}:vQ N Q (.bL v) s=Q (.bL v) s:=propext Iff.rfl
end
def Gu(b:Nat)(body:(fL->S->Prop)->S->Prop)(Q:fL->S->Prop)(s:Fix S (body,Q)):Prop:=
 ∃ (ι:Type) (st:ι->S) (cA:ι->Prop) (pJ:ι->Nat) (i0:ι),cA i0/\bH b s (st i0)/\∀i,cA i->body (vQ (Gt b st cA pJ i) Q) (st i)
theorem aC{ι:Type}{b:Nat}{body:(fL->S->Prop)->S->Prop}{Q:fL->S->Prop}{s:S}(st:ι->S)(cA:ι->Prop)(pJ:ι->Nat)(i0:ι)(h0:cA i0)(hle:bH b s (st i0))
 (h:∀i,cA i->body (vQ (Gt b st cA pJ i) Q) (st i)):Gu b body Q s:=⟨ι,st,cA,pJ,i0,h0,hle,h⟩
def ug(P:Program)(n b:Nat)(rd:Bool)(gop:Operand)(ps:List Nat)(x y:IC)(Q:fL->S->Prop)(s:Fix S (x,y,Q))(g:Fix V (x,y,Q)):Prop:=rd=false/\(Cf P n g ps x y Q s\/∃s',bH b s s'/\Cf P n (s'.ev gop) ps x y Q s')
def kT(P:Program)(n b:Nat)(rd:Bool)(c:IC)(Q:fL->S->Prop)(s:Fix S (c,Q)):Prop:=
 match c with
 | .skip=>Q .normal s
 | .ag l=>sw P (fun v s=>Q (.bL v) s) (Q .normal) l s
 | .de l pr=>Oc P l pr Q s (sB l 0)
 | .seq x y=>kT P n b rd x (qB (fun s=>kT P n b rd y Q s) Q) s
 | .cond c x y=>yH (kT P n b rd x Q s) (kT P n b rd y Q s) (s.ev c)
 | .block id x=>kT P n b rd x (fF id Q) s
 | .loop x=>Gu b (fun Q s=>kT P n b rd x Q s) Q s
 | .exit id=>Q (.exit id) s
 | .ret=>Q .ret s
 | .Jj g ps x y=>ug P n b rd g ps x y Q s (s.ev g)
 | .bad=>False
section
variable {P:Program}{n b:Nat}{rd:Bool}
theorem CF{s:S}{f:V}{args:List V}{K K':V->(Nat->ab)->Nat->Prop}{X X':V->(Nat->ab)->Nat->Prop}(hK:∀v o n,K v o n->K' v o n)(hX:∀v o n,X v o n->X' v o n)(h:tC P K X s f args):
 match(generalizing:=false) f with
  | .func (.func g) first cap=>match cf s.o (first++args++cap)with
    |some ds=>vC P g ds s.o (put s.o (bE s.o (V.bp (first++args++cap)))) (put s.o (rV s.o (V.bp (first++args++cap)))) (fun v o'=>K' v o' (s.nx+1)) (fun v o'=>X' v o' (s.nx+1))\/tu P g (first++args++cap) s.o s.nx K' X'
    |none=>tu P g (first++args++cap) s.o s.nx K' X'
  | .kn id=>dO P id args s.o s.nx K' X'
  |_=>False:=by
 unfold tC nB yG at h
 split at h
 ·rename_i g first cap
  cases ff:cf s.o (first++args++cap)with
  |some ds=>
   simp only[ff]at h|-
   rcases h with⟨out,h1,h2|⟨h3,h2⟩|⟨h3,h2⟩⟩|h
   ·exact .inl ⟨out,h1, .inl (by cases out<;>first|exact hK _ _ _ h2|exact hX _ _ _ h2)⟩
   ·exact .inl ⟨out,h1, .inr (.inl ⟨h3,by cases out<;>first|exact hK _ _ _ h2|exact hX _ _ _ h2⟩)⟩
   ·exact .inl ⟨out,h1, .inr (.inr ⟨h3,by cases out<;>first|exact hK _ _ _ h2|exact hX _ _ _ h2⟩)⟩
   ·exact .inr (oS.mono hK hX h)
  |none=>
   simp only[ff]at h|-
   exact oS.mono hK hX h
 ·exact dO.mono hK hX h
 ·exact h.elim
theorem yI{x:Option fX}{K:V->List (Nat×ab)->Prop}(h:kB K x):∃v Δ rd,x=some (v,Δ,rd)/\K v Δ:=by
 unfold kB at h;split at h
 ·exact⟨_,_,_,rfl,h⟩
 ·exact h.elim
theorem Av{s:S}{o:bV}{X X':V->S->Prop}{K K':S->Prop}(hK:∀s,K s->K' s)(hX:∀v s,X v s->X' v s)(h:CD P X K o s):Jq P s o X' K':=by
 unfold CD at h
 unfold Jq
 have hs:∀ {op:Op},(kB (fun v Δ=>K ⟨a8 s.env o.dst v,put s.o Δ,s.nx+1⟩) (gG P s s.nx op))->(match gG P s s.nx op with|some (v,Δ,_)=>K' ⟨a8 s.env o.dst v,put s.o Δ,s.nx+1⟩|none=>False):=by
  intro op h
  obtain⟨v,Δ,rd,he,h⟩:=yI h
  simp only[he];exact hK _ h
 split at h
 ·rename_i x str hx
  rw[hx]
  unfold K2 at h
  simp only
  split at h
  ·rename_i id l hl
   simp only[hl]
   exact⟨h.1,fun e=>hK _ (h.2.1 e),fun i k x e=>hK _ (h.2.2 i k x e)⟩
  ·rename_i hl
   simp only[hl]
   exact hs (op:= .next x str) h
 ·rename_i c hc
  simp only[hc]
  split at h
  ·rename_i f hf
   simp only[hf]
   exact CF (K:=fun v o' nx'=>K ⟨a8 s.env o.dst v,o',nx'⟩) (X:=fun v o' nx'=>X v ⟨s.env,o',nx'⟩) (fun v o n h=>hK _ h) (fun v o n h=>hX _ _ h) h
  ·rename_i r m hf
   simp only[hf]
   unfold K1 at h
   split at h
   ·rename_i g y hr
    simp only[hr]
    unfold CC at h
    split at h
    ·rename_i ds ff
     obtain⟨out,h1,h2⟩:=h
     refine .inl ⟨ds,ff,out,h1, ?_⟩
     rcases h2 with h2|⟨h3,h2⟩|⟨h3,h2⟩
     ·exact .inl (by cases out<;>first|exact hK _ h2|exact hX _ _ h2)
     ·exact .inr (.inl ⟨h3,by cases out<;>first|exact hK _ h2|exact hX _ _ h2⟩)
     ·exact .inr (.inr ⟨h3,by cases out<;>first|exact hK _ h2|exact hX _ _ h2⟩)
    ·exact h.elim
   ·exact h.elim
  ·rename_i hf hi
   rw[hc]at h
   obtain⟨Ku,args,ts⟩:=c
   cases Ku with
   |value f=>exact absurd rfl (hf f)
   |invoke r m=>exact absurd rfl (hi r m)
   |_=>exact hs h
 ·rename_i x hx
  simp only[hx]
  unfold Io at h
  split at h
  ·rename_i hv;simp only[hv];exact hX _ _ h
  ·rename_i hv;simp only[hv];exact hX _ _ h
  ·exact h.elim
 ·rename_i uu hc hp
  have h2:=hs h
  cases hh:o.op<;>first
   |exact absurd hh (hc _)
   |exact absurd hh (hp _)
   |exact absurd hh (uu _ _)
   |(rw[hh]at h2;exact h2)
theorem K5{s:S}{o:bV}{X:V->S->Prop}{K:S->Prop}(hp:kS o.op=true){v:V}{Δ:List (Nat×ab)}{rd:List Nat}(he:gG P s s.nx o.op=some (v,Δ,rd))(h:K ⟨a8 s.env o.dst v,put s.o Δ,s.nx+1⟩):Jq P s o X K:=by
 unfold Jq
 split
 ·rename_i c hc
  split
  ·rename_i f hf;rw[hc]at hp;simp[kS,hf]at hp
  ·rename_i r m hf;rw[hc]at hp;simp[kS,hf]at hp
  ·rw[he];exact h
 ·rename_i x hx;rw[hx]at hp;simp[kS]at hp
 ·rename_i x str hx;rw[hx]at hp;simp[kS]at hp
 ·rw[he];exact h
theorem sC{X X':V->S->Prop}{K K':S->Prop}(hK:∀s,K s->K' s)(hX:∀v s,X v s->X' v s):∀ (l:List bV) (s:S),sw P X K l s->pF P X' K' l s
 |[],s,h=>hK _ h
 |o::l,s,h=>by
  have ih:=sC hK hX l
  unfold sw at h
  unfold pF
  cases hg:o.gd with
  |none=>
   simp only[hg]at h|-
   exact Av ih hX h
  |some p=>
   obtain⟨d,want⟩:=p
   simp only[hg]at h|-
   unfold Au at h
   split at h
   ·exact h.elim
   ·rename_i c hc
    have Um:∀ {A B:Prop},(c=true->A)->(c=false->B)->(match s.env d with
     | .d (.bool b)=>if b=want then A else B
     | .bS []=>B
     |_=>False):=by
     intro A B hA hB
     generalize s.env d=v at hc
     unfold mF at hc
     split at hc
     ·rename_i b
      injection hc with hc
      split
      ·rename_i e;exact hA (by rw[<- hc];simp[e])
      ·rename_i e;exact hB (by rw[<- hc];simp[e])
     ·injection hc with hc
      exact hB hc.symm
     ·cases hc
    split at h
    ·rename_i f args Jr
     rcases h with h|h
     case inr=>exact Um (fun Rz=>Av ih hX (h.1 Rz)) (fun Un=>ih _ (h.2 Un))
     obtain⟨rs,h1,h2⟩:=h
     refine Um (fun Rz=> ?_) (fun Un=> ?_)
     ·unfold eM at Jr
      split at Jr
      ·rename_i c' vr
       split at Jr
       ·rename_i f' xF
        injection Jr with Jr;injection Jr with e1 e2;subst e1;subst e2
        have db:=h1 Rz
        unfold Jq
        simp only[vr,xF]
        unfold CA at db
        split at db
        ·rename_i g first cap xy
         simp only[xy]
         split at db
         ·rename_i ds ff
          simp only[ff]
          refine .inl ⟨.ret rs,db.1, .inr (.inl ⟨db.2, ?_⟩)⟩
          refine ih _ ?_
          rw[Rz]at h2
          exact h2
         ·exact db.elim
        ·exact db.elim
       ·cases Jr
      ·cases Jr
     ·refine ih _ ?_
      rw[Un]at h2
      exact h2
    ·split at h
     ·rename_i hp
      obtain⟨v,Δ,rd,he,h⟩:=yI h
      refine Um (fun Rz=> ?_) (fun Un=> ?_)
      ·rw[Rz]at he
       simp only[kR,if_true]at he
       split at he
       ·rename_i v' um p9
        injection he with he;injection he with e1 e2;subst e1
        exact K5 hp p9 (ih _ h)
       ·cases he
      ·rw[Un]at he
       simp only[kR]at he
       injection he with he;injection he with e1 e2;subst e1
       exact ih _ h
     ·exact Um (fun Rz=>Av ih hX (h.1 Rz)) (fun Un=>ih _ (h.2 Un))
theorem Aw{op:Op}{f:Operand}{args:List Operand}(h:eM op=some (f,args)):∃c,op= .call c/\c.callee= .value f/\c.args.toList=args:=by
 unfold eM at h
 split at h
 ·rename_i c
  split at h
  ·rename_i f' xF
   injection h with h;injection h with e1 e2;subst e1;subst e2
   exact⟨c,rfl,xF,rfl⟩
  ·cases h
 ·cases h
theorem Iq{x:Option fX}{rd:List Nat}{K:KD}(h:vP K rd x):∃v Δ r,x=some (v,Δ,r)/\K v Δ rd:=by
 unfold vP at h;split at h
 ·exact⟨_,_,_,rfl,h⟩
 ·exact h.elim
theorem iX.mono {P:Program}{g:FuncId}{args:List V}{o:Nat->ab}{nx fr:Nat}{K K':KD}{X X':XD}(hK:∀v Δ r,K v Δ r->K' v Δ r)(hX:∀v w r,X v w r->X' v w r)(h:iX P g args o nx fr K X):iX P g args o nx fr K' X':=by
 obtain⟨rd,Δ,h1,⟨rs,h2,h3⟩|⟨x,h2,h3⟩|⟨v,h2,h3⟩⟩:=h
 ·exact⟨rd,Δ,h1, .inl ⟨rs,h2,hK _ _ _ h3⟩⟩
 ·exact⟨rd,Δ,h1, .inr (.inl ⟨x,h2,hX _ _ _ h3⟩)⟩
 ·exact⟨rd,Δ,h1, .inr (.inr ⟨v,h2,hK _ _ _ h3⟩)⟩
theorem tA.mono {P:Program}{g:FuncId}{ds:List D}{Kf Kb KX Kf' Kb' KX':V->Prop}(h1:∀v,Kf v->Kf' v)(h2:∀v,Kb v->Kb' v)(h3:∀v,KX v->KX' v)(h:tA P g ds Kf Kb KX):tA P g ds Kf' Kb' KX':=by
 rcases h with⟨rs,a,b|⟨b,c⟩⟩|⟨x,a,b,c⟩|⟨v,a,b⟩
 ·exact .inl ⟨rs,a, .inl (h1 _ b)⟩
 ·exact .inl ⟨rs,a, .inr ⟨b,h2 _ c⟩⟩
 ·exact .inr (.inl ⟨x,a,b,h3 _ c⟩)
 ·exact .inr (.inr ⟨v,a,h1 _ b⟩)
theorem Gv{s:S}{fr:Nat}{o:bV}{K K':KD}{X X':XD}(hK:∀v Δ r,K v Δ r->K' v Δ r)(hX:∀v w r,X v w r->X' v w r)(h:Nf P K X fr o s):Bq P s fr o K' X':=by
 unfold Nf at h
 split at h
 ·rename_i f args Jr
  obtain⟨c,h1,h2,h3⟩:=Aw Jr
  subst h3
  unfold Bq
  simp only[h1,h2]
  unfold CE sA at h
  split at h
  ·rename_i g first cap hf
   simp only[hf]
   split at h
   ·rename_i ds ff
    simp only[ff]
    refine h.elim (fun h=> .inl ?_) (fun h=> .inr (iX.mono hK hX h))
    refine tA.mono (fun v h=> ?_) (fun v h=> ?_) (fun v h=> ?_) h<;>(rw[h1]at h)
    ·exact hK _ _ _ h
    ·exact hK _ _ _ h
    ·exact hX _ _ _ h
   ·rename_i ff
    simp only[ff]
    exact iX.mono hK hX h
  ·exact h.elim
 ·rename_i Jr
  obtain⟨v,Δ,rd,he,h⟩:=Iq h
  unfold Bq
  split
  ·rename_i c hc
   split
   ·rename_i f hf
    exact absurd Jr (by simp[eM,hc,hf])
   ·simp only[he];exact hK _ _ _ h
  ·simp only[he];exact hK _ _ _ h
theorem CG{s:S}{fr:Nat}{o:bV}{K K':KD}{X X':XD}(hK:∀v Δ r,K v Δ r->K' v Δ r)(hX:∀v w r,X v w r->X' v w r)(h:Bq P s fr o K X):Bq P s fr o K' X':=by
 unfold Bq at h|-
 split at h
 ·rename_i c hc
  rw[hc]at h|-
  split at h
  ·rename_i f hf
   (try simp only[hf])
   split at h
   ·rename_i xy
    (try simp only[xy])
    split at h
    ·exact h.elim (fun h=> .inl (tA.mono (fun v h=>hK _ _ _ h) (fun v h=>hK _ _ _ h) (fun v h=>hX _ _ _ h) h)) (fun h=> .inr (iX.mono hK hX h))
    ·exact iX.mono hK hX h
   ·exact h.elim
  ·rename_i hf
   split at h
   ·rename_i he
    (try simp only[he])
    exact hK _ _ _ h
   ·exact h.elim
 ·split at h
  ·rename_i he
   (try simp only[he]);exact hK _ _ _ h
  ·exact h.elim
theorem js{KB KB':List Nat->Fp->Prop}{pr:List (List Nat)}(hK:∀l fp,KB l fp->KB' l fp):∀ (l:List bV) (fr:Nat) (s:S) (fp:Fp) (bad ws:List Nat),iq P KB pr l fr s fp bad ws->iq P KB' pr l fr s fp bad ws
 |[],_,_,_,_,_,h=>hK _ _ h
 |o::l,fr,s,fp,bad,ws,h=>by
  unfold iq at h|-
  split
  ·rename_i hb
   rw[if_pos hb]at h
   exact js hK l _ _ _ _ _ h
  ·rename_i hb
   rw[if_neg hb]at h
   split at h
   ·exact CG (fun v Δ r h=>js hK l _ _ _ _ _ h) (fun _ _ _ h=>h) h
   ·split at h
    ·split at h
     ·rename_i e;simp only[e,if_true]
      exact CG (fun v Δ r h=>js hK l _ _ _ _ _ h) (fun _ _ _ h=>h) h
     ·rename_i e;simp only[e,if_false]
      exact js hK l _ _ _ _ _ h
    ·exact js hK l _ _ _ _ _ h
    ·exact h.elim
theorem jt{K K':S->Fp->Prop}{KP KP':V->List Nat->Fp->Prop}{pr:List (List Nat)}(hK:∀s fp,K s fp->K' s fp)(hP:∀v l fp,KP v l fp->KP' v l fp):∀ (l:List bV) (fr:Nat) (s:S) (fp:Fp),pI P K KP pr l fr s fp->kQ P K' KP' pr l fr s fp
 |[],_,_,_,h=>hK _ _ h
 |o::l,fr,s,fp,h=>by
  have hB:∀v ws (rdl:List Nat),Ip P (KP v) pr l (fr+1) (fp++[(rdl,[])]) [fp.length] (ws++fp.flatMap (·.2)) ⟨a8 s.env o.dst .ad,s.o,s.nx⟩->
   iq P (KP' v) pr l (fr+1) ⟨a8 s.env o.dst .ad,s.o,s.nx⟩ (fp++[(rdl,[])]) [fp.length] (ws++fp.flatMap (·.2)):=fun v ws rdl h=>js (fun a b h=>hP v a b h) l _ _ _ _ _ h
  unfold pI at h
  unfold kQ
  split at h
  ·rename_i hg
   (try simp only[hg])
   exact Gv (fun v Δ r h=>jt hK hP l _ _ _ h) hB h
  ·rename_i d want hg
   (try simp only[hg])
   generalize s.env d=v at h
   unfold jN at h
   split at h
   ·rename_i bb
    by_cases e:bb=want
    ·subst e
     simp only[if_true]
     exact Gv (fun v Δ r h=>jt hK hP l _ _ _ h) hB (h.1 aH)
    ·simp only[if_neg e]
     exact jt hK hP l _ _ _ (h.2 (by simpa using e))
   ·exact jt hK hP l _ _ _ h
   ·exact h.elim
theorem ed:∀ (c:IC) (Q Q':fL->S->Prop) (s:S),(∀e s,Q e s->Q' e s)->kT P n b rd c Q s->ux P n b rd c Q' s
 | .skip,_,_,_,hQ,h=>hQ _ _ h
 | .ag l,_,_,_,hQ,h=>sC (fun s h=>hQ _ _ h) (fun v s h=>hQ _ _ h) l _ h
 | .de l pr,_,_,_,hQ,h=>by
   unfold kT at h
   generalize sB l 0=sp at h
   cases sp with
   |none=>exact .inl (jt (fun s fp h=>⟨h.1,hQ _ _ h.2⟩) (fun v l fp h=>⟨h.1,hQ _ _ h.2⟩) l _ _ _ h)
   |some m=>exact .inr ⟨m,h.1,h.2.1,jt (fun s fp h=>⟨h.1,sC (fun s h=>hQ _ _ h) (fun v s h=>hQ _ _ h) _ _ h.2⟩) (fun v l fp h=>h.elim) _ _ _ _ h.2.2⟩
 | .seq x y,Q,Q',s,hQ,h=>ed x _ _ s (fun e s h=>by
  unfold qB at h|-
  cases e with
  |normal=>exact ed y _ _ s hQ h
  |_=>exact hQ _ _ h) h
 | .cond c x y,Q,Q',s,hQ,h=>by
   unfold kT yH iL at h
   unfold ux
   split at h
   ·rename_i t ht
    simp only[ht]
    exact⟨fun e=>ed x _ _ s hQ (h.1 e),fun e=>ed y _ _ s hQ (h.2 e)⟩
   ·rename_i ht
    simp only[ht]
    exact⟨ed x _ _ s hQ h.1,ed y _ _ s hQ h.2⟩
   ·exact h.elim
 | .block id x,Q,Q',s,hQ,h=>ed x _ _ s (fun e s h=>by
  unfold fF at h|-
  cases e with
  |exit j=>
   simp only at h|-
   split
   ·rename_i e;rw[if_pos e]at h;exact hQ _ _ h
   ·rename_i e;rw[if_neg e]at h;exact hQ _ _ h
  |_=>exact hQ _ _ h) h
 | .loop x,Q,Q',s,hQ,h=>by
   obtain⟨ι,st,cA,pJ,i0,h0,hle,h2⟩:=h
   refine⟨fun m s=>∃i,cA i/\pJ i=m/\s=st i,⟨pJ i0,st i0,hle,i0,h0,rfl,rfl⟩, ?_⟩
   rintro m s0 ⟨i,hg,rfl,rfl⟩
   refine ed x _ _ _ (fun e s h=> ?_) (h2 i hg)
   cases e with
   |normal=>
    obtain⟨j,k1,k2,k3⟩:=h
    exact⟨pJ j,st j,k2,k3,j,k1,rfl,rfl⟩
   |_=>exact hQ _ _ h
 | .exit id,_,_,_,hQ,h=>hQ _ _ h
 | .ret,_,_,_,hQ,h=>hQ _ _ h
 | .Jj g ps x y,_,_,_,hQ,h=>⟨h.1,match h.2 with
   | .inl h=>⟨_, .inl rfl,sv hQ h⟩
   | .inr ⟨s',hle,h⟩=>⟨s', .inr hle,sv hQ h⟩⟩
 | .bad,_,_,_,_,h=>h.elim
end
theorem aV.aG {P:Program}(br:P.follows .mixedOrders=true){f:FuncId}{n:Nat}{ic:IC}{rs:List ResultVar}{ds:List D}{out:R}(hf:aN P f n ic rs)(hl:ds.length<=n)
 (h:kT P n 0 false ic (zY P rs out) ⟨cw (ds.map .d),fun _=> .no,0⟩):aV P f ds out:=
 aV.vN br hf hl (ed ic _ _ _ (fun _ _ h=>h) h)
def sE(P:Program)(rs:List ResultVar)(K X:V->(Nat->ab)->Nat->Prop)(e:fL)(s:S):Prop:=mf P rs K X e s
theorem bZ.aG {P:Program}(br:P.follows .mixedOrders=true){f:FuncId}{n:Nat}{ic:IC}{rs:List ResultVar}{args:List V}{o:Nat->ab}{nx:Nat}{K X:V->(Nat->ab)->Nat->Prop}(hf:aN P f n ic rs)(hl:args.length<=n)
 (h:kT P n nx false ic (sE P rs K X) ⟨cw args,o,nx⟩):bZ P f args o nx K X:=
 bZ.vN br hf hl (ed ic _ _ _ (fun _ _ h=>h) h)
section
variable {P:Program}{g:FuncId}{ds:List D}{o:Nat->ab}{nx:Nat}{K X:V->(Nat->ab)->Nat->Prop}{all:List V}
theorem ak{rs:List D}(h:aV P g ds (.ret rs))(hf:D.jL rs=true)(hk:K (iV rs) o (nx+1)):vO P g o nx K X ds all:= .inl ⟨.ret rs,h, .inr (.inl ⟨hf,hk⟩)⟩
theorem bw{rs:List D}(h:aV P g ds (.ret rs))(hk:K (iV rs) (put o (bE o (V.bp all))) (nx+1)):vO P g o nx K X ds all:= .inl ⟨.ret rs,h, .inl hk⟩
theorem bX(h:bZ P g all o nx K X):vO P g o nx K X ds all:= .inr (.inl h)
theorem gy{e:Nat->V}{ds:Option (List D)}(h:bZ P g all o nx K X):nB P g K X ⟨e,o,nx⟩ all ds:=by
 cases ds with
 |some ds=>exact(.inr (.inl h):vO P g o nx K X ds all)
 |none=>exact(.inl h:CB P g nx K X all o)
theorem aX(h:bZ P g all o nx K X):CB P g nx K X all o:= .inl h
variable {K:KD}{X:XD}{rd:List Nat}{fr:Nat}
theorem aZ{rs:List D}(h:aV P g ds (.ret rs))(hf:D.jL rs=true)(hk:K (iV rs) [] rd):mj P g K X o nx fr rd ds all:= .inl (.inl ⟨rs,h, .inr ⟨hf,hk⟩⟩)
theorem aS{rs:List D}(h:aV P g ds (.ret rs))(hk:K (iV rs) (bE o (V.bp all)) rd):mj P g K X o nx fr rd ds all:= .inl (.inl ⟨rs,h, .inl hk⟩)
theorem yJ{v:V}(h:Nd P g ds v)(hk:K v (bE o (V.bp all)) rd):mj P g K X o nx fr rd ds all:= .inl (.inr (.inr ⟨v,h,hk⟩))
theorem Ir{v:V}{um:List Nat}{Δ:List (Nat×ab)}(mJ:um.all (fun id=>decide (id<nx))=true)(h:Bo P g all um o fr v Δ)(hk:K v Δ um):mj P g K X o nx fr rd ds all:= .inr ⟨um,Δ,mJ, .inr (.inr ⟨v,h,hk⟩)⟩
end
theorem gz{P:Program}{f:V}{args:List V}{o:Nat->ab}{K:V->Prop}{c:Bool}(rs:List D)(h:mE c (CA P f args o rs))(hk:K (V.As c (iV rs))):Gq P f args o K c:=⟨rs,h,hk⟩
theorem ao{t:Bool}{A B:Prop}(h:t=true->A)(h2:t=false->B):iL A B t:=⟨h,h2⟩
theorem aE{pr:List (List Nat)}{nx:Nat}{Q:fL->S->Prop}{s:S}{fp:List (List Nat×List Nat)}(h:eS pr fp=true)(h2:Q .normal ⟨s.env,s.o,nx⟩):Ob pr nx Q s fp:=⟨h,h2⟩
@[go_sem] theorem K6 (o:Nat->ab):put o []=o:=rfl
@[go_sem] theorem Xi (o:Nat->ab) (x:Nat×ab) (l:List (Nat×ab)):put o (x::l)=put (ay o x.1 x.2) l:=rfl
@[go_sem] theorem aa {α:Type} (f:Nat->α) (i:Nat) (x:α):ay f i x i=x:=aH
@[go_sem] theorem ae {α:Type} (f:Nat->α) (i j:Nat) (x:α) (h:j≠i):ay f i x j=f j:=by simp[h]
@[go_sem] theorem Oe (v:V) (l:List V):cw (v::l) 0=v:=rfl
@[go_sem] theorem Of (v:V) (l:List V) (i:Nat):cw (v::l) (i+1)=cw l i:=rfl
@[go_sem] theorem RA (i:Nat):cw [] i= .bS []:=by simp[cw]
@[go_sem] theorem Xj {P:Program} {o:Nat->ab} {t:TypeId} {id off:Nat}:nr P o t (.ptr id off)=match o id with
 | .row cs=>match eU P t cs off with
   |some v=>some (v,[],[id])
   |none=>none
 |_=>none:=by unfold nr;exact Eq.trans rfl rfl
@[go_sem] theorem aag {P:Program} {o:Nat->ab} {t:TypeId} {cs:List D} {off:Nat}:nr P o t (.pp cs off)=match eU P t (cs.map .d) off with
 |some v=>some (v,[],[])
 |none=>none:=by unfold nr;exact Eq.trans rfl rfl
@[go_sem] theorem aah {P:Program} {o:Nat->ab} {t:TypeId} {id ep i sz off:Nat}:nr P o t (.pe id ep i sz off)=match o id with
 | .arr fW _ rH es=>if ep=fW/\sz=rH then match es[i]? with
  |some e=>match eU P t (e.cells.map .d) off with
   |some v=>some (v,[],[id])
   |none=>none
  |none=>none
   else none
 |_=>none:=by unfold nr;exact Eq.trans rfl rfl
section
variable {P:Program}{o:Nat->ab}{t:TypeId}{op:BinOp}{mW:Bool}
@[go_sem] theorem Xk {k:IntKind} {a b:Int}:fw P o op t mW (.d (.int k a)) (.d (.int k b))=match Ci op k a b with
 |some v=>one v
 |none=>rZ P o op t mW (.d (.int k a)) (.d (.int k b)):=by
  simp only[fw,Ac,if_true]
  cases Ci op k a b<;>rfl
@[go_sem] theorem Xl {a b:Bool} (h:oi P t=true):fw P o .eql t mW (.d (.bool a)) (.d (.bool b))=one (.d (.bool (a==b))):=by simp only[fw,Ac,KI,h,if_true]
@[go_sem] theorem Xm {a b:Bool} (h:oi P t=true):fw P o .neq t mW (.d (.bool a)) (.d (.bool b))=one (.d (.bool (a !=b))):=by simp only[fw,Ac,KI,h,if_true]
@[go_sem] theorem Xn {a b:List UInt8}:fw P o .eql t mW (.d (.str a)) (.d (.str b))=one (.d (.bool (a==b))):=JU
@[go_sem] theorem Xo {a b:List UInt8}:fw P o .neq t mW (.d (.str a)) (.d (.str b))=one (.d (.bool (a !=b))):=JU
@[go_sem] theorem Xp {a b:List D}:fw P o op t mW (.d (.agg a)) (.d (.agg b))=rZ P o op t mW (.d (.agg a)) (.d (.agg b)):=JU
theorem Ny{x:V}{y:V}(h:match y with| .d (.int _ _)| .d (.bool _)| .d (.str _)=>False|_=>True):Ac P op t x y=none:=by
 unfold Ac
 split<;>first|exact h.elim|rfl
@[go_sem] theorem Uo {x:V}:fw P o op t mW x .ax=rZ P o op t mW x .ax:=JI
@[go_sem] theorem Up {x:V}:fw P o op t mW x (.d .eT)=rZ P o op t mW x (.d .eT):=JI
@[go_sem] theorem Uq {x:V}:fw P o op t mW x (.d .lu)=rZ P o op t mW x (.d .lu):=JI
@[go_sem] theorem Ur {x:V}:fw P o op t mW x (.d .cz)=rZ P o op t mW x (.d .cz):=JI
@[go_sem] theorem Us {x:V}:fw P o op t mW x (.d .dK)=rZ P o op t mW x (.d .dK):=JI
@[go_sem] theorem aai {b:Bool}:Hy .not (.d (.bool b))=some (.d (.bool !b)):=JW
@[go_sem] theorem aaj:Hy .not .fC=some .fC:=JW
@[go_sem] theorem aak {k:IntKind} {n:Int}:Hy .neg (.d (.int k n))=some (.d (.int k (k.wrap (-n)))):=JW
end
@[go_sem] theorem D.Xq (cs:List D):(D.agg cs).cells=cs:=rfl
@[go_sem] theorem D.Xr (k:IntKind) (n:Int):(D.int k n).cells=[.int k n]:=rfl
@[go_sem] theorem D.Ut (b:Bool):(D.bool b).cells=[.bool b]:=rfl
@[go_sem] theorem D.Xs (b:List UInt8):(D.str b).cells=[.str b]:=rfl
@[go_sem] theorem D.aal (b:List D):(D.sl b).cells=[.sl b]:=rfl
@[go_sem] theorem D.aam (a b:List D):(D.mp a b).cells=[.mp a b]:=rfl
@[go_sem] theorem D.RB (t:TypeId) (x:D):(D.iface t x).cells=[.iface t x]:=rfl
@[go_sem] theorem D.Uu:D.eT.cells=[.eT]:=rfl
@[go_sem] theorem D.Uv:D.lu.cells=[.lu]:=rfl
@[go_sem] theorem D.Uw:D.cz.cells=[.cz]:=rfl
@[go_sem] theorem D.Ux:D.dK.cells=[.dK]:=rfl
attribute [go_sem] V.ofConst V.dq Ci KI qJ Ew yy pb ik il sn gu mg qK qL qM Ad jq KJ mc dQ cf eU zK tf mD V.cells D.put bE V.ids V.bp iV D.jL D.flat R.flat
attribute [go_sem] D9 List.take_succ_cons List.take_zero List.take_nil List.drop_zero List.drop_succ_cons List.drop_nil
attribute [go_sem] List.map_cons List.map_nil List.length_cons List.length_nil List.cons_append List.nil_append List.append_nil List.getElem?_cons_zero List.getElem?_cons_succ Option.bind_some Option.bind_none Option.map_some Option.map_none ab.cu ab.ct
section
variable {P:Program}{n b:Nat}{rd:Bool}{Q:fL->S->Prop}{s:S}
@[go_sem] theorem aan:kT P n b rd .skip Q s=Q .normal s:=propext Iff.rfl
@[go_sem] theorem ads {l:List bV}:kT P n b rd (.ag l) Q s=sw P (fun v s=>Q (.bL v) s) (Q .normal) l s:=propext Iff.rfl
@[go_sem] theorem adt {l:List bV} {pr:List (List Nat)}:kT P n b rd (.de l pr) Q s=Oc P l pr Q s (sB l 0):=propext Iff.rfl
@[go_sem] theorem Xt {l:List bV} {pr:List (List Nat)}:Oc P l pr Q s none=pI P (Ob pr (s.nx+l.length) Q) (Cw pr l s Q) pr l s.nx s []:=propext Iff.rfl
@[go_sem] theorem aao {k:Nat}:sB [] k=none:=rfl
@[go_sem] theorem aap {d:Option Nat} {t:Nat} {args:Array Operand} {ts:Array TypeId} {l:List bV} {k:Nat}:sB (⟨d, .call ⟨.value (.tmp t),args,ts⟩,none⟩::l) k=some k:=rfl
@[go_sem] theorem adu {d:Option Nat} {op:Op} {g:Nat×Bool} {l:List bV} {k:Nat}:sB (⟨d,op,some g⟩::l) k=sB l (k+1):=rfl
@[go_sem] theorem aaq {d:Option Nat} {f:Nat} {args:Array Operand} {ts:Array TypeId} {l:List bV} {k:Nat}:sB (⟨d, .call ⟨.value (.func f),args,ts⟩,none⟩::l) k=sB l (k+1):=rfl
@[go_sem] theorem adv {d:Option Nat} {op:Op} {l:List bV} {k:Nat} (h:eM op=none):sB (⟨d,op,none⟩::l) k=sB l (k+1):=by rw[sB.eq_2];simp only[h]
@[go_sem] theorem adw {x y:IC}:kT P n b rd (.seq x y) Q s=kT P n b rd x (qB (fun s=>kT P n b rd y Q s) Q) s:=propext Iff.rfl
@[go_sem] theorem aar {c:Operand} {x y:IC}:kT P n b rd (.cond c x y) Q s=yH (kT P n b rd x Q s) (kT P n b rd y Q s) (s.ev c):=propext Iff.rfl
@[go_sem] theorem Xu {id:Nat} {x:IC}:kT P n b rd (.block id x) Q s=kT P n b rd x (fF id Q) s:=propext Iff.rfl
@[go_sem] theorem aas {x:IC}:kT P n b rd (.loop x) Q s=Gu b (fun Q s=>kT P n b rd x Q s) Q s:=propext Iff.rfl
@[go_sem] theorem aat {id:Nat}:kT P n b rd (.exit id) Q s=Q (.exit id) s:=propext Iff.rfl
@[go_sem] theorem adx:kT P n b rd .ret Q s=Q .ret s:=propext Iff.rfl
@[go_sem] theorem ady {g:Operand} {ps:List Nat} {x y:IC}:kT P n b rd (.Jj g ps x y) Q s=ug P n b rd g ps x y Q s (s.ev g):=propext Iff.rfl
@[go_sem] theorem aau {X:V->S->Prop} {K:S->Prop}:sw P X K [] s=K s:=propext Iff.rfl
@[go_sem] theorem Xv {X:V->S->Prop} {K:S->Prop} {d:Option Nat} {op:Op} {l:List bV}:sw P X K (⟨d,op,none⟩::l) s=CD P X (sw P X K l) ⟨d,op,none⟩ s:=propext Iff.rfl
@[go_sem] theorem Xw {X:V->S->Prop} {K:S->Prop} {d:Option Nat} {op:Op} {g:Nat} {w:Bool} {l:List bV}:sw P X K (⟨d,op,some (g,w)⟩::l) s=Au P X (sw P X K l) ⟨d,op,some (g,w)⟩ s (mF (s.env g) w):=propext Iff.rfl
variable {X:V->S->Prop}{K:S->Prop}{d:Option Nat}{op:Op}{g:Option (Nat×Bool)}{f:Operand}{args:Array Operand}{ts:Array TypeId}{c:Bool}
@[reducible] def Xx:Op->Bool
  | .call c=>match c.callee with
    | .value _=>true
    | .invoke .. =>true
    |_=>false
  | .panic _=>true
  | .next .. =>true
  |_=>false
@[go_sem] theorem aeg (h:Xx op=false):CD P X K ⟨d,op,g⟩ s=kB (fun v Δ=>K ⟨a8 s.env d v,put s.o Δ,s.nx+1⟩) (gG P s s.nx op):=by
  unfold CD
  cases op with
  |call c=>
   obtain⟨Ku,args,ts⟩:=c
   cases Ku with
   |value f=>simp[Xx]at h
   |invoke r m=>simp[Xx]at h
   |_=>rfl
  |panic x=>simp[Xx]at h
  |next x str=>simp[Xx]at h
  |_=>rfl
@[go_sem] theorem aav {x:Operand} {str:Bool}:CD P X K ⟨d, .next x str,g⟩ s=K2 (fun v Δ=>K ⟨a8 s.env d v,put s.o Δ,s.nx+1⟩) str (o6 s.o (s.ev x) str) (o7 s.o (s.ev x)):=propext Iff.rfl
@[go_sem] theorem aaw:CD P X K ⟨d, .call ⟨.value f,args,ts⟩,g⟩ s=tC P (fun v o' nx'=>K ⟨a8 s.env d v,o',nx'⟩) (fun v o' nx'=>X v ⟨s.env,o',nx'⟩) s (s.ev f) (args.toList.map s.ev):=propext Iff.rfl
@[go_sem] theorem Uy {m:String}:CD P X K ⟨d, .call ⟨.invoke f m,args,ts⟩,g⟩ s=K1 P (fun v o' nx'=>K ⟨a8 s.env d v,o',nx'⟩) (fun v o' nx'=>X v ⟨s.env,o',nx'⟩) s (args.toList.map s.ev) (vo P m (s.ev f)):=propext Iff.rfl
@[go_sem] theorem Xy:CD P X K ⟨d, .panic f,g⟩ s=Io (fun v=>X v s) (s.ev f):=propext Iff.rfl
@[go_sem] theorem Xz:Au P X K ⟨d, .call ⟨.value f,args,ts⟩,g⟩ s (some c)=EM P X K ⟨d, .call ⟨.value f,args,ts⟩,g⟩ s f args.toList c:=propext Iff.rfl
theorem iu{e:Nat->V}{ob:Nat->ab}{nx:Nat}(h:Gq P ((⟨e,ob,nx⟩:S).ev f) (args.toList.map (⟨e,ob,nx⟩:S).ev) ob (fun v=>K ⟨a8 e d v,ob,nx+1⟩) c):EM P X K ⟨d,op,g⟩ ⟨e,ob,nx⟩ f args.toList c:= .inl h
theorem CH{s:S}{o:bV}{l:List Operand}(h:iL (CD P X K o s) (K ⟨a8 s.env o.dst (.bS []),s.o,s.nx+1⟩) c):EM P X K o s f l c:= .inr h
@[go_sem] theorem XA (h:kS op=true):Au P X K ⟨d,op,g⟩ s (some c)=kB (fun v _=>K ⟨a8 s.env d v,s.o,s.nx+1⟩) (kR c (gG P s s.nx op)):=by
  have h2:eM op=none:=by
   cases hc:eM op with
   |none=>rfl
   |some x=>
    exfalso
    unfold eM at hc
    split at hc
    ·split at hc
     ·rename_i hv;simp[kS,hv]at h
     ·cases hc
    ·cases hc
  simp only[Au,h2,h,if_true]
@[go_sem] theorem XB (h:kS op=false) (h2:eM op=none):Au P X K ⟨d,op,g⟩ s (some c)=iL (CD P X K ⟨d,op,g⟩ s) (K ⟨a8 s.env d (.bS []),s.o,s.nx+1⟩) c:=by
  simp[Au,h2,h]
@[go_sem] theorem Uz {l:List Operand}:EM P X K ⟨d,op,g⟩ s f l false=K ⟨a8 s.env d (.bS []),s.o,s.nx+1⟩:=by
  refine propext ⟨fun h=> ?_,fun h=> .inr ⟨(fun e=>by cases e),fun _=>h⟩⟩
  rcases h with⟨rs,_,h⟩|h
  ·exact h
  ·exact h.2 rfl
@[go_sem] theorem XC {l:List Operand} (hl:args.toList=l):EM P X K ⟨d, .call ⟨.value f,args,ts⟩,g⟩ s f l true=CD P X K ⟨d, .call ⟨.value f,args,ts⟩,g⟩ s:=by
  subst hl
  refine propext ⟨fun h=> ?_,fun h=> .inr ⟨fun _=>h,(fun e=>by cases e)⟩⟩
  rcases h with⟨rs,h1,h⟩|h
  ·have h1:=h1 rfl
   unfold CA at h1
   unfold CD tC nB
   simp only
   split at h1
   ·rename_i fv gg first cap hf
    simp only[hf]
    split at h1
    ·rename_i ds ff
     simp only[ff]
     exact .inl ⟨.ret rs,h1.1, .inr (.inl ⟨h1.2,h⟩)⟩
    ·exact h1.elim
   ·exact h1.elim
  ·exact h.1 rfl
variable {KV:KD}{XV:XD}
@[go_sem] theorem aax {fr:Nat}:Nf P KV XV fr ⟨d, .call ⟨.value f,args,ts⟩,g⟩ s=CE P KV XV s.o s.nx fr (oR s (.call ⟨.value f,args,ts⟩)) (s.ev f) (args.toList.map s.ev):=propext Iff.rfl
@[go_sem] theorem aeh {fr:Nat} (h2:eM op=none):Nf P KV XV fr ⟨d,op,g⟩ s=vP KV (oR s op) (gG P s fr op):=by simp[Nf,h2]
variable {KS:S->Prop}
@[go_sem ↓] theorem Og:qB KS Q .normal s=KS s:=propext Iff.rfl
@[go_sem ↓] theorem UA {id:Nat}:qB KS Q (.exit id) s=Q (.exit id) s:=propext Iff.rfl
@[go_sem ↓] theorem XE:qB KS Q .ret s=Q .ret s:=propext Iff.rfl
@[go_sem ↓] theorem XF {v:V}:qB KS Q (.bL v) s=Q (.bL v) s:=propext Iff.rfl
@[go_sem ↓] theorem Ng {id:Nat}:fF id Q .normal s=Q .normal s:=propext Iff.rfl
@[go_sem ↓] theorem RC {id:Nat}:fF id Q (.exit id) s=Q .normal s:=by simp[fF]
@[go_sem ↓] theorem Oh {id j:Nat} (h:j≠id):fF id Q (.exit j) s=Q (.exit j) s:=by simp[fF,h]
@[go_sem ↓] theorem UB {id:Nat}:fF id Q .ret s=Q .ret s:=propext Iff.rfl
@[go_sem ↓] theorem UC {id:Nat} {v:V}:fF id Q (.bL v) s=Q (.bL v) s:=propext Iff.rfl
def Oi(out:R)(x:Option (List D)):Prop:=match x with|some ds=>out= .ret ds|none=>False
@[go_sem] theorem XG {out:R} {ds:List D}:Oi out (some ds)=(out= .ret ds):=propext Iff.rfl
def UD(out:R)(x:Option D):Prop:=match x with|some d=>out= .bL d|none=>False
@[go_sem] theorem XH {out:R} {d:D}:UD out (some d)=(out= .bL d):=propext Iff.rfl
def Oj(out:R)(o:Nat->ab)(x:Option (List V)):Prop:=match x with|some vs=>Oi out (cf o vs)|none=>False
@[go_sem] theorem XI {out:R} {o:Nat->ab} {vs:List V}:Oj out o (some vs)=Oi out (cf o vs):=propext Iff.rfl
variable {rs:List ResultVar}{out:R}
@[go_sem ↓] theorem XJ:zY P rs out .ret s=Oj out s.o (mc P s rs):=propext Iff.rfl
@[go_sem ↓] theorem Ol:zY P rs out .normal s=Oj out s.o (mc P s rs):=propext Iff.rfl
@[go_sem ↓] theorem XK {v:V}:zY P rs out (.bL v) s=UD out (dQ s.o v):=propext Iff.rfl
def CI(K:V->(Nat->ab)->Nat->Prop)(o:Nat->ab)(nx:Nat)(x:Fix (Option (List V)) (K,o,nx)):Prop:=match x with
 |some [v]=>K v o nx
 |some vs=>K (.bS vs) o nx
 |none=>False
@[go_sem] theorem aay {K:V->(Nat->ab)->Nat->Prop} {o:Nat->ab} {nx:Nat} {v:V}:CI K o nx (some [v])=K v o nx:=propext Iff.rfl
@[go_sem] theorem aaz {K:V->(Nat->ab)->Nat->Prop} {o:Nat->ab} {nx:Nat}:CI K o nx (some [])=K (.bS []) o nx:=propext Iff.rfl
@[go_sem] theorem aaA {K:V->(Nat->ab)->Nat->Prop} {o:Nat->ab} {nx:Nat} {v u:V} {l:List V}:CI K o nx (some (v::u::l))=K (.bS (v::u::l)) o nx:=propext Iff.rfl
theorem Gw{K X:V->(Nat->ab)->Nat->Prop}:mf P rs K X .ret s=CI K s.o s.nx (mc P s rs):=by
 unfold mf CI
 cases mc P s rs with
 |none=>rfl
 |some l=>match l with
  |[]=>rfl
  |[_]=>rfl
  |_::_::_=>rfl
@[go_sem ↓] theorem aaB {K X:V->(Nat->ab)->Nat->Prop}:sE P rs K X .ret s=CI K s.o s.nx (mc P s rs):=Gw
@[go_sem ↓] theorem RD {K X:V->(Nat->ab)->Nat->Prop}:sE P rs K X .normal s=CI K s.o s.nx (mc P s rs):=(Gw (X:=X):mf P rs K X .ret s=_)
@[go_sem ↓] theorem aaC {K X:V->(Nat->ab)->Nat->Prop} {v:V}:sE P rs K X (.bL v) s=X v s.o s.nx:=propext Iff.rfl
variable {KE:S->Fp->Prop}{KP:V->List Nat->Fp->Prop}{pr:List (List Nat)}{fr:Nat}{fp:Fp}
@[go_sem] theorem aaD:pI P KE KP pr [] fr s fp=KE s fp:=propext Iff.rfl
@[go_sem] theorem XL {d:Option Nat} {op:Op} {l:List bV}:pI P KE KP pr (⟨d,op,none⟩::l) fr s fp=
 Nf P (fun v Δ rd=>pI P KE KP pr l (fr+1) ⟨a8 s.env d v,put s.o Δ,s.nx⟩ (fp++[(rd,Δ.map (·.1))]))
  (fun v ws rd=>Ip P (KP v) pr l (fr+1) (fp++[(rd,[])]) [fp.length] (ws++fp.flatMap (·.2)) ⟨a8 s.env d .ad,s.o,s.nx⟩) fr ⟨d,op,none⟩ s:=propext Iff.rfl
@[go_sem] theorem XM {d:Option Nat} {op:Op} {g:Nat} {w:Bool} {l:List bV}:pI P KE KP pr (⟨d,op,some (g,w)⟩::l) fr s fp=
 jN w (Nf P (fun v Δ rd=>pI P KE KP pr l (fr+1) ⟨a8 s.env d v,put s.o Δ,s.nx⟩ (fp++[(rd,Δ.map (·.1))]))
  (fun v ws rd=>Ip P (KP v) pr l (fr+1) (fp++[(rd,[])]) [fp.length] (ws++fp.flatMap (·.2)) ⟨a8 s.env d .ad,s.o,s.nx⟩) fr ⟨d,op,some (g,w)⟩ s)
   (pI P KE KP pr l (fr+1) ⟨a8 s.env d (.bS []),s.o,s.nx⟩ (fp++[([],[])])) (s.env g):=propext Iff.rfl
end
attribute [go_sem] Xx eM kS gG one mh a8 S.ev CA
theorem aj{ι:Type}{b:Nat}{st:ι->S}{cA:ι->Prop}{pJ:ι->Nat}{i:ι}{s:S}(j:ι)(h1:cA j)(h2:pJ j<pJ i)(h3:bH b s (st j)):Gt b st cA pJ i s:=⟨j,h1,h2,h3⟩
attribute [irreducible] Oc Ry kT sw CD Au EM tC nB CC K0 K1 Gq vO CB kB Io iL jN K4 mj sy sA CE vP Nf pI Ip ug yG sE CI Ob yH Gu Oi UD Oj vQ Gt
end
end Go.Proofs.YtlhemmpklhhgoaaGreat
