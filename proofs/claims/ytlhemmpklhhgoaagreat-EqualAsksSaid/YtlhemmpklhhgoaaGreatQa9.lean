/-
  A PART OF THE PROOF. Conditions: none.
-/
import Derived.Test.YtlhemmpklhhgoaaGreatQa8
set_option linter.unusedSimpArgs false
set_option linter.unusedVariables false
namespace Go.Proofs.YtlhemmpklhhgoaaGreat
section
def ss(P:Program)(g:FuncId)(ds:List D)(Kf Kb KX:V->Prop):Prop:=
 (∃rs,aV P g ds (.ret rs)/\(Kf (iD rs)\/(D.jm rs=true/\Kb (iD rs))))\/(∃x,aV P g ds (.bB x)/\x.flat=true/\KX (.d x))\/(∃v,OI P g ds v/\Kf v)
def iF(P:Program)(g:FuncId)(args:List V)(o:Nat->aa)(nx fr:Nat)(K:V->List (Nat×aa)->List Nat->Prop)(KX:V->List Nat->List Nat->Prop):Prop:=
 ∃rd Δ,rd.all (fun id=>decide (id<nx))=true/\((∃rs,zK P g args rd o (.ret rs) Δ/\K (iD rs) Δ rd)\/(∃x,zK P g args rd o (.bB x) Δ/\KX (.d x) (Δ.map (·.1)) rd)\/(∃v,Da P g args rd o fr v Δ/\K v Δ rd))
def zM(P:Program)(s:S)(fr:Nat)(o:bK)(K:V->List (Nat×aa)->List Nat->Prop)(KX:V->List Nat->List Nat->Prop):Prop:=
 match o.op with
 | .call c=>match c.callee with
   | .value f=>match s.ev f with
     | .func (.func g) first cap=>match bR s.o (first++c.args.toList.map s.ev++cap)with
       |some ds=>ss P g ds (fun v=>K v (b7 s.o (V.a8 (first++c.args.toList.map s.ev++cap))) (nW s o.op)) (fun v=>K v [] (nW s o.op)) (fun v=>KX v [] (nW s o.op))\/iF P g (first++c.args.toList.map s.ev++cap) s.o s.nx fr K KX
       |none=>iF P g (first++c.args.toList.map s.ev++cap) s.o s.nx fr K KX
     |_=>False
   |_=>match fX P s fr o.op with
    |some (v,Δ,_)=>K v Δ (nW s o.op)
    |none=>False
 |op=>match fX P s fr op with
  |some (v,Δ,_)=>K v Δ (nW s o.op)
  |none=>False
abbrev Fp:=List (List Nat×List Nat)
def gP(P:Program)(KB:List Nat->Fp->Prop)(pr:List (List Nat)):List bK->Nat->S->Fp->List Nat->List Nat->Prop
 |[],_,_,fp,_,ws=>KB ws fp
 |o::l,fr,s,fp,bad,ws=>if(pr.getD fp.length []).any (fun j=>bad.contains j)=true then gP P KB pr l (fr+1) ⟨aU s.env o.dst .ab,s.o,s.nx⟩ (fp++[([],[])]) (bad++[fp.length]) ws
  else match o.gd with
  |none=>zM P s fr o (fun v Δ rd=>gP P KB pr l (fr+1) ⟨aU s.env o.dst v,put s.o Δ,s.nx⟩ (fp++[(rd,Δ.map (·.1))]) bad (ws++Δ.map (·.1))) (fun _ _ _=>False)
  |some (d,want)=>match s.env d with
   | .d (.bool b)=>if b=want then zM P s fr o (fun v Δ rd=>gP P KB pr l (fr+1) ⟨aU s.env o.dst v,put s.o Δ,s.nx⟩ (fp++[(rd,Δ.map (·.1))]) bad (ws++Δ.map (·.1))) (fun _ _ _=>False)
    else gP P KB pr l (fr+1) ⟨aU s.env o.dst (.bN []),s.o,s.nx⟩ (fp++[([],[])]) bad ws
   | .bN []=>gP P KB pr l (fr+1) ⟨aU s.env o.dst (.bN []),s.o,s.nx⟩ (fp++[([],[])]) bad ws
   |_=>False
def kn(P:Program)(K:S->Fp->Prop)(KP:V->List Nat->Fp->Prop)(pr:List (List Nat)):List bK->Nat->S->Fp->Prop
 |[],_,s,fp=>K s fp
 |o::l,fr,s,fp=>match o.gd with
  |none=>zM P s fr o (fun v Δ rd=>kn P K KP pr l (fr+1) ⟨aU s.env o.dst v,put s.o Δ,s.nx⟩ (fp++[(rd,Δ.map (·.1))]))
   (fun v ws rd=>gP P (KP v) pr l (fr+1) ⟨aU s.env o.dst .ab,s.o,s.nx⟩ (fp++[(rd,[])]) [fp.length] (ws++fp.flatMap (·.2)))
  |some (d,want)=>match s.env d with
   | .d (.bool b)=>if b=want then zM P s fr o (fun v Δ rd=>kn P K KP pr l (fr+1) ⟨aU s.env o.dst v,put s.o Δ,s.nx⟩ (fp++[(rd,Δ.map (·.1))]))
         (fun v ws rd=>gP P (KP v) pr l (fr+1) ⟨aU s.env o.dst .ab,s.o,s.nx⟩ (fp++[(rd,[])]) [fp.length] (ws++fp.flatMap (·.2)))
    else kn P K KP pr l (fr+1) ⟨aU s.env o.dst (.bN []),s.o,s.nx⟩ (fp++[([],[])])
   | .bN []=>kn P K KP pr l (fr+1) ⟨aU s.env o.dst (.bN []),s.o,s.nx⟩ (fp++[([],[])])
   |_=>False
def Dh(pr:List (List Nat))(nx:Nat)(Q:fw->S->Prop)(s:S)(fp:Fp):Prop:=eC pr fp=true/\Q .normal ⟨s.env,s.o,nx⟩
def dstsOf(l:List bK):List Nat:=l.filterMap (·.dst)
def A9(pr:List (List Nat))(l:List bK)(s0:S)(Q:fw->S->Prop)(v:V)(wl:List Nat)(fp:Fp):Prop:=eC pr fp=true/\Q (.bB v) (uj (dstsOf l) wl l.length s0)
def mL:List bK->List eW->S->Nat->S
 |_,_,s,0=>s
 |o::l,x::xs,s,j+1=>mL l xs (vF o.dst x s) j
 |_,_,s,_=>s
def xb(bU:List eW):Fp:=bU.map fun x=>(vY x,ki x)
section
variable {P:Program}{n b:Nat}
theorem Ba{s:S}{fr:Nat}{o:bK}{K:V->List (Nat×aa)->List Nat->Prop}{KX:V->List Nat->List Nat->Prop}(h:zM P s fr o K KX):(∃v Δ rd,w7 P s fr o.op v Δ rd/\K v Δ rd)\/(∃v ws rd,A2 P s o.op v ws rd/\KX v ws rd):=by
 have hs:∀ {op:Op},o.op=op->(match fX P s fr op with|some (v,Δ,_)=>K v Δ (nW s o.op)|none=>False)->(∃v Δ rd,w7 P s fr o.op v Δ rd/\K v Δ rd):=by
  intro op fK h
  split at h
  ·rename_i v Δ rd he;exact⟨v,Δ,_, .inl ⟨⟨rd,by rw[fK];exact he⟩,rfl⟩,h⟩
  ·exact h.elim
 unfold zM at h
 split at h
 ·rename_i c hc
  split at h
  ·rename_i f eP
   split at h
   ·rename_i g first cap hf
    split at h
    ·rename_i ds eR
     rcases h with(⟨rs,hP,h|⟨pc,h⟩⟩|⟨x,hP,pc,h⟩|⟨v,hP,h⟩)|⟨rd,Δ,mf,⟨rs,hH,h⟩|⟨x,hH,h⟩|⟨v,hH,h⟩⟩
     ·exact .inl ⟨_,_,_, .inr ⟨c,f,g,first,cap,hc,eP,hf, .inl ⟨ds,rs,eR,hP,rfl,rfl, .inl rfl⟩⟩,h⟩
     ·exact .inl ⟨_,_,_, .inr ⟨c,f,g,first,cap,hc,eP,hf, .inl ⟨ds,rs,eR,hP,rfl,rfl, .inr ⟨pc,rfl⟩⟩⟩,h⟩
     ·exact .inr ⟨_,_,_,⟨c,f,g,first,cap,hc,eP,hf, .inl ⟨ds,x,eR,hP,pc,rfl,rfl,rfl⟩⟩,h⟩
     ·exact .inl ⟨_,_,_, .inr ⟨c,f,g,first,cap,hc,eP,hf, .inr (.inr (.inl ⟨ds,eR,hP,rfl,rfl⟩))⟩,h⟩
     ·exact VF
     ·exact VI
     ·exact VG
    ·obtain⟨rd,Δ,mf,⟨rs,hH,h⟩|⟨x,hH,h⟩|⟨v,hH,h⟩⟩:=h
     ·exact VF
     ·exact VI
     ·exact VG
   ·exact h.elim
  ·rw[hc]at h;exact .inl (hs hc (by rw[hc];exact h))
 ·exact .inl (hs rfl h)
def LW(P:Program)(KB:List Nat->Fp->Prop)(pr:List (List Nat))(l:List bK)(fr:Nat)(s:S)(fp:Fp)(bad ws:List Nat):Prop:=
    ∃bU:List eW,bU.length=l.length/\(∀j o x,l[j]? =some o->bU[j]? =some x->OJ P (mL l bU s j) (fr+j) o x)/\
     (∀ (j:Nat),bU[j]? =some eW.eN->∃i∈pr.getD (fp.length+j) [],i∈bad\/∃j',j'<j/\i=fp.length+j'/\bU[j']? =some .eN)/\(∀x∈bU,x= .eN\/x.ok=true)/\
     ∃wl,KB wl (fp++xb bU)/\(∀id∈ws,id∈wl)/\∀x∈bU,∀id∈ki x,id∈wl
theorem Bb{KB:List Nat->Fp->Prop}{pr:List (List Nat)}:∀ (l:List bK) (fr:Nat) (s:S) (fp:Fp) (bad ws:List Nat),gP P KB pr l fr s fp bad ws->LW P KB pr l fr s fp bad ws
 |[],fr,s,fp,bad,ws,h=>⟨[],rfl,fun j o x hj=>by simp at hj,fun j hj=>by simp at hj,fun x hx=>by simp at hx,ws,by simpa[xb,gP]using h,fun _ h=>h,fun x hx=>by simp at hx⟩
 |o::l,fr,s,fp,bad,ws,h=>by
  have step:∀ (x:eW) (LX OM:List Nat),OJ P s fr o x->gP P KB pr l (fr+1) (vF o.dst x s) (fp++[(vY x,ki x)]) LX OM->(x= .eN\/x.ok=true)->(x= .eN->∃i∈pr.getD fp.length [],i∈bad)->
   (∀i∈LX,i∈bad\/(i=fp.length/\x= .eN))->(∀id∈ws,id∈OM)->(∀id∈ki x,id∈OM)->
   LW P KB pr (o::l) fr s fp bad ws:=by
   intro x LX OM aS hr Rg Rc rm LV hW
   obtain⟨bU,h1,h2,h3,h4,wl,h5,h6,h7⟩:=Bb l (fr+1) _ _ LX OM hr
   refine⟨x::bU,by simp[h1],fun j o' y hj hy=> ?_,fun j hj=> ?_,fun y hy=> ?_,wl,by simpa[xb]using h5,fun id aw=>h6 id (LV id aw),fun y hy id aw=> ?_⟩
   ·cases j with
    |zero=>exact HV
    |succ j=>
     have:=h2 j o' y me (by simpa using hy)
     exact QX
   ·cases j with
    |zero=>
     simp at hj
     obtain⟨i,i1,i2⟩:=Rc hj
     exact⟨i,by simpa using i1, .inl i2⟩
    |succ j=>
     obtain⟨i,i1,i2⟩:=h3 j me
     simp only[List.length_append,List.length_cons,List.length_nil]at i1 i2
     refine⟨i,by rw[show fp.length+(j+1)=fp.length+(0+1)+j by omega];exact i1, ?_⟩
     rcases i2 with i2|⟨j',j1,j2,j3⟩
     ·rcases rm i i2 with hb|⟨e1,e2⟩
      ·exact .inl hb
      ·exact .inr ⟨0,ae,ae,by simp[e2]⟩
     ·exact .inr ⟨j'+1,ae,ae,by simpa using j3⟩
   ·rcases List.mem_cons.1 hy with rfl|hy
    ·exact Rg
    ·exact h4 y hy
   ·rcases List.mem_cons.1 hy with rfl|hy
    ·exact h6 id (hW id aw)
    ·exact h7 y hy id aw
  simp only[gP]at h
  split at h
  ·rename_i hb
   obtain⟨j,hj1,Q5⟩:=List.any_eq_true.1 hb
   exact step .eN _ _ trivial h (.inl rfl) (fun _=>⟨j,hj1,by simpa using Q5⟩) (fun i hi=>by
    rcases List.mem_append.1 hi with hi|hi
    ·exact .inl hi
    ·exact .inr ⟨by simpa using hi,rfl⟩) (fun _ h=>h) (fun id aw=>by simp[ki]at aw)
  ·have uo:dI s o.gd true->zM P s fr o (fun v Δ rd=>gP P KB pr l (fr+1) ⟨aU s.env o.dst v,put s.o Δ,s.nx⟩ (fp++[(rd,Δ.map (·.1))]) bad (ws++Δ.map (·.1))) (fun _ _ _=>False)->LW P KB pr (o::l) fr s fp bad ws:=fun hg h=>by
    rcases Ba h with⟨v,Δ,rd,jB,h⟩|⟨v,OM,rd,_,h⟩
    ·exact step (.val v Δ rd) bad (ws++Δ.map (·.1)) ⟨hg,jB⟩ h (.inr rfl) (fun h=>by cases h) (fun i hi=> .inl hi) (fun id aw=>List.mem_append.2 (.inl aw)) (fun id aw=>List.mem_append.2 (.inr aw))
    ·exact h.elim
   have skip:dI s o.gd false->gP P KB pr l (fr+1) ⟨aU s.env o.dst (.bN []),s.o,s.nx⟩ (fp++[([],[])]) bad ws->LW P KB pr (o::l) fr s fp bad ws:=fun hg h=>
    step .skip bad ws hg h (.inr rfl) (fun h=>by cases h) (fun i hi=> .inl hi) (fun id aw=>aw) (fun id aw=>by simp[ki]at aw)
   split at h
   ·rename_i hg;exact uo (by rw[hg];rfl) h
   ·rename_i d want hg
    split at h
    ·rename_i c hv
     split at h
     ·rename_i e;exact uo D9 h
     ·rename_i e;exact skip D9 h
    ·rename_i hv;exact skip (by rw[hg];simp[dI,hv]) h
    ·exact h.elim
def I3(P:Program)(K:S->Fp->Prop)(KP:V->List Nat->Fp->Prop)(pr:List (List Nat))(l:List bK)(fr:Nat)(s:S)(fp:Fp):Prop:=
 ∃bU:List eW,bU.length=l.length/\(∀j o x,l[j]? =some o->bU[j]? =some x->OJ P (mL l bU s j) (fr+j) o x)/\
  (((∀x∈bU,x.ok=true)/\K (mL l bU s l.length) (fp++xb bU))\/
   ∃v wl,(∀ (j:Nat) (v':V) (ws rd:List Nat),bU[j]? =some (eW.bB v' ws rd)->v'=v/\∀id∈ws,id∈wl)/\(∃x∈bU,x.ok=false)/\
    (∀ (j:Nat),bU[j]? =some eW.eN->∃i∈pr.getD (fp.length+j) [],∃j',i=fp.length+j'/\∃y,bU[j']? =some y/\y.ok=false)/\KP v wl (fp++xb bU)/\(∀x∈bU,∀id∈ki x,id∈wl)/\∀id∈fp.flatMap (·.2),id∈wl)
theorem uq{K:S->Fp->Prop}{KP:V->List Nat->Fp->Prop}{pr:List (List Nat)}:∀ (l:List bK) (fr:Nat) (s:S) (fp:Fp),kn P K KP pr l fr s fp->I3 P K KP pr l fr s fp
 |[],fr,s,fp,h=>⟨[],rfl,fun j o x hj=>by simp at hj, .inl ⟨fun x hx=>by simp at hx,by simpa[mL,xb,kn]using h⟩⟩
 |o::l,fr,s,fp,h=>by
  have step:∀ (x:eW),x.ok=true->OJ P s fr o x->kn P K KP pr l (fr+1) (vF o.dst x s) (fp++[(vY x,ki x)])->I3 P K KP pr (o::l) fr s fp:=by
   intro x Xj aS hr
   obtain⟨bU,h1,h2,h3⟩:=uq l (fr+1) _ _ hr
   refine⟨x::bU,by simp[h1],fun j o' y hj hy=> ?_, ?_⟩
   ·cases j with
    |zero=>exact HV
    |succ j=>
     have:=h2 j o' y me (by simpa using hy)
     exact QX
   ·rcases h3 with⟨h3,h4⟩|⟨v,wl,g1,g2,g3,g4,g5,g6⟩
    ·left
     refine⟨fun y hy=> ?_,by simpa[mL,xb]using h4⟩
     rcases List.mem_cons.1 hy with rfl|hy
     ·exact Xj
     ·exact h3 y hy
    ·right
     refine⟨v,wl,fun j v' ws rd hj=> ?_, ?_,fun j hj=> ?_,by simpa[xb]using g4,fun y hy id aw=> ?_,fun id aw=>g6 id (by simp only[List.flatMap_append,List.mem_append];exact .inl aw)⟩
     ·cases j with
      |zero=>simp at hj;rw[hj]at Xj;cases Xj
      |succ j=>exact g1 j v' ws rd me
     ·obtain⟨y,y1,y2⟩:=g2;exact⟨y,by simp[y1],y2⟩
     ·cases j with
      |zero=>simp at hj;rw[hj]at Xj;cases Xj
      |succ j=>
       obtain⟨i,i1,j',i2,y,i3,i4⟩:=g3 j me
       simp only[List.length_append,List.length_cons,List.length_nil]at i1 i2
       exact⟨i,by rw[show fp.length+(j+1)=fp.length+(0+1)+j by omega];exact i1,j'+1,ae,y,by simpa using i3,i4⟩
     ·rcases List.mem_cons.1 hy with rfl|hy
      ·exact g6 id (by simp only[List.flatMap_append,List.mem_append];exact .inr (by simpa using aw))
      ·exact g5 y hy id aw
  have bB:∀ (v:V) (ws rd:List Nat),OJ P s fr o (.bB v ws rd)->gP P (KP v) pr l (fr+1) ⟨aU s.env o.dst .ab,s.o,s.nx⟩ (fp++[(rd,[])]) [fp.length] (ws++fp.flatMap (·.2))->I3 P K KP pr (o::l) fr s fp:=by
   intro v ws rd aS hr
   obtain⟨bU,h1,h2,h3,h4,wl,h5,h6,h7⟩:=Bb l (fr+1) _ _ _ _ hr
   refine⟨eW.bB v ws rd::bU,by simp[h1],fun j o' y hj hy=> ?_, .inr ⟨v,wl,fun j v' OM xU hj=> ?_,⟨eW.bB v ws rd,aG,rfl⟩,fun j hj=> ?_,by simpa[xb,vY,ki]using h5,fun y hy id aw=> ?_,fun id aw=>h6 id (List.mem_append.2 (.inr aw))⟩⟩
   ·cases j with
    |zero=>exact HV
    |succ j=>
     have:=h2 j o' y me (by simpa using hy)
     exact QX
   ·cases j with
    |zero=>simp at hj;obtain⟨rfl,rfl,rfl⟩:=hj;exact⟨rfl,fun id aw=>h6 id (List.mem_append.2 (.inl aw))⟩
    |succ j=>
     have hm:=List.mem_of_getElem? (show bU[j]? =some (.bB v' OM xU) by simpa using hj)
     rcases h4 _ hm with h|h<;>cases h
   ·cases j with
    |zero=>simp at hj
    |succ j=>
     obtain⟨i,i1,i2⟩:=h3 j me
     simp only[List.length_append,List.length_cons,List.length_nil]at i1 i2
     refine⟨i,by rw[show fp.length+(j+1)=fp.length+(0+1)+j by omega];exact i1, ?_⟩
     rcases i2 with i2|⟨j',j1,j2,j3⟩
     ·exact⟨0,by simpa using i2,_,rfl,rfl⟩
     ·exact⟨j'+1,ae, .eN,by simpa using j3,rfl⟩
   ·rcases List.mem_cons.1 hy with rfl|hy
    ·simp[ki]at aw
    ·exact h7 y hy id aw
  have uo:dI s o.gd true->zM P s fr o (fun v Δ rd=>kn P K KP pr l (fr+1) ⟨aU s.env o.dst v,put s.o Δ,s.nx⟩ (fp++[(rd,Δ.map (·.1))]))
   (fun v ws rd=>gP P (KP v) pr l (fr+1) ⟨aU s.env o.dst .ab,s.o,s.nx⟩ (fp++[(rd,[])]) [fp.length] (ws++fp.flatMap (·.2)))->I3 P K KP pr (o::l) fr s fp:=fun hg h=>by
   rcases Ba h with⟨v,Δ,rd,jB,h⟩|⟨v,ws,rd,jB,h⟩
   ·exact step (.val v Δ rd) rfl ⟨hg,jB⟩ h
   ·exact bB v ws rd ⟨hg,jB⟩ h
  have skip:dI s o.gd false->kn P K KP pr l (fr+1) ⟨aU s.env o.dst (.bN []),s.o,s.nx⟩ (fp++[([],[])])->I3 P K KP pr (o::l) fr s fp:=fun hg h=>step .skip rfl hg h
  simp only[kn]at h
  split at h
  ·rename_i hg;exact uo (by rw[hg];rfl) h
  ·rename_i d want hg
   split at h
   ·rename_i c hv
    split at h
    ·rename_i e;exact uo D9 h
    ·rename_i e;exact skip D9 h
   ·rename_i hv;exact skip (by rw[hg];simp[dI,hv]) h
   ·exact h.elim
end
end
section
def qb(env:Nat->V):List Nat->List V->Nat->V
 |t::ps,v::vs=>qb (aA env t v) ps vs
 |_,_=>env
def Di(pr:List (List Nat))(m:Nat):Bool:=(List.range pr.length).all fun k=>Nat.blt k m||Nat.beq ((ej pr []).getD k 0) (2^k - 1)
def I4(P:Program)(l:List bK)(pr:List (List Nat))(Q:fw->S->Prop)(s:S):Prop:=
 ∃m,m<=l.length/\Di pr m=true/\kn P (fun s' fp=>eC pr fp=true/\oL P (fun v s=>Q (.bB v) s) (Q .normal) (l.drop m) ⟨s'.env,s'.o,s.nx+m⟩) (fun _ _ _=>False) pr (l.take m) s.nx s []
def ta(P:Program)(n b:Nat)(rd:Bool):IC->(fw->S->Prop)->S->Prop
 | .skip,Q,s=>Q .normal s
 | .af l,Q,s=>oL P (fun v s=>Q (.bB v) s) (Q .normal) l s
 | .dq l pr,Q,s=>kn P (Dh pr (s.nx+l.length) Q) (A9 pr l s Q) pr l s.nx s []\/I4 P l pr Q s
 | .seq x y,Q,s=>ta P n b rd x (pQ (ta P n b rd y Q) Q) s
 | .cond c x y,Q,s=>match s.ev c with
   | .d (.bool t)=>qa t (ta P n b rd x Q s) (ta P n b rd y Q s)
   | .fD=>ta P n b rd x Q s/\ta P n b rd y Q s
   |_=>False
 | .block id x,Q,s=>ta P n b rd x (ff id Q) s
 | .loop x,Q,s=>IX b (ta P n b rd x) Q s
 | .exit id,Q,s=>Q (.exit id) s
 | .ret,Q,s=>Q .ret s
 | .Hq g ps x y,Q,s=>rd=false/\W9 P n b g ps x y Q s
 | .bad,_,_=>False
section
variable {P:Program}{n b:Nat}{rd:Bool}
theorem ur:∀ (l:List bK) (bU:List eW) (s:S) (k:Nat) (o:bK) (x:eW),l[k]? =some o->bU[k]? =some x->mL l bU s (k+1)=vF o.dst x (mL l bU s k)
 |[],_,_,_,_,_,h,_=>by simp at h
 |o::l,[],_,_,_,_,_,h=>by simp at h
 |o::l,x::xs,s,0,o',x',h,h'=>by simp at h h';subst h;subst h';cases l<;>cases xs<;>rfl
 |o::l,x::xs,s,k+1,o',x',h,h'=>by
  simp only[mL]
  exact ur l xs _ k o' x' (by simpa using h) (by simpa using h')
theorem xc(l:List bK)(bU:List eW)(s:S)(hl:bU.length=l.length):∀k,k<=l.length->ek (bO l) (fun i=>bU.getD i default) (fun _=>true) s k=mL l bU s k:=by
 intro k
 induction k with
 |zero=>intro _;cases l<;>cases bU<;>rfl
 |succ k ih=>
  intro hk
  have h1:l[k]? =some (bO l k):=by simp[bO,List.getD_eq_getElem?_getD,List.getElem?_eq_getElem (by omega:k<l.length)]
  have h2:bU[k]? =some (bU.getD k default):=by simp[List.getD_eq_getElem?_getD,List.getElem?_eq_getElem (by omega:k<bU.length)]
  simp only[ek,if_true,ih (by omega)]
  rw[ur l bU s k _ _ h1 h2]
theorem mM{ops:Array Oper}:∀ (l:List Oper) (l':List bK),kB n ops l=some l'->l'.length=l.length
 |[],_,h=>by simp[kB]at h;subst h;rfl
 |o::l,l',h=>by
  simp only[kB]at h
  split at h
  ·rename_i hx;injection h with h;subst h;simp[mM l _ hx]
  ·cases h
theorem Gy(aY:P.follows .mixedOrders=true){id:Nat}{ops:Array Oper}{l:List bK}{Q Q':fw->S->Prop}{s:S}(hQ:∀e s,Q e s->Q' e s)(rl:kB n ops ops.toList=some l)(ht:xX l (gf ops)=true)
 (hp:QZ (gf ops)=true) (h:kn P (Dh (gf ops) (s.nx+l.length) Q) (A9 (gf ops) l s Q) (gf ops) l s.nx s []):iL P n b rd (.region id ops true) Q' s:=by
 intro M cm H0 w0 cx φ a w ro k hs
 obtain⟨bU,hl,aS,il⟩:=uq l _ _ _ h
 have hlen:l.length=ops.size:=by rw[mM _ _ rl];simp
 have sa:∀k,k<ops.size->(gf ops).getD k []=bu ops k:=by
  intro k hk;simp[gf,List.getD_eq_getElem?_getD,List.getElem?_map,List.getElem?_range hk]
 have x9:(gf ops).length=ops.size:=by simp[gf]
 have jB:=xc l bU s hl
 have Hm:∀k,k<ops.size->l[k]? =some (bO l k):=fun k hk=>by simp[bO,List.getD_eq_getElem?_getD,List.getElem?_eq_getElem (by omega:k<l.length)]
 have vB:∀k,k<ops.size->bU[k]? =some (bU.getD k default):=fun k hk=>by simp[List.getD_eq_getElem?_getD,List.getElem?_eq_getElem (by omega:k<bU.length)]
 have nQ:∀k,k<ops.size->bU.getD k default∈bU:=fun k hk=>List.mem_of_getElem? (vB k hk)
 have LF:∀k,k<ops.size->(xb bU)[k]? =some (vY (bU.getD k default),ki (bU.getD k default)):=fun k hk=>by
  simp only[xb,List.getElem?_map,vB k hk,Option.map_some]
 have Rh:(xb bU).length=ops.size:=by simp[xb,hl,hlen]
 simp only[List.nil_append,List.length_nil,Nat.zero_add]at il
 have x7:eC (gf ops) (xb bU)=true:=by
  rcases il with⟨_,h⟩|⟨v,wl,_,_,_,h,_⟩
  ·exact h.1
  ·exact h.1
 have Gz:∀k,k<ops.size->∀j∈bu ops k,j<k:=fun k hk j hj=>by
  have:=List.all_eq_true.1 hp k (by simpa[x9]using hk)
  rw[sa k hk]at this
  simpa using List.all_eq_true.1 this j hj
 have I5:∀k,k<(gf ops).length->∀j∈(gf ops).getD k [],j<k:=fun k hk j hj=>by
  rw[x9]at hk;rw[sa k hk]at hj;exact Gz k hk j hj
 let po:Nat->Nat->Prop:=fun k j=>((ej (gf ops) []).getD k 0).testBit j=true
 have EL:∀E:Nat->Bool,(∀k,k<ops.size->E k=true->∀j∈bu ops k,E j=true)->∀k,k<ops.size->(∀j∈bu ops k,E j=true)->∀j,po k j->E j=true:=fun E hE k hk hj j hb=>
  px I5 (fun k hk iJ j hj=>by rw[x9]at hk;rw[sa k hk]at hj;exact hE k hk iJ j hj) k (by rw[x9];exact hk) (by rw[sa k hk];exact hj) j hb
 have A7:∀k,k<ops.size->∀j,po k j->j<k:=fun k hk j hb=>Ad I5 k (by rw[x9];exact hk) j hb
 have yH:∀i j,i<j->j<ops.size-> ¬po j i->Compat (bO l) (fun i=>bU.getD i default) (fun i=>vY (bU.getD i default)) i j:=by
  intro i j Xk hj hn
  have Lm:=List.all_eq_true.1 (List.all_eq_true.1 ht j (by simpa[hlen]using hj)) i (by simpa using Xk)
  have wo:=List.all_eq_true.1 (List.all_eq_true.1 x7 j (by simpa[Rh]using hj)) i (by simpa using Xk)
  have Xl:((ej (gf ops) []).getD j 0).testBit i=false:=by simpa[po]using hn
  rw[Xl,Bool.false_or]at Lm wo
  simp only[Bool.and_eq_true]at Lm wo
  have gi:=LF i ae
  have gj:=LF j hj
  simp only[List.getD_eq_getElem?_getD (l:=xb bU),gi,gj,Option.getD_some]at wo
  have dj:∀ {xs ys:List Nat},j5 xs ys=true->∀x∈xs,x∉ys:=fun h x hx=>by simpa using List.all_eq_true.1 h x hx
  have fo:∀ {x y:bK},qP x y=true->∀d,x.dst=some d->d∉eS y:=fun h d hd=>by simpa[qP,hd]using h
  exact VL
 have ON:∀i,i<ops.size->OJ P (ek (bO l) (fun i=>bU.getD i default) (fun _=>true) s i) (s.nx+i) (bO l i) (bU.getD i default):=fun i hi=>by
  rw[jB i (by omega)];exact aS i _ _ (Hm i hi) (vB i hi)
 have cG:∀i,i<ops.size->∀t,(bO l i).dst=some t->(dstsOf l).contains t=true:=fun i hi t ht=>by
  simp only[List.contains_iff_mem,dstsOf,List.mem_filterMap]
  exact⟨bO l i,List.mem_of_getElem? (Hm i hi),ht⟩
 rcases il with⟨aW,il⟩|⟨v,wl,q1,q2,q3,q4,q5,q6⟩
 ·refine A6 (ac:=fun i=>bU.getD i default) (dl:=dstsOf l) (wl:=(bU.flatMap ki)) aY rl Gz hs ON (fun i hi hb=> ?_) EL A7 yH cG (fun i hi id aw=> ?_) (fun i v ws xU hi hb=> ?_) (fun _ φ a w jC=> ?_) (fun i v ws xU hi hb=> ?_)
  ·have:=aW _ (nQ i hi);rw[hb]at this;cases this
  ·simp only[List.contains_iff_mem,List.mem_flatMap];exact⟨_,nQ i hi,aw⟩
  ·have:=aW _ (nQ i hi);rw[hb]at this;cases this
  ·rw[jB ops.size (by omega), <- hlen]at jC
   exact⟨.normal,_,φ,hQ _ _ il.2,jC,trivial⟩
  ·have:=aW _ (nQ i hi);rw[hb]at this;cases this
 ·refine A6 (ac:=fun i=>bU.getD i default) (dl:=dstsOf l) (wl:=wl) aY rl Gz hs ON (fun i hi hb=> ?_) EL A7 yH cG (fun i hi id aw=> ?_) (fun i v' ws xU hi hb=> ?_) (fun aW φ a w jC=> ?_) (fun i v' ws xU hi hb φ a w val jC hd=> ?_)
  ·obtain⟨j,j1,j',e,y,j3,j4⟩:=q3 i H4
   rw[sa i hi,e]at j1
   refine⟨j',j1, ?_⟩
   simp only[List.getD_eq_getElem?_getD,j3,Option.getD_some,j4]
  ·simp only[List.contains_iff_mem];exact q5 _ (nQ i hi) id aw
  ·intro id aw
   simp only[List.contains_iff_mem]
   exact(q1 i v' ws xU H4).2 id aw
  ·obtain⟨x,x1,x2⟩:=q2
   obtain⟨i,Ly,WT⟩:=List.getElem_of_mem x1
   have hi:i<ops.size:=ae
   have:=aW i hi
   have e:bU.getD i default=x:=by simp[List.getD_eq_getElem?_getD,List.getElem?_eq_getElem Ly,WT]
   rw[e,x2]at this;cases this
  ·have e:=(q1 i v' ws xU H4).1
   subst e
   rw[<- hlen]at jC hd
   exact⟨.bB v',_,φ,hQ _ _ q4.2,jC,val,rfl,hd⟩
theorem xd{ops:Array Oper}:∀ (l:List Oper) (l':List bK) (m:Nat),kB n ops l=some l'->kB n ops (l.drop m)=some (l'.drop m)
 |l,l',0,h=>h
 |[],l',m+1,h=>by simp[kB]at h;subst h;simp[kB]
 |o::l,l',m+1,h=>by
  simp only[kB]at h
  split at h
  ·rename_i x xs hx Oj
   injection h with h;subst h
   exact xd l xs m Oj
  ·cases h
theorem I6{l:List bK}{ac:Nat->eW}{E:Nat->Bool}{s:S}{m:Nat}:∀k,k<=m->ek (bO l) ac E s k=ek (bO (l.take m)) ac E s k:=by
 intro k
 induction k with
 |zero=>intro _;rfl
 |succ k ih=>
  intro hk
  have:bO l k=bO (l.take m) k:=by simp[bO,List.getD_eq_getElem?_getD,List.getElem?_take,(by omega:k<m)]
  simp only[ek,ih (by omega),this]
theorem Dj(aY:P.follows .mixedOrders=true){id:Nat}{ops:Array Oper}{l:List bK}{Q Q':fw->S->Prop}{s:S}(hQ:∀e s,Q e s->Q' e s)(rl:kB n ops ops.toList=some l)(ht:xX l (gf ops)=true)
 (hp:QZ (gf ops)=true) (h:I4 P l (gf ops) Q s):iL P n b rd (.region id ops true) Q' s:=by
 intro M cm H0 w0 cx φ a w ro k hs
 obtain⟨m,Ht,hto,h⟩:=h
 obtain⟨bU,hl,aS,il⟩:=uq (l.take m) _ _ _ h
 have hlm:(l.take m).length=m:=by rw[List.length_take];omega
 have hlen:l.length=ops.size:=by rw[mM _ _ rl];simp
 have il:=il.resolve_right (fun⟨_,_,_,_,_,q4,_,_⟩=>q4)
 obtain⟨aW,il⟩:=il
 have Q4:bU.length=m:=ae
 have sa:∀k,k<ops.size->(gf ops).getD k []=bu ops k:=by
  intro k hk;simp[gf,List.getD_eq_getElem?_getD,List.getElem?_map,List.getElem?_range hk]
 have x9:(gf ops).length=ops.size:=by simp[gf]
 have jB:∀k,k<=m->ek (bO l) (fun i=>bU.getD i default) (fun _=>true) s k=mL (l.take m) bU s k:=fun k hk=>by
  rw[I6 k hk];exact xc (l.take m) bU s hl k ae
 have Hm:∀k,k<m->(l.take m)[k]? =some (bO l k):=fun k hk=>by
  rw[List.getElem?_take,if_pos hk]
  simp[bO,List.getD_eq_getElem?_getD,List.getElem?_eq_getElem (by omega:k<l.length)]
 have vB:∀k,k<m->bU[k]? =some (bU.getD k default):=fun k hk=>by simp[List.getD_eq_getElem?_getD,List.getElem?_eq_getElem (by omega:k<bU.length)]
 have nQ:∀k,k<m->bU.getD k default∈bU:=fun k hk=>List.mem_of_getElem? (vB k hk)
 have LF:∀k,k<m->(xb bU)[k]? =some (vY (bU.getD k default),ki (bU.getD k default)):=fun k hk=>by
  simp only[xb,List.getElem?_map,vB k hk,Option.map_some]
 have Rh:(xb bU).length=m:=by simp[xb,Q4]
 simp only[List.nil_append]at il
 obtain⟨x7,LY⟩:=il
 have Gz:∀k,k<ops.size->∀j∈bu ops k,j<k:=fun k hk j hj=>by
  have:=List.all_eq_true.1 hp k (by simpa[x9]using hk)
  rw[sa k hk]at this
  simpa using List.all_eq_true.1 this j hj
 have I5:∀k,k<(gf ops).length->∀j∈(gf ops).getD k [],j<k:=fun k hk j hj=>by
  rw[x9]at hk;rw[sa k hk]at hj;exact Gz k hk j hj
 let po:Nat->Nat->Prop:=fun k j=>((ej (gf ops) []).getD k 0).testBit j=true
 have EL:∀E:Nat->Bool,(∀k,k<ops.size->E k=true->∀j∈bu ops k,E j=true)->∀k,k<ops.size->(∀j∈bu ops k,E j=true)->∀j,po k j->E j=true:=fun E hE k hk hj j hb=>
  px I5 (fun k hk iJ j hj=>by rw[x9]at hk;rw[sa k hk]at hj;exact hE k hk iJ j hj) k (by rw[x9];exact hk) (by rw[sa k hk];exact hj) j hb
 have A7:∀k,k<ops.size->∀j,po k j->j<k:=fun k hk j hb=>Ad I5 k (by rw[x9];exact hk) j hb
 have yH:∀i j,i<j->j<m-> ¬po j i->Compat (bO l) (fun i=>bU.getD i default) (fun i=>vY (bU.getD i default)) i j:=by
  intro i j Xk hj hn
  have Lm:=List.all_eq_true.1 (List.all_eq_true.1 ht j gH) i (by simpa using Xk)
  have wo:=List.all_eq_true.1 (List.all_eq_true.1 x7 j (by simpa[Rh]using hj)) i (by simpa using Xk)
  have Xl:((ej (gf ops) []).getD j 0).testBit i=false:=by simpa[po]using hn
  rw[Xl,Bool.false_or]at Lm wo
  simp only[Bool.and_eq_true]at Lm wo
  have gi:=LF i ae
  have gj:=LF j hj
  simp only[List.getD_eq_getElem?_getD (l:=xb bU),gi,gj,Option.getD_some]at wo
  have dj:∀ {xs ys:List Nat},j5 xs ys=true->∀x∈xs,x∉ys:=fun h x hx=>by simpa using List.all_eq_true.1 h x hx
  have fo:∀ {x y:bK},qP x y=true->∀d,x.dst=some d->d∉eS y:=fun h d hd=>by simpa[qP,hd]using h
  exact VL
 have htl:∀k,m<=k->k<ops.size->∀j,j<k->po k j:=fun k kY hk j hj=>by
  have:=List.all_eq_true.1 hto k (by simpa[x9]using hk)
  simp only[Bool.or_eq_true]at this
  rcases this with this|this
  ·exact absurd (Nat.blt_eq.mp this) ae
  ·show((ej (gf ops) []).getD k 0).testBit j=true
   rw[Nat.eq_of_beq_eq_true this,Nat.testBit_two_pow_sub_one]
   exact decide_eq_true hj
 refine Dg (ac:=fun i=>bU.getD i default) (m:=m) (X:=fun v s=>Q' (.bB v) s) (K:=Q' .normal) aY rl Gz ae hs (fun i hi=> ?_) (fun i hi=>aW _ (nQ i hi)) EL A7 yH htl ?_ (fun s φ a w hk jC=>⟨.normal,s,φ,hk,jC,trivial⟩) (fun v s' aC a' w' val hx jC hd=>⟨.bB v,s',aC,hx,jC,val,rfl,hd⟩)
 ·rw[jB i (by omega)];exact aS i _ _ (Hm i hi) (vB i hi)
 ·rw[jB m (Nat.le_refl _)]
  rw[hlm]at LY
  exact iU (fun s hs=>hQ _ _ hs) (fun v s hs=>hQ _ _ hs) _ _ _ (xd _ _ m rl) LY
theorem rn{g:V}{ps:List Nat}{x y:IC}{Q Q':fw->S->Prop}{s:S}(hQ:∀e s,Q e s->Q' e s)(h:AS P n g ps x y Q s):AS P n g ps x y Q' s:=by
 obtain⟨env,h1,h2⟩:=h
 refine⟨env,h1, ?_⟩
 split at h2
 ·refine nX.mono (fun v o n h=> ?_) (fun v o n h=>hQ _ _ h) h2
  obtain⟨nf,m,e,p,c,d,st,pd,k1,k2,k3⟩:=h
  refine⟨nf,m,e,p,c,d,st,pd,k1,k2, ?_⟩
  cases pd with
  |none=>exact hQ _ _ k3
  |some j=>cases j<;>exact hQ _ _ k3
 ·exact h2
theorem gQ(aY:P.follows .mixedOrders=true):∀ (c:Code) (Q Q':fw->S->Prop) (s:S),(∀e s,Q e s->Q' e s)->ta P n b rd (low n c) Q s->iL P n b rd c Q' s:=by
 intro c
 induction c with
 |skip=>exact fun Q Q' s hQ h=>hQ _ _ h
 |scope x ih=>exact fun Q Q' s hQ h=>ih Q Q' s hQ h
 |label l=>exact fun Q Q' s hQ h=>hQ _ _ h
 |exit id=>exact fun Q Q' s hQ h=>hQ _ _ h
 |ret=>exact fun Q Q' s hQ h=>hQ _ _ h
 |goto l=>exact fun Q Q' s hQ h=>h.elim
 |refuse y=>exact fun Q Q' s hQ h=>h.elim
 |rangeFunc f p x y=>
  intro Q Q' s hQ h
  obtain⟨h1,s',hle,h2⟩:=h
  exact⟨h1,s',hle,rn hQ h2⟩
 |region id ops draw=>
  intro Q Q' s hQ h
  cases draw with
  |true=>
   simp only[low]at h
   split at h
   ·rename_i l hl
    split at h
    ·rename_i hc
     simp only[Bool.and_eq_true]at hc
     rcases h with h|h
     ·exact Gy aY hQ hl hc.1 hc.2 h
     ·exact Dj aY hQ hl hc.1 hc.2 h
    ·exact h.elim
   ·exact h.elim
  |false=>
   simp only[low]at h
   split at h
   ·rename_i l hl;exact iU (fun s hs=>hQ _ _ hs) (fun v s hs=>hQ _ _ hs) _ l s hl h
   ·exact h.elim
 |seq x y LQ LR=>
  intro Q Q' s hQ h
  refine LQ _ _ s (fun e s he=> ?_) h
  cases e<;>first|exact LR Q Q' s hQ he|exact hQ _ _ he
 |cond c x y LQ LR=>
  intro Q Q' s hQ h
  simp only[low,ta]at h
  simp only[iL]
  split at h
  ·rename_i t hc
   simp only[hc]
   exact⟨fun ht=>LQ Q Q' s hQ (h.1 ht),fun ht=>LR Q Q' s hQ (h.2 ht)⟩
  ·rename_i hc
   simp only[hc]
   exact⟨LQ Q Q' s hQ h.1,LR Q Q' s hQ h.2⟩
  ·exact h.elim
 |block id x ih=>
  intro Q Q' s hQ h
  refine ih _ _ s (fun e s he=> ?_) h
  cases e<;>simp only[ff]at he|- <;>first
   |exact hQ _ _ he
   |(split at he<;>rename_i e
     ·rw[if_pos e];exact hQ _ _ he
     ·rw[if_neg e];exact hQ _ _ he)
 |loop x ih=>
  intro Q Q' s hQ h
  obtain⟨J,h0,hr⟩:=h
  refine⟨J,h0,fun m s0 hJ=>ih _ _ s0 (fun e s he=> ?_) (hr m s0 hJ)⟩
  cases e<;>first|exact hQ _ _ he|exact he
structure aK (P:Program) (f:FuncId) (n:Nat) (ic:IC) (rs:List ResultVar):Prop where
 get:∃fn,P.funcs[f]? =some fn/\(fn.name== "runtime.NumGoroutine")=false/\fn.ntmps=n/\fn.results.toList=rs/\∃c,fn.body=some c/\low n c=ic
theorem cO.uu (aY:P.follows .mixedOrders=true){f:FuncId}{ic:IC}{rs:List ResultVar}(hf:aK P f n ic rs){args:List V}{o:Nat->aa}{nx:Nat}{K X:V->(Nat->aa)->Nat->Prop}(hl:args.length<=n)(h:ta P n nx false ic (lC P rs K X) ⟨bZ args,o,nx⟩):cO P f args o nx K X:=by
 obtain⟨fn,h1,h2,rfl,rfl,c,h3,rfl⟩:=hf.get
 exact cO.EG h1 h2 h3 hl (gQ aY c _ _ _ (fun _ _ h=>h) h)
theorem aV.uu (aY:P.follows .mixedOrders=true){f:FuncId}{ic:IC}{rs:List ResultVar}(hf:aK P f n ic rs){ds:List D}{out:R}(hl:ds.length<=n)(h:ta P n 0 false ic (yl P rs out) ⟨bZ (ds.map .d),fun _=> .no,0⟩):aV P f ds out:=by
 obtain⟨fn,h1,h2,rfl,rfl,c,h3,rfl⟩:=hf.get
 exact aV.lD (cO.EG h1 h2 h3 (by simpa using hl) (gQ aY c _ _ _ (fun e s h=>Gn e s h) h))
end
end
section
abbrev Fix(α:Type){β:Type}(_:β):Type:=α
def jR(K:V->List (Nat×aa)->Prop)(x:Fix (Option fG) K):Prop:=match x with|some (v,Δ,_)=>K v Δ|none=>False
@[go_sem] theorem Ri {v:V} {Δ:List (Nat×aa)} {rd:List Nat} {K}:jR K (some (v,Δ,rd))=K v Δ:=propext Iff.rfl
@[go_sem] theorem Rj {K}:jR K none=False:=propext Iff.rfl
def V.yI (c:Bool)(v:V):V:=if c=true then v else .bN []
@[go_sem] theorem Xm (b:Bool):(!!b)=b:=aG
attribute [go_sem] true_or or_true false_or ne_eq not_false_eq_true decide_true decide_false Bool.not_true Bool.not_false Bool.and_true Bool.true_and Bool.and_false Bool.false_and Bool.or_true Bool.true_or Bool.or_false Bool.false_or beq_self_eq_true Bool.true_eq_false Bool.false_eq_true not_true_eq_false and_true true_and and_false false_and eq_self
@[go_sem] theorem V.Xn (v:V):V.yI true v=v:=rfl
@[go_sem] theorem V.Uf (v:V):V.yI false v= .bN []:=rfl
def lU(c:Bool)(p:Prop):Prop:=c=true->p
@[congr] theorem OO {c c':Bool} {p p':Prop} (h:c=c') (h2:c'=true->p=p'):lU c p=lU c' p':=by
  subst h;cases c
  ·simp[lU]
  ·simp[lU,h2 rfl]
@[go_sem] theorem Rk (p:Prop):lU true p=p:=by simp[lU]
@[go_sem] theorem OP (p:Prop):lU false p=True:=by simp[lU]
@[go_sem] theorem Rl (a:Bool):lU a True=True:=by simp[lU]
def lV(v:V)(want:Bool):Option Bool:=
 match v with
 | .d (.bool b)=>some (b==want)
 | .bN []=>some false
 |_=>none
@[go_sem] theorem Rm (b:Bool):lV (.d (.bool b)) true=some b:=by simp[lV]
@[go_sem] theorem OQ (b:Bool):lV (.d (.bool b)) false=some (!b):=by simp[lV]
@[go_sem] theorem Xo (want:Bool):lV (.bN []) want=some false:=rfl
@[go_sem] theorem Ug (c b want:Bool):lV (V.yI c (.d (.bool b))) want=some (c&&(b==want)):=by cases c<;>simp[lV,V.yI]
@[go_sem] theorem Rn (c b e want:Bool):lV (V.yI c (V.yI e (.d (.bool b)))) want=some (c&&e&&(b==want)):=by cases c<;>cases e<;>simp[lV,V.yI]
def ko(c:Bool)(x:Option fG):Option fG:=
 if c=true then(match x with|some (v,[],_)=>some (v,[],[])|_=>none)else some (.bN [],[],[])
@[congr] theorem LZ {c c':Bool} {x x':Option fG} (h:c=c') (h2:c'=true->x=x'):ko c x=ko c' x':=by
  subst h;cases c
  ·rfl
  ·simp[ko,h2 rfl]
def Uh(v:V)(rd:List Nat):Option fG:=some (v,[],rd)
@[go_sem] theorem abD (v:V) (rd:List Nat):(some (v,[],rd):Option fG)=Uh v rd:=by unfold Uh;exact Eq.trans rfl rfl
@[go_sem] theorem Ro (c:Bool) (v:V) (rd:List Nat):ko c (Uh v rd)=Uh (V.yI c v) []:=by cases c<;>rfl
@[go_sem] theorem Ui {v:V} {rd:List Nat} {K}:jR K (Uh v rd)=K v []:=propext Iff.rfl
@[go_sem] theorem OR (c:Bool) (v:V) (rd:List Nat):ko c (some (v,[],rd))=some (V.yI c v,[],[]):=by cases c<;>rfl
@[go_sem] theorem L0 (x:Option fG):ko false x=some (.bN [],[],[]):=rfl
@[go_sem] theorem Xp (b x:Bool):pW (.d (.bool b)) (V.yI b (.d (.bool x))) (.d (.bool false))=some (.d (.bool (b&&x))):=z8
@[go_sem] theorem aaL (b x:Bool):pW (.d (.bool b)) (.d (.bool true)) (V.yI (!b) (.d (.bool x)))=some (.d (.bool (b||x))):=z8
@[go_sem] theorem Xq (b x:Bool):pW (.d (.bool (!b))) (.d (.bool true)) (V.yI b (.d (.bool x)))=some (.d (.bool (!b||x))):=z8
@[go_sem] theorem Uj (x y:V):pW (.d (.bool true)) x y=some x:=rfl
@[go_sem] theorem Rp (x y:V):pW (.d (.bool false)) x y=some y:=rfl
@[reducible] def kp:Op->Bool
  | .move _| .assign _| .pick .. | .load .. | .binOp .. | .unOp .. | .nilCheck _| .convert .. | .makeInterface .. | .makeFunc .. | .fieldAddr .. | .indexAddr .. | .extract .. | .build .. | .index .. | .field .. | .lookup .. =>true
  | .call c=>match c.callee with
    | .builtin .len=>true
    | .builtin .min=>true
    | .builtin .max=>true
    |_=>false
  |_=>false
def Bc(P:Program)(f:V)(args:List V)(o:Nat->aa)(rs:List D):Prop:=
 match f with
 | .func (.func g) first cap=>match bR o (first++args++cap)with
   |some ds=>aV P g ds (.ret rs)/\D.jm rs=true
   |none=>False
 |_=>False
def EN(P:Program)(f:V)(args:List V)(o:Nat->aa)(K:V->Prop)(c:Fix Bool (f,args,o,K)):Prop:=
 ∃rs,lU c (Bc P f args o rs)/\K (V.yI c (iD rs))
def Bd(P:Program)(g:FuncId)(nx:Nat)(K X:V->(Nat->aa)->Nat->Prop)(args:Fix (List V) (K,X))(o:Fix (Nat->aa) (K,X)):Prop:=se P g args o nx K X
def uv(P:Program)(g:FuncId)(o:Nat->aa)(nx:Nat)(K X:V->(Nat->aa)->Nat->Prop)(ds:Fix (List D) (o,nx,K,X))(all:Fix (List V) (o,nx,K,X)):Prop:=
 ug P g ds o (put o (b7 o (V.a8 all))) (put o (qT o (V.a8 all))) (fun v o'=>K v o' (nx+1)) (fun v o'=>X v o' (nx+1))\/se P g all o nx K X
def mN(P:Program)(g:FuncId)(K X:V->(Nat->aa)->Nat->Prop)(s:S)(all:List V)(ds:Fix (Option (List D)) (K,X,s,all)):Prop:=
 match ds with
 |some ds=>uv P g s.o s.nx K X ds all
 |none=>Bd P g s.nx K X all s.o
@[go_sem] theorem OS {P:Program} {s:S} {ds:List D} {g:FuncId} {all:List V} {K X}:
 mN P g K X s all (some ds)=uv P g s.o s.nx K X ds all:=propext Iff.rfl
def xe(P:Program)(id:Nat)(K X:V->(Nat->aa)->Nat->Prop)(s:S)(args:Fix (List V) (K,X,s)):Prop:=dB P id args s.o s.nx K X
@[go_sem] theorem OT {P:Program} {s:S} {g:FuncId} {all:List V} {K X}:mN P g K X s all none=Bd P g s.nx K X all s.o:=propext Iff.rfl
def su(P:Program)(K X:V->(Nat->aa)->Nat->Prop)(s:S)(f:Fix V (K,X,s))(args:Fix (List V) (K,X,s)):Prop:=
 match f with
 | .func (.func g) first cap=>mN P g K X s (first++args++cap) (bR s.o (first++args++cap))
 | .kz id=>xe P id K X s args
 |_=>False
@[go_sem] theorem Uk {P:Program} {s:S} {id:Nat} {args:List V} {K X}:su P K X s (.kz id) args=xe P id K X s args:=propext Iff.rfl
@[go_sem] theorem Rq {P:Program} {s:S} {g:FuncId} {first cap args:List V} {K X}:su P K X s (.func (.func g) first cap) args=mN P g K X s (first++args++cap) (bR s.o (first++args++cap)):=propext Iff.rfl
def I7(P:Program)(g:FuncId)(o:Nat->aa)(nx:Nat)(K X:V->(Nat->aa)->Nat->Prop)(ds:Fix (List D) (o,nx,K,X))(all:Fix (List V) (o,nx,K,X)):Prop:=
 ug P g ds o (put o (b7 o (V.a8 all))) (put o (qT o (V.a8 all))) (fun v o'=>K v o' (nx+1)) (fun v o'=>X v o' (nx+1))
def Be(P:Program)(g:FuncId)(K X:V->(Nat->aa)->Nat->Prop)(s:S)(all:List V)(ds:Fix (Option (List D)) (K,X,s,all)):Prop:=
 match ds with
 |some ds=>I7 P g s.o s.nx K X ds all
 |none=>False
@[go_sem] theorem Rr {P:Program} {s:S} {ds:List D} {g:FuncId} {all:List V} {K X}:Be P g K X s all (some ds)=I7 P g s.o s.nx K X ds all:=propext Iff.rfl
def I8(P:Program)(K X:V->(Nat->aa)->Nat->Prop)(s:S)(args:Fix (List V) (K,X,s))(r:Fix (Option (FuncId×V)) (K,X,s)):Prop:=
 match r with
 |some (g,y)=>Be P g K X s (y::args) (bR s.o (y::args))
 |none=>False
@[go_sem] theorem Ul {P:Program} {s:S} {g:FuncId} {y:V} {args:List V} {K X}:I8 P K X s args (some (g,y))=Be P g K X s (y::args) (bR s.o (y::args)):=propext Iff.rfl
def GA(K:V->Prop)(v:Fix V K):Prop:=
 match v with
 | .d (.iface t y)=>K (.d (.iface t y))
 | .iface t y=>K (.iface t y)
 |_=>False
@[go_sem] theorem abE {t:TypeId} {y:D} {K}:GA K (.d (.iface t y))=K (.d (.iface t y)):=propext Iff.rfl
@[go_sem] theorem abF {t:TypeId} {y:V} {K}:GA K (.iface t y)=K (.iface t y):=propext Iff.rfl
def EO(K:V->List (Nat×aa)->Prop)(id:Nat)(l:Fix (List (D×D)) (K,id)):Prop:=En id l fun v Δ _=>K v Δ
def I9(K:V->List (Nat×aa)->Prop)(str:Bool)(Um:Fix (Option fG) (K,str))(left:Fix (Option (Nat×List (D×D))) (K,str)):Prop:=
 match left with
 |some (id,l)=>str=false/\EO K id l
 |none=>jR K Um
@[go_sem] theorem Un {K} {Um:Option fG} {id:Nat} {l:List (D×D)}:I9 K false Um (some (id,l))=EO K id l:=propext ⟨fun h=>h.2,fun h=>⟨rfl,h⟩⟩
@[go_sem] theorem Uo {K} {str:Bool} {Um:Option fG}:I9 K str Um none=jR K Um:=propext Iff.rfl
def Bf(P:Program)(X:V->S->Prop)(K:S->Prop)(o:bK)(s:Fix S (X,K,o)):Prop:=
 match o.op with
 | .next x str=>I9 (fun v Δ=>K ⟨aU s.env o.dst v,put s.o Δ,s.nx+1⟩) str (oe s.o (s.ev x) str) (og s.o (s.ev x))
 | .call c=>match c.callee with
   | .value f=>su P (fun v o' nx'=>K ⟨aU s.env o.dst v,o',nx'⟩) (fun v o' nx'=>X v ⟨s.env,o',nx'⟩) s (s.ev f) (c.args.toList.map s.ev)
   | .invoke r m=>I8 P (fun v o' nx'=>K ⟨aU s.env o.dst v,o',nx'⟩) (fun v o' nx'=>X v ⟨s.env,o',nx'⟩) s (c.args.toList.map s.ev) (tW P m (s.ev r))
   |_=>jR (fun v Δ=>K ⟨aU s.env o.dst v,put s.o Δ,s.nx+1⟩) (fX P s s.nx o.op)
 | .panic x=>GA (fun v=>X v s) (s.ev x)
 |op=>jR (fun v Δ=>K ⟨aU s.env o.dst v,put s.o Δ,s.nx+1⟩) (fX P s s.nx op)
@[reducible] def eo:Op->Option (Operand×List Operand)
  | .call c=>match c.callee with
    | .value f=>some (f,c.args.toList)
    |_=>none
  |_=>none
def im(A B:Prop)(t:Fix Bool (A,B)):Prop:=qa t A B
@[go_sem] theorem Rs (A B:Prop):im A B true=A:=uh A B
@[go_sem] theorem OU (A B:Prop):im A B false=B:=si A B
def Dk(P:Program)(X:V->S->Prop)(K:S->Prop)(o:bK)(s:S)(f:Operand)(args:List Operand)(c:Fix Bool (X,K,o,s,f,args)):Prop:=
 EN P (s.ev f) (args.map s.ev) s.o (fun v=>K ⟨aU s.env o.dst v,s.o,s.nx+1⟩) c\/im (Bf P X K o s) (K ⟨aU s.env o.dst (.bN []),s.o,s.nx+1⟩) c
def yJ(P:Program)(X:V->S->Prop)(K:S->Prop)(o:bK)(s:S)(c:Fix (Option Bool) (X,K,o,s)):Prop:=
 match c with
 |none=>False
 |some c=>match eo o.op with
  |some (f,args)=>Dk P X K o s f args c
  |none=>if kp o.op=true then jR (fun v _=>K ⟨aU s.env o.dst v,s.o,s.nx+1⟩) (ko c (fX P s s.nx o.op))
   else im (Bf P X K o s) (K ⟨aU s.env o.dst (.bN []),s.o,s.nx+1⟩) c
def rp(P:Program)(X:V->S->Prop)(K:S->Prop)(l:List bK)(s:Fix S (X,K,l)):Prop:=
 match l with
 |[]=>K s
 |o::l=>match o.gd with
  |none=>Bf P X (rp P X K l) o s
  |some (d,want)=>yJ P X (rp P X K l) o s (lV (s.env d) want)
def jo(want:Bool)(A B:Prop)(v:Fix V (A,B)):Prop:=
 match v with
 | .d (.bool b)=>qa (b==want) A B
 | .bN []=>B
 |_=>False
@[go_sem] theorem OV (b:Bool) (A B:Prop):jo true A B (.d (.bool b))=im A B b:=by simp[jo,im]
@[go_sem] theorem L1 (b:Bool) (A B:Prop):jo false A B (.d (.bool b))=im A B (!b):=by simp[jo,im]
@[go_sem] theorem Up (want:Bool) (A B:Prop):jo want A B (.bN [])=B:=propext Iff.rfl
@[go_sem] theorem Rt (c b want:Bool) (A B:Prop):jo want A B (V.yI c (.d (.bool b)))=im A B (c&&(b==want)):=by cases c<;>simp[jo,V.yI,im]
abbrev KD:=V->List (Nat×aa)->List Nat->Prop
abbrev XD:=V->List Nat->List Nat->Prop
def Ja(P:Program)(g:FuncId)(K:KD)(X:XD)(o:Nat->aa)(rd:List Nat)(ds:Fix (List D) (K,X,o,rd))(all:Fix (List V) (K,X,o,rd)):Prop:=
 ss P g ds (fun v=>K v (b7 o (V.a8 all)) rd) (fun v=>K v [] rd) (fun v=>X v [] rd)
def rq(P:Program)(g:FuncId)(K:KD)(X:XD)(o:Nat->aa)(nx fr:Nat)(all:Fix (List V) (K,X,o,nx)):Prop:=iF P g all o nx fr K X
def mO(P:Program)(g:FuncId)(K:KD)(X:XD)(o:Nat->aa)(nx fr:Nat)(rd:List Nat)(ds:Fix (List D) (K,X,o,nx,rd))(all:Fix (List V) (K,X,o,nx,rd)):Prop:=Ja P g K X o rd ds all\/rq P g K X o nx fr all
def rr(P:Program)(K:KD)(X:XD)(o:Nat->aa)(nx fr:Nat)(rd:List Nat)(g:FuncId)(all:List V)(ds:Fix (Option (List D)) (K,X,o,nx,rd,all)):Prop:=
 match ds with
 |some ds=>mO P g K X o nx fr rd ds all
 |none=>rq P g K X o nx fr all
@[go_sem] theorem OW {P:Program} {o:Nat->aa} {nx fr:Nat} {rd:List Nat} {ds:List D} {g:FuncId} {all:List V} {K X}:rr P K X o nx fr rd g all (some ds)=mO P g K X o nx fr rd ds all:=propext Iff.rfl
@[go_sem] theorem OX {P:Program} {o:Nat->aa} {nx fr:Nat} {rd:List Nat} {g:FuncId} {all:List V} {K X}:rr P K X o nx fr rd g all none=rq P g K X o nx fr all:=propext Iff.rfl
def Bg(P:Program)(K:KD)(X:XD)(o:Nat->aa)(nx fr:Nat)(rd:Fix (List Nat) (K,X,o,nx))(f:Fix V (K,X,o,nx))(args:Fix (List V) (K,X,o,nx)):Prop:=
 match f with
 | .func (.func g) first cap=>rr P K X o nx fr rd g (first++args++cap) (bR o (first++args++cap))
 |_=>False
@[go_sem] theorem Ru {P:Program} {o:Nat->aa} {nx fr:Nat} {rd:List Nat} {g:FuncId} {first cap args:List V} {K X}:Bg P K X o nx fr rd (.func (.func g) first cap) args=rr P K X o nx fr rd g (first++args++cap) (bR o (first++args++cap)):=propext Iff.rfl
def uw(K:KD)(rd:List Nat)(x:Fix (Option fG) (K,rd)):Prop:=match x with|some (v,Δ,_)=>K v Δ rd|none=>False
@[go_sem] theorem Rv {v:V} {Δ:List (Nat×aa)} {r rd:List Nat} {K}:uw K rd (some (v,Δ,r))=K v Δ rd:=propext Iff.rfl
@[go_sem] theorem Uq {v:V} {r rd:List Nat} {K}:uw K rd (Uh v r)=K v [] rd:=propext Iff.rfl
def K8(P:Program)(K:KD)(X:XD)(fr:Nat)(o:bK)(s:Fix S (K,X,o)):Prop:=
 match eo o.op with
 |some (f,args)=>Bg P K X s.o s.nx fr (nW s o.op) (s.ev f) (args.map s.ev)
 |none=>uw K (nW s o.op) (fX P s fr o.op)
def GC(P:Program)(KB:List Nat->Fp->Prop)(pr:List (List Nat))(l:List bK)(fr:Nat)(fp:Fix Fp (KB,l))(bad ws:Fix (List Nat) (KB,l))(s:Fix S (KB,l)):Prop:=gP P KB pr l fr s fp bad ws
def oN(P:Program)(K:S->Fp->Prop)(KP:V->List Nat->Fp->Prop)(pr:List (List Nat))(l:List bK)(fr:Nat)(s:Fix S (K,KP,l))(fp:Fix Fp (K,KP,l)):Prop:=
 match l with
 |[]=>K s fp
 |o::l=>match o.gd with
  |none=>K8 P (fun v Δ rd=>oN P K KP pr l (fr+1) ⟨aU s.env o.dst v,put s.o Δ,s.nx⟩ (fp++[(rd,Δ.map (·.1))]))
   (fun v ws rd=>GC P (KP v) pr l (fr+1) (fp++[(rd,[])]) [fp.length] (ws++fp.flatMap (·.2)) ⟨aU s.env o.dst .ab,s.o,s.nx⟩) fr o s
  |some (d,want)=>jo want (K8 P (fun v Δ rd=>oN P K KP pr l (fr+1) ⟨aU s.env o.dst v,put s.o Δ,s.nx⟩ (fp++[(rd,Δ.map (·.1))]))
   (fun v ws rd=>GC P (KP v) pr l (fr+1) (fp++[(rd,[])]) [fp.length] (ws++fp.flatMap (·.2)) ⟨aU s.env o.dst .ab,s.o,s.nx⟩) fr o s)
   (oN P K KP pr l (fr+1) ⟨aU s.env o.dst (.bN []),s.o,s.nx⟩ (fp++[([],[])])) (s.env d)
def L2(pr:List (List Nat))(nx:Nat)(Q:fw->S->Prop)(s:Fix S Q)(fp:Fix Fp Q):Prop:=Dh pr nx Q s fp
def rv(l:List bK)(k:Fix Nat l):Option Nat:=match l with
 |[]=>none
 |o::l=>match o.gd,eo o.op with
  |none,some (.tmp _,_)=>some k
  |_,_=>rv l (k+1)
def OY(P:Program)(pr:List (List Nat))(l:List bK)(nx:Nat)(Q:fw->S->Prop)(s:Fix S (P,pr,l,nx,Q))(fp:Fix Fp (P,pr,l,nx,Q)):Prop:=eC pr fp=true/\rp P (fun v s=>Q (.bB v) s) (Q .normal) l ⟨s.env,s.o,nx⟩
def L3(P:Program)(l:List bK)(pr:List (List Nat))(Q:fw->S->Prop)(s:S)(sp:Fix (Option Nat) (P,l,pr,Q,s)):Prop:=match sp with
 |none=>oN P (L2 pr (s.nx+l.length) Q) (A9 pr l s Q) pr l s.nx s []
 |some m=>m<=l.length/\Di pr m=true/\oN P (OY P pr (l.drop m) (s.nx+m) Q) (fun _ _ _=>False) pr (l.take m) s.nx s []
def xf(A B:Prop)(v:Fix V (A,B)):Prop:=
 match v with
 | .d (.bool t)=>im A B t
 | .fD=>A/\B
 |_=>False
@[go_sem] theorem Ur (A B:Prop):xf A B .fD=(A/\B):=propext Iff.rfl
@[go_sem] theorem Rw (t:Bool) (A B:Prop):xf A B (.d (.bool t))=im A B t:=propext Iff.rfl
def EP{ι:Type}(b:Nat)(st:ι->S)(cq:ι->Prop)(oO:ι->Nat)(i:ι)(s:S):Prop:=∃j,cq j/\oO j<oO i/\bM b s (st j)
def ux(next:S->Prop)(Q:fw->S->Prop)(e:fw)(s:S):Prop:=match e with| .normal=>next s|e=>Q e s
section
variable {N:S->Prop}{Q:fw->S->Prop}{s:S}
@[go_sem ↓] theorem L4:ux N Q .normal s=N s:=propext Iff.rfl
@[go_sem ↓] theorem Rx {id:Nat}:ux N Q (.exit id) s=Q (.exit id) s:=propext Iff.rfl
@[go_sem ↓] theorem Us:ux N Q .ret s=Q .ret s:=propext Iff.rfl
@[go_sem ↓] theorem Ut {v:V}:ux N Q (.bB v) s=Q (.bB v) s:=propext Iff.rfl
end
def ER(b:Nat)(body:(fw->S->Prop)->S->Prop)(Q:fw->S->Prop)(s:Fix S (body,Q)):Prop:=
 ∃ (ι:Type) (st:ι->S) (cq:ι->Prop) (oO:ι->Nat) (i0:ι),cq i0/\bM b s (st i0)/\∀i,cq i->body (ux (EP b st cq oO i) Q) (st i)
theorem aF{ι:Type}{b:Nat}{body:(fw->S->Prop)->S->Prop}{Q:fw->S->Prop}{s:S}(st:ι->S)(cq:ι->Prop)(oO:ι->Nat)(i0:ι)(h0:cq i0)(hle:bM b s (st i0))
 (h:∀i,cq i->body (ux (EP b st cq oO i) Q) (st i)):ER b body Q s:=⟨ι,st,cq,oO,i0,h0,hle,h⟩
def Bh(P:Program)(n b:Nat)(rd:Bool)(gop:Operand)(ps:List Nat)(x y:IC)(Q:fw->S->Prop)(s:Fix S (x,y,Q))(g:Fix V (x,y,Q)):Prop:=rd=false/\(AS P n g ps x y Q s\/∃s',bM b s s'/\AS P n (s'.ev gop) ps x y Q s')
def kq(P:Program)(n b:Nat)(rd:Bool)(c:IC)(Q:fw->S->Prop)(s:Fix S (c,Q)):Prop:=
 match c with
 | .skip=>Q .normal s
 | .af l=>rp P (fun v s=>Q (.bB v) s) (Q .normal) l s
 | .dq l pr=>L3 P l pr Q s (rv l 0)
 | .seq x y=>kq P n b rd x (pQ (fun s=>kq P n b rd y Q s) Q) s
 | .cond c x y=>xf (kq P n b rd x Q s) (kq P n b rd y Q s) (s.ev c)
 | .block id x=>kq P n b rd x (ff id Q) s
 | .loop x=>ER b (fun Q s=>kq P n b rd x Q s) Q s
 | .exit id=>Q (.exit id) s
 | .ret=>Q .ret s
 | .Hq g ps x y=>Bh P n b rd g ps x y Q s (s.ev g)
 | .bad=>False
section
variable {P:Program}{n b:Nat}{rd:Bool}
theorem Bi{s:S}{f:V}{args:List V}{K K':V->(Nat->aa)->Nat->Prop}{X X':V->(Nat->aa)->Nat->Prop}(hK:∀v o n,K v o n->K' v o n)(hX:∀v o n,X v o n->X' v o n)(h:su P K X s f args):
 match(generalizing:=false) f with
  | .func (.func g) first cap=>match bR s.o (first++args++cap)with
    |some ds=>ug P g ds s.o (put s.o (b7 s.o (V.a8 (first++args++cap)))) (put s.o (qT s.o (V.a8 (first++args++cap)))) (fun v o'=>K' v o' (s.nx+1)) (fun v o'=>X' v o' (s.nx+1))\/se P g (first++args++cap) s.o s.nx K' X'
    |none=>se P g (first++args++cap) s.o s.nx K' X'
  | .kz id=>dB P id args s.o s.nx K' X'
  |_=>False:=by
 unfold su mN xe at h
 split at h
 ·rename_i g first cap
  cases eR:bR s.o (first++args++cap)with
  |some ds=>
   simp only[eR]at h|-
   rcases h with⟨out,h1,h2|⟨h3,h2⟩|⟨h3,h2⟩⟩|h
   ·exact .inl ⟨out,h1, .inl (by cases out<;>first|exact hK _ _ _ h2|exact hX _ _ _ h2)⟩
   ·exact .inl ⟨out,h1, .inr (.inl ⟨h3,by cases out<;>first|exact hK _ _ _ h2|exact hX _ _ _ h2⟩)⟩
   ·exact .inl ⟨out,h1, .inr (.inr ⟨h3,by cases out<;>first|exact hK _ _ _ h2|exact hX _ _ _ h2⟩)⟩
   ·exact .inr (nX.mono hK hX h)
  |none=>
   simp only[eR]at h|-
   exact nX.mono hK hX h
 ·exact dB.mono hK hX h
 ·exact h.elim
theorem xg{x:Option fG}{K:V->List (Nat×aa)->Prop}(h:jR K x):∃v Δ rd,x=some (v,Δ,rd)/\K v Δ:=by
 unfold jR at h;split at h
 ·exact⟨_,_,_,rfl,h⟩
 ·exact h.elim
theorem yK{s:S}{o:bK}{X X':V->S->Prop}{K K':S->Prop}(hK:∀s,K s->K' s)(hX:∀v s,X v s->X' v s)(h:Bf P X K o s):Hy P s o X' K':=by
 unfold Bf at h
 unfold Hy
 have hs:∀ {op:Op},(jR (fun v Δ=>K ⟨aU s.env o.dst v,put s.o Δ,s.nx+1⟩) (fX P s s.nx op))->(match fX P s s.nx op with|some (v,Δ,_)=>K' ⟨aU s.env o.dst v,put s.o Δ,s.nx+1⟩|none=>False):=by
  intro op h
  obtain⟨v,Δ,rd,he,h⟩:=xg h
  simp only[he];exact hK _ h
 split at h
 ·rename_i x str hx
  rw[hx]
  unfold I9 at h
  simp only
  split at h
  ·rename_i id l hl
   simp only[hl]
   exact⟨h.1,fun e=>hK _ (h.2.1 e),fun i k x e=>hK _ (h.2.2 i k x e)⟩
  ·rename_i hl
   simp only[hl]
   exact hs (op:= .next x str) h
 ·rename_i c hc
  simp only[hc]
  split at h
  ·rename_i f hf
   simp only[hf]
   exact Bi (K:=fun v o' nx'=>K ⟨aU s.env o.dst v,o',nx'⟩) (X:=fun v o' nx'=>X v ⟨s.env,o',nx'⟩) (fun v o n h=>hK _ h) (fun v o n h=>hX _ _ h) h
  ·rename_i r m hf
   simp only[hf]
   unfold I8 at h
   split at h
   ·rename_i g y hr
    simp only[hr]
    unfold Be at h
    split at h
    ·rename_i ds eR
     obtain⟨out,h1,h2⟩:=h
     refine .inl ⟨ds,eR,out,h1, ?_⟩
     rcases h2 with h2|⟨h3,h2⟩|⟨h3,h2⟩
     ·exact .inl (by cases out<;>first|exact hK _ h2|exact hX _ _ h2)
     ·exact .inr (.inl ⟨h3,by cases out<;>first|exact hK _ h2|exact hX _ _ h2⟩)
     ·exact .inr (.inr ⟨h3,by cases out<;>first|exact hK _ h2|exact hX _ _ h2⟩)
    ·exact h.elim
   ·exact h.elim
  ·rename_i hf hi
   rw[hc]at h
   obtain⟨IE,args,ts⟩:=c
   cases IE with
   |value f=>exact absurd rfl (hf f)
   |invoke r m=>exact absurd rfl (hi r m)
   |_=>exact hs h
 ·rename_i x hx
  simp only[hx]
  unfold GA at h
  split at h
  ·rename_i hv;simp only[hv];exact hX _ _ h
  ·rename_i hv;simp only[hv];exact hX _ _ h
  ·exact h.elim
 ·rename_i s7 hc hp
  have h2:=hs h
  cases hh:o.op<;>first
   |exact absurd hh (hc _)
   |exact absurd hh (hp _)
   |exact absurd hh (s7 _ _)
   |(rw[hh]at h2;exact h2)
theorem Jb{s:S}{o:bK}{X:V->S->Prop}{K:S->Prop}(hp:kp o.op=true){v:V}{Δ:List (Nat×aa)}{rd:List Nat}(he:fX P s s.nx o.op=some (v,Δ,rd))(h:K ⟨aU s.env o.dst v,put s.o Δ,s.nx+1⟩):Hy P s o X K:=by
 unfold Hy
 split
 ·rename_i c hc
  split
  ·rename_i f hf;rw[hc]at hp;simp[kp,hf]at hp
  ·rename_i r m hf;rw[hc]at hp;simp[kp,hf]at hp
  ·rw[he];exact h
 ·rename_i x hx;rw[hx]at hp;simp[kp]at hp
 ·rename_i x str hx;rw[hx]at hp;simp[kp]at hp
 ·rw[he];exact h
theorem rz{X X':V->S->Prop}{K K':S->Prop}(hK:∀s,K s->K' s)(hX:∀v s,X v s->X' v s):∀ (l:List bK) (s:S),rp P X K l s->oL P X' K' l s
 |[],s,h=>hK _ h
 |o::l,s,h=>by
  have ih:=rz hK hX l
  unfold rp at h
  unfold oL
  cases hg:o.gd with
  |none=>
   simp only[hg]at h|-
   exact yK ih hX h
  |some p=>
   obtain⟨d,want⟩:=p
   simp only[hg]at h|-
   unfold yJ at h
   split at h
   ·exact h.elim
   ·rename_i c hc
    have Ry:∀ {A B:Prop},(c=true->A)->(c=false->B)->(match s.env d with
     | .d (.bool b)=>if b=want then A else B
     | .bN []=>B
     |_=>False):=by
     intro A B hA hB
     generalize s.env d=v at hc
     unfold lV at hc
     split at hc
     ·rename_i b
      injection hc with hc
      split
      ·rename_i e;exact hA (by rw[<- hc];simp[e])
      ·rename_i e;exact hB (by rw[<- hc];simp[e])
     ·injection hc with hc
      exact hB hc.symm
     ·cases hc
    split at h
    ·rename_i f args Hz
     rcases h with h|h
     case inr=>exact Ry (fun OZ=>yK ih hX (h.1 OZ)) (fun Rz=>ih _ (h.2 Rz))
     obtain⟨rs,h1,h2⟩:=h
     refine Ry (fun OZ=> ?_) (fun Rz=> ?_)
     ·unfold eo at Hz
      split at Hz
      ·rename_i c' tY
       split at Hz
       ·rename_i f' vV
        injection Hz with Hz;injection Hz with e1 e2;subst e1;subst e2
        have eM:=h1 OZ
        unfold Hy
        simp only[tY,vV]
        unfold Bc at eM
        split at eM
        ·rename_i g first cap vO
         simp only[vO]
         split at eM
         ·rename_i ds eR
          simp only[eR]
          refine .inl ⟨.ret rs,eM.1, .inr (.inl ⟨eM.2, ?_⟩)⟩
          refine ih _ ?_
          rw[OZ]at h2
          exact h2
         ·exact eM.elim
        ·exact eM.elim
       ·cases Hz
      ·cases Hz
     ·refine ih _ ?_
      rw[Rz]at h2
      exact h2
    ·split at h
     ·rename_i hp
      obtain⟨v,Δ,rd,he,h⟩:=xg h
      refine Ry (fun OZ=> ?_) (fun Rz=> ?_)
      ·rw[OZ]at he
       simp only[ko,if_true]at he
       split at he
       ·rename_i v' xU pb
        injection he with he;injection he with e1 e2;subst e1
        exact Jb hp pb (ih _ h)
       ·cases he
      ·rw[Rz]at he
       simp only[ko]at he
       injection he with he;injection he with e1 e2;subst e1
       exact ih _ h
     ·exact Ry (fun OZ=>yK ih hX (h.1 OZ)) (fun Rz=>ih _ (h.2 Rz))
theorem yL{op:Op}{f:Operand}{args:List Operand}(h:eo op=some (f,args)):∃c,op= .call c/\c.callee= .value f/\c.args.toList=args:=by
 unfold eo at h
 split at h
 ·rename_i c
  split at h
  ·rename_i f' vV
   injection h with h;injection h with e1 e2;subst e1;subst e2
   exact⟨c,rfl,vV,rfl⟩
  ·cases h
 ·cases h
theorem GD{x:Option fG}{rd:List Nat}{K:KD}(h:uw K rd x):∃v Δ r,x=some (v,Δ,r)/\K v Δ rd:=by
 unfold uw at h;split at h
 ·exact⟨_,_,_,rfl,h⟩
 ·exact h.elim
theorem iF.mono {P:Program}{g:FuncId}{args:List V}{o:Nat->aa}{nx fr:Nat}{K K':KD}{X X':XD}(hK:∀v Δ r,K v Δ r->K' v Δ r)(hX:∀v w r,X v w r->X' v w r)(h:iF P g args o nx fr K X):iF P g args o nx fr K' X':=by
 obtain⟨rd,Δ,h1,⟨rs,h2,h3⟩|⟨x,h2,h3⟩|⟨v,h2,h3⟩⟩:=h
 ·exact⟨rd,Δ,h1, .inl ⟨rs,h2,hK _ _ _ h3⟩⟩
 ·exact⟨rd,Δ,h1, .inr (.inl ⟨x,h2,hX _ _ _ h3⟩)⟩
 ·exact⟨rd,Δ,h1, .inr (.inr ⟨v,h2,hK _ _ _ h3⟩)⟩
theorem ss.mono {P:Program}{g:FuncId}{ds:List D}{Kf Kb KX Kf' Kb' KX':V->Prop}(h1:∀v,Kf v->Kf' v)(h2:∀v,Kb v->Kb' v)(h3:∀v,KX v->KX' v)(h:ss P g ds Kf Kb KX):ss P g ds Kf' Kb' KX':=by
 rcases h with⟨rs,a,b|⟨b,c⟩⟩|⟨x,a,b,c⟩|⟨v,a,b⟩
 ·exact .inl ⟨rs,a, .inl (h1 _ b)⟩
 ·exact .inl ⟨rs,a, .inr ⟨b,h2 _ c⟩⟩
 ·exact .inr (.inl ⟨x,a,b,h3 _ c⟩)
 ·exact .inr (.inr ⟨v,a,h1 _ b⟩)
theorem ES{s:S}{fr:Nat}{o:bK}{K K':KD}{X X':XD}(hK:∀v Δ r,K v Δ r->K' v Δ r)(hX:∀v w r,X v w r->X' v w r)(h:K8 P K X fr o s):zM P s fr o K' X':=by
 unfold K8 at h
 split at h
 ·rename_i f args Hz
  obtain⟨c,h1,h2,h3⟩:=yL Hz
  subst h3
  unfold zM
  simp only[h1,h2]
  unfold Bg rr at h
  split at h
  ·rename_i g first cap hf
   simp only[hf]
   split at h
   ·rename_i ds eR
    simp only[eR]
    refine h.elim (fun h=> .inl ?_) (fun h=> .inr (iF.mono hK hX h))
    refine ss.mono (fun v h=> ?_) (fun v h=> ?_) (fun v h=> ?_) h<;>(rw[h1]at h)
    ·exact hK _ _ _ h
    ·exact hK _ _ _ h
    ·exact hX _ _ _ h
   ·rename_i eR
    simp only[eR]
    exact iF.mono hK hX h
  ·exact h.elim
 ·rename_i Hz
  obtain⟨v,Δ,rd,he,h⟩:=GD h
  unfold zM
  split
  ·rename_i c hc
   split
   ·rename_i f hf
    exact absurd Hz (by simp[eo,hc,hf])
   ·simp only[he];exact hK _ _ _ h
  ·simp only[he];exact hK _ _ _ h
theorem Bj{s:S}{fr:Nat}{o:bK}{K K':KD}{X X':XD}(hK:∀v Δ r,K v Δ r->K' v Δ r)(hX:∀v w r,X v w r->X' v w r)(h:zM P s fr o K X):zM P s fr o K' X':=by
 unfold zM at h|-
 split at h
 ·rename_i c hc
  rw[hc]at h|-
  split at h
  ·rename_i f hf
   (try simp only[hf])
   split at h
   ·rename_i vO
    (try simp only[vO])
    split at h
    ·exact h.elim (fun h=> .inl (ss.mono (fun v h=>hK _ _ _ h) (fun v h=>hK _ _ _ h) (fun v h=>hX _ _ _ h) h)) (fun h=> .inr (iF.mono hK hX h))
    ·exact iF.mono hK hX h
   ·exact h.elim
  ·rename_i hf
   split at h
   ·rename_i he
    (try simp only[he])
    exact hK _ _ _ h
   ·exact h.elim
 ·split at h
  ·rename_i he
   (try simp only[he]);exact hK _ _ _ h
  ·exact h.elim
theorem iV{KB KB':List Nat->Fp->Prop}{pr:List (List Nat)}(hK:∀l fp,KB l fp->KB' l fp):∀ (l:List bK) (fr:Nat) (s:S) (fp:Fp) (bad ws:List Nat),gP P KB pr l fr s fp bad ws->gP P KB' pr l fr s fp bad ws
 |[],_,_,_,_,_,h=>hK _ _ h
 |o::l,fr,s,fp,bad,ws,h=>by
  unfold gP at h|-
  split
  ·rename_i hb
   rw[if_pos hb]at h
   exact iV hK l _ _ _ _ _ h
  ·rename_i hb
   rw[if_neg hb]at h
   split at h
   ·exact Bj (fun v Δ r h=>iV hK l _ _ _ _ _ h) (fun _ _ _ h=>h) h
   ·split at h
    ·split at h
     ·rename_i e;simp only[e,if_true]
      exact Bj (fun v Δ r h=>iV hK l _ _ _ _ _ h) (fun _ _ _ h=>h) h
     ·rename_i e;simp only[e,if_false]
      exact iV hK l _ _ _ _ _ h
    ·exact iV hK l _ _ _ _ _ h
    ·exact h.elim
theorem iW{K K':S->Fp->Prop}{KP KP':V->List Nat->Fp->Prop}{pr:List (List Nat)}(hK:∀s fp,K s fp->K' s fp)(hP:∀v l fp,KP v l fp->KP' v l fp):∀ (l:List bK) (fr:Nat) (s:S) (fp:Fp),oN P K KP pr l fr s fp->kn P K' KP' pr l fr s fp
 |[],_,_,_,h=>hK _ _ h
 |o::l,fr,s,fp,h=>by
  have hB:∀v ws (rdl:List Nat),GC P (KP v) pr l (fr+1) (fp++[(rdl,[])]) [fp.length] (ws++fp.flatMap (·.2)) ⟨aU s.env o.dst .ab,s.o,s.nx⟩->
   gP P (KP' v) pr l (fr+1) ⟨aU s.env o.dst .ab,s.o,s.nx⟩ (fp++[(rdl,[])]) [fp.length] (ws++fp.flatMap (·.2)):=fun v ws rdl h=>iV (fun a b h=>hP v a b h) l _ _ _ _ _ h
  unfold oN at h
  unfold kn
  split at h
  ·rename_i hg
   (try simp only[hg])
   exact ES (fun v Δ r h=>iW hK hP l _ _ _ h) hB h
  ·rename_i d want hg
   (try simp only[hg])
   generalize s.env d=v at h
   unfold jo at h
   split at h
   ·rename_i bb
    by_cases e:bb=want
    ·subst e
     simp only[if_true]
     exact ES (fun v Δ r h=>iW hK hP l _ _ _ h) hB (h.1 aG)
    ·simp only[if_neg e]
     exact iW hK hP l _ _ _ (h.2 (by simpa using e))
   ·exact iW hK hP l _ _ _ h
   ·exact h.elim
theorem dQ:∀ (c:IC) (Q Q':fw->S->Prop) (s:S),(∀e s,Q e s->Q' e s)->kq P n b rd c Q s->ta P n b rd c Q' s
 | .skip,_,_,_,hQ,h=>hQ _ _ h
 | .af l,_,_,_,hQ,h=>rz (fun s h=>hQ _ _ h) (fun v s h=>hQ _ _ h) l _ h
 | .dq l pr,_,_,_,hQ,h=>by
   unfold kq at h
   generalize rv l 0=sp at h
   cases sp with
   |none=>exact .inl (iW (fun s fp h=>⟨h.1,hQ _ _ h.2⟩) (fun v l fp h=>⟨h.1,hQ _ _ h.2⟩) l _ _ _ h)
   |some m=>exact .inr ⟨m,h.1,h.2.1,iW (fun s fp h=>⟨h.1,rz (fun s h=>hQ _ _ h) (fun v s h=>hQ _ _ h) _ _ h.2⟩) (fun v l fp h=>h.elim) _ _ _ _ h.2.2⟩
 | .seq x y,Q,Q',s,hQ,h=>dQ x _ _ s (fun e s h=>by
  unfold pQ at h|-
  cases e with
  |normal=>exact dQ y _ _ s hQ h
  |_=>exact hQ _ _ h) h
 | .cond c x y,Q,Q',s,hQ,h=>by
   unfold kq xf im at h
   unfold ta
   split at h
   ·rename_i t ht
    simp only[ht]
    exact⟨fun e=>dQ x _ _ s hQ (h.1 e),fun e=>dQ y _ _ s hQ (h.2 e)⟩
   ·rename_i ht
    simp only[ht]
    exact⟨dQ x _ _ s hQ h.1,dQ y _ _ s hQ h.2⟩
   ·exact h.elim
 | .block id x,Q,Q',s,hQ,h=>dQ x _ _ s (fun e s h=>by
  unfold ff at h|-
  cases e with
  |exit j=>
   simp only at h|-
   split
   ·rename_i e;rw[if_pos e]at h;exact hQ _ _ h
   ·rename_i e;rw[if_neg e]at h;exact hQ _ _ h
  |_=>exact hQ _ _ h) h
 | .loop x,Q,Q',s,hQ,h=>by
   obtain⟨ι,st,cq,oO,i0,h0,hle,h2⟩:=h
   refine⟨fun m s=>∃i,cq i/\oO i=m/\s=st i,⟨oO i0,st i0,hle,i0,h0,rfl,rfl⟩, ?_⟩
   rintro m s0 ⟨i,hg,rfl,rfl⟩
   refine dQ x _ _ _ (fun e s h=> ?_) (h2 i hg)
   cases e with
   |normal=>
    obtain⟨j,k1,k2,k3⟩:=h
    exact⟨oO j,st j,k2,k3,j,k1,rfl,rfl⟩
   |_=>exact hQ _ _ h
 | .exit id,_,_,_,hQ,h=>hQ _ _ h
 | .ret,_,_,_,hQ,h=>hQ _ _ h
 | .Hq g ps x y,_,_,_,hQ,h=>⟨h.1,match h.2 with
   | .inl h=>⟨_, .inl rfl,rn hQ h⟩
   | .inr ⟨s',hle,h⟩=>⟨s', .inr hle,rn hQ h⟩⟩
 | .bad,_,_,_,_,h=>h.elim
end
theorem aV.aJ {P:Program}(aY:P.follows .mixedOrders=true){f:FuncId}{n:Nat}{ic:IC}{rs:List ResultVar}{ds:List D}{out:R}(hf:aK P f n ic rs)(hl:ds.length<=n)
 (h:kq P n 0 false ic (yl P rs out) ⟨bZ (ds.map .d),fun _=> .no,0⟩):aV P f ds out:=
 aV.uu aY hf hl (dQ ic _ _ _ (fun _ _ h=>h) h)
def rA(P:Program)(rs:List ResultVar)(K X:V->(Nat->aa)->Nat->Prop)(e:fw)(s:S):Prop:=lC P rs K X e s
theorem cO.aJ {P:Program}(aY:P.follows .mixedOrders=true){f:FuncId}{n:Nat}{ic:IC}{rs:List ResultVar}{args:List V}{o:Nat->aa}{nx:Nat}{K X:V->(Nat->aa)->Nat->Prop}(hf:aK P f n ic rs)(hl:args.length<=n)
 (h:kq P n nx false ic (rA P rs K X) ⟨bZ args,o,nx⟩):cO P f args o nx K X:=
 cO.uu aY hf hl (dQ ic _ _ _ (fun _ _ h=>h) h)
section
variable {P:Program}{g:FuncId}{ds:List D}{o:Nat->aa}{nx:Nat}{K X:V->(Nat->aa)->Nat->Prop}{all:List V}
theorem aj{rs:List D}(h:aV P g ds (.ret rs))(hf:D.jm rs=true)(hk:K (iD rs) o (nx+1)):uv P g o nx K X ds all:= .inl ⟨.ret rs,h, .inr (.inl ⟨hf,hk⟩)⟩
theorem ba{rs:List D}(h:aV P g ds (.ret rs))(hk:K (iD rs) (put o (b7 o (V.a8 all))) (nx+1)):uv P g o nx K X ds all:= .inl ⟨.ret rs,h, .inl hk⟩
theorem cz(h:cO P g all o nx K X):uv P g o nx K X ds all:= .inr (.inl h)
theorem jS{e:Nat->V}{ds:Option (List D)}(h:cO P g all o nx K X):mN P g K X ⟨e,o,nx⟩ all ds:=by
 cases ds with
 |some ds=>exact(.inr (.inl h):uv P g o nx K X ds all)
 |none=>exact(.inl h:Bd P g nx K X all o)
theorem bp(h:cO P g all o nx K X):Bd P g nx K X all o:= .inl h
variable {K:KD}{X:XD}{rd:List Nat}{fr:Nat}
theorem aX{rs:List D}(h:aV P g ds (.ret rs))(hf:D.jm rs=true)(hk:K (iD rs) [] rd):mO P g K X o nx fr rd ds all:= .inl (.inl ⟨rs,h, .inr ⟨hf,hk⟩⟩)
theorem dk{rs:List D}(h:aV P g ds (.ret rs))(hk:K (iD rs) (b7 o (V.a8 all)) rd):mO P g K X o nx fr rd ds all:= .inl (.inl ⟨rs,h, .inl hk⟩)
theorem GF{v:V}(h:OI P g ds v)(hk:K v (b7 o (V.a8 all)) rd):mO P g K X o nx fr rd ds all:= .inl (.inr (.inr ⟨v,h,hk⟩))
end
theorem fR{P:Program}{f:V}{args:List V}{o:Nat->aa}{K:V->Prop}{c:Bool}(rs:List D)(h:lU c (Bc P f args o rs))(hk:K (V.yI c (iD rs))):EN P f args o K c:=⟨rs,h,hk⟩
theorem au{t:Bool}{A B:Prop}(h:t=true->A)(h2:t=false->B):im A B t:=⟨h,h2⟩
theorem aL{pr:List (List Nat)}{nx:Nat}{Q:fw->S->Prop}{s:S}{fp:List (List Nat×List Nat)}(h:eC pr fp=true)(h2:Q .normal ⟨s.env,s.o,nx⟩):L2 pr nx Q s fp:=⟨h,h2⟩
@[go_sem] theorem Jc (o:Nat->aa):put o []=o:=rfl
@[go_sem] theorem Uu (o:Nat->aa) (x:Nat×aa) (l:List (Nat×aa)):put o (x::l)=put (aA o x.1 x.2) l:=rfl
@[go_sem] theorem ad {α:Type} (f:Nat->α) (i:Nat) (x:α):aA f i x i=x:=aG
@[go_sem] theorem ag {α:Type} (f:Nat->α) (i j:Nat) (x:α) (h:j≠i):aA f i x j=f j:=by simp[h]
@[go_sem] theorem L5 (v:V) (l:List V):bZ (v::l) 0=v:=rfl
@[go_sem] theorem L6 (v:V) (l:List V) (i:Nat):bZ (v::l) (i+1)=bZ l i:=rfl
@[go_sem] theorem O0 (i:Nat):bZ [] i= .bN []:=by simp[bZ]
@[go_sem] theorem Uv {P:Program} {o:Nat->aa} {t:TypeId} {id off:Nat}:mH P o t (.ptr id off)=match o id with
 | .row cs=>match eF P t cs off with
   |some v=>some (v,[],[id])
   |none=>none
 |_=>none:=by unfold mH;exact Eq.trans rfl rfl
@[go_sem] theorem Xr {P:Program} {o:Nat->aa} {t:TypeId} {cs:List D} {off:Nat}:mH P o t (.pp cs off)=match eF P t (cs.map .d) off with
 |some v=>some (v,[],[])
 |none=>none:=by unfold mH;exact Eq.trans rfl rfl
@[go_sem] theorem Xs {P:Program} {o:Nat->aa} {t:TypeId} {id ep i sz off:Nat}:mH P o t (.pe id ep i sz off)=match o id with
 | .arr fF _ qJ es=>if ep=fF/\sz=qJ then match es[i]? with
  |some e=>match eF P t (e.cells.map .d) off with
   |some v=>some (v,[],[id])
   |none=>none
  |none=>none
   else none
 |_=>none:=by unfold mH;exact Eq.trans rfl rfl
section
variable {P:Program}{o:Nat->aa}{t:TypeId}{op:BinOp}{mj:Bool}
@[go_sem] theorem Uw {k:IntKind} {a b:Int}:eZ P o op t mj (.d (.int k a)) (.d (.int k b))=match AW op k a b with
 |some v=>one v
 |none=>qX P o op t mj (.d (.int k a)) (.d (.int k b)):=by
  simp only[eZ,yq,if_true]
  cases AW op k a b<;>rfl
@[go_sem] theorem Ux {a b:Bool} (h:nz P t=true):eZ P o .eql t mj (.d (.bool a)) (.d (.bool b))=one (.d (.bool (a==b))):=by simp only[eZ,yq,IU,h,if_true]
@[go_sem] theorem Uy {a b:Bool} (h:nz P t=true):eZ P o .neq t mj (.d (.bool a)) (.d (.bool b))=one (.d (.bool (a !=b))):=by simp only[eZ,yq,IU,h,if_true]
@[go_sem] theorem Uz {a b:List UInt8}:eZ P o .eql t mj (.d (.str a)) (.d (.str b))=one (.d (.bool (a==b))):=H5
@[go_sem] theorem UA {a b:List UInt8}:eZ P o .neq t mj (.d (.str a)) (.d (.str b))=one (.d (.bool (a !=b))):=H5
@[go_sem] theorem UB {a b:List D}:eZ P o op t mj (.d (.agg a)) (.d (.agg b))=qX P o op t mj (.d (.agg a)) (.d (.agg b)):=H5
theorem Lo{x:V}{y:V}(h:match y with| .d (.int _ _)| .d (.bool _)| .d (.str _)=>False|_=>True):yq P op t x y=none:=by
 unfold yq
 split<;>first|exact h.elim|rfl
@[go_sem] theorem RA {x:V}:eZ P o op t mj x .aM=qX P o op t mj x .aM:=HQ
@[go_sem] theorem RB {x:V}:eZ P o op t mj x (.d .eD)=qX P o op t mj x (.d .eD):=HQ
@[go_sem] theorem RC {x:V}:eZ P o op t mj x (.d .kC)=qX P o op t mj x (.d .kC):=HQ
@[go_sem] theorem RD {x:V}:eZ P o op t mj x (.d .b8)=qX P o op t mj x (.d .b8):=HQ
@[go_sem] theorem RE {x:V}:eZ P o op t mj x (.d .dC)=qX P o op t mj x (.d .dC):=HQ
@[go_sem] theorem Xt {b:Bool}:FR .not (.d (.bool b))=some (.d (.bool !b)):=H7
@[go_sem] theorem Xu:FR .not .fD=some .fD:=H7
@[go_sem] theorem Xv {k:IntKind} {n:Int}:FR .neg (.d (.int k n))=some (.d (.int k (k.wrap (-n)))):=H7
end
@[go_sem] theorem D.UC (cs:List D):(D.agg cs).cells=cs:=rfl
@[go_sem] theorem D.UD (k:IntKind) (n:Int):(D.int k n).cells=[.int k n]:=rfl
@[go_sem] theorem D.RF (b:Bool):(D.bool b).cells=[.bool b]:=rfl
@[go_sem] theorem D.UE (b:List UInt8):(D.str b).cells=[.str b]:=rfl
@[go_sem] theorem D.Xw (b:List D):(D.sl b).cells=[.sl b]:=rfl
@[go_sem] theorem D.Xx (a b:List D):(D.mp a b).cells=[.mp a b]:=rfl
@[go_sem] theorem D.O2 (t:TypeId) (x:D):(D.iface t x).cells=[.iface t x]:=rfl
@[go_sem] theorem D.RG:D.eD.cells=[.eD]:=rfl
@[go_sem] theorem D.RH:D.kC.cells=[.kC]:=rfl
@[go_sem] theorem D.RI:D.b8.cells=[.b8]:=rfl
@[go_sem] theorem D.RJ:D.dC.cells=[.dC]:=rfl
attribute [go_sem] V.ofConst V.da AW IU pX C3 w6 om gM gN ri fO lE pY pZ p9 yr iT IV lA dL bR eF x5 rX lR V.cells D.put b7 V.ids V.a8 iD D.jm D.flat R.flat
attribute [go_sem] CH List.take_succ_cons List.take_zero List.take_nil List.drop_zero List.drop_succ_cons List.drop_nil
attribute [go_sem] List.map_cons List.map_nil List.length_cons List.length_nil List.cons_append List.nil_append List.append_nil List.getElem?_cons_zero List.getElem?_cons_succ Option.bind_some Option.bind_none Option.map_some Option.map_none aa.bY aa.b9
section
variable {P:Program}{n b:Nat}{rd:Bool}{Q:fw->S->Prop}{s:S}
@[go_sem] theorem Xy:kq P n b rd .skip Q s=Q .normal s:=propext Iff.rfl
@[go_sem] theorem aaM {l:List bK}:kq P n b rd (.af l) Q s=rp P (fun v s=>Q (.bB v) s) (Q .normal) l s:=propext Iff.rfl
@[go_sem] theorem aaN {l:List bK} {pr:List (List Nat)}:kq P n b rd (.dq l pr) Q s=L3 P l pr Q s (rv l 0):=propext Iff.rfl
@[go_sem] theorem UF {l:List bK} {pr:List (List Nat)}:L3 P l pr Q s none=oN P (L2 pr (s.nx+l.length) Q) (A9 pr l s Q) pr l s.nx s []:=propext Iff.rfl
@[go_sem] theorem Xz {k:Nat}:rv [] k=none:=rfl
@[go_sem] theorem XA {d:Option Nat} {t:Nat} {args:Array Operand} {ts:Array TypeId} {l:List bK} {k:Nat}:rv (⟨d, .call ⟨.value (.tmp t),args,ts⟩,none⟩::l) k=some k:=rfl
@[go_sem] theorem aaO {d:Option Nat} {op:Op} {g:Nat×Bool} {l:List bK} {k:Nat}:rv (⟨d,op,some g⟩::l) k=rv l (k+1):=rfl
@[go_sem] theorem XB {d:Option Nat} {f:Nat} {args:Array Operand} {ts:Array TypeId} {l:List bK} {k:Nat}:rv (⟨d, .call ⟨.value (.func f),args,ts⟩,none⟩::l) k=rv l (k+1):=rfl
@[go_sem] theorem aaP {d:Option Nat} {op:Op} {l:List bK} {k:Nat} (h:eo op=none):rv (⟨d,op,none⟩::l) k=rv l (k+1):=by rw[rv.eq_2];simp only[h]
@[go_sem] theorem aaQ {x y:IC}:kq P n b rd (.seq x y) Q s=kq P n b rd x (pQ (fun s=>kq P n b rd y Q s) Q) s:=propext Iff.rfl
@[go_sem] theorem XC {c:Operand} {x y:IC}:kq P n b rd (.cond c x y) Q s=xf (kq P n b rd x Q s) (kq P n b rd y Q s) (s.ev c):=propext Iff.rfl
@[go_sem] theorem UG {id:Nat} {x:IC}:kq P n b rd (.block id x) Q s=kq P n b rd x (ff id Q) s:=propext Iff.rfl
@[go_sem] theorem XE {x:IC}:kq P n b rd (.loop x) Q s=ER b (fun Q s=>kq P n b rd x Q s) Q s:=propext Iff.rfl
@[go_sem] theorem XF {id:Nat}:kq P n b rd (.exit id) Q s=Q (.exit id) s:=propext Iff.rfl
@[go_sem] theorem aaR:kq P n b rd .ret Q s=Q .ret s:=propext Iff.rfl
@[go_sem] theorem aaS {g:Operand} {ps:List Nat} {x y:IC}:kq P n b rd (.Hq g ps x y) Q s=Bh P n b rd g ps x y Q s (s.ev g):=propext Iff.rfl
@[go_sem] theorem XG {X:V->S->Prop} {K:S->Prop}:rp P X K [] s=K s:=propext Iff.rfl
@[go_sem] theorem UH {X:V->S->Prop} {K:S->Prop} {d:Option Nat} {op:Op} {l:List bK}:rp P X K (⟨d,op,none⟩::l) s=Bf P X (rp P X K l) ⟨d,op,none⟩ s:=propext Iff.rfl
@[go_sem] theorem UI {X:V->S->Prop} {K:S->Prop} {d:Option Nat} {op:Op} {g:Nat} {w:Bool} {l:List bK}:rp P X K (⟨d,op,some (g,w)⟩::l) s=yJ P X (rp P X K l) ⟨d,op,some (g,w)⟩ s (lV (s.env g) w):=propext Iff.rfl
variable {X:V->S->Prop}{K:S->Prop}{d:Option Nat}{op:Op}{g:Option (Nat×Bool)}{f:Operand}{args:Array Operand}{ts:Array TypeId}{c:Bool}
@[reducible] def UJ:Op->Bool
  | .call c=>match c.callee with
    | .value _=>true
    | .invoke .. =>true
    |_=>false
  | .panic _=>true
  | .next .. =>true
  |_=>false
@[go_sem] theorem abG (h:UJ op=false):Bf P X K ⟨d,op,g⟩ s=jR (fun v Δ=>K ⟨aU s.env d v,put s.o Δ,s.nx+1⟩) (fX P s s.nx op):=by
  unfold Bf
  cases op with
  |call c=>
   obtain⟨IE,args,ts⟩:=c
   cases IE with
   |value f=>simp[UJ]at h
   |invoke r m=>simp[UJ]at h
   |_=>rfl
  |panic x=>simp[UJ]at h
  |next x str=>simp[UJ]at h
  |_=>rfl
@[go_sem] theorem XH {x:Operand} {str:Bool}:Bf P X K ⟨d, .next x str,g⟩ s=I9 (fun v Δ=>K ⟨aU s.env d v,put s.o Δ,s.nx+1⟩) str (oe s.o (s.ev x) str) (og s.o (s.ev x)):=propext Iff.rfl
@[go_sem] theorem XI:Bf P X K ⟨d, .call ⟨.value f,args,ts⟩,g⟩ s=su P (fun v o' nx'=>K ⟨aU s.env d v,o',nx'⟩) (fun v o' nx'=>X v ⟨s.env,o',nx'⟩) s (s.ev f) (args.toList.map s.ev):=propext Iff.rfl
@[go_sem] theorem RK {m:String}:Bf P X K ⟨d, .call ⟨.invoke f m,args,ts⟩,g⟩ s=I8 P (fun v o' nx'=>K ⟨aU s.env d v,o',nx'⟩) (fun v o' nx'=>X v ⟨s.env,o',nx'⟩) s (args.toList.map s.ev) (tW P m (s.ev f)):=propext Iff.rfl
@[go_sem] theorem UK:Bf P X K ⟨d, .panic f,g⟩ s=GA (fun v=>X v s) (s.ev f):=propext Iff.rfl
@[go_sem] theorem UL:yJ P X K ⟨d, .call ⟨.value f,args,ts⟩,g⟩ s (some c)=Dk P X K ⟨d, .call ⟨.value f,args,ts⟩,g⟩ s f args.toList c:=propext Iff.rfl
theorem gR{e:Nat->V}{ob:Nat->aa}{nx:Nat}(h:EN P ((⟨e,ob,nx⟩:S).ev f) (args.toList.map (⟨e,ob,nx⟩:S).ev) ob (fun v=>K ⟨aU e d v,ob,nx+1⟩) c):Dk P X K ⟨d,op,g⟩ ⟨e,ob,nx⟩ f args.toList c:= .inl h
theorem Bk{s:S}{o:bK}{l:List Operand}(h:im (Bf P X K o s) (K ⟨aU s.env o.dst (.bN []),s.o,s.nx+1⟩) c):Dk P X K o s f l c:= .inr h
@[go_sem] theorem UM (h:kp op=true):yJ P X K ⟨d,op,g⟩ s (some c)=jR (fun v _=>K ⟨aU s.env d v,s.o,s.nx+1⟩) (ko c (fX P s s.nx op)):=by
  have h2:eo op=none:=by
   cases hc:eo op with
   |none=>rfl
   |some x=>
    exfalso
    unfold eo at hc
    split at hc
    ·split at hc
     ·rename_i hv;simp[kp,hv]at h
     ·cases hc
    ·cases hc
  simp only[yJ,h2,h,if_true]
@[go_sem] theorem UN (h:kp op=false) (h2:eo op=none):yJ P X K ⟨d,op,g⟩ s (some c)=im (Bf P X K ⟨d,op,g⟩ s) (K ⟨aU s.env d (.bN []),s.o,s.nx+1⟩) c:=by
  simp[yJ,h2,h]
@[go_sem] theorem RL {l:List Operand}:Dk P X K ⟨d,op,g⟩ s f l false=K ⟨aU s.env d (.bN []),s.o,s.nx+1⟩:=by
  refine propext ⟨fun h=> ?_,fun h=> .inr ⟨(fun e=>by cases e),fun _=>h⟩⟩
  rcases h with⟨rs,_,h⟩|h
  ·exact h
  ·exact h.2 rfl
@[go_sem] theorem UO {l:List Operand} (hl:args.toList=l):Dk P X K ⟨d, .call ⟨.value f,args,ts⟩,g⟩ s f l true=Bf P X K ⟨d, .call ⟨.value f,args,ts⟩,g⟩ s:=by
  subst hl
  refine propext ⟨fun h=> ?_,fun h=> .inr ⟨fun _=>h,(fun e=>by cases e)⟩⟩
  rcases h with⟨rs,h1,h⟩|h
  ·have h1:=h1 rfl
   unfold Bc at h1
   unfold Bf su mN
   simp only
   split at h1
   ·rename_i fv gg first cap hf
    simp only[hf]
    split at h1
    ·rename_i ds eR
     simp only[eR]
     exact .inl ⟨.ret rs,h1.1, .inr (.inl ⟨h1.2,h⟩)⟩
    ·exact h1.elim
   ·exact h1.elim
  ·exact h.1 rfl
variable {KV:KD}{XV:XD}
@[go_sem] theorem XJ {fr:Nat}:K8 P KV XV fr ⟨d, .call ⟨.value f,args,ts⟩,g⟩ s=Bg P KV XV s.o s.nx fr (nW s (.call ⟨.value f,args,ts⟩)) (s.ev f) (args.toList.map s.ev):=propext Iff.rfl
@[go_sem] theorem abH {fr:Nat} (h2:eo op=none):K8 P KV XV fr ⟨d,op,g⟩ s=uw KV (nW s op) (fX P s fr op):=by simp[K8,h2]
variable {KS:S->Prop}
@[go_sem ↓] theorem L7:pQ KS Q .normal s=KS s:=propext Iff.rfl
@[go_sem ↓] theorem RM {id:Nat}:pQ KS Q (.exit id) s=Q (.exit id) s:=propext Iff.rfl
@[go_sem ↓] theorem UP:pQ KS Q .ret s=Q .ret s:=propext Iff.rfl
@[go_sem ↓] theorem UQ {v:V}:pQ KS Q (.bB v) s=Q (.bB v) s:=propext Iff.rfl
@[go_sem ↓] theorem K9 {id:Nat}:ff id Q .normal s=Q .normal s:=propext Iff.rfl
@[go_sem ↓] theorem O4 {id:Nat}:ff id Q (.exit id) s=Q .normal s:=by simp[ff]
@[go_sem ↓] theorem L8 {id j:Nat} (h:j≠id):ff id Q (.exit j) s=Q (.exit j) s:=by simp[ff,h]
@[go_sem ↓] theorem RN {id:Nat}:ff id Q .ret s=Q .ret s:=propext Iff.rfl
@[go_sem ↓] theorem RP {id:Nat} {v:V}:ff id Q (.bB v) s=Q (.bB v) s:=propext Iff.rfl
def L9(out:R)(x:Option (List D)):Prop:=match x with|some ds=>out= .ret ds|none=>False
@[go_sem] theorem UR {out:R} {ds:List D}:L9 out (some ds)=(out= .ret ds):=propext Iff.rfl
def RQ(out:R)(x:Option D):Prop:=match x with|some d=>out= .bB d|none=>False
@[go_sem] theorem US {out:R} {d:D}:RQ out (some d)=(out= .bB d):=propext Iff.rfl
def Ma(out:R)(o:Nat->aa)(x:Option (List V)):Prop:=match x with|some vs=>L9 out (bR o vs)|none=>False
@[go_sem] theorem UT {out:R} {o:Nat->aa} {vs:List V}:Ma out o (some vs)=L9 out (bR o vs):=propext Iff.rfl
variable {rs:List ResultVar}{out:R}
@[go_sem ↓] theorem UU:yl P rs out .ret s=Ma out s.o (lA P s rs):=propext Iff.rfl
@[go_sem ↓] theorem Mb:yl P rs out .normal s=Ma out s.o (lA P s rs):=propext Iff.rfl
@[go_sem ↓] theorem UW {v:V}:yl P rs out (.bB v) s=RQ out (dL s.o v):=propext Iff.rfl
def Bl(K:V->(Nat->aa)->Nat->Prop)(o:Nat->aa)(nx:Nat)(x:Fix (Option (List V)) (K,o,nx)):Prop:=match x with
 |some [v]=>K v o nx
 |some vs=>K (.bN vs) o nx
 |none=>False
@[go_sem] theorem XK {K:V->(Nat->aa)->Nat->Prop} {o:Nat->aa} {nx:Nat} {v:V}:Bl K o nx (some [v])=K v o nx:=propext Iff.rfl
@[go_sem] theorem XL {K:V->(Nat->aa)->Nat->Prop} {o:Nat->aa} {nx:Nat}:Bl K o nx (some [])=K (.bN []) o nx:=propext Iff.rfl
@[go_sem] theorem XM {K:V->(Nat->aa)->Nat->Prop} {o:Nat->aa} {nx:Nat} {v u:V} {l:List V}:Bl K o nx (some (v::u::l))=K (.bN (v::u::l)) o nx:=propext Iff.rfl
theorem ET{K X:V->(Nat->aa)->Nat->Prop}:lC P rs K X .ret s=Bl K s.o s.nx (lA P s rs):=by
 unfold lC Bl
 cases lA P s rs with
 |none=>rfl
 |some l=>match l with
  |[]=>rfl
  |[_]=>rfl
  |_::_::_=>rfl
@[go_sem ↓] theorem XN {K X:V->(Nat->aa)->Nat->Prop}:rA P rs K X .ret s=Bl K s.o s.nx (lA P s rs):=ET
@[go_sem ↓] theorem O5 {K X:V->(Nat->aa)->Nat->Prop}:rA P rs K X .normal s=Bl K s.o s.nx (lA P s rs):=(ET (X:=X):lC P rs K X .ret s=_)
@[go_sem ↓] theorem XO {K X:V->(Nat->aa)->Nat->Prop} {v:V}:rA P rs K X (.bB v) s=X v s.o s.nx:=propext Iff.rfl
variable {KE:S->Fp->Prop}{KP:V->List Nat->Fp->Prop}{pr:List (List Nat)}{fr:Nat}{fp:Fp}
@[go_sem] theorem XP:oN P KE KP pr [] fr s fp=KE s fp:=propext Iff.rfl
@[go_sem] theorem UX {d:Option Nat} {op:Op} {l:List bK}:oN P KE KP pr (⟨d,op,none⟩::l) fr s fp=
 K8 P (fun v Δ rd=>oN P KE KP pr l (fr+1) ⟨aU s.env d v,put s.o Δ,s.nx⟩ (fp++[(rd,Δ.map (·.1))]))
  (fun v ws rd=>GC P (KP v) pr l (fr+1) (fp++[(rd,[])]) [fp.length] (ws++fp.flatMap (·.2)) ⟨aU s.env d .ab,s.o,s.nx⟩) fr ⟨d,op,none⟩ s:=propext Iff.rfl
@[go_sem] theorem UY {d:Option Nat} {op:Op} {g:Nat} {w:Bool} {l:List bK}:oN P KE KP pr (⟨d,op,some (g,w)⟩::l) fr s fp=
 jo w (K8 P (fun v Δ rd=>oN P KE KP pr l (fr+1) ⟨aU s.env d v,put s.o Δ,s.nx⟩ (fp++[(rd,Δ.map (·.1))]))
  (fun v ws rd=>GC P (KP v) pr l (fr+1) (fp++[(rd,[])]) [fp.length] (ws++fp.flatMap (·.2)) ⟨aU s.env d .ab,s.o,s.nx⟩) fr ⟨d,op,some (g,w)⟩ s)
   (oN P KE KP pr l (fr+1) ⟨aU s.env d (.bN []),s.o,s.nx⟩ (fp++[([],[])])) (s.env g):=propext Iff.rfl
end
attribute [go_sem] UJ eo kp fX one lF aU S.ev Bc
theorem aq{ι:Type}{b:Nat}{st:ι->S}{cq:ι->Prop}{oO:ι->Nat}{i:ι}{s:S}(j:ι)(h1:cq j)(h2:oO j<oO i)(h3:bM b s (st j)):EP b st cq oO i s:=⟨j,h1,h2,h3⟩
attribute [irreducible] L3 OY kq rp Bf yJ Dk su mN Be I7 I8 EN uv Bd jR GA im jo Ja mO rq rr Bg uw K8 oN GC Bh xe rA Bl L2 xf ER L9 RQ Ma ux EP
end
section
section
variable (ρ:Nat->Option Nat)(o' o:Nat->aa)(nx:Nat)
end
section
variable {M M':Nat->Prop}{φ aC:Place}{H H':Hp}{w:World}{ρ:Nat->Option Nat}{nx:Nat}
end
end
end Go.Proofs.YtlhemmpklhhgoaaGreat
