/-
  A PART OF THE PROOF. Conditions: none.
-/
import Derived.Test.YtlhemmpklhhgoaaGreatQc8
set_option linter.unusedSimpArgs false
set_option linter.unusedVariables false
namespace Go.Proofs.YtlhemmpklhhgoaaGreat
section
def pO(P:Program)(g:FuncId)(ds:List D)(Kf Kb KX:V->Prop):Prop:=
 (∃rs,aY P g ds (.ret rs)/\(Kf (gY rs)\/(D.gX rs=true/\Kb (gY rs))))\/(∃x,aY P g ds (.bf x)/\x.flat=true/\KX (.d x))\/(∃v,Sr P g ds v/\Kf v)
def gf(P:Program)(g:FuncId)(args:List V)(o:Nat->aa)(nx fr:Nat)(K:V->List (Nat×aa)->List Nat->Prop)(KX:V->List Nat->List Nat->Prop):Prop:=
 ∃rd Δ,rd.all (fun id=>decide (id<nx))=true/\((∃rs,E5 P g args rd o (.ret rs) Δ/\K (gY rs) Δ rd)\/(∃x,E5 P g args rd o (.bf x) Δ/\KX (.d x) (Δ.map (·.1)) rd)\/(∃v,zS P g args rd o fr v Δ/\K v Δ rd))
def wG(P:Program)(s:S)(fr:Nat)(o:bw)(K:V->List (Nat×aa)->List Nat->Prop)(KX:V->List Nat->List Nat->Prop):Prop:=
 match o.op with
 | .call c=>match c.callee with
   | .value f=>match s.ev f with
     | .func (.func g) first cap=>match bD s.o (first++c.args.toList.map s.ev++cap)with
       |some ds=>pO P g ds (fun v=>K v (cq s.o (V.aV (first++c.args.toList.map s.ev++cap))) (lQ s o.op)) (fun v=>K v [] (lQ s o.op)) (fun v=>KX v [] (lQ s o.op))\/gf P g (first++c.args.toList.map s.ev++cap) s.o s.nx fr K KX
       |none=>gf P g (first++c.args.toList.map s.ev++cap) s.o s.nx fr K KX
     |_=>False
   |_=>match eK P s fr o.op with
    |some (v,Δ,_)=>K v Δ (lQ s o.op)
    |none=>False
 |op=>match eK P s fr op with
  |some (v,Δ,_)=>K v Δ (lQ s o.op)
  |none=>False
abbrev Fp:=List (List Nat×List Nat)
def fq(P:Program)(KB:List Nat->Fp->Prop)(pr:List (List Nat)):List bw->Nat->S->Fp->List Nat->List Nat->Prop
 |[],_,_,fp,_,ws=>KB ws fp
 |o::l,fr,s,fp,bad,ws=>if(pr.getD fp.length []).any (fun j=>bad.contains j)=true then fq P KB pr l (fr+1) ⟨aQ s.env o.dst .ab,s.o,s.nx⟩ (fp++[([],[])]) (bad++[fp.length]) ws
  else match o.gd with
  |none=>wG P s fr o (fun v Δ rd=>fq P KB pr l (fr+1) ⟨aQ s.env o.dst v,put s.o Δ,s.nx⟩ (fp++[(rd,Δ.map (·.1))]) bad (ws++Δ.map (·.1))) (fun _ _ _=>False)
  |some (d,want)=>match s.env d with
   | .d (.bool b)=>if b=want then wG P s fr o (fun v Δ rd=>fq P KB pr l (fr+1) ⟨aQ s.env o.dst v,put s.o Δ,s.nx⟩ (fp++[(rd,Δ.map (·.1))]) bad (ws++Δ.map (·.1))) (fun _ _ _=>False)
    else fq P KB pr l (fr+1) ⟨aQ s.env o.dst (.bC []),s.o,s.nx⟩ (fp++[([],[])]) bad ws
   | .bC []=>fq P KB pr l (fr+1) ⟨aQ s.env o.dst (.bC []),s.o,s.nx⟩ (fp++[([],[])]) bad ws
   |_=>False
def iW(P:Program)(K:S->Fp->Prop)(KP:V->List Nat->Fp->Prop)(pr:List (List Nat)):List bw->Nat->S->Fp->Prop
 |[],_,s,fp=>K s fp
 |o::l,fr,s,fp=>match o.gd with
  |none=>wG P s fr o (fun v Δ rd=>iW P K KP pr l (fr+1) ⟨aQ s.env o.dst v,put s.o Δ,s.nx⟩ (fp++[(rd,Δ.map (·.1))]))
   (fun v ws rd=>fq P (KP v) pr l (fr+1) ⟨aQ s.env o.dst .ab,s.o,s.nx⟩ (fp++[(rd,[])]) [fp.length] (ws++fp.flatMap (·.2)))
  |some (d,want)=>match s.env d with
   | .d (.bool b)=>if b=want then wG P s fr o (fun v Δ rd=>iW P K KP pr l (fr+1) ⟨aQ s.env o.dst v,put s.o Δ,s.nx⟩ (fp++[(rd,Δ.map (·.1))]))
         (fun v ws rd=>fq P (KP v) pr l (fr+1) ⟨aQ s.env o.dst .ab,s.o,s.nx⟩ (fp++[(rd,[])]) [fp.length] (ws++fp.flatMap (·.2)))
    else iW P K KP pr l (fr+1) ⟨aQ s.env o.dst (.bC []),s.o,s.nx⟩ (fp++[([],[])])
   | .bC []=>iW P K KP pr l (fr+1) ⟨aQ s.env o.dst (.bC []),s.o,s.nx⟩ (fp++[([],[])])
   |_=>False
def zZ(pr:List (List Nat))(nx:Nat)(Q:eM->S->Prop)(s:S)(fp:Fp):Prop:=fY pr fp=true/\Q .normal ⟨s.env,s.o,nx⟩
def dstsOf(l:List bw):List Nat:=l.filterMap (·.dst)
def xR(pr:List (List Nat))(l:List bw)(s0:S)(Q:eM->S->Prop)(v:V)(wl:List Nat)(fp:Fp):Prop:=fY pr fp=true/\Q (.bf v) (rr (dstsOf l) wl l.length s0)
def kL:List bw->List dQ->S->Nat->S
 |_,_,s,0=>s
 |o::l,x::xs,s,j+1=>kL l xs (sJ o.dst x s) j
 |_,_,s,_=>s
def tY(bF:List dQ):Fp:=bF.map fun x=>(s7 x,iU x)
section
variable {P:Program}{n b:Nat}
theorem xS{s:S}{fr:Nat}{o:bw}{K:V->List (Nat×aa)->List Nat->Prop}{KX:V->List Nat->List Nat->Prop}(h:wG P s fr o K KX):(∃v Δ rd,tU P s fr o.op v Δ rd/\K v Δ rd)\/(∃v ws rd,xK P s o.op v ws rd/\KX v ws rd):=by
 have hs:∀ {op:Op},o.op=op->(match eK P s fr op with|some (v,Δ,_)=>K v Δ (lQ s o.op)|none=>False)->(∃v Δ rd,tU P s fr o.op v Δ rd/\K v Δ rd):=by
  intro op e8 h
  split at h
  ·rename_i v Δ rd he;exact⟨v,Δ,_, .inl ⟨⟨rd,by rw[e8];exact he⟩,rfl⟩,h⟩
  ·exact h.elim
 unfold wG at h
 split at h
 ·rename_i c hc
  split at h
  ·rename_i f dL
   split at h
   ·rename_i g first cap hf
    split at h
    ·rename_i ds dM
     rcases h with(⟨rs,hP,h|⟨mP,h⟩⟩|⟨x,hP,mP,h⟩|⟨v,hP,h⟩)|⟨rd,Δ,me,⟨rs,hH,h⟩|⟨x,hH,h⟩|⟨v,hH,h⟩⟩
     ·exact .inl ⟨_,_,_, .inr ⟨c,f,g,first,cap,hc,dL,hf, .inl ⟨ds,rs,dM,hP,rfl,rfl, .inl rfl⟩⟩,h⟩
     ·exact .inl ⟨_,_,_, .inr ⟨c,f,g,first,cap,hc,dL,hf, .inl ⟨ds,rs,dM,hP,rfl,rfl, .inr ⟨mP,rfl⟩⟩⟩,h⟩
     ·exact .inr ⟨_,_,_,⟨c,f,g,first,cap,hc,dL,hf, .inl ⟨ds,x,dM,hP,mP,rfl,rfl,rfl⟩⟩,h⟩
     ·exact .inl ⟨_,_,_, .inr ⟨c,f,g,first,cap,hc,dL,hf, .inr (.inr (.inl ⟨ds,dM,hP,rfl,rfl⟩))⟩,h⟩
     ·exact QG
     ·exact QJ
     ·exact QH
    ·obtain⟨rd,Δ,me,⟨rs,hH,h⟩|⟨x,hH,h⟩|⟨v,hH,h⟩⟩:=h
     ·exact QG
     ·exact QJ
     ·exact QH
   ·exact h.elim
  ·rw[hc]at h;exact .inl (hs hc (by rw[hc];exact h))
 ·exact .inl (hs rfl h)
def HJ(P:Program)(KB:List Nat->Fp->Prop)(pr:List (List Nat))(l:List bw)(fr:Nat)(s:S)(fp:Fp)(bad ws:List Nat):Prop:=
    ∃bF:List dQ,bF.length=l.length/\(∀j o x,l[j]? =some o->bF[j]? =some x->JY P (kL l bF s j) (fr+j) o x)/\
     (∀ (j:Nat),bF[j]? =some dQ.dK->∃i∈pr.getD (fp.length+j) [],i∈bad\/∃j',j'<j/\i=fp.length+j'/\bF[j']? =some .dK)/\(∀x∈bF,x= .dK\/x.ok=true)/\
     ∃wl,KB wl (fp++tY bF)/\(∀id∈ws,id∈wl)/\∀x∈bF,∀id∈iU x,id∈wl
theorem xT{KB:List Nat->Fp->Prop}{pr:List (List Nat)}:∀ (l:List bw) (fr:Nat) (s:S) (fp:Fp) (bad ws:List Nat),fq P KB pr l fr s fp bad ws->HJ P KB pr l fr s fp bad ws
 |[],fr,s,fp,bad,ws,h=>⟨[],rfl,fun j o x hj=>by simp at hj,fun j hj=>by simp at hj,fun x hx=>by simp at hx,ws,by simpa[tY,fq]using h,fun _ h=>h,fun x hx=>by simp at hx⟩
 |o::l,fr,s,fp,bad,ws,h=>by
  have step:∀ (x:dQ) (HK J1:List Nat),JY P s fr o x->fq P KB pr l (fr+1) (sJ o.dst x s) (fp++[(s7 x,iU x)]) HK J1->(x= .dK\/x.ok=true)->(x= .dK->∃i∈pr.getD fp.length [],i∈bad)->
   (∀i∈HK,i∈bad\/(i=fp.length/\x= .dK))->(∀id∈ws,id∈J1)->(∀id∈iU x,id∈J1)->
   HJ P KB pr (o::l) fr s fp bad ws:=by
   intro x HK J1 aP hr Mo Mk Mn HI hW
   obtain⟨bF,h1,h2,h3,h4,wl,h5,h6,h7⟩:=xT l (fr+1) _ _ HK J1 hr
   refine⟨x::bF,by simp[h1],fun j o' y hj hy=> ?_,fun j hj=> ?_,fun y hy=> ?_,wl,by simpa[tY]using h5,fun id aq=>h6 id (HI id aq),fun y hy id aq=> ?_⟩
   ·cases j with
    |zero=>exact LM
    |succ j=>
     have:=h2 j o' y ki (by simpa using hy)
     exact L3
   ·cases j with
    |zero=>
     simp at hj
     obtain⟨i,i1,i2⟩:=Mk hj
     exact⟨i,by simpa using i1, .inl i2⟩
    |succ j=>
     obtain⟨i,i1,i2⟩:=h3 j ki
     simp only[List.length_append,List.length_cons,List.length_nil]at i1 i2
     refine⟨i,by rw[show fp.length+(j+1)=fp.length+(0+1)+j by omega];exact i1, ?_⟩
     rcases i2 with i2|⟨j',j1,j2,j3⟩
     ·rcases Mn i i2 with hb|⟨e1,e2⟩
      ·exact .inl hb
      ·exact .inr ⟨0,af,af,by simp[e2]⟩
     ·exact .inr ⟨j'+1,af,af,by simpa using j3⟩
   ·rcases List.mem_cons.1 hy with rfl|hy
    ·exact Mo
    ·exact h4 y hy
   ·rcases List.mem_cons.1 hy with rfl|hy
    ·exact h6 id (hW id aq)
    ·exact h7 y hy id aq
  simp only[fq]at h
  split at h
  ·rename_i hb
   obtain⟨j,hj1,Wg⟩:=List.any_eq_true.1 hb
   exact step .dK _ _ trivial h (.inl rfl) (fun _=>⟨j,hj1,by simpa using Wg⟩) (fun i hi=>by
    rcases List.mem_append.1 hi with hi|hi
    ·exact .inl hi
    ·exact .inr ⟨by simpa using hi,rfl⟩) (fun _ h=>h) (fun id aq=>by simp[iU]at aq)
  ·have ry:c9 s o.gd true->wG P s fr o (fun v Δ rd=>fq P KB pr l (fr+1) ⟨aQ s.env o.dst v,put s.o Δ,s.nx⟩ (fp++[(rd,Δ.map (·.1))]) bad (ws++Δ.map (·.1))) (fun _ _ _=>False)->HJ P KB pr (o::l) fr s fp bad ws:=fun hg h=>by
    rcases xS h with⟨v,Δ,rd,j5,h⟩|⟨v,J1,rd,_,h⟩
    ·exact step (.val v Δ rd) bad (ws++Δ.map (·.1)) ⟨hg,j5⟩ h (.inr rfl) (fun h=>by cases h) (fun i hi=> .inl hi) (fun id aq=>List.mem_append.2 (.inl aq)) (fun id aq=>List.mem_append.2 (.inr aq))
    ·exact h.elim
   have skip:c9 s o.gd false->fq P KB pr l (fr+1) ⟨aQ s.env o.dst (.bC []),s.o,s.nx⟩ (fp++[([],[])]) bad ws->HJ P KB pr (o::l) fr s fp bad ws:=fun hg h=>
    step .skip bad ws hg h (.inr rfl) (fun h=>by cases h) (fun i hi=> .inl hi) (fun id aq=>aq) (fun id aq=>by simp[iU]at aq)
   split at h
   ·rename_i hg;exact ry (by rw[hg];rfl) h
   ·rename_i d want hg
    split at h
    ·rename_i c hv
     split at h
     ·rename_i e;exact ry Hf h
     ·rename_i e;exact skip Hf h
    ·rename_i hv;exact skip (by rw[hg];simp[c9,hv]) h
    ·exact h.elim
def Fb(P:Program)(K:S->Fp->Prop)(KP:V->List Nat->Fp->Prop)(pr:List (List Nat))(l:List bw)(fr:Nat)(s:S)(fp:Fp):Prop:=
 ∃bF:List dQ,bF.length=l.length/\(∀j o x,l[j]? =some o->bF[j]? =some x->JY P (kL l bF s j) (fr+j) o x)/\
  (((∀x∈bF,x.ok=true)/\K (kL l bF s l.length) (fp++tY bF))\/
   ∃v wl,(∀ (j:Nat) (v':V) (ws rd:List Nat),bF[j]? =some (dQ.bf v' ws rd)->v'=v/\∀id∈ws,id∈wl)/\(∃x∈bF,x.ok=false)/\
    (∀ (j:Nat),bF[j]? =some dQ.dK->∃i∈pr.getD (fp.length+j) [],∃j',i=fp.length+j'/\∃y,bF[j']? =some y/\y.ok=false)/\KP v wl (fp++tY bF)/\(∀x∈bF,∀id∈iU x,id∈wl)/\∀id∈fp.flatMap (·.2),id∈wl)
theorem rz{K:S->Fp->Prop}{KP:V->List Nat->Fp->Prop}{pr:List (List Nat)}:∀ (l:List bw) (fr:Nat) (s:S) (fp:Fp),iW P K KP pr l fr s fp->Fb P K KP pr l fr s fp
 |[],fr,s,fp,h=>⟨[],rfl,fun j o x hj=>by simp at hj, .inl ⟨fun x hx=>by simp at hx,by simpa[kL,tY,iW]using h⟩⟩
 |o::l,fr,s,fp,h=>by
  have step:∀ (x:dQ),x.ok=true->JY P s fr o x->iW P K KP pr l (fr+1) (sJ o.dst x s) (fp++[(s7 x,iU x)])->Fb P K KP pr (o::l) fr s fp:=by
   intro x Sx aP hr
   obtain⟨bF,h1,h2,h3⟩:=rz l (fr+1) _ _ hr
   refine⟨x::bF,by simp[h1],fun j o' y hj hy=> ?_, ?_⟩
   ·cases j with
    |zero=>exact LM
    |succ j=>
     have:=h2 j o' y ki (by simpa using hy)
     exact L3
   ·rcases h3 with⟨h3,h4⟩|⟨v,wl,g1,g2,g3,g4,g5,g6⟩
    ·left
     refine⟨fun y hy=> ?_,by simpa[kL,tY]using h4⟩
     rcases List.mem_cons.1 hy with rfl|hy
     ·exact Sx
     ·exact h3 y hy
    ·right
     refine⟨v,wl,fun j v' ws rd hj=> ?_, ?_,fun j hj=> ?_,by simpa[tY]using g4,fun y hy id aq=> ?_,fun id aq=>g6 id (by simp only[List.flatMap_append,List.mem_append];exact .inl aq)⟩
     ·cases j with
      |zero=>simp at hj;rw[hj]at Sx;cases Sx
      |succ j=>exact g1 j v' ws rd ki
     ·obtain⟨y,y1,y2⟩:=g2;exact⟨y,by simp[y1],y2⟩
     ·cases j with
      |zero=>simp at hj;rw[hj]at Sx;cases Sx
      |succ j=>
       obtain⟨i,i1,j',i2,y,i3,i4⟩:=g3 j ki
       simp only[List.length_append,List.length_cons,List.length_nil]at i1 i2
       exact⟨i,by rw[show fp.length+(j+1)=fp.length+(0+1)+j by omega];exact i1,j'+1,af,y,by simpa using i3,i4⟩
     ·rcases List.mem_cons.1 hy with rfl|hy
      ·exact g6 id (by simp only[List.flatMap_append,List.mem_append];exact .inr (by simpa using aq))
      ·exact g5 y hy id aq
  have bf:∀ (v:V) (ws rd:List Nat),JY P s fr o (.bf v ws rd)->fq P (KP v) pr l (fr+1) ⟨aQ s.env o.dst .ab,s.o,s.nx⟩ (fp++[(rd,[])]) [fp.length] (ws++fp.flatMap (·.2))->Fb P K KP pr (o::l) fr s fp:=by
   intro v ws rd aP hr
   obtain⟨bF,h1,h2,h3,h4,wl,h5,h6,h7⟩:=xT l (fr+1) _ _ _ _ hr
   refine⟨dQ.bf v ws rd::bF,by simp[h1],fun j o' y hj hy=> ?_, .inr ⟨v,wl,fun j v' J1 uL hj=> ?_,⟨dQ.bf v ws rd,aK,rfl⟩,fun j hj=> ?_,by simpa[tY,s7,iU]using h5,fun y hy id aq=> ?_,fun id aq=>h6 id (List.mem_append.2 (.inr aq))⟩⟩
   ·cases j with
    |zero=>exact LM
    |succ j=>
     have:=h2 j o' y ki (by simpa using hy)
     exact L3
   ·cases j with
    |zero=>simp at hj;obtain⟨rfl,rfl,rfl⟩:=hj;exact⟨rfl,fun id aq=>h6 id (List.mem_append.2 (.inl aq))⟩
    |succ j=>
     have hm:=List.mem_of_getElem? (show bF[j]? =some (.bf v' J1 uL) by simpa using hj)
     rcases h4 _ hm with h|h<;>cases h
   ·cases j with
    |zero=>simp at hj
    |succ j=>
     obtain⟨i,i1,i2⟩:=h3 j ki
     simp only[List.length_append,List.length_cons,List.length_nil]at i1 i2
     refine⟨i,by rw[show fp.length+(j+1)=fp.length+(0+1)+j by omega];exact i1, ?_⟩
     rcases i2 with i2|⟨j',j1,j2,j3⟩
     ·exact⟨0,by simpa using i2,_,rfl,rfl⟩
     ·exact⟨j'+1,af, .dK,by simpa using j3,rfl⟩
   ·rcases List.mem_cons.1 hy with rfl|hy
    ·simp[iU]at aq
    ·exact h7 y hy id aq
  have ry:c9 s o.gd true->wG P s fr o (fun v Δ rd=>iW P K KP pr l (fr+1) ⟨aQ s.env o.dst v,put s.o Δ,s.nx⟩ (fp++[(rd,Δ.map (·.1))]))
   (fun v ws rd=>fq P (KP v) pr l (fr+1) ⟨aQ s.env o.dst .ab,s.o,s.nx⟩ (fp++[(rd,[])]) [fp.length] (ws++fp.flatMap (·.2)))->Fb P K KP pr (o::l) fr s fp:=fun hg h=>by
   rcases xS h with⟨v,Δ,rd,j5,h⟩|⟨v,ws,rd,j5,h⟩
   ·exact step (.val v Δ rd) rfl ⟨hg,j5⟩ h
   ·exact bf v ws rd ⟨hg,j5⟩ h
  have skip:c9 s o.gd false->iW P K KP pr l (fr+1) ⟨aQ s.env o.dst (.bC []),s.o,s.nx⟩ (fp++[([],[])])->Fb P K KP pr (o::l) fr s fp:=fun hg h=>step .skip rfl hg h
  simp only[iW]at h
  split at h
  ·rename_i hg;exact ry (by rw[hg];rfl) h
  ·rename_i d want hg
   split at h
   ·rename_i c hv
    split at h
    ·rename_i e;exact ry Hf h
    ·rename_i e;exact skip Hf h
   ·rename_i hv;exact skip (by rw[hg];simp[c9,hv]) h
   ·exact h.elim
end
end
section
def nH(env:Nat->V):List Nat->List V->Nat->V
 |t::ps,v::vs=>nH (aM env t v) ps vs
 |_,_=>env
def z7(pr:List (List Nat))(m:Nat):Bool:=(List.range pr.length).all fun k=>Nat.blt k m||Nat.beq ((dA pr []).getD k 0) (2^k - 1)
def Fc(P:Program)(l:List bw)(pr:List (List Nat))(Q:eM->S->Prop)(s:S):Prop:=
 ∃m,m<=l.length/\z7 pr m=true/\iW P (fun s' fp=>fY pr fp=true/\mA P (fun v s=>Q (.bf v) s) (Q .normal) (l.drop m) ⟨s'.env,s'.o,s.nx+m⟩) (fun _ _ _=>False) pr (l.take m) s.nx s []
def qu(P:Program)(n b:Nat)(rd:Bool):IC->(eM->S->Prop)->S->Prop
 | .skip,Q,s=>Q .normal s
 | .ad l,Q,s=>mA P (fun v s=>Q (.bf v) s) (Q .normal) l s
 | .c0 l pr,Q,s=>iW P (zZ pr (s.nx+l.length) Q) (xR pr l s Q) pr l s.nx s []\/Fc P l pr Q s
 | .seq x y,Q,s=>qu P n b rd x (nu (qu P n b rd y Q) Q) s
 | .cond c x y,Q,s=>match s.ev c with
   | .d (.bool t)=>nG t (qu P n b rd x Q s) (qu P n b rd y Q s)
   | .ek=>qu P n b rd x Q s/\qu P n b rd y Q s
   |_=>False
 | .block id x,Q,s=>qu P n b rd x (dW id Q) s
 | .loop x,Q,s=>E4 b (qu P n b rd x) Q s
 | .exit id,Q,s=>Q (.exit id) s
 | .ret,Q,s=>Q .ret s
 | .DL g ps x y,Q,s=>rd=false/\Sk P n b g ps x y Q s
 | .bad,_,_=>False
section
variable {P:Program}{n b:Nat}{rd:Bool}
theorem rA:∀ (l:List bw) (bF:List dQ) (s:S) (k:Nat) (o:bw) (x:dQ),l[k]? =some o->bF[k]? =some x->kL l bF s (k+1)=sJ o.dst x (kL l bF s k)
 |[],_,_,_,_,_,h,_=>by simp at h
 |o::l,[],_,_,_,_,_,h=>by simp at h
 |o::l,x::xs,s,0,o',x',h,h'=>by simp at h h';subst h;subst h';cases l<;>cases xs<;>rfl
 |o::l,x::xs,s,k+1,o',x',h,h'=>by
  simp only[kL]
  exact rA l xs _ k o' x' (by simpa using h) (by simpa using h')
theorem tZ(l:List bw)(bF:List dQ)(s:S)(hl:bF.length=l.length):∀k,k<=l.length->dB (bz l) (fun i=>bF.getD i default) (fun _=>true) s k=kL l bF s k:=by
 intro k
 induction k with
 |zero=>intro _;cases l<;>cases bF<;>rfl
 |succ k ih=>
  intro hk
  have h1:l[k]? =some (bz l k):=by simp[bz,List.getD_eq_getElem?_getD,List.getElem?_eq_getElem (by omega:k<l.length)]
  have h2:bF[k]? =some (bF.getD k default):=by simp[List.getD_eq_getElem?_getD,List.getElem?_eq_getElem (by omega:k<bF.length)]
  simp only[dB,if_true,ih (by omega)]
  rw[rA l bF s k _ _ h1 h2]
theorem kM{ops:Array Oper}:∀ (l:List Oper) (l':List bw),je n ops l=some l'->l'.length=l.length
 |[],_,h=>by simp[je]at h;subst h;rfl
 |o::l,l',h=>by
  simp only[je]at h
  split at h
  ·rename_i hx;injection h with h;subst h;simp[kM l _ hx]
  ·cases h
theorem C2(aU:P.follows .mixedOrders=true){id:Nat}{ops:Array Oper}{l:List bw}{Q Q':eM->S->Prop}{s:S}(hQ:∀e s,Q e s->Q' e s)(oS:je n ops ops.toList=some l)(ht:uN l (eO ops)=true)
 (hp:L6 (eO ops)=true) (h:iW P (zZ (eO ops) (s.nx+l.length) Q) (xR (eO ops) l s Q) (eO ops) l s.nx s []):gu P n b rd (.region id ops true) Q' s:=by
 intro M bV H0 w0 cx φ a w ro k hs
 obtain⟨bF,hl,aP,iX⟩:=rz l _ _ _ h
 have hlen:l.length=ops.size:=by rw[kM _ _ oS];simp
 have pD:∀k,k<ops.size->(eO ops).getD k []=aZ ops k:=by
  intro k hk;simp[eO,List.getD_eq_getElem?_getD,List.getElem?_map,List.getElem?_range hk]
 have uW:(eO ops).length=ops.size:=by simp[eO]
 have j5:=tZ l bF s hl
 have DG:∀k,k<ops.size->l[k]? =some (bz l k):=fun k hk=>by simp[bz,List.getD_eq_getElem?_getD,List.getElem?_eq_getElem (by omega:k<l.length)]
 have sH:∀k,k<ops.size->bF[k]? =some (bF.getD k default):=fun k hk=>by simp[List.getD_eq_getElem?_getD,List.getElem?_eq_getElem (by omega:k<bF.length)]
 have lL:∀k,k<ops.size->bF.getD k default∈bF:=fun k hk=>List.mem_of_getElem? (sH k hk)
 have Hs:∀k,k<ops.size->(tY bF)[k]? =some (s7 (bF.getD k default),iU (bF.getD k default)):=fun k hk=>by
  simp only[tY,List.getElem?_map,sH k hk,Option.map_some]
 have Mp:(tY bF).length=ops.size:=by simp[tY,hl,hlen]
 simp only[List.nil_append,List.length_nil,Nat.zero_add]at iX
 have uU:fY (eO ops) (tY bF)=true:=by
  rcases iX with⟨_,h⟩|⟨v,wl,_,_,_,h,_⟩
  ·exact h.1
  ·exact h.1
 have C3:∀k,k<ops.size->∀j∈aZ ops k,j<k:=fun k hk j hj=>by
  have:=List.all_eq_true.1 hp k (by simpa[uW]using hk)
  rw[pD k hk]at this
  simpa using List.all_eq_true.1 this j hj
 have Fe:∀k,k<(eO ops).length->∀j∈(eO ops).getD k [],j<k:=fun k hk j hj=>by
  rw[uW]at hk;rw[pD k hk]at hj;exact C3 k hk j hj
 let po:Nat->Nat->Prop:=fun k j=>((dA (eO ops) []).getD k 0).testBit j=true
 have Bw:∀E:Nat->Bool,(∀k,k<ops.size->E k=true->∀j∈aZ ops k,E j=true)->∀k,k<ops.size->(∀j∈aZ ops k,E j=true)->∀j,po k j->E j=true:=fun E hE k hk hj j hb=>
  mV Fe (fun k hk gr j hj=>by rw[uW]at hk;rw[pD k hk]at hj;exact hE k hk gr j hj) k (by rw[uW];exact hk) (by rw[pD k hk];exact hj) j hb
 have xP:∀k,k<ops.size->∀j,po k j->j<k:=fun k hk j hb=>wR Fe k (by rw[uW];exact hk) j hb
 have vE:∀i j,i<j->j<ops.size-> ¬po j i->Compat (bz l) (fun i=>bF.getD i default) (fun i=>s7 (bF.getD i default)) i j:=by
  intro i j Sy hj hn
  have G9:=List.all_eq_true.1 (List.all_eq_true.1 ht j (by simpa[hlen]using hj)) i (by simpa using Sy)
  have th:=List.all_eq_true.1 (List.all_eq_true.1 uU j (by simpa[Mp]using hj)) i (by simpa using Sy)
  have X2:((dA (eO ops) []).getD j 0).testBit i=false:=by simpa[po]using hn
  rw[X2,Bool.false_or]at G9 th
  simp only[Bool.and_eq_true]at G9 th
  have gi:=Hs i af
  have gj:=Hs j hj
  simp only[List.getD_eq_getElem?_getD (l:=tY bF),gi,gj,Option.getD_some]at th
  have dj:∀ {xs ys:List Nat},kn xs ys=true->∀x∈xs,x∉ys:=fun h x hx=>by simpa using List.all_eq_true.1 h x hx
  have fo:∀ {x y:bw},ox x y=true->∀d,x.dst=some d->d∉dN y:=fun h d hd=>by simpa[ox,hd]using h
  exact QL
 have J2:∀i,i<ops.size->JY P (dB (bz l) (fun i=>bF.getD i default) (fun _=>true) s i) (s.nx+i) (bz l i) (bF.getD i default):=fun i hi=>by
  rw[j5 i (by omega)];exact aP i _ _ (DG i hi) (sH i hi)
 have cf:∀i,i<ops.size->∀t,(bz l i).dst=some t->(dstsOf l).contains t=true:=fun i hi t ht=>by
  simp only[List.contains_iff_mem,dstsOf,List.mem_filterMap]
  exact⟨bz l i,List.mem_of_getElem? (DG i hi),ht⟩
 rcases iX with⟨aR,iX⟩|⟨v,wl,q1,q2,q3,q4,q5,q6⟩
 ·refine xO (ac:=fun i=>bF.getD i default) (dl:=dstsOf l) (wl:=(bF.flatMap iU)) aU oS C3 hs J2 (fun i hi hb=> ?_) Bw xP vE cf (fun i hi id aq=> ?_) (fun i v ws uL hi hb=> ?_) (fun _ φ a w iw=> ?_) (fun i v ws uL hi hb=> ?_)
  ·have:=aR _ (lL i hi);rw[hb]at this;cases this
  ·simp only[List.contains_iff_mem,List.mem_flatMap];exact⟨_,lL i hi,aq⟩
  ·have:=aR _ (lL i hi);rw[hb]at this;cases this
  ·rw[j5 ops.size (by omega), <- hlen]at iw
   exact⟨.normal,_,φ,hQ _ _ iX.2,iw,trivial⟩
  ·have:=aR _ (lL i hi);rw[hb]at this;cases this
 ·refine xO (ac:=fun i=>bF.getD i default) (dl:=dstsOf l) (wl:=wl) aU oS C3 hs J2 (fun i hi hb=> ?_) Bw xP vE cf (fun i hi id aq=> ?_) (fun i v' ws uL hi hb=> ?_) (fun aR φ a w iw=> ?_) (fun i v' ws uL hi hb φ a w val iw hd=> ?_)
  ·obtain⟨j,j1,j',e,y,j3,j4⟩:=q3 i Eh
   rw[pD i hi,e]at j1
   refine⟨j',j1, ?_⟩
   simp only[List.getD_eq_getElem?_getD,j3,Option.getD_some,j4]
  ·simp only[List.contains_iff_mem];exact q5 _ (lL i hi) id aq
  ·intro id aq
   simp only[List.contains_iff_mem]
   exact(q1 i v' ws uL Eh).2 id aq
  ·obtain⟨x,x1,x2⟩:=q2
   obtain⟨i,Hl,R3⟩:=List.getElem_of_mem x1
   have hi:i<ops.size:=af
   have:=aR i hi
   have e:bF.getD i default=x:=by simp[List.getD_eq_getElem?_getD,List.getElem?_eq_getElem Hl,R3]
   rw[e,x2]at this;cases this
  ·have e:=(q1 i v' ws uL Eh).1
   subst e
   rw[<- hlen]at iw hd
   exact⟨.bf v',_,φ,hQ _ _ q4.2,iw,val,rfl,hd⟩
theorem uc{ops:Array Oper}:∀ (l:List Oper) (l':List bw) (m:Nat),je n ops l=some l'->je n ops (l.drop m)=some (l'.drop m)
 |l,l',0,h=>h
 |[],l',m+1,h=>by simp[je]at h;subst h;simp[je]
 |o::l,l',m+1,h=>by
  simp only[je]at h
  split at h
  ·rename_i x xs hx JD
   injection h with h;subst h
   exact uc l xs m JD
  ·cases h
theorem Ff{l:List bw}{ac:Nat->dQ}{E:Nat->Bool}{s:S}{m:Nat}:∀k,k<=m->dB (bz l) ac E s k=dB (bz (l.take m)) ac E s k:=by
 intro k
 induction k with
 |zero=>intro _;rfl
 |succ k ih=>
  intro hk
  have:bz l k=bz (l.take m) k:=by simp[bz,List.getD_eq_getElem?_getD,List.getElem?_take,(by omega:k<m)]
  simp only[dB,ih (by omega),this]
theorem z8(aU:P.follows .mixedOrders=true){id:Nat}{ops:Array Oper}{l:List bw}{Q Q':eM->S->Prop}{s:S}(hQ:∀e s,Q e s->Q' e s)(oS:je n ops ops.toList=some l)(ht:uN l (eO ops)=true)
 (hp:L6 (eO ops)=true) (h:Fc P l (eO ops) Q s):gu P n b rd (.region id ops true) Q' s:=by
 intro M bV H0 w0 cx φ a w ro k hs
 obtain⟨m,DO,hto,h⟩:=h
 obtain⟨bF,hl,aP,iX⟩:=rz (l.take m) _ _ _ h
 have hlm:(l.take m).length=m:=by rw[List.length_take];omega
 have hlen:l.length=ops.size:=by rw[kM _ _ oS];simp
 have iX:=iX.resolve_right (fun⟨_,_,_,_,_,q4,_,_⟩=>q4)
 obtain⟨aR,iX⟩:=iX
 have Md:bF.length=m:=af
 have pD:∀k,k<ops.size->(eO ops).getD k []=aZ ops k:=by
  intro k hk;simp[eO,List.getD_eq_getElem?_getD,List.getElem?_map,List.getElem?_range hk]
 have uW:(eO ops).length=ops.size:=by simp[eO]
 have j5:∀k,k<=m->dB (bz l) (fun i=>bF.getD i default) (fun _=>true) s k=kL (l.take m) bF s k:=fun k hk=>by
  rw[Ff k hk];exact tZ (l.take m) bF s hl k af
 have DG:∀k,k<m->(l.take m)[k]? =some (bz l k):=fun k hk=>by
  rw[List.getElem?_take,if_pos hk]
  simp[bz,List.getD_eq_getElem?_getD,List.getElem?_eq_getElem (by omega:k<l.length)]
 have sH:∀k,k<m->bF[k]? =some (bF.getD k default):=fun k hk=>by simp[List.getD_eq_getElem?_getD,List.getElem?_eq_getElem (by omega:k<bF.length)]
 have lL:∀k,k<m->bF.getD k default∈bF:=fun k hk=>List.mem_of_getElem? (sH k hk)
 have Hs:∀k,k<m->(tY bF)[k]? =some (s7 (bF.getD k default),iU (bF.getD k default)):=fun k hk=>by
  simp only[tY,List.getElem?_map,sH k hk,Option.map_some]
 have Mp:(tY bF).length=m:=by simp[tY,Md]
 simp only[List.nil_append]at iX
 obtain⟨uU,HL⟩:=iX
 have C3:∀k,k<ops.size->∀j∈aZ ops k,j<k:=fun k hk j hj=>by
  have:=List.all_eq_true.1 hp k (by simpa[uW]using hk)
  rw[pD k hk]at this
  simpa using List.all_eq_true.1 this j hj
 have Fe:∀k,k<(eO ops).length->∀j∈(eO ops).getD k [],j<k:=fun k hk j hj=>by
  rw[uW]at hk;rw[pD k hk]at hj;exact C3 k hk j hj
 let po:Nat->Nat->Prop:=fun k j=>((dA (eO ops) []).getD k 0).testBit j=true
 have Bw:∀E:Nat->Bool,(∀k,k<ops.size->E k=true->∀j∈aZ ops k,E j=true)->∀k,k<ops.size->(∀j∈aZ ops k,E j=true)->∀j,po k j->E j=true:=fun E hE k hk hj j hb=>
  mV Fe (fun k hk gr j hj=>by rw[uW]at hk;rw[pD k hk]at hj;exact hE k hk gr j hj) k (by rw[uW];exact hk) (by rw[pD k hk];exact hj) j hb
 have xP:∀k,k<ops.size->∀j,po k j->j<k:=fun k hk j hb=>wR Fe k (by rw[uW];exact hk) j hb
 have vE:∀i j,i<j->j<m-> ¬po j i->Compat (bz l) (fun i=>bF.getD i default) (fun i=>s7 (bF.getD i default)) i j:=by
  intro i j Sy hj hn
  have G9:=List.all_eq_true.1 (List.all_eq_true.1 ht j tt) i (by simpa using Sy)
  have th:=List.all_eq_true.1 (List.all_eq_true.1 uU j (by simpa[Mp]using hj)) i (by simpa using Sy)
  have X2:((dA (eO ops) []).getD j 0).testBit i=false:=by simpa[po]using hn
  rw[X2,Bool.false_or]at G9 th
  simp only[Bool.and_eq_true]at G9 th
  have gi:=Hs i af
  have gj:=Hs j hj
  simp only[List.getD_eq_getElem?_getD (l:=tY bF),gi,gj,Option.getD_some]at th
  have dj:∀ {xs ys:List Nat},kn xs ys=true->∀x∈xs,x∉ys:=fun h x hx=>by simpa using List.all_eq_true.1 h x hx
  have fo:∀ {x y:bw},ox x y=true->∀d,x.dst=some d->d∉dN y:=fun h d hd=>by simpa[ox,hd]using h
  exact QL
 have htl:∀k,m<=k->k<ops.size->∀j,j<k->po k j:=fun k js hk j hj=>by
  have:=List.all_eq_true.1 hto k (by simpa[uW]using hk)
  simp only[Bool.or_eq_true]at this
  rcases this with this|this
  ·exact absurd (Nat.blt_eq.mp this) af
  ·show((dA (eO ops) []).getD k 0).testBit j=true
   rw[Nat.eq_of_beq_eq_true this,Nat.testBit_two_pow_sub_one]
   exact decide_eq_true hj
 refine zY (ac:=fun i=>bF.getD i default) (m:=m) (X:=fun v s=>Q' (.bf v) s) (K:=Q' .normal) aU oS C3 af hs (fun i hi=> ?_) (fun i hi=>aR _ (lL i hi)) Bw xP vE htl ?_ (fun s φ a w hk iw=>⟨.normal,s,φ,hk,iw,trivial⟩) (fun v s' aA a' w' val hx iw hd=>⟨.bf v,s',aA,hx,iw,val,rfl,hd⟩)
 ·rw[j5 i (by omega)];exact aP i _ _ (DG i hi) (sH i hi)
 ·rw[j5 m (Nat.le_refl _)]
  rw[hlm]at HL
  exact gG (fun s hs=>hQ _ _ hs) (fun v s hs=>hQ _ _ hs) _ _ _ (uc _ _ m oS) HL
theorem oT{g:V}{ps:List Nat}{x y:IC}{Q Q':eM->S->Prop}{s:S}(hQ:∀e s,Q e s->Q' e s)(h:xB P n g ps x y Q s):xB P n g ps x y Q' s:=by
 obtain⟨env,h1,h2⟩:=h
 refine⟨env,h1, ?_⟩
 split at h2
 ·refine lR.mono (fun v o n h=> ?_) (fun v o n h=>hQ _ _ h) h2
  obtain⟨nf,m,e,p,c,d,st,pd,k1,k2,k3⟩:=h
  refine⟨nf,m,e,p,c,d,st,pd,k1,k2, ?_⟩
  cases pd with
  |none=>exact hQ _ _ k3
  |some j=>cases j<;>exact hQ _ _ k3
 ·exact h2
theorem ft(aU:P.follows .mixedOrders=true):∀ (c:Code) (Q Q':eM->S->Prop) (s:S),(∀e s,Q e s->Q' e s)->qu P n b rd (low n c) Q s->gu P n b rd c Q' s:=by
 intro c
 induction c with
 |skip=>exact fun Q Q' s hQ h=>hQ _ _ h
 |scope x ih=>exact fun Q Q' s hQ h=>ih Q Q' s hQ h
 |label l=>exact fun Q Q' s hQ h=>hQ _ _ h
 |exit id=>exact fun Q Q' s hQ h=>hQ _ _ h
 |ret=>exact fun Q Q' s hQ h=>hQ _ _ h
 |goto l=>exact fun Q Q' s hQ h=>h.elim
 |refuse y=>exact fun Q Q' s hQ h=>h.elim
 |rangeFunc f p x y=>
  intro Q Q' s hQ h
  obtain⟨h1,s',hle,h2⟩:=h
  exact⟨h1,s',hle,oT hQ h2⟩
 |region id ops draw=>
  intro Q Q' s hQ h
  cases draw with
  |true=>
   simp only[low]at h
   split at h
   ·rename_i l hl
    split at h
    ·rename_i hc
     simp only[Bool.and_eq_true]at hc
     rcases h with h|h
     ·exact C2 aU hQ hl hc.1 hc.2 h
     ·exact z8 aU hQ hl hc.1 hc.2 h
    ·exact h.elim
   ·exact h.elim
  |false=>
   simp only[low]at h
   split at h
   ·rename_i l hl;exact gG (fun s hs=>hQ _ _ hs) (fun v s hs=>hQ _ _ hs) _ l s hl h
   ·exact h.elim
 |seq x y HD HE=>
  intro Q Q' s hQ h
  refine HD _ _ s (fun e s he=> ?_) h
  cases e<;>first|exact HE Q Q' s hQ he|exact hQ _ _ he
 |cond c x y HD HE=>
  intro Q Q' s hQ h
  simp only[low,qu]at h
  simp only[gu]
  split at h
  ·rename_i t hc
   simp only[hc]
   exact⟨fun ht=>HD Q Q' s hQ (h.1 ht),fun ht=>HE Q Q' s hQ (h.2 ht)⟩
  ·rename_i hc
   simp only[hc]
   exact⟨HD Q Q' s hQ h.1,HE Q Q' s hQ h.2⟩
  ·exact h.elim
 |block id x ih=>
  intro Q Q' s hQ h
  refine ih _ _ s (fun e s he=> ?_) h
  cases e<;>simp only[dW]at he|- <;>first
   |exact hQ _ _ he
   |(split at he<;>rename_i e
     ·rw[if_pos e];exact hQ _ _ he
     ·rw[if_neg e];exact hQ _ _ he)
 |loop x ih=>
  intro Q Q' s hQ h
  obtain⟨J,h0,hr⟩:=h
  refine⟨J,h0,fun m s0 hJ=>ih _ _ s0 (fun e s he=> ?_) (hr m s0 hJ)⟩
  cases e<;>first|exact hQ _ _ he|exact he
structure aE (P:Program) (f:FuncId) (n:Nat) (ic:IC) (rs:List ResultVar):Prop where
 get:∃fn,P.funcs[f]? =some fn/\(fn.name== "runtime.NumGoroutine")=false/\fn.ntmps=n/\fn.results.toList=rs/\∃c,fn.body=some c/\low n c=ic
theorem dV.rB (aU:P.follows .mixedOrders=true){f:FuncId}{ic:IC}{rs:List ResultVar}(hf:aE P f n ic rs){args:List V}{o:Nat->aa}{nx:Nat}{K X:V->(Nat->aa)->Nat->Prop}(hl:args.length<=n)(h:qu P n nx false ic (jI P rs K X) ⟨cc args,o,nx⟩):dV P f args o nx K X:=by
 obtain⟨fn,h1,h2,rfl,rfl,c,h3,rfl⟩:=hf.get
 exact dV.Br h1 h2 h3 hl (ft aU c _ _ _ (fun _ _ h=>h) h)
theorem aY.rB (aU:P.follows .mixedOrders=true){f:FuncId}{ic:IC}{rs:List ResultVar}(hf:aE P f n ic rs){ds:List D}{out:R}(hl:ds.length<=n)(h:qu P n 0 false ic (ve P rs out) ⟨cc (ds.map .d),fun _=> .no,0⟩):aY P f ds out:=by
 obtain⟨fn,h1,h2,rfl,rfl,c,h3,rfl⟩:=hf.get
 exact aY.mz (dV.Br h1 h2 h3 (by simpa using hl) (ft aU c _ _ _ (fun e s h=>CT e s h) h))
end
end
section
abbrev Fix(α:Type){β:Type}(_:β):Type:=α
def iL(K:V->List (Nat×aa)->Prop)(x:Fix (Option et) K):Prop:=match x with|some (v,Δ,_)=>K v Δ|none=>False
@[go_sem] theorem Mq {v:V} {Δ:List (Nat×aa)} {rd:List Nat} {K}:iL K (some (v,Δ,rd))=K v Δ:=propext Iff.rfl
@[go_sem] theorem Mr {K}:iL K none=False:=propext Iff.rfl
def V.vF (c:Bool)(v:V):V:=if c=true then v else .bC []
@[go_sem] theorem Sz (b:Bool):(!!b)=b:=aK
attribute [go_sem] true_or or_true false_or ne_eq not_false_eq_true decide_true decide_false Bool.not_true Bool.not_false Bool.and_true Bool.true_and Bool.and_false Bool.false_and Bool.or_true Bool.true_or Bool.or_false Bool.false_or beq_self_eq_true Bool.true_eq_false Bool.false_eq_true not_true_eq_false and_true true_and and_false false_and eq_self
@[go_sem] theorem V.SA (v:V):V.vF true v=v:=rfl
@[go_sem] theorem V.Ph (v:V):V.vF false v= .bC []:=rfl
def jU(c:Bool)(p:Prop):Prop:=c=true->p
@[congr] theorem J3 {c c':Bool} {p p':Prop} (h:c=c') (h2:c'=true->p=p'):jU c p=jU c' p':=by
  subst h;cases c
  ·simp[jU]
  ·simp[jU,h2 rfl]
@[go_sem] theorem Ms (p:Prop):jU true p=p:=by simp[jU]
@[go_sem] theorem J4 (p:Prop):jU false p=True:=by simp[jU]
@[go_sem] theorem Mt (a:Bool):jU a True=True:=by simp[jU]
def jV(v:V)(want:Bool):Option Bool:=
 match v with
 | .d (.bool b)=>some (b==want)
 | .bC []=>some false
 |_=>none
@[go_sem] theorem Mu (b:Bool):jV (.d (.bool b)) true=some b:=by simp[jV]
@[go_sem] theorem J5 (b:Bool):jV (.d (.bool b)) false=some (!b):=by simp[jV]
@[go_sem] theorem SB (want:Bool):jV (.bC []) want=some false:=rfl
@[go_sem] theorem Pj (c b want:Bool):jV (V.vF c (.d (.bool b))) want=some (c&&(b==want)):=by cases c<;>simp[jV,V.vF]
@[go_sem] theorem Mv (c b e want:Bool):jV (V.vF c (V.vF e (.d (.bool b)))) want=some (c&&e&&(b==want)):=by cases c<;>cases e<;>simp[jV,V.vF]
def iY(c:Bool)(x:Option et):Option et:=
 if c=true then(match x with|some (v,[],_)=>some (v,[],[])|_=>none)else some (.bC [],[],[])
@[congr] theorem HM {c c':Bool} {x x':Option et} (h:c=c') (h2:c'=true->x=x'):iY c x=iY c' x':=by
  subst h;cases c
  ·rfl
  ·simp[iY,h2 rfl]
def Pk(v:V)(rd:List Nat):Option et:=some (v,[],rd)
@[go_sem] theorem X4 (v:V) (rd:List Nat):(some (v,[],rd):Option et)=Pk v rd:=by unfold Pk;exact Eq.trans rfl rfl
@[go_sem] theorem Mw (c:Bool) (v:V) (rd:List Nat):iY c (Pk v rd)=Pk (V.vF c v) []:=by cases c<;>rfl
@[go_sem] theorem Pl {v:V} {rd:List Nat} {K}:iL K (Pk v rd)=K v []:=propext Iff.rfl
@[go_sem] theorem J6 (c:Bool) (v:V) (rd:List Nat):iY c (some (v,[],rd))=some (V.vF c v,[],[]):=by cases c<;>rfl
@[go_sem] theorem HN (x:Option et):iY false x=some (.bC [],[],[]):=rfl
@[go_sem] theorem SC (b x:Bool):nB (.d (.bool b)) (V.vF b (.d (.bool x))) (.d (.bool false))=some (.d (.bool (b&&x))):=wO
@[go_sem] theorem Wi (b x:Bool):nB (.d (.bool b)) (.d (.bool true)) (V.vF (!b) (.d (.bool x)))=some (.d (.bool (b||x))):=wO
@[go_sem] theorem SD (b x:Bool):nB (.d (.bool (!b))) (.d (.bool true)) (V.vF b (.d (.bool x)))=some (.d (.bool (!b||x))):=wO
@[go_sem] theorem Pm (x y:V):nB (.d (.bool true)) x y=some x:=rfl
@[go_sem] theorem Mx (x y:V):nB (.d (.bool false)) x y=some y:=rfl
@[reducible] def iZ:Op->Bool
  | .move _| .assign _| .pick .. | .load .. | .binOp .. | .unOp .. | .nilCheck _| .convert .. | .makeInterface .. | .makeFunc .. | .fieldAddr .. | .indexAddr .. | .extract .. | .build .. | .index .. | .field .. | .lookup .. =>true
  | .call c=>match c.callee with
    | .builtin .len=>true
    | .builtin .min=>true
    | .builtin .max=>true
    |_=>false
  |_=>false
def xU(P:Program)(f:V)(args:List V)(o:Nat->aa)(rs:List D):Prop:=
 match f with
 | .func (.func g) first cap=>match bD o (first++args++cap)with
   |some ds=>aY P g ds (.ret rs)/\D.gX rs=true
   |none=>False
 |_=>False
def Bz(P:Program)(f:V)(args:List V)(o:Nat->aa)(K:V->Prop)(c:Fix Bool (f,args,o,K)):Prop:=
 ∃rs,jU c (xU P f args o rs)/\K (V.vF c (gY rs))
def xV(P:Program)(g:FuncId)(nx:Nat)(K X:V->(Nat->aa)->Nat->Prop)(args:Fix (List V) (K,X))(o:Fix (Nat->aa) (K,X)):Prop:=pJ P g args o nx K X
def rC(P:Program)(g:FuncId)(o:Nat->aa)(nx:Nat)(K X:V->(Nat->aa)->Nat->Prop)(ds:Fix (List D) (o,nx,K,X))(all:Fix (List V) (o,nx,K,X)):Prop:=
 rn P g ds o (put o (cq o (V.aV all))) (put o (oC o (V.aV all))) (fun v o'=>K v o' (nx+1)) (fun v o'=>X v o' (nx+1))\/pJ P g all o nx K X
def kN(P:Program)(g:FuncId)(K X:V->(Nat->aa)->Nat->Prop)(s:S)(all:List V)(ds:Fix (Option (List D)) (K,X,s,all)):Prop:=
 match ds with
 |some ds=>rC P g s.o s.nx K X ds all
 |none=>xV P g s.nx K X all s.o
@[go_sem] theorem J7 {P:Program} {s:S} {ds:List D} {g:FuncId} {all:List V} {K X}:
 kN P g K X s all (some ds)=rC P g s.o s.nx K X ds all:=propext Iff.rfl
def ud(P:Program)(id:Nat)(K X:V->(Nat->aa)->Nat->Prop)(s:S)(args:Fix (List V) (K,X,s)):Prop:=cV P id args s.o s.nx K X
@[go_sem] theorem J8 {P:Program} {s:S} {g:FuncId} {all:List V} {K X}:kN P g K X s all none=xV P g s.nx K X all s.o:=propext Iff.rfl
def pP(P:Program)(K X:V->(Nat->aa)->Nat->Prop)(s:S)(f:Fix V (K,X,s))(args:Fix (List V) (K,X,s)):Prop:=
 match f with
 | .func (.func g) first cap=>kN P g K X s (first++args++cap) (bD s.o (first++args++cap))
 | .jc id=>ud P id K X s args
 |_=>False
@[go_sem] theorem Po {P:Program} {s:S} {id:Nat} {args:List V} {K X}:pP P K X s (.jc id) args=ud P id K X s args:=propext Iff.rfl
@[go_sem] theorem My {P:Program} {s:S} {g:FuncId} {first cap args:List V} {K X}:pP P K X s (.func (.func g) first cap) args=kN P g K X s (first++args++cap) (bD s.o (first++args++cap)):=propext Iff.rfl
def Fg(P:Program)(g:FuncId)(o:Nat->aa)(nx:Nat)(K X:V->(Nat->aa)->Nat->Prop)(ds:Fix (List D) (o,nx,K,X))(all:Fix (List V) (o,nx,K,X)):Prop:=
 rn P g ds o (put o (cq o (V.aV all))) (put o (oC o (V.aV all))) (fun v o'=>K v o' (nx+1)) (fun v o'=>X v o' (nx+1))
def xW(P:Program)(g:FuncId)(K X:V->(Nat->aa)->Nat->Prop)(s:S)(all:List V)(ds:Fix (Option (List D)) (K,X,s,all)):Prop:=
 match ds with
 |some ds=>Fg P g s.o s.nx K X ds all
 |none=>False
@[go_sem] theorem Mz {P:Program} {s:S} {ds:List D} {g:FuncId} {all:List V} {K X}:xW P g K X s all (some ds)=Fg P g s.o s.nx K X ds all:=propext Iff.rfl
def Fh(P:Program)(K X:V->(Nat->aa)->Nat->Prop)(s:S)(args:Fix (List V) (K,X,s))(r:Fix (Option (FuncId×V)) (K,X,s)):Prop:=
 match r with
 |some (g,y)=>xW P g K X s (y::args) (bD s.o (y::args))
 |none=>False
@[go_sem] theorem Pp {P:Program} {s:S} {g:FuncId} {y:V} {args:List V} {K X}:Fh P K X s args (some (g,y))=xW P g K X s (y::args) (bD s.o (y::args)):=propext Iff.rfl
def C4(K:V->Prop)(v:Fix V K):Prop:=
 match v with
 | .d (.iface t y)=>K (.d (.iface t y))
 | .iface t y=>K (.iface t y)
 |_=>False
@[go_sem] theorem X5 {t:TypeId} {y:D} {K}:C4 K (.d (.iface t y))=K (.d (.iface t y)):=propext Iff.rfl
@[go_sem] theorem X6 {t:TypeId} {y:V} {K}:C4 K (.iface t y)=K (.iface t y):=propext Iff.rfl
def BA(K:V->List (Nat×aa)->Prop)(id:Nat)(l:Fix (List (D×D)) (K,id)):Prop:=Bb id l fun v Δ _=>K v Δ
def Fi(K:V->List (Nat×aa)->Prop)(str:Bool)(Pq:Fix (Option et) (K,str))(left:Fix (Option (Nat×List (D×D))) (K,str)):Prop:=
 match left with
 |some (id,l)=>str=false/\BA K id l
 |none=>iL K Pq
@[go_sem] theorem Pr {K} {Pq:Option et} {id:Nat} {l:List (D×D)}:Fi K false Pq (some (id,l))=BA K id l:=propext ⟨fun h=>h.2,fun h=>⟨rfl,h⟩⟩
@[go_sem] theorem Ps {K} {str:Bool} {Pq:Option et}:Fi K str Pq none=iL K Pq:=propext Iff.rfl
def xX(P:Program)(X:V->S->Prop)(K:S->Prop)(o:bw)(s:Fix S (X,K,o)):Prop:=
 match o.op with
 | .next x str=>Fi (fun v Δ=>K ⟨aQ s.env o.dst v,put s.o Δ,s.nx+1⟩) str (lY s.o (s.ev x) str) (lZ s.o (s.ev x))
 | .call c=>match c.callee with
   | .value f=>pP P (fun v o' nx'=>K ⟨aQ s.env o.dst v,o',nx'⟩) (fun v o' nx'=>X v ⟨s.env,o',nx'⟩) s (s.ev f) (c.args.toList.map s.ev)
   | .invoke r m=>Fh P (fun v o' nx'=>K ⟨aQ s.env o.dst v,o',nx'⟩) (fun v o' nx'=>X v ⟨s.env,o',nx'⟩) s (c.args.toList.map s.ev) (ra P m (s.ev r))
   |_=>iL (fun v Δ=>K ⟨aQ s.env o.dst v,put s.o Δ,s.nx+1⟩) (eK P s s.nx o.op)
 | .panic x=>C4 (fun v=>X v s) (s.ev x)
 |op=>iL (fun v Δ=>K ⟨aQ s.env o.dst v,put s.o Δ,s.nx+1⟩) (eK P s s.nx op)
@[reducible] def dC:Op->Option (Operand×List Operand)
  | .call c=>match c.callee with
    | .value f=>some (f,c.args.toList)
    |_=>none
  |_=>none
def fQ(A B:Prop)(t:Fix Bool (A,B)):Prop:=nG t A B
@[go_sem] theorem MA (A B:Prop):fQ A B true=A:=rp A B
@[go_sem] theorem J9 (A B:Prop):fQ A B false=B:=pK A B
def Aa(P:Program)(X:V->S->Prop)(K:S->Prop)(o:bw)(s:S)(f:Operand)(args:List Operand)(c:Fix Bool (X,K,o,s,f,args)):Prop:=
 Bz P (s.ev f) (args.map s.ev) s.o (fun v=>K ⟨aQ s.env o.dst v,s.o,s.nx+1⟩) c\/fQ (xX P X K o s) (K ⟨aQ s.env o.dst (.bC []),s.o,s.nx+1⟩) c
def vG(P:Program)(X:V->S->Prop)(K:S->Prop)(o:bw)(s:S)(c:Fix (Option Bool) (X,K,o,s)):Prop:=
 match c with
 |none=>False
 |some c=>match dC o.op with
  |some (f,args)=>Aa P X K o s f args c
  |none=>if iZ o.op=true then iL (fun v _=>K ⟨aQ s.env o.dst v,s.o,s.nx+1⟩) (iY c (eK P s s.nx o.op))
   else fQ (xX P X K o s) (K ⟨aQ s.env o.dst (.bC []),s.o,s.nx+1⟩) c
def oU(P:Program)(X:V->S->Prop)(K:S->Prop)(l:List bw)(s:Fix S (X,K,l)):Prop:=
 match l with
 |[]=>K s
 |o::l=>match o.gd with
  |none=>xX P X (oU P X K l) o s
  |some (d,want)=>vG P X (oU P X K l) o s (jV (s.env d) want)
def hO(want:Bool)(A B:Prop)(v:Fix V (A,B)):Prop:=
 match v with
 | .d (.bool b)=>nG (b==want) A B
 | .bC []=>B
 |_=>False
@[go_sem] theorem Ka (b:Bool) (A B:Prop):hO true A B (.d (.bool b))=fQ A B b:=by simp[hO,fQ]
@[go_sem] theorem HO (b:Bool) (A B:Prop):hO false A B (.d (.bool b))=fQ A B (!b):=by simp[hO,fQ]
@[go_sem] theorem Pt (want:Bool) (A B:Prop):hO want A B (.bC [])=B:=propext Iff.rfl
@[go_sem] theorem MB (c b want:Bool) (A B:Prop):hO want A B (V.vF c (.d (.bool b)))=fQ A B (c&&(b==want)):=by cases c<;>simp[hO,V.vF,fQ]
abbrev KD:=V->List (Nat×aa)->List Nat->Prop
abbrev XD:=V->List Nat->List Nat->Prop
def Fj(P:Program)(g:FuncId)(K:KD)(X:XD)(o:Nat->aa)(rd:List Nat)(ds:Fix (List D) (K,X,o,rd))(all:Fix (List V) (K,X,o,rd)):Prop:=
 pO P g ds (fun v=>K v (cq o (V.aV all)) rd) (fun v=>K v [] rd) (fun v=>X v [] rd)
def vH(P:Program)(g:FuncId)(K:KD)(X:XD)(o:Nat->aa)(nx fr:Nat)(all:Fix (List V) (K,X,o,nx)):Prop:=gf P g all o nx fr K X
def rD(P:Program)(g:FuncId)(K:KD)(X:XD)(o:Nat->aa)(nx fr:Nat)(rd:List Nat)(ds:Fix (List D) (K,X,o,nx,rd))(all:Fix (List V) (K,X,o,nx,rd)):Prop:=Fj P g K X o rd ds all\/vH P g K X o nx fr all
def oV(P:Program)(K:KD)(X:XD)(o:Nat->aa)(nx fr:Nat)(rd:List Nat)(g:FuncId)(all:List V)(ds:Fix (Option (List D)) (K,X,o,nx,rd,all)):Prop:=
 match ds with
 |some ds=>rD P g K X o nx fr rd ds all
 |none=>vH P g K X o nx fr all
@[go_sem] theorem Kc {P:Program} {o:Nat->aa} {nx fr:Nat} {rd:List Nat} {ds:List D} {g:FuncId} {all:List V} {K X}:oV P K X o nx fr rd g all (some ds)=rD P g K X o nx fr rd ds all:=propext Iff.rfl
@[go_sem] theorem Kd {P:Program} {o:Nat->aa} {nx fr:Nat} {rd:List Nat} {g:FuncId} {all:List V} {K X}:oV P K X o nx fr rd g all none=vH P g K X o nx fr all:=propext Iff.rfl
def xY(P:Program)(K:KD)(X:XD)(o:Nat->aa)(nx fr:Nat)(rd:Fix (List Nat) (K,X,o,nx))(f:Fix V (K,X,o,nx))(args:Fix (List V) (K,X,o,nx)):Prop:=
 match f with
 | .func (.func g) first cap=>oV P K X o nx fr rd g (first++args++cap) (bD o (first++args++cap))
 |_=>False
@[go_sem] theorem MC {P:Program} {o:Nat->aa} {nx fr:Nat} {rd:List Nat} {g:FuncId} {first cap args:List V} {K X}:xY P K X o nx fr rd (.func (.func g) first cap) args=oV P K X o nx fr rd g (first++args++cap) (bD o (first++args++cap)):=propext Iff.rfl
def rE(K:KD)(rd:List Nat)(x:Fix (Option et) (K,rd)):Prop:=match x with|some (v,Δ,_)=>K v Δ rd|none=>False
@[go_sem] theorem MD {v:V} {Δ:List (Nat×aa)} {r rd:List Nat} {K}:rE K rd (some (v,Δ,r))=K v Δ rd:=propext Iff.rfl
@[go_sem] theorem Pu {v:V} {r rd:List Nat} {K}:rE K rd (Pk v r)=K v [] rd:=propext Iff.rfl
def GX(P:Program)(K:KD)(X:XD)(fr:Nat)(o:bw)(s:Fix S (K,X,o)):Prop:=
 match dC o.op with
 |some (f,args)=>xY P K X s.o s.nx fr (lQ s o.op) (s.ev f) (args.map s.ev)
 |none=>rE K (lQ s o.op) (eK P s fr o.op)
def C5(P:Program)(KB:List Nat->Fp->Prop)(pr:List (List Nat))(l:List bw)(fr:Nat)(fp:Fix Fp (KB,l))(bad ws:Fix (List Nat) (KB,l))(s:Fix S (KB,l)):Prop:=fq P KB pr l fr s fp bad ws
def mD(P:Program)(K:S->Fp->Prop)(KP:V->List Nat->Fp->Prop)(pr:List (List Nat))(l:List bw)(fr:Nat)(s:Fix S (K,KP,l))(fp:Fix Fp (K,KP,l)):Prop:=
 match l with
 |[]=>K s fp
 |o::l=>match o.gd with
  |none=>GX P (fun v Δ rd=>mD P K KP pr l (fr+1) ⟨aQ s.env o.dst v,put s.o Δ,s.nx⟩ (fp++[(rd,Δ.map (·.1))]))
   (fun v ws rd=>C5 P (KP v) pr l (fr+1) (fp++[(rd,[])]) [fp.length] (ws++fp.flatMap (·.2)) ⟨aQ s.env o.dst .ab,s.o,s.nx⟩) fr o s
  |some (d,want)=>hO want (GX P (fun v Δ rd=>mD P K KP pr l (fr+1) ⟨aQ s.env o.dst v,put s.o Δ,s.nx⟩ (fp++[(rd,Δ.map (·.1))]))
   (fun v ws rd=>C5 P (KP v) pr l (fr+1) (fp++[(rd,[])]) [fp.length] (ws++fp.flatMap (·.2)) ⟨aQ s.env o.dst .ab,s.o,s.nx⟩) fr o s)
   (mD P K KP pr l (fr+1) ⟨aQ s.env o.dst (.bC []),s.o,s.nx⟩ (fp++[([],[])])) (s.env d)
def HP(pr:List (List Nat))(nx:Nat)(Q:eM->S->Prop)(s:Fix S Q)(fp:Fix Fp Q):Prop:=zZ pr nx Q s fp
def oW(l:List bw)(k:Fix Nat l):Option Nat:=match l with
 |[]=>none
 |o::l=>match o.gd,dC o.op with
  |none,some (.tmp _,_)=>some k
  |_,_=>oW l (k+1)
def Ke(P:Program)(pr:List (List Nat))(l:List bw)(nx:Nat)(Q:eM->S->Prop)(s:Fix S (P,pr,l,nx,Q))(fp:Fix Fp (P,pr,l,nx,Q)):Prop:=fY pr fp=true/\oU P (fun v s=>Q (.bf v) s) (Q .normal) l ⟨s.env,s.o,nx⟩
def HQ(P:Program)(l:List bw)(pr:List (List Nat))(Q:eM->S->Prop)(s:S)(sp:Fix (Option Nat) (P,l,pr,Q,s)):Prop:=match sp with
 |none=>mD P (HP pr (s.nx+l.length) Q) (xR pr l s Q) pr l s.nx s []
 |some m=>m<=l.length/\z7 pr m=true/\mD P (Ke P pr (l.drop m) (s.nx+m) Q) (fun _ _ _=>False) pr (l.take m) s.nx s []
def ue(A B:Prop)(v:Fix V (A,B)):Prop:=
 match v with
 | .d (.bool t)=>fQ A B t
 | .ek=>A/\B
 |_=>False
@[go_sem] theorem Pv (A B:Prop):ue A B .ek=(A/\B):=propext Iff.rfl
@[go_sem] theorem ME (t:Bool) (A B:Prop):ue A B (.d (.bool t))=fQ A B t:=propext Iff.rfl
def BB{ι:Type}(b:Nat)(st:ι->S)(bZ:ι->Prop)(mE:ι->Nat)(i:ι)(s:S):Prop:=∃j,bZ j/\mE j<mE i/\bM b s (st j)
def rF(next:S->Prop)(Q:eM->S->Prop)(e:eM)(s:S):Prop:=match e with| .normal=>next s|e=>Q e s
section
variable {N:S->Prop}{Q:eM->S->Prop}{s:S}
@[go_sem ↓] theorem HS:rF N Q .normal s=N s:=propext Iff.rfl
@[go_sem ↓] theorem MF {id:Nat}:rF N Q (.exit id) s=Q (.exit id) s:=propext Iff.rfl
@[go_sem ↓] theorem Pw:rF N Q .ret s=Q .ret s:=propext Iff.rfl
@[go_sem ↓] theorem Px {v:V}:rF N Q (.bf v) s=Q (.bf v) s:=propext Iff.rfl
end
def BC(b:Nat)(body:(eM->S->Prop)->S->Prop)(Q:eM->S->Prop)(s:Fix S (body,Q)):Prop:=
 ∃ (ι:Type) (st:ι->S) (bZ:ι->Prop) (mE:ι->Nat) (i0:ι),bZ i0/\bM b s (st i0)/\∀i,bZ i->body (rF (BB b st bZ mE i) Q) (st i)
theorem aL{ι:Type}{b:Nat}{body:(eM->S->Prop)->S->Prop}{Q:eM->S->Prop}{s:S}(st:ι->S)(bZ:ι->Prop)(mE:ι->Nat)(i0:ι)(h0:bZ i0)(hle:bM b s (st i0))
 (h:∀i,bZ i->body (rF (BB b st bZ mE i) Q) (st i)):BC b body Q s:=⟨ι,st,bZ,mE,i0,h0,hle,h⟩
def xZ(P:Program)(n b:Nat)(rd:Bool)(gop:Operand)(ps:List Nat)(x y:IC)(Q:eM->S->Prop)(s:Fix S (x,y,Q))(g:Fix V (x,y,Q)):Prop:=rd=false/\(xB P n g ps x y Q s\/∃s',bM b s s'/\xB P n (s'.ev gop) ps x y Q s')
def jW(P:Program)(n b:Nat)(rd:Bool)(c:IC)(Q:eM->S->Prop)(s:Fix S (c,Q)):Prop:=
 match c with
 | .skip=>Q .normal s
 | .ad l=>oU P (fun v s=>Q (.bf v) s) (Q .normal) l s
 | .c0 l pr=>HQ P l pr Q s (oW l 0)
 | .seq x y=>jW P n b rd x (nu (fun s=>jW P n b rd y Q s) Q) s
 | .cond c x y=>ue (jW P n b rd x Q s) (jW P n b rd y Q s) (s.ev c)
 | .block id x=>jW P n b rd x (dW id Q) s
 | .loop x=>BC b (fun Q s=>jW P n b rd x Q s) Q s
 | .exit id=>Q (.exit id) s
 | .ret=>Q .ret s
 | .DL g ps x y=>xZ P n b rd g ps x y Q s (s.ev g)
 | .bad=>False
section
variable {P:Program}{n b:Nat}{rd:Bool}
theorem x3{s:S}{f:V}{args:List V}{K K':V->(Nat->aa)->Nat->Prop}{X X':V->(Nat->aa)->Nat->Prop}(hK:∀v o n,K v o n->K' v o n)(hX:∀v o n,X v o n->X' v o n)(h:pP P K X s f args):
 match(generalizing:=false) f with
  | .func (.func g) first cap=>match bD s.o (first++args++cap)with
    |some ds=>rn P g ds s.o (put s.o (cq s.o (V.aV (first++args++cap)))) (put s.o (oC s.o (V.aV (first++args++cap)))) (fun v o'=>K' v o' (s.nx+1)) (fun v o'=>X' v o' (s.nx+1))\/pJ P g (first++args++cap) s.o s.nx K' X'
    |none=>pJ P g (first++args++cap) s.o s.nx K' X'
  | .jc id=>cV P id args s.o s.nx K' X'
  |_=>False:=by
 unfold pP kN ud at h
 split at h
 ·rename_i g first cap
  cases dM:bD s.o (first++args++cap)with
  |some ds=>
   simp only[dM]at h|-
   rcases h with⟨out,h1,h2|⟨h3,h2⟩|⟨h3,h2⟩⟩|h
   ·exact .inl ⟨out,h1, .inl (by cases out<;>first|exact hK _ _ _ h2|exact hX _ _ _ h2)⟩
   ·exact .inl ⟨out,h1, .inr (.inl ⟨h3,by cases out<;>first|exact hK _ _ _ h2|exact hX _ _ _ h2⟩)⟩
   ·exact .inl ⟨out,h1, .inr (.inr ⟨h3,by cases out<;>first|exact hK _ _ _ h2|exact hX _ _ _ h2⟩)⟩
   ·exact .inr (lR.mono hK hX h)
  |none=>
   simp only[dM]at h|-
   exact lR.mono hK hX h
 ·exact cV.mono hK hX h
 ·exact h.elim
theorem uf{x:Option et}{K:V->List (Nat×aa)->Prop}(h:iL K x):∃v Δ rd,x=some (v,Δ,rd)/\K v Δ:=by
 unfold iL at h;split at h
 ·exact⟨_,_,_,rfl,h⟩
 ·exact h.elim
theorem vI{s:S}{o:bw}{X X':V->S->Prop}{K K':S->Prop}(hK:∀s,K s->K' s)(hX:∀v s,X v s->X' v s)(h:xX P X K o s):DX P s o X' K':=by
 unfold xX at h
 unfold DX
 have hs:∀ {op:Op},(iL (fun v Δ=>K ⟨aQ s.env o.dst v,put s.o Δ,s.nx+1⟩) (eK P s s.nx op))->(match eK P s s.nx op with|some (v,Δ,_)=>K' ⟨aQ s.env o.dst v,put s.o Δ,s.nx+1⟩|none=>False):=by
  intro op h
  obtain⟨v,Δ,rd,he,h⟩:=uf h
  simp only[he];exact hK _ h
 split at h
 ·rename_i x str hx
  rw[hx]
  unfold Fi at h
  simp only
  split at h
  ·rename_i id l hl
   simp only[hl]
   exact⟨h.1,fun e=>hK _ (h.2.1 e),fun i k x e=>hK _ (h.2.2 i k x e)⟩
  ·rename_i hl
   simp only[hl]
   exact hs (op:= .next x str) h
 ·rename_i c hc
  simp only[hc]
  split at h
  ·rename_i f hf
   simp only[hf]
   exact x3 (K:=fun v o' nx'=>K ⟨aQ s.env o.dst v,o',nx'⟩) (X:=fun v o' nx'=>X v ⟨s.env,o',nx'⟩) (fun v o n h=>hK _ h) (fun v o n h=>hX _ _ h) h
  ·rename_i r m hf
   simp only[hf]
   unfold Fh at h
   split at h
   ·rename_i g y hr
    simp only[hr]
    unfold xW at h
    split at h
    ·rename_i ds dM
     obtain⟨out,h1,h2⟩:=h
     refine .inl ⟨ds,dM,out,h1, ?_⟩
     rcases h2 with h2|⟨h3,h2⟩|⟨h3,h2⟩
     ·exact .inl (by cases out<;>first|exact hK _ h2|exact hX _ _ h2)
     ·exact .inr (.inl ⟨h3,by cases out<;>first|exact hK _ h2|exact hX _ _ h2⟩)
     ·exact .inr (.inr ⟨h3,by cases out<;>first|exact hK _ h2|exact hX _ _ h2⟩)
    ·exact h.elim
   ·exact h.elim
  ·rename_i hf hi
   rw[hc]at h
   obtain⟨ER,args,ts⟩:=c
   cases ER with
   |value f=>exact absurd rfl (hf f)
   |invoke r m=>exact absurd rfl (hi r m)
   |_=>exact hs h
 ·rename_i x hx
  simp only[hx]
  unfold C4 at h
  split at h
  ·rename_i hv;simp only[hv];exact hX _ _ h
  ·rename_i hv;simp only[hv];exact hX _ _ h
  ·exact h.elim
 ·rename_i sI hc hp
  have h2:=hs h
  cases hh:o.op<;>first
   |exact absurd hh (hc _)
   |exact absurd hh (hp _)
   |exact absurd hh (sI _ _)
   |(rw[hh]at h2;exact h2)
theorem Fk{s:S}{o:bw}{X:V->S->Prop}{K:S->Prop}(hp:iZ o.op=true){v:V}{Δ:List (Nat×aa)}{rd:List Nat}(he:eK P s s.nx o.op=some (v,Δ,rd))(h:K ⟨aQ s.env o.dst v,put s.o Δ,s.nx+1⟩):DX P s o X K:=by
 unfold DX
 split
 ·rename_i c hc
  split
  ·rename_i f hf;rw[hc]at hp;simp[iZ,hf]at hp
  ·rename_i r m hf;rw[hc]at hp;simp[iZ,hf]at hp
  ·rw[he];exact h
 ·rename_i x hx;rw[hx]at hp;simp[iZ]at hp
 ·rename_i x str hx;rw[hx]at hp;simp[iZ]at hp
 ·rw[he];exact h
theorem oX{X X':V->S->Prop}{K K':S->Prop}(hK:∀s,K s->K' s)(hX:∀v s,X v s->X' v s):∀ (l:List bw) (s:S),oU P X K l s->mA P X' K' l s
 |[],s,h=>hK _ h
 |o::l,s,h=>by
  have ih:=oX hK hX l
  unfold oU at h
  unfold mA
  cases hg:o.gd with
  |none=>
   simp only[hg]at h|-
   exact vI ih hX h
  |some p=>
   obtain⟨d,want⟩:=p
   simp only[hg]at h|-
   unfold vG at h
   split at h
   ·exact h.elim
   ·rename_i c hc
    have MG:∀ {A B:Prop},(c=true->A)->(c=false->B)->(match s.env d with
     | .d (.bool b)=>if b=want then A else B
     | .bC []=>B
     |_=>False):=by
     intro A B hA hB
     generalize s.env d=v at hc
     unfold jV at hc
     split at hc
     ·rename_i b
      injection hc with hc
      split
      ·rename_i e;exact hA (by rw[<- hc];simp[e])
      ·rename_i e;exact hB (by rw[<- hc];simp[e])
     ·injection hc with hc
      exact hB hc.symm
     ·cases hc
    split at h
    ·rename_i f args DY
     rcases h with h|h
     case inr=>exact MG (fun Kg=>vI ih hX (h.1 Kg)) (fun MH=>ih _ (h.2 MH))
     obtain⟨rs,h1,h2⟩:=h
     refine MG (fun Kg=> ?_) (fun MH=> ?_)
     ·unfold dC at DY
      split at DY
      ·rename_i c' wE
       split at DY
       ·rename_i f' sZ
        injection DY with DY;injection DY with e1 e2;subst e1;subst e2
        have jD:=h1 Kg
        unfold DX
        simp only[wE,sZ]
        unfold xU at jD
        split at jD
        ·rename_i g first cap sS
         simp only[sS]
         split at jD
         ·rename_i ds dM
          simp only[dM]
          refine .inl ⟨.ret rs,jD.1, .inr (.inl ⟨jD.2, ?_⟩)⟩
          refine ih _ ?_
          rw[Kg]at h2
          exact h2
         ·exact jD.elim
        ·exact jD.elim
       ·cases DY
      ·cases DY
     ·refine ih _ ?_
      rw[MH]at h2
      exact h2
    ·split at h
     ·rename_i hp
      obtain⟨v,Δ,rd,he,h⟩:=uf h
      refine MG (fun Kg=> ?_) (fun MH=> ?_)
      ·rw[Kg]at he
       simp only[iY,if_true]at he
       split at he
       ·rename_i v' uL mO
        injection he with he;injection he with e1 e2;subst e1
        exact Fk hp mO (ih _ h)
       ·cases he
      ·rw[MH]at he
       simp only[iY]at he
       injection he with he;injection he with e1 e2;subst e1
       exact ih _ h
     ·exact MG (fun Kg=>vI ih hX (h.1 Kg)) (fun MH=>ih _ (h.2 MH))
theorem vK{op:Op}{f:Operand}{args:List Operand}(h:dC op=some (f,args)):∃c,op= .call c/\c.callee= .value f/\c.args.toList=args:=by
 unfold dC at h
 split at h
 ·rename_i c
  split at h
  ·rename_i f' sZ
   injection h with h;injection h with e1 e2;subst e1;subst e2
   exact⟨c,rfl,sZ,rfl⟩
  ·cases h
 ·cases h
theorem C6{x:Option et}{rd:List Nat}{K:KD}(h:rE K rd x):∃v Δ r,x=some (v,Δ,r)/\K v Δ rd:=by
 unfold rE at h;split at h
 ·exact⟨_,_,_,rfl,h⟩
 ·exact h.elim
theorem gf.mono {P:Program}{g:FuncId}{args:List V}{o:Nat->aa}{nx fr:Nat}{K K':KD}{X X':XD}(hK:∀v Δ r,K v Δ r->K' v Δ r)(hX:∀v w r,X v w r->X' v w r)(h:gf P g args o nx fr K X):gf P g args o nx fr K' X':=by
 obtain⟨rd,Δ,h1,⟨rs,h2,h3⟩|⟨x,h2,h3⟩|⟨v,h2,h3⟩⟩:=h
 ·exact⟨rd,Δ,h1, .inl ⟨rs,h2,hK _ _ _ h3⟩⟩
 ·exact⟨rd,Δ,h1, .inr (.inl ⟨x,h2,hX _ _ _ h3⟩)⟩
 ·exact⟨rd,Δ,h1, .inr (.inr ⟨v,h2,hK _ _ _ h3⟩)⟩
theorem pO.mono {P:Program}{g:FuncId}{ds:List D}{Kf Kb KX Z8 Z9 KX':V->Prop}(h1:∀v,Kf v->Z8 v)(h2:∀v,Kb v->Z9 v)(h3:∀v,KX v->KX' v)(h:pO P g ds Kf Kb KX):pO P g ds Z8 Z9 KX':=by
 rcases h with⟨rs,a,b|⟨b,c⟩⟩|⟨x,a,b,c⟩|⟨v,a,b⟩
 ·exact .inl ⟨rs,a, .inl (h1 _ b)⟩
 ·exact .inl ⟨rs,a, .inr ⟨b,h2 _ c⟩⟩
 ·exact .inr (.inl ⟨x,a,b,h3 _ c⟩)
 ·exact .inr (.inr ⟨v,a,h1 _ b⟩)
theorem BD{s:S}{fr:Nat}{o:bw}{K K':KD}{X X':XD}(hK:∀v Δ r,K v Δ r->K' v Δ r)(hX:∀v w r,X v w r->X' v w r)(h:GX P K X fr o s):wG P s fr o K' X':=by
 unfold GX at h
 split at h
 ·rename_i f args DY
  obtain⟨c,h1,h2,h3⟩:=vK DY
  subst h3
  unfold wG
  simp only[h1,h2]
  unfold xY oV at h
  split at h
  ·rename_i g first cap hf
   simp only[hf]
   split at h
   ·rename_i ds dM
    simp only[dM]
    refine h.elim (fun h=> .inl ?_) (fun h=> .inr (gf.mono hK hX h))
    refine pO.mono (fun v h=> ?_) (fun v h=> ?_) (fun v h=> ?_) h<;>(rw[h1]at h)
    ·exact hK _ _ _ h
    ·exact hK _ _ _ h
    ·exact hX _ _ _ h
   ·rename_i dM
    simp only[dM]
    exact gf.mono hK hX h
  ·exact h.elim
 ·rename_i DY
  obtain⟨v,Δ,rd,he,h⟩:=C6 h
  unfold wG
  split
  ·rename_i c hc
   split
   ·rename_i f hf
    exact absurd DY (by simp[dC,hc,hf])
   ·simp only[he];exact hK _ _ _ h
  ·simp only[he];exact hK _ _ _ h
theorem x4{s:S}{fr:Nat}{o:bw}{K K':KD}{X X':XD}(hK:∀v Δ r,K v Δ r->K' v Δ r)(hX:∀v w r,X v w r->X' v w r)(h:wG P s fr o K X):wG P s fr o K' X':=by
 unfold wG at h|-
 split at h
 ·rename_i c hc
  rw[hc]at h|-
  split at h
  ·rename_i f hf
   (try simp only[hf])
   split at h
   ·rename_i sS
    (try simp only[sS])
    split at h
    ·exact h.elim (fun h=> .inl (pO.mono (fun v h=>hK _ _ _ h) (fun v h=>hK _ _ _ h) (fun v h=>hX _ _ _ h) h)) (fun h=> .inr (gf.mono hK hX h))
    ·exact gf.mono hK hX h
   ·exact h.elim
  ·rename_i hf
   split at h
   ·rename_i he
    (try simp only[he])
    exact hK _ _ _ h
   ·exact h.elim
 ·split at h
  ·rename_i he
   (try simp only[he]);exact hK _ _ _ h
  ·exact h.elim
theorem gH{KB KB':List Nat->Fp->Prop}{pr:List (List Nat)}(hK:∀l fp,KB l fp->KB' l fp):∀ (l:List bw) (fr:Nat) (s:S) (fp:Fp) (bad ws:List Nat),fq P KB pr l fr s fp bad ws->fq P KB' pr l fr s fp bad ws
 |[],_,_,_,_,_,h=>hK _ _ h
 |o::l,fr,s,fp,bad,ws,h=>by
  unfold fq at h|-
  split
  ·rename_i hb
   rw[if_pos hb]at h
   exact gH hK l _ _ _ _ _ h
  ·rename_i hb
   rw[if_neg hb]at h
   split at h
   ·exact x4 (fun v Δ r h=>gH hK l _ _ _ _ _ h) (fun _ _ _ h=>h) h
   ·split at h
    ·split at h
     ·rename_i e;simp only[e,if_true]
      exact x4 (fun v Δ r h=>gH hK l _ _ _ _ _ h) (fun _ _ _ h=>h) h
     ·rename_i e;simp only[e,if_false]
      exact gH hK l _ _ _ _ _ h
    ·exact gH hK l _ _ _ _ _ h
    ·exact h.elim
theorem gI{K K':S->Fp->Prop}{KP X7:V->List Nat->Fp->Prop}{pr:List (List Nat)}(hK:∀s fp,K s fp->K' s fp)(hP:∀v l fp,KP v l fp->X7 v l fp):∀ (l:List bw) (fr:Nat) (s:S) (fp:Fp),mD P K KP pr l fr s fp->iW P K' X7 pr l fr s fp
 |[],_,_,_,h=>hK _ _ h
 |o::l,fr,s,fp,h=>by
  have hB:∀v ws (X8:List Nat),C5 P (KP v) pr l (fr+1) (fp++[(X8,[])]) [fp.length] (ws++fp.flatMap (·.2)) ⟨aQ s.env o.dst .ab,s.o,s.nx⟩->
   fq P (X7 v) pr l (fr+1) ⟨aQ s.env o.dst .ab,s.o,s.nx⟩ (fp++[(X8,[])]) [fp.length] (ws++fp.flatMap (·.2)):=fun v ws X8 h=>gH (fun a b h=>hP v a b h) l _ _ _ _ _ h
  unfold mD at h
  unfold iW
  split at h
  ·rename_i hg
   (try simp only[hg])
   exact BD (fun v Δ r h=>gI hK hP l _ _ _ h) hB h
  ·rename_i d want hg
   (try simp only[hg])
   generalize s.env d=v at h
   unfold hO at h
   split at h
   ·rename_i bb
    by_cases e:bb=want
    ·subst e
     simp only[if_true]
     exact BD (fun v Δ r h=>gI hK hP l _ _ _ h) hB (h.1 aK)
    ·simp only[if_neg e]
     exact gI hK hP l _ _ _ (h.2 (by simpa using e))
   ·exact gI hK hP l _ _ _ h
   ·exact h.elim
theorem eh:∀ (c:IC) (Q Q':eM->S->Prop) (s:S),(∀e s,Q e s->Q' e s)->jW P n b rd c Q s->qu P n b rd c Q' s
 | .skip,_,_,_,hQ,h=>hQ _ _ h
 | .ad l,_,_,_,hQ,h=>oX (fun s h=>hQ _ _ h) (fun v s h=>hQ _ _ h) l _ h
 | .c0 l pr,_,_,_,hQ,h=>by
   unfold jW at h
   generalize oW l 0=sp at h
   cases sp with
   |none=>exact .inl (gI (fun s fp h=>⟨h.1,hQ _ _ h.2⟩) (fun v l fp h=>⟨h.1,hQ _ _ h.2⟩) l _ _ _ h)
   |some m=>exact .inr ⟨m,h.1,h.2.1,gI (fun s fp h=>⟨h.1,oX (fun s h=>hQ _ _ h) (fun v s h=>hQ _ _ h) _ _ h.2⟩) (fun v l fp h=>h.elim) _ _ _ _ h.2.2⟩
 | .seq x y,Q,Q',s,hQ,h=>eh x _ _ s (fun e s h=>by
  unfold nu at h|-
  cases e with
  |normal=>exact eh y _ _ s hQ h
  |_=>exact hQ _ _ h) h
 | .cond c x y,Q,Q',s,hQ,h=>by
   unfold jW ue fQ at h
   unfold qu
   split at h
   ·rename_i t ht
    simp only[ht]
    exact⟨fun e=>eh x _ _ s hQ (h.1 e),fun e=>eh y _ _ s hQ (h.2 e)⟩
   ·rename_i ht
    simp only[ht]
    exact⟨eh x _ _ s hQ h.1,eh y _ _ s hQ h.2⟩
   ·exact h.elim
 | .block id x,Q,Q',s,hQ,h=>eh x _ _ s (fun e s h=>by
  unfold dW at h|-
  cases e with
  |exit j=>
   simp only at h|-
   split
   ·rename_i e;rw[if_pos e]at h;exact hQ _ _ h
   ·rename_i e;rw[if_neg e]at h;exact hQ _ _ h
  |_=>exact hQ _ _ h) h
 | .loop x,Q,Q',s,hQ,h=>by
   obtain⟨ι,st,bZ,mE,i0,h0,hle,h2⟩:=h
   refine⟨fun m s=>∃i,bZ i/\mE i=m/\s=st i,⟨mE i0,st i0,hle,i0,h0,rfl,rfl⟩, ?_⟩
   rintro m s0 ⟨i,hg,rfl,rfl⟩
   refine eh x _ _ _ (fun e s h=> ?_) (h2 i hg)
   cases e with
   |normal=>
    obtain⟨j,k1,k2,k3⟩:=h
    exact⟨mE j,st j,k2,k3,j,k1,rfl,rfl⟩
   |_=>exact hQ _ _ h
 | .exit id,_,_,_,hQ,h=>hQ _ _ h
 | .ret,_,_,_,hQ,h=>hQ _ _ h
 | .DL g ps x y,_,_,_,hQ,h=>⟨h.1,match h.2 with
   | .inl h=>⟨_, .inl rfl,oT hQ h⟩
   | .inr ⟨s',hle,h⟩=>⟨s', .inr hle,oT hQ h⟩⟩
 | .bad,_,_,_,_,h=>h.elim
end
theorem aY.aN {P:Program}(aU:P.follows .mixedOrders=true){f:FuncId}{n:Nat}{ic:IC}{rs:List ResultVar}{ds:List D}{out:R}(hf:aE P f n ic rs)(hl:ds.length<=n)
 (h:jW P n 0 false ic (ve P rs out) ⟨cc (ds.map .d),fun _=> .no,0⟩):aY P f ds out:=
 aY.rB aU hf hl (eh ic _ _ _ (fun _ _ h=>h) h)
def Fl(P:Program)(rs:List ResultVar)(K X:V->(Nat->aa)->Nat->Prop)(e:eM)(s:S):Prop:=jI P rs K X e s
theorem dV.aN {P:Program}(aU:P.follows .mixedOrders=true){f:FuncId}{n:Nat}{ic:IC}{rs:List ResultVar}{args:List V}{o:Nat->aa}{nx:Nat}{K X:V->(Nat->aa)->Nat->Prop}(hf:aE P f n ic rs)(hl:args.length<=n)
 (h:jW P n nx false ic (Fl P rs K X) ⟨cc args,o,nx⟩):dV P f args o nx K X:=
 dV.rB aU hf hl (eh ic _ _ _ (fun _ _ h=>h) h)
section
variable {P:Program}{g:FuncId}{ds:List D}{o:Nat->aa}{nx:Nat}{K X:V->(Nat->aa)->Nat->Prop}{all:List V}
theorem aw{rs:List D}(h:aY P g ds (.ret rs))(hf:D.gX rs=true)(hk:K (gY rs) o (nx+1)):rC P g o nx K X ds all:= .inl ⟨.ret rs,h, .inr (.inl ⟨hf,hk⟩)⟩
theorem cW{rs:List D}(h:aY P g ds (.ret rs))(hk:K (gY rs) (put o (cq o (V.aV all))) (nx+1)):rC P g o nx K X ds all:= .inl ⟨.ret rs,h, .inl hk⟩
theorem eF(h:dV P g all o nx K X):rC P g o nx K X ds all:= .inr (.inl h)
theorem kO{e:Nat->V}{ds:Option (List D)}(h:dV P g all o nx K X):kN P g K X ⟨e,o,nx⟩ all ds:=by
 cases ds with
 |some ds=>exact(.inr (.inl h):rC P g o nx K X ds all)
 |none=>exact(.inl h:xV P g nx K X all o)
theorem bT(h:dV P g all o nx K X):xV P g nx K X all o:= .inl h
variable {K:KD}{X:XD}{rd:List Nat}{fr:Nat}
theorem bp{rs:List D}(h:aY P g ds (.ret rs))(hf:D.gX rs=true)(hk:K (gY rs) [] rd):rD P g K X o nx fr rd ds all:= .inl (.inl ⟨rs,h, .inr ⟨hf,hk⟩⟩)
theorem hU{rs:List D}(h:aY P g ds (.ret rs))(hk:K (gY rs) (cq o (V.aV all)) rd):rD P g K X o nx fr rd ds all:= .inl (.inl ⟨rs,h, .inl hk⟩)
end
theorem eG{P:Program}{f:V}{args:List V}{o:Nat->aa}{K:V->Prop}{c:Bool}(rs:List D)(h:jU c (xU P f args o rs))(hk:K (V.vF c (gY rs))):Bz P f args o K c:=⟨rs,h,hk⟩
theorem ak{t:Bool}{A B:Prop}(h:t=true->A)(h2:t=false->B):fQ A B t:=⟨h,h2⟩
theorem bg{pr:List (List Nat)}{nx:Nat}{Q:eM->S->Prop}{s:S}{fp:List (List Nat×List Nat)}(h:fY pr fp=true)(h2:Q .normal ⟨s.env,s.o,nx⟩):HP pr nx Q s fp:=⟨h,h2⟩
@[go_sem] theorem SE (o:Nat->aa):put o []=o:=rfl
@[go_sem] theorem Py (o:Nat->aa) (x:Nat×aa) (l:List (Nat×aa)):put o (x::l)=put (aM o x.1 x.2) l:=rfl
@[go_sem] theorem ag {α:Type} (f:Nat->α) (i:Nat) (x:α):aM f i x i=x:=aK
@[go_sem] theorem ah {α:Type} (f:Nat->α) (i j:Nat) (x:α) (h:j≠i):aM f i x j=f j:=by simp[h]
@[go_sem] theorem HT (v:V) (l:List V):cc (v::l) 0=v:=rfl
@[go_sem] theorem HU (v:V) (l:List V) (i:Nat):cc (v::l) (i+1)=cc l i:=rfl
@[go_sem] theorem Kh (i:Nat):cc [] i= .bC []:=by simp[cc]
@[go_sem] theorem Pz {P:Program} {o:Nat->aa} {t:TypeId} {id off:Nat}:kH P o t (.ptr id off)=match o id with
 | .row cs=>match dG P t cs off with
   |some v=>some (v,[],[id])
   |none=>none
 |_=>none:=by unfold kH;exact Eq.trans rfl rfl
@[go_sem] theorem SF {P:Program} {o:Nat->aa} {t:TypeId} {cs:List D} {off:Nat}:kH P o t (.pp cs off)=match dG P t (cs.map .d) off with
 |some v=>some (v,[],[])
 |none=>none:=by unfold kH;exact Eq.trans rfl rfl
@[go_sem] theorem SG {P:Program} {o:Nat->aa} {t:TypeId} {id ep i sz off:Nat}:kH P o t (.pe id ep i sz off)=match o id with
 | .arr fK _ om es=>if ep=fK/\sz=om then match es[i]? with
  |some e=>match dG P t (e.cells.map .d) off with
   |some v=>some (v,[],[id])
   |none=>none
  |none=>none
   else none
 |_=>none:=by unfold kH;exact Eq.trans rfl rfl
section
variable {P:Program}{o:Nat->aa}{t:TypeId}{op:BinOp}{mi:Bool}
@[go_sem] theorem PA {k:IntKind} {a b:Int}:dS P o op t mi (.d (.int k a)) (.d (.int k b))=match xE op k a b with
 |some v=>one v
 |none=>oG P o op t mi (.d (.int k a)) (.d (.int k b)):=by
  simp only[dS,vk,if_true]
  cases xE op k a b<;>rfl
@[go_sem] theorem PB {a b:Bool} (h:jJ P t=true):dS P o .eql t mi (.d (.bool a)) (.d (.bool b))=one (.d (.bool (a==b))):=by simp only[dS,vk,E1,h,if_true]
@[go_sem] theorem PC {a b:Bool} (h:jJ P t=true):dS P o .neq t mi (.d (.bool a)) (.d (.bool b))=one (.d (.bool (a !=b))):=by simp only[dS,vk,E1,h,if_true]
@[go_sem] theorem PD {a b:List UInt8}:dS P o .eql t mi (.d (.str a)) (.d (.str b))=one (.d (.bool (a==b))):=Ei
@[go_sem] theorem PE {a b:List UInt8}:dS P o .neq t mi (.d (.str a)) (.d (.str b))=one (.d (.bool (a !=b))):=Ei
@[go_sem] theorem PF {a b:List D}:dS P o op t mi (.d (.agg a)) (.d (.agg b))=oG P o op t mi (.d (.agg a)) (.d (.agg b)):=Ei
theorem Hb{x:V}{y:V}(h:match y with| .d (.int _ _)| .d (.bool _)| .d (.str _)=>False|_=>True):vk P op t x y=none:=by
 unfold vk
 split<;>first|exact h.elim|rfl
@[go_sem] theorem MI {x:V}:dS P o op t mi x .a8=oG P o op t mi x .a8:=D9
@[go_sem] theorem MJ {x:V}:dS P o op t mi x (.d .e9)=oG P o op t mi x (.d .e9):=D9
@[go_sem] theorem MK {x:V}:dS P o op t mi x (.d .j6)=oG P o op t mi x (.d .j6):=D9
@[go_sem] theorem ML {x:V}:dS P o op t mi x (.d .bK)=oG P o op t mi x (.d .bK):=D9
@[go_sem] theorem MM {x:V}:dS P o op t mi x (.d .eJ)=oG P o op t mi x (.d .eJ):=D9
@[go_sem] theorem SH {b:Bool}:Cn .not (.d (.bool b))=some (.d (.bool !b)):=Ek
@[go_sem] theorem SI:Cn .not .ek=some .ek:=Ek
@[go_sem] theorem SJ {k:IntKind} {n:Int}:Cn .neg (.d (.int k n))=some (.d (.int k (k.wrap (-n)))):=Ek
end
@[go_sem] theorem D.PG (cs:List D):(D.agg cs).cells=cs:=rfl
@[go_sem] theorem D.PH (k:IntKind) (n:Int):(D.int k n).cells=[.int k n]:=rfl
@[go_sem] theorem D.MN (b:Bool):(D.bool b).cells=[.bool b]:=rfl
@[go_sem] theorem D.PI (b:List UInt8):(D.str b).cells=[.str b]:=rfl
@[go_sem] theorem D.SK (b:List D):(D.sl b).cells=[.sl b]:=rfl
@[go_sem] theorem D.SL (a b:List D):(D.mp a b).cells=[.mp a b]:=rfl
@[go_sem] theorem D.Ki (t:TypeId) (x:D):(D.iface t x).cells=[.iface t x]:=rfl
@[go_sem] theorem D.MO:D.e9.cells=[.e9]:=rfl
@[go_sem] theorem D.MP:D.j6.cells=[.j6]:=rfl
@[go_sem] theorem D.MQ:D.bK.cells=[.bK]:=rfl
@[go_sem] theorem D.MR:D.eJ.cells=[.eJ]:=rfl
attribute [go_sem] V.ofConst V.cG xE E1 nC zM tT l7 fj fk oP eC jK nD nE nF vl gE E2 jG du bD dG uS py lV V.cells D.put cq V.ids V.aV gY D.gX D.flat R.flat
attribute [go_sem] zj List.take_succ_cons List.take_zero List.take_nil List.drop_zero List.drop_succ_cons List.drop_nil
attribute [go_sem] List.map_cons List.map_nil List.length_cons List.length_nil List.cons_append List.nil_append List.append_nil List.getElem?_cons_zero List.getElem?_cons_succ Option.bind_some Option.bind_none Option.map_some Option.map_none aa.bI aa.bL
section
variable {P:Program}{n b:Nat}{rd:Bool}{Q:eM->S->Prop}{s:S}
@[go_sem] theorem SM:jW P n b rd .skip Q s=Q .normal s:=propext Iff.rfl
@[go_sem] theorem Wj {l:List bw}:jW P n b rd (.ad l) Q s=oU P (fun v s=>Q (.bf v) s) (Q .normal) l s:=propext Iff.rfl
@[go_sem] theorem Wk {l:List bw} {pr:List (List Nat)}:jW P n b rd (.c0 l pr) Q s=HQ P l pr Q s (oW l 0):=propext Iff.rfl
@[go_sem] theorem PJ {l:List bw} {pr:List (List Nat)}:HQ P l pr Q s none=mD P (HP pr (s.nx+l.length) Q) (xR pr l s Q) pr l s.nx s []:=propext Iff.rfl
@[go_sem] theorem SN {k:Nat}:oW [] k=none:=rfl
@[go_sem] theorem SO {d:Option Nat} {t:Nat} {args:Array Operand} {ts:Array TypeId} {l:List bw} {k:Nat}:oW (⟨d, .call ⟨.value (.tmp t),args,ts⟩,none⟩::l) k=some k:=rfl
@[go_sem] theorem Wl {d:Option Nat} {op:Op} {g:Nat×Bool} {l:List bw} {k:Nat}:oW (⟨d,op,some g⟩::l) k=oW l (k+1):=rfl
@[go_sem] theorem SP {d:Option Nat} {f:Nat} {args:Array Operand} {ts:Array TypeId} {l:List bw} {k:Nat}:oW (⟨d, .call ⟨.value (.func f),args,ts⟩,none⟩::l) k=oW l (k+1):=rfl
@[go_sem] theorem Wm {d:Option Nat} {op:Op} {l:List bw} {k:Nat} (h:dC op=none):oW (⟨d,op,none⟩::l) k=oW l (k+1):=by rw[oW.eq_2];simp only[h]
@[go_sem] theorem Wn {x y:IC}:jW P n b rd (.seq x y) Q s=jW P n b rd x (nu (fun s=>jW P n b rd y Q s) Q) s:=propext Iff.rfl
@[go_sem] theorem SQ {c:Operand} {x y:IC}:jW P n b rd (.cond c x y) Q s=ue (jW P n b rd x Q s) (jW P n b rd y Q s) (s.ev c):=propext Iff.rfl
@[go_sem] theorem PK {id:Nat} {x:IC}:jW P n b rd (.block id x) Q s=jW P n b rd x (dW id Q) s:=propext Iff.rfl
@[go_sem] theorem SR {x:IC}:jW P n b rd (.loop x) Q s=BC b (fun Q s=>jW P n b rd x Q s) Q s:=propext Iff.rfl
@[go_sem] theorem SS {id:Nat}:jW P n b rd (.exit id) Q s=Q (.exit id) s:=propext Iff.rfl
@[go_sem] theorem Wo:jW P n b rd .ret Q s=Q .ret s:=propext Iff.rfl
@[go_sem] theorem Wp {g:Operand} {ps:List Nat} {x y:IC}:jW P n b rd (.DL g ps x y) Q s=xZ P n b rd g ps x y Q s (s.ev g):=propext Iff.rfl
@[go_sem] theorem SU {X:V->S->Prop} {K:S->Prop}:oU P X K [] s=K s:=propext Iff.rfl
@[go_sem] theorem PL {X:V->S->Prop} {K:S->Prop} {d:Option Nat} {op:Op} {l:List bw}:oU P X K (⟨d,op,none⟩::l) s=xX P X (oU P X K l) ⟨d,op,none⟩ s:=propext Iff.rfl
@[go_sem] theorem PM {X:V->S->Prop} {K:S->Prop} {d:Option Nat} {op:Op} {g:Nat} {w:Bool} {l:List bw}:oU P X K (⟨d,op,some (g,w)⟩::l) s=vG P X (oU P X K l) ⟨d,op,some (g,w)⟩ s (jV (s.env g) w):=propext Iff.rfl
variable {X:V->S->Prop}{K:S->Prop}{d:Option Nat}{op:Op}{g:Option (Nat×Bool)}{f:Operand}{args:Array Operand}{ts:Array TypeId}{c:Bool}
@[reducible] def PN:Op->Bool
  | .call c=>match c.callee with
    | .value _=>true
    | .invoke .. =>true
    |_=>false
  | .panic _=>true
  | .next .. =>true
  |_=>false
@[go_sem] theorem X9 (h:PN op=false):xX P X K ⟨d,op,g⟩ s=iL (fun v Δ=>K ⟨aQ s.env d v,put s.o Δ,s.nx+1⟩) (eK P s s.nx op):=by
  unfold xX
  cases op with
  |call c=>
   obtain⟨ER,args,ts⟩:=c
   cases ER with
   |value f=>simp[PN]at h
   |invoke r m=>simp[PN]at h
   |_=>rfl
  |panic x=>simp[PN]at h
  |next x str=>simp[PN]at h
  |_=>rfl
@[go_sem] theorem SV {x:Operand} {str:Bool}:xX P X K ⟨d, .next x str,g⟩ s=Fi (fun v Δ=>K ⟨aQ s.env d v,put s.o Δ,s.nx+1⟩) str (lY s.o (s.ev x) str) (lZ s.o (s.ev x)):=propext Iff.rfl
@[go_sem] theorem SW:xX P X K ⟨d, .call ⟨.value f,args,ts⟩,g⟩ s=pP P (fun v o' nx'=>K ⟨aQ s.env d v,o',nx'⟩) (fun v o' nx'=>X v ⟨s.env,o',nx'⟩) s (s.ev f) (args.toList.map s.ev):=propext Iff.rfl
@[go_sem] theorem MT {m:String}:xX P X K ⟨d, .call ⟨.invoke f m,args,ts⟩,g⟩ s=Fh P (fun v o' nx'=>K ⟨aQ s.env d v,o',nx'⟩) (fun v o' nx'=>X v ⟨s.env,o',nx'⟩) s (args.toList.map s.ev) (ra P m (s.ev f)):=propext Iff.rfl
@[go_sem] theorem PO:xX P X K ⟨d, .panic f,g⟩ s=C4 (fun v=>X v s) (s.ev f):=propext Iff.rfl
@[go_sem] theorem PQ:vG P X K ⟨d, .call ⟨.value f,args,ts⟩,g⟩ s (some c)=Aa P X K ⟨d, .call ⟨.value f,args,ts⟩,g⟩ s f args.toList c:=propext Iff.rfl
theorem fu{e:Nat->V}{ob:Nat->aa}{nx:Nat}(h:Bz P ((⟨e,ob,nx⟩:S).ev f) (args.toList.map (⟨e,ob,nx⟩:S).ev) ob (fun v=>K ⟨aQ e d v,ob,nx+1⟩) c):Aa P X K ⟨d,op,g⟩ ⟨e,ob,nx⟩ f args.toList c:= .inl h
theorem x5{s:S}{o:bw}{l:List Operand}(h:fQ (xX P X K o s) (K ⟨aQ s.env o.dst (.bC []),s.o,s.nx+1⟩) c):Aa P X K o s f l c:= .inr h
@[go_sem] theorem PR (h:iZ op=true):vG P X K ⟨d,op,g⟩ s (some c)=iL (fun v _=>K ⟨aQ s.env d v,s.o,s.nx+1⟩) (iY c (eK P s s.nx op)):=by
  have h2:dC op=none:=by
   cases hc:dC op with
   |none=>rfl
   |some x=>
    exfalso
    unfold dC at hc
    split at hc
    ·split at hc
     ·rename_i hv;simp[iZ,hv]at h
     ·cases hc
    ·cases hc
  simp only[vG,h2,h,if_true]
@[go_sem] theorem PS (h:iZ op=false) (h2:dC op=none):vG P X K ⟨d,op,g⟩ s (some c)=fQ (xX P X K ⟨d,op,g⟩ s) (K ⟨aQ s.env d (.bC []),s.o,s.nx+1⟩) c:=by
  simp[vG,h2,h]
@[go_sem] theorem MU {l:List Operand}:Aa P X K ⟨d,op,g⟩ s f l false=K ⟨aQ s.env d (.bC []),s.o,s.nx+1⟩:=by
  refine propext ⟨fun h=> ?_,fun h=> .inr ⟨(fun e=>by cases e),fun _=>h⟩⟩
  rcases h with⟨rs,_,h⟩|h
  ·exact h
  ·exact h.2 rfl
@[go_sem] theorem PT {l:List Operand} (hl:args.toList=l):Aa P X K ⟨d, .call ⟨.value f,args,ts⟩,g⟩ s f l true=xX P X K ⟨d, .call ⟨.value f,args,ts⟩,g⟩ s:=by
  subst hl
  refine propext ⟨fun h=> ?_,fun h=> .inr ⟨fun _=>h,(fun e=>by cases e)⟩⟩
  rcases h with⟨rs,h1,h⟩|h
  ·have h1:=h1 rfl
   unfold xU at h1
   unfold xX pP kN
   simp only
   split at h1
   ·rename_i fv gg first cap hf
    simp only[hf]
    split at h1
    ·rename_i ds dM
     simp only[dM]
     exact .inl ⟨.ret rs,h1.1, .inr (.inl ⟨h1.2,h⟩)⟩
    ·exact h1.elim
   ·exact h1.elim
  ·exact h.1 rfl
variable {KV:KD}{XV:XD}
@[go_sem] theorem SX {fr:Nat}:GX P KV XV fr ⟨d, .call ⟨.value f,args,ts⟩,g⟩ s=xY P KV XV s.o s.nx fr (lQ s (.call ⟨.value f,args,ts⟩)) (s.ev f) (args.toList.map s.ev):=propext Iff.rfl
@[go_sem] theorem Ya {fr:Nat} (h2:dC op=none):GX P KV XV fr ⟨d,op,g⟩ s=rE KV (lQ s op) (eK P s fr op):=by simp[GX,h2]
variable {KS:S->Prop}
@[go_sem ↓] theorem HV:nu KS Q .normal s=KS s:=propext Iff.rfl
@[go_sem ↓] theorem MV {id:Nat}:nu KS Q (.exit id) s=Q (.exit id) s:=propext Iff.rfl
@[go_sem ↓] theorem PU:nu KS Q .ret s=Q .ret s:=propext Iff.rfl
@[go_sem ↓] theorem PV {v:V}:nu KS Q (.bf v) s=Q (.bf v) s:=propext Iff.rfl
@[go_sem ↓] theorem GY {id:Nat}:dW id Q .normal s=Q .normal s:=propext Iff.rfl
@[go_sem ↓] theorem Kj {id:Nat}:dW id Q (.exit id) s=Q .normal s:=by simp[dW]
@[go_sem ↓] theorem HW {id j:Nat} (h:j≠id):dW id Q (.exit j) s=Q (.exit j) s:=by simp[dW,h]
@[go_sem ↓] theorem MW {id:Nat}:dW id Q .ret s=Q .ret s:=propext Iff.rfl
@[go_sem ↓] theorem MX {id:Nat} {v:V}:dW id Q (.bf v) s=Q (.bf v) s:=propext Iff.rfl
def HX(out:R)(x:Option (List D)):Prop:=match x with|some ds=>out= .ret ds|none=>False
@[go_sem] theorem PW {out:R} {ds:List D}:HX out (some ds)=(out= .ret ds):=propext Iff.rfl
def MY(out:R)(x:Option D):Prop:=match x with|some d=>out= .bf d|none=>False
@[go_sem] theorem PX {out:R} {d:D}:MY out (some d)=(out= .bf d):=propext Iff.rfl
def HY(out:R)(o:Nat->aa)(x:Option (List V)):Prop:=match x with|some vs=>HX out (bD o vs)|none=>False
@[go_sem] theorem PY {out:R} {o:Nat->aa} {vs:List V}:HY out o (some vs)=HX out (bD o vs):=propext Iff.rfl
variable {rs:List ResultVar}{out:R}
@[go_sem ↓] theorem PZ:ve P rs out .ret s=HY out s.o (jG P s rs):=propext Iff.rfl
@[go_sem ↓] theorem HZ:ve P rs out .normal s=HY out s.o (jG P s rs):=propext Iff.rfl
@[go_sem ↓] theorem P8 {v:V}:ve P rs out (.bf v) s=MY out (du s.o v):=propext Iff.rfl
def x6(K:V->(Nat->aa)->Nat->Prop)(o:Nat->aa)(nx:Nat)(x:Fix (Option (List V)) (K,o,nx)):Prop:=match x with
 |some [v]=>K v o nx
 |some vs=>K (.bC vs) o nx
 |none=>False
@[go_sem] theorem SY {K:V->(Nat->aa)->Nat->Prop} {o:Nat->aa} {nx:Nat} {v:V}:x6 K o nx (some [v])=K v o nx:=propext Iff.rfl
@[go_sem] theorem SZ {K:V->(Nat->aa)->Nat->Prop} {o:Nat->aa} {nx:Nat}:x6 K o nx (some [])=K (.bC []) o nx:=propext Iff.rfl
@[go_sem] theorem S0 {K:V->(Nat->aa)->Nat->Prop} {o:Nat->aa} {nx:Nat} {v u:V} {l:List V}:x6 K o nx (some (v::u::l))=K (.bC (v::u::l)) o nx:=propext Iff.rfl
theorem BE{K X:V->(Nat->aa)->Nat->Prop}:jI P rs K X .ret s=x6 K s.o s.nx (jG P s rs):=by
 unfold jI x6
 cases jG P s rs with
 |none=>rfl
 |some l=>match l with
  |[]=>rfl
  |[_]=>rfl
  |_::_::_=>rfl
@[go_sem ↓] theorem S1 {K X:V->(Nat->aa)->Nat->Prop}:Fl P rs K X .ret s=x6 K s.o s.nx (jG P s rs):=BE
@[go_sem ↓] theorem Kk {K X:V->(Nat->aa)->Nat->Prop}:Fl P rs K X .normal s=x6 K s.o s.nx (jG P s rs):=(BE (X:=X):jI P rs K X .ret s=_)
@[go_sem ↓] theorem S2 {K X:V->(Nat->aa)->Nat->Prop} {v:V}:Fl P rs K X (.bf v) s=X v s.o s.nx:=propext Iff.rfl
variable {KE:S->Fp->Prop}{KP:V->List Nat->Fp->Prop}{pr:List (List Nat)}{fr:Nat}{fp:Fp}
@[go_sem] theorem S3:mD P KE KP pr [] fr s fp=KE s fp:=propext Iff.rfl
@[go_sem] theorem P9 {d:Option Nat} {op:Op} {l:List bw}:mD P KE KP pr (⟨d,op,none⟩::l) fr s fp=
 GX P (fun v Δ rd=>mD P KE KP pr l (fr+1) ⟨aQ s.env d v,put s.o Δ,s.nx⟩ (fp++[(rd,Δ.map (·.1))]))
  (fun v ws rd=>C5 P (KP v) pr l (fr+1) (fp++[(rd,[])]) [fp.length] (ws++fp.flatMap (·.2)) ⟨aQ s.env d .ab,s.o,s.nx⟩) fr ⟨d,op,none⟩ s:=propext Iff.rfl
@[go_sem] theorem Qa {d:Option Nat} {op:Op} {g:Nat} {w:Bool} {l:List bw}:mD P KE KP pr (⟨d,op,some (g,w)⟩::l) fr s fp=
 hO w (GX P (fun v Δ rd=>mD P KE KP pr l (fr+1) ⟨aQ s.env d v,put s.o Δ,s.nx⟩ (fp++[(rd,Δ.map (·.1))]))
  (fun v ws rd=>C5 P (KP v) pr l (fr+1) (fp++[(rd,[])]) [fp.length] (ws++fp.flatMap (·.2)) ⟨aQ s.env d .ab,s.o,s.nx⟩) fr ⟨d,op,some (g,w)⟩ s)
   (mD P KE KP pr l (fr+1) ⟨aQ s.env d (.bC []),s.o,s.nx⟩ (fp++[([],[])])) (s.env g):=propext Iff.rfl
end
attribute [go_sem] PN dC iZ eK one jL aQ S.ev xU
theorem ax{ι:Type}{b:Nat}{st:ι->S}{bZ:ι->Prop}{mE:ι->Nat}{i:ι}{s:S}(j:ι)(h1:bZ j)(h2:mE j<mE i)(h3:bM b s (st j)):BB b st bZ mE i s:=⟨j,h1,h2,h3⟩
attribute [irreducible] HQ Ke jW oU xX vG Aa pP kN xW Fg Fh Bz rC xV iL C4 fQ hO Fj rD vH oV xY rE GX mD C5 xZ ud Fl x6 HP ue BC HX MY HY rF BB
end
section
section
variable (ρ:Nat->Option Nat)(o' o:Nat->aa)(nx:Nat)
end
section
variable {M M':Nat->Prop}{φ aA:Place}{H H':Hp}{w:World}{ρ:Nat->Option Nat}{nx:Nat}
end
end
end Go.Proofs.YtlhemmpklhhgoaaGreat
