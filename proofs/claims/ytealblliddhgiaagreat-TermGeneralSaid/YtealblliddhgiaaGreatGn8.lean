/-
  A PART OF THE PROOF. Conditions: none.
-/
import Derived.Test.YtealblliddhgiaaGreatGn7
set_option linter.unusedSimpArgs false
set_option linter.unusedVariables false
namespace Go.Proofs.YtealblliddhgiaaGreat
def rK(P:Program)(g:FuncId)(ds:List D)(Kf Kb KX:V->Prop):Prop:=
 (∃rs,bJ P g ds (.ret rs)/\(Kf (gS rs)\/(D.jE rs=true/\Kb (gS rs))))\/(∃x,bJ P g ds (.bG x)/\x.flat=true/\KX (.d x))\/(∃v,Rt P g ds v/\Kf v)
def iY(P:Program)(g:FuncId)(args:List V)(o:Nat->ae)(nx fr:Nat)(K:V->List (Nat×ae)->List Nat->Prop)(KX:V->List Nat->List Nat->Prop):Prop:=
 ∃rd Δ,rd.all (fun id=>decide (id<nx))=true/\((∃rs,xP P g args rd o (.ret rs) Δ/\K (gS rs) Δ rd)\/(∃x,xP P g args rd o (.bG x) Δ/\KX (.d x) (Δ.map (·.1)) rd)\/(∃v,Cm P g args rd o fr v Δ/\K v Δ rd))
def yX(P:Program)(s:S)(fr:Nat)(o:cg)(K:V->List (Nat×ae)->List Nat->Prop)(KX:V->List Nat->List Nat->Prop):Prop:=
 match o.op with
 | .call c=>match c.callee with
   | .value f=>match s.ev f with
     | .func (.func g) first cap=>match cc s.o (first++c.args.toList.map s.ev++cap)with
       |some ds=>rK P g ds (fun v=>K v (cQ s.o (V.bf (first++c.args.toList.map s.ev++cap))) (jr s o.op)) (fun v=>K v [] (jr s o.op)) (fun v=>KX v [] (jr s o.op))\/iY P g (first++c.args.toList.map s.ev++cap) s.o s.nx fr K KX
       |none=>iY P g (first++c.args.toList.map s.ev++cap) s.o s.nx fr K KX
     |_=>False
   |_=>match gr P s fr o.op with
    |some (v,Δ,_)=>K v Δ (jr s o.op)
    |none=>False
 |op=>match gr P s fr op with
  |some (v,Δ,_)=>K v Δ (jr s o.op)
  |none=>False
abbrev Fp:=List (List Nat×List Nat)
def ij(P:Program)(KB:List Nat->Fp->Prop)(pr:List (List Nat)):List cg->Nat->S->Fp->List Nat->List Nat->Prop
 |[],_,_,fp,_,ws=>KB ws fp
 |o::l,fr,s,fp,bad,ws=>if(pr.getD fp.length []).any (fun j=>bad.contains j)=true then ij P KB pr l (fr+1) ⟨a8 s.env o.dst .ab,s.o,s.nx⟩ (fp++[([],[])]) (bad++[fp.length]) ws
  else match o.gd with
  |none=>yX P s fr o (fun v Δ rd=>ij P KB pr l (fr+1) ⟨a8 s.env o.dst v,put s.o Δ,s.nx⟩ (fp++[(rd,Δ.map (·.1))]) bad (ws++Δ.map (·.1))) (fun _ _ _=>False)
  |some (d,want)=>match s.env d with
   | .d (.bool b)=>if b=want then yX P s fr o (fun v Δ rd=>ij P KB pr l (fr+1) ⟨a8 s.env o.dst v,put s.o Δ,s.nx⟩ (fp++[(rd,Δ.map (·.1))]) bad (ws++Δ.map (·.1))) (fun _ _ _=>False)
    else ij P KB pr l (fr+1) ⟨a8 s.env o.dst (.bS []),s.o,s.nx⟩ (fp++[([],[])]) bad ws
   | .bS []=>ij P KB pr l (fr+1) ⟨a8 s.env o.dst (.bS []),s.o,s.nx⟩ (fp++[([],[])]) bad ws
   |_=>False
def kK(P:Program)(K:S->Fp->Prop)(KP:V->List Nat->Fp->Prop)(pr:List (List Nat)):List cg->Nat->S->Fp->Prop
 |[],_,s,fp=>K s fp
 |o::l,fr,s,fp=>match o.gd with
  |none=>yX P s fr o (fun v Δ rd=>kK P K KP pr l (fr+1) ⟨a8 s.env o.dst v,put s.o Δ,s.nx⟩ (fp++[(rd,Δ.map (·.1))]))
   (fun v ws rd=>ij P (KP v) pr l (fr+1) ⟨a8 s.env o.dst .ab,s.o,s.nx⟩ (fp++[(rd,[])]) [fp.length] (ws++fp.flatMap (·.2)))
  |some (d,want)=>match s.env d with
   | .d (.bool b)=>if b=want then yX P s fr o (fun v Δ rd=>kK P K KP pr l (fr+1) ⟨a8 s.env o.dst v,put s.o Δ,s.nx⟩ (fp++[(rd,Δ.map (·.1))]))
         (fun v ws rd=>ij P (KP v) pr l (fr+1) ⟨a8 s.env o.dst .ab,s.o,s.nx⟩ (fp++[(rd,[])]) [fp.length] (ws++fp.flatMap (·.2)))
    else kK P K KP pr l (fr+1) ⟨a8 s.env o.dst (.bS []),s.o,s.nx⟩ (fp++[([],[])])
   | .bS []=>kK P K KP pr l (fr+1) ⟨a8 s.env o.dst (.bS []),s.o,s.nx⟩ (fp++[([],[])])
   |_=>False
def Cv(pr:List (List Nat))(nx:Nat)(Q:fy->S->Prop)(s:S)(fp:Fp):Prop:=eB pr fp=true/\Q .normal ⟨s.env,s.o,nx⟩
def dstsOf(l:List cg):List Nat:=l.filterMap (·.dst)
def Ad(pr:List (List Nat))(l:List cg)(s0:S)(Q:fy->S->Prop)(v:V)(wl:List Nat)(fp:Fp):Prop:=eB pr fp=true/\Q (.bG v) (qJ (dstsOf l) wl l.length s0)
def mX:List cg->List fj->S->Nat->S
 |_,_,s,0=>s
 |o::l,x::xs,s,j+1=>mX l xs (vf o.dst x s) j
 |_,_,s,_=>s
def wy(cd:List fj):Fp:=cd.map fun x=>(vw x,kI x)
section
variable {P:Program}{n b:Nat}
theorem Ae{s:S}{fr:Nat}{o:cg}{K:V->List (Nat×ae)->List Nat->Prop}{KX:V->List Nat->List Nat->Prop}(h:yX P s fr o K KX):(∃v Δ rd,wo P s fr o.op v Δ rd/\K v Δ rd)\/(∃v ws rd,zX P s o.op v ws rd/\KX v ws rd):=by
 have hs:∀ {op:Op},o.op=op->(match gr P s fr op with|some (v,Δ,_)=>K v Δ (jr s o.op)|none=>False)->(∃v Δ rd,wo P s fr o.op v Δ rd/\K v Δ rd):=by
  intro op dD h
  split at h
  ·rename_i v Δ rd he;exact⟨v,Δ,_, .inl ⟨⟨rd,by rw[dD];exact he⟩,rfl⟩,h⟩
  ·exact h.elim
 unfold yX at h
 split at h
 ·rename_i c hc
  split at h
  ·rename_i f dY
   split at h
   ·rename_i g first cap hf
    split at h
    ·rename_i ds eP
     rcases h with(⟨rs,hP,h|⟨o9,h⟩⟩|⟨x,hP,o9,h⟩|⟨v,hP,h⟩)|⟨rd,Δ,my,⟨rs,hH,h⟩|⟨x,hH,h⟩|⟨v,hH,h⟩⟩
     ·exact .inl ⟨_,_,_, .inr ⟨c,f,g,first,cap,hc,dY,hf, .inl ⟨ds,rs,eP,hP,rfl,rfl, .inl rfl⟩⟩,h⟩
     ·exact .inl ⟨_,_,_, .inr ⟨c,f,g,first,cap,hc,dY,hf, .inl ⟨ds,rs,eP,hP,rfl,rfl, .inr ⟨o9,rfl⟩⟩⟩,h⟩
     ·exact .inr ⟨_,_,_,⟨c,f,g,first,cap,hc,dY,hf, .inl ⟨ds,x,eP,hP,o9,rfl,rfl,rfl⟩⟩,h⟩
     ·exact .inl ⟨_,_,_, .inr ⟨c,f,g,first,cap,hc,dY,hf, .inr (.inr (.inl ⟨ds,eP,hP,rfl,rfl⟩))⟩,h⟩
     ·exact .inl ⟨_,_,_, .inr ⟨c,f,g,first,cap,hc,dY,hf, .inr (.inl ⟨rs,hH,rfl,fun id ax=>by simpa using List.all_eq_true.1 my id ax⟩)⟩,h⟩
     ·exact .inr ⟨_,_,_,⟨c,f,g,first,cap,hc,dY,hf, .inr ⟨x,Δ,hH,rfl,rfl,fun id ax=>by simpa using List.all_eq_true.1 my id ax⟩⟩,h⟩
     ·exact .inl ⟨_,_,_, .inr ⟨c,f,g,first,cap,hc,dY,hf, .inr (.inr (.inr ⟨hH,fun id ax=>by simpa using List.all_eq_true.1 my id ax⟩))⟩,h⟩
    ·obtain⟨rd,Δ,my,⟨rs,hH,h⟩|⟨x,hH,h⟩|⟨v,hH,h⟩⟩:=h
     ·exact .inl ⟨_,_,_, .inr ⟨c,f,g,first,cap,hc,dY,hf, .inr (.inl ⟨rs,hH,rfl,fun id ax=>by simpa using List.all_eq_true.1 my id ax⟩)⟩,h⟩
     ·exact .inr ⟨_,_,_,⟨c,f,g,first,cap,hc,dY,hf, .inr ⟨x,Δ,hH,rfl,rfl,fun id ax=>by simpa using List.all_eq_true.1 my id ax⟩⟩,h⟩
     ·exact .inl ⟨_,_,_, .inr ⟨c,f,g,first,cap,hc,dY,hf, .inr (.inr (.inr ⟨hH,fun id ax=>by simpa using List.all_eq_true.1 my id ax⟩))⟩,h⟩
   ·exact h.elim
  ·rw[hc]at h;exact .inl (hs hc (by rw[hc];exact h))
 ·exact .inl (hs rfl h)
def JG(P:Program)(KB:List Nat->Fp->Prop)(pr:List (List Nat))(l:List cg)(fr:Nat)(s:S)(fp:Fp)(bad ws:List Nat):Prop:=
    ∃cd:List fj,cd.length=l.length/\(∀j o x,l[j]? =some o->cd[j]? =some x->LU P (mX l cd s j) (fr+j) o x)/\
     (∀ (j:Nat),cd[j]? =some fj.dN->∃i∈pr.getD (fp.length+j) [],i∈bad\/∃j',j'<j/\i=fp.length+j'/\cd[j']? =some .dN)/\(∀x∈cd,x= .dN\/x.ok=true)/\
     ∃wl,KB wl (fp++wy cd)/\(∀id∈ws,id∈wl)/\∀x∈cd,∀id∈kI x,id∈wl
theorem Af{KB:List Nat->Fp->Prop}{pr:List (List Nat)}:∀ (l:List cg) (fr:Nat) (s:S) (fp:Fp) (bad ws:List Nat),ij P KB pr l fr s fp bad ws->JG P KB pr l fr s fp bad ws
 |[],fr,s,fp,bad,ws,h=>⟨[],rfl,fun j o x hj=>by simp at hj,fun j hj=>by simp at hj,fun x hx=>by simp at hx,ws,by simpa[wy,ij]using h,fun _ h=>h,fun x hx=>by simp at hx⟩
 |o::l,fr,s,fp,bad,ws,h=>by
  have step:∀ (x:fj) (JH LX:List Nat),LU P s fr o x->ij P KB pr l (fr+1) (vf o.dst x s) (fp++[(vw x,kI x)]) JH LX->(x= .dN\/x.ok=true)->(x= .dN->∃i∈pr.getD fp.length [],i∈bad)->
   (∀i∈JH,i∈bad\/(i=fp.length/\x= .dN))->(∀id∈ws,id∈LX)->(∀id∈kI x,id∈LX)->
   JG P KB pr (o::l) fr s fp bad ws:=by
   intro x JH LX bA hr hbo Fg NC JE hW
   obtain⟨cd,h1,h2,h3,h4,wl,h5,h6,h7⟩:=Af l (fr+1) _ _ JH LX hr
   refine⟨x::cd,by simp[h1],fun j o' y hj hy=> ?_,fun j hj=> ?_,fun y hy=> ?_,wl,by simpa[wy]using h5,fun id ax=>h6 id (JE id ax),fun y hy id ax=> ?_⟩
   ·cases j with
    |zero=>simp at hj hy;subst hj;subst hy;exact bA
    |succ j=>
     have:=h2 j o' y (by simpa using hj) (by simpa using hy)
     rw[show fr+(j+1)=fr+1+j by omega]
     exact this
   ·cases j with
    |zero=>
     simp at hj
     obtain⟨i,i1,i2⟩:=Fg hj
     exact⟨i,by simpa using i1, .inl i2⟩
    |succ j=>
     obtain⟨i,i1,i2⟩:=h3 j (by simpa using hj)
     simp only[List.length_append,List.length_cons,List.length_nil]at i1 i2
     refine⟨i,by rw[show fp.length+(j+1)=fp.length+(0+1)+j by omega];exact i1, ?_⟩
     rcases i2 with i2|⟨j',j1,j2,j3⟩
     ·rcases NC i i2 with hb|⟨e1,e2⟩
      ·exact .inl hb
      ·exact .inr ⟨0,by omega,by omega,by simp[e2]⟩
     ·exact .inr ⟨j'+1,by omega,by omega,by simpa using j3⟩
   ·rcases List.mem_cons.1 hy with rfl|hy
    ·exact hbo
    ·exact h4 y hy
   ·rcases List.mem_cons.1 hy with rfl|hy
    ·exact h6 id (hW id ax)
    ·exact h7 y hy id ax
  simp only[ij]at h
  split at h
  ·rename_i hb
   obtain⟨j,ZN,GH⟩:=List.any_eq_true.1 hb
   exact step .dN _ _ trivial h (.inl rfl) (fun _=>⟨j,ZN,by simpa using GH⟩) (fun i hi=>by
    rcases List.mem_append.1 hi with hi|hi
    ·exact .inl hi
    ·exact .inr ⟨by simpa using hi,rfl⟩) (fun _ h=>h) (fun id ax=>by simp[kI]at ax)
  ·have tN:dg s o.gd true->yX P s fr o (fun v Δ rd=>ij P KB pr l (fr+1) ⟨a8 s.env o.dst v,put s.o Δ,s.nx⟩ (fp++[(rd,Δ.map (·.1))]) bad (ws++Δ.map (·.1))) (fun _ _ _=>False)->JG P KB pr (o::l) fr s fp bad ws:=fun hg h=>by
    rcases Ae h with⟨v,Δ,rd,rY,h⟩|⟨v,LX,rd,_,h⟩
    ·exact step (.val v Δ rd) bad (ws++Δ.map (·.1)) ⟨hg,rY⟩ h (.inr rfl) (fun h=>by cases h) (fun i hi=> .inl hi) (fun id ax=>List.mem_append.2 (.inl ax)) (fun id ax=>List.mem_append.2 (.inr ax))
    ·exact h.elim
   have skip:dg s o.gd false->ij P KB pr l (fr+1) ⟨a8 s.env o.dst (.bS []),s.o,s.nx⟩ (fp++[([],[])]) bad ws->JG P KB pr (o::l) fr s fp bad ws:=fun hg h=>
    step .skip bad ws hg h (.inr rfl) (fun h=>by cases h) (fun i hi=> .inl hi) (fun id ax=>ax) (fun id ax=>by simp[kI]at ax)
   split at h
   ·rename_i hg;exact tN (by rw[hg];rfl) h
   ·rename_i d want hg
    split at h
    ·rename_i c hv
     split at h
     ·rename_i e;exact tN (by rw[hg];simp[dg,hv,e]) h
     ·rename_i e;exact skip (by rw[hg];simp[dg,hv,e]) h
    ·rename_i hv;exact skip (by rw[hg];simp[dg,hv]) h
    ·exact h.elim
def G8(P:Program)(K:S->Fp->Prop)(KP:V->List Nat->Fp->Prop)(pr:List (List Nat))(l:List cg)(fr:Nat)(s:S)(fp:Fp):Prop:=
 ∃cd:List fj,cd.length=l.length/\(∀j o x,l[j]? =some o->cd[j]? =some x->LU P (mX l cd s j) (fr+j) o x)/\
  (((∀x∈cd,x.ok=true)/\K (mX l cd s l.length) (fp++wy cd))\/
   ∃v wl,(∀ (j:Nat) (v':V) (ws rd:List Nat),cd[j]? =some (fj.bG v' ws rd)->v'=v/\∀id∈ws,id∈wl)/\(∃x∈cd,x.ok=false)/\
    (∀ (j:Nat),cd[j]? =some fj.dN->∃i∈pr.getD (fp.length+j) [],∃j',i=fp.length+j'/\∃y,cd[j']? =some y/\y.ok=false)/\KP v wl (fp++wy cd)/\(∀x∈cd,∀id∈kI x,id∈wl)/\∀id∈fp.flatMap (·.2),id∈wl)
theorem tO{K:S->Fp->Prop}{KP:V->List Nat->Fp->Prop}{pr:List (List Nat)}:∀ (l:List cg) (fr:Nat) (s:S) (fp:Fp),kK P K KP pr l fr s fp->G8 P K KP pr l fr s fp
 |[],fr,s,fp,h=>⟨[],rfl,fun j o x hj=>by simp at hj, .inl ⟨fun x hx=>by simp at hx,by simpa[mX,wy,kK]using h⟩⟩
 |o::l,fr,s,fp,h=>by
  have step:∀ (x:fj),x.ok=true->LU P s fr o x->kK P K KP pr l (fr+1) (vf o.dst x s) (fp++[(vw x,kI x)])->G8 P K KP pr (o::l) fr s fp:=by
   intro x Rz bA hr
   obtain⟨cd,h1,h2,h3⟩:=tO l (fr+1) _ _ hr
   refine⟨x::cd,by simp[h1],fun j o' y hj hy=> ?_, ?_⟩
   ·cases j with
    |zero=>simp at hj hy;subst hj;subst hy;exact bA
    |succ j=>
     have:=h2 j o' y (by simpa using hj) (by simpa using hy)
     rw[show fr+(j+1)=fr+1+j by omega]
     exact this
   ·rcases h3 with⟨h3,h4⟩|⟨v,wl,g1,g2,g3,g4,g5,g6⟩
    ·left
     refine⟨fun y hy=> ?_,by simpa[mX,wy]using h4⟩
     rcases List.mem_cons.1 hy with rfl|hy
     ·exact Rz
     ·exact h3 y hy
    ·right
     refine⟨v,wl,fun j v' ws rd hj=> ?_, ?_,fun j hj=> ?_,by simpa[wy]using g4,fun y hy id ax=> ?_,fun id ax=>g6 id (by simp only[List.flatMap_append,List.mem_append];exact .inl ax)⟩
     ·cases j with
      |zero=>simp at hj;rw[hj]at Rz;cases Rz
      |succ j=>exact g1 j v' ws rd (by simpa using hj)
     ·obtain⟨y,y1,y2⟩:=g2;exact⟨y,by simp[y1],y2⟩
     ·cases j with
      |zero=>simp at hj;rw[hj]at Rz;cases Rz
      |succ j=>
       obtain⟨i,i1,j',i2,y,i3,i4⟩:=g3 j (by simpa using hj)
       simp only[List.length_append,List.length_cons,List.length_nil]at i1 i2
       exact⟨i,by rw[show fp.length+(j+1)=fp.length+(0+1)+j by omega];exact i1,j'+1,by omega,y,by simpa using i3,i4⟩
     ·rcases List.mem_cons.1 hy with rfl|hy
      ·exact g6 id (by simp only[List.flatMap_append,List.mem_append];exact .inr (by simpa using ax))
      ·exact g5 y hy id ax
  have bG:∀ (v:V) (ws rd:List Nat),LU P s fr o (.bG v ws rd)->ij P (KP v) pr l (fr+1) ⟨a8 s.env o.dst .ab,s.o,s.nx⟩ (fp++[(rd,[])]) [fp.length] (ws++fp.flatMap (·.2))->G8 P K KP pr (o::l) fr s fp:=by
   intro v ws rd bA hr
   obtain⟨cd,h1,h2,h3,h4,wl,h5,h6,h7⟩:=Af l (fr+1) _ _ _ _ hr
   refine⟨fj.bG v ws rd::cd,by simp[h1],fun j o' y hj hy=> ?_, .inr ⟨v,wl,fun j v' LX wm hj=> ?_,⟨fj.bG v ws rd,by simp,rfl⟩,fun j hj=> ?_,by simpa[wy,vw,kI]using h5,fun y hy id ax=> ?_,fun id ax=>h6 id (List.mem_append.2 (.inr ax))⟩⟩
   ·cases j with
    |zero=>simp at hj hy;subst hj;subst hy;exact bA
    |succ j=>
     have:=h2 j o' y (by simpa using hj) (by simpa using hy)
     rw[show fr+(j+1)=fr+1+j by omega]
     exact this
   ·cases j with
    |zero=>simp at hj;obtain⟨rfl,rfl,rfl⟩:=hj;exact⟨rfl,fun id ax=>h6 id (List.mem_append.2 (.inl ax))⟩
    |succ j=>
     have hm:=List.mem_of_getElem? (show cd[j]? =some (.bG v' LX wm) by simpa using hj)
     rcases h4 _ hm with h|h<;>cases h
   ·cases j with
    |zero=>simp at hj
    |succ j=>
     obtain⟨i,i1,i2⟩:=h3 j (by simpa using hj)
     simp only[List.length_append,List.length_cons,List.length_nil]at i1 i2
     refine⟨i,by rw[show fp.length+(j+1)=fp.length+(0+1)+j by omega];exact i1, ?_⟩
     rcases i2 with i2|⟨j',j1,j2,j3⟩
     ·exact⟨0,by simpa using i2,_,rfl,rfl⟩
     ·exact⟨j'+1,by omega, .dN,by simpa using j3,rfl⟩
   ·rcases List.mem_cons.1 hy with rfl|hy
    ·simp[kI]at ax
    ·exact h7 y hy id ax
  have tN:dg s o.gd true->yX P s fr o (fun v Δ rd=>kK P K KP pr l (fr+1) ⟨a8 s.env o.dst v,put s.o Δ,s.nx⟩ (fp++[(rd,Δ.map (·.1))]))
   (fun v ws rd=>ij P (KP v) pr l (fr+1) ⟨a8 s.env o.dst .ab,s.o,s.nx⟩ (fp++[(rd,[])]) [fp.length] (ws++fp.flatMap (·.2)))->G8 P K KP pr (o::l) fr s fp:=fun hg h=>by
   rcases Ae h with⟨v,Δ,rd,rY,h⟩|⟨v,ws,rd,rY,h⟩
   ·exact step (.val v Δ rd) rfl ⟨hg,rY⟩ h
   ·exact bG v ws rd ⟨hg,rY⟩ h
  have skip:dg s o.gd false->kK P K KP pr l (fr+1) ⟨a8 s.env o.dst (.bS []),s.o,s.nx⟩ (fp++[([],[])])->G8 P K KP pr (o::l) fr s fp:=fun hg h=>step .skip rfl hg h
  simp only[kK]at h
  split at h
  ·rename_i hg;exact tN (by rw[hg];rfl) h
  ·rename_i d want hg
   split at h
   ·rename_i c hv
    split at h
    ·rename_i e;exact tN (by rw[hg];simp[dg,hv,e]) h
    ·rename_i e;exact skip (by rw[hg];simp[dg,hv,e]) h
   ·rename_i hv;exact skip (by rw[hg];simp[dg,hv]) h
   ·exact h.elim
end
end Go.Proofs.YtealblliddhgiaaGreat
namespace Go.Proofs.YtealblliddhgiaaGreat
def ss(env:Nat->V):List Nat->List V->Nat->V
 |t::ps,v::vs=>ss (ak env t v) ps vs
 |_,_=>env
def G9(pr:List (List Nat))(m:Nat):Bool:=(List.range pr.length).all fun k=>Nat.blt k m||Nat.beq ((ee pr []).getD k 0) (2^k - 1)
def Ha(P:Program)(l:List cg)(pr:List (List Nat))(Q:fy->S->Prop)(s:S):Prop:=
 ∃m,m<=l.length/\G9 pr m=true/\kK P (fun s' fp=>eB pr fp=true/\oK P (fun v s=>Q (.bG v) s) (Q .normal) (l.drop m) ⟨s'.env,s'.o,s.nx+m⟩) (fun _ _ _=>False) pr (l.take m) s.nx s []
def sG(P:Program)(n b:Nat)(rd:Bool):IC->(fy->S->Prop)->S->Prop
 | .skip,Q,s=>Q .normal s
 | .af l,Q,s=>oK P (fun v s=>Q (.bG v) s) (Q .normal) l s
 | .cP l pr,Q,s=>kK P (Cv pr (s.nx+l.length) Q) (Ad pr l s Q) pr l s.nx s []\/Ha P l pr Q s
 | .seq x y,Q,s=>sG P n b rd x (pI (sG P n b rd y Q) Q) s
 | .cond c x y,Q,s=>match s.ev c with
   | .d (.bool t)=>pV t (sG P n b rd x Q s) (sG P n b rd y Q s)
   | .eZ=>sG P n b rd x Q s/\sG P n b rd y Q s
   |_=>False
 | .block id x,Q,s=>sG P n b rd x (ft id Q) s
 | .loop x,Q,s=>G3 b (sG P n b rd x) Q s
 | .exit id,Q,s=>Q (.exit id) s
 | .ret,Q,s=>Q .ret s
 | .ED g ps x y,Q,s=>rd=false/\zM P n (s.ev g) ps x y Q s
 | .bad,_,_=>False
section
variable {P:Program}{n b:Nat}{rd:Bool}
theorem tP:∀ (l:List cg) (cd:List fj) (s:S) (k:Nat) (o:cg) (x:fj),l[k]? =some o->cd[k]? =some x->mX l cd s (k+1)=vf o.dst x (mX l cd s k)
 |[],_,_,_,_,_,h,_=>by simp at h
 |o::l,[],_,_,_,_,_,h=>by simp at h
 |o::l,x::xs,s,0,o',x',h,h'=>by simp at h h';subst h;subst h';cases l<;>cases xs<;>rfl
 |o::l,x::xs,s,k+1,o',x',h,h'=>by
  simp only[mX]
  exact tP l xs _ k o' x' (by simpa using h) (by simpa using h')
theorem wz(l:List cg)(cd:List fj)(s:S)(hl:cd.length=l.length):∀k,k<=l.length->eJ (bX l) (fun i=>cd.getD i default) (fun _=>true) s k=mX l cd s k:=by
 intro k
 induction k with
 |zero=>intro _;cases l<;>cases cd<;>rfl
 |succ k ih=>
  intro hk
  have h1:l[k]? =some (bX l k):=by simp[bX,List.getD_eq_getElem?_getD,List.getElem?_eq_getElem (by omega:k<l.length)]
  have h2:cd[k]? =some (cd.getD k default):=by simp[List.getD_eq_getElem?_getD,List.getElem?_eq_getElem (by omega:k<cd.length)]
  simp only[eJ,if_true,ih (by omega)]
  rw[tP l cd s k _ _ h1 h2]
theorem mY{ops:Array Oper}:∀ (l:List Oper) (l':List cg),kU n ops l=some l'->l'.length=l.length
 |[],_,h=>by simp[kU]at h;subst h;rfl
 |o::l,l',h=>by
  simp only[kU]at h
  split at h
  ·rename_i hx;injection h with h;subst h;simp[mY l _ hx]
  ·cases h
theorem Fl(bc:P.follows .mixedOrders=true){id:Nat}{ops:Array Oper}{l:List cg}{Q Q':fy->S->Prop}{s:S}(hQ:∀e s,Q e s->Q' e s)(nS:kU n ops ops.toList=some l)(ht:xh l (gw ops)=true)
 (hp:Nf (gw ops)=true) (h:kK P (Cv (gw ops) (s.nx+l.length) Q) (Ad (gw ops) l s Q) (gw ops) l s.nx s []):jb P n b rd (.region id ops true) Q' s:=by
 intro M cA H0 w0 cx φ a w ro k hs
 obtain⟨cd,hl,bA,oM⟩:=tO l _ _ _ h
 have hlen:l.length=ops.size:=by rw[mY _ _ nS];simp
 have sD:∀k,k<ops.size->(gw ops).getD k []=bB ops k:=by
  intro k hk;simp[gw,List.getD_eq_getElem?_getD,List.getElem?_map,List.getElem?_range hk]
 have BJ:(gw ops).length=ops.size:=by simp[gw]
 have rY:=wz l cd s hl
 have rL:∀k,k<ops.size->l[k]? =some (bX l k):=fun k hk=>by simp[bX,List.getD_eq_getElem?_getD,List.getElem?_eq_getElem (by omega:k<l.length)]
 have sr:∀k,k<ops.size->cd[k]? =some (cd.getD k default):=fun k hk=>by simp[List.getD_eq_getElem?_getD,List.getElem?_eq_getElem (by omega:k<cd.length)]
 have oG:∀k,k<ops.size->cd.getD k default∈cd:=fun k hk=>List.mem_of_getElem? (sr k hk)
 have Js:∀k,k<ops.size->(wy cd)[k]? =some (vw (cd.getD k default),kI (cd.getD k default)):=fun k hk=>by
  simp only[wy,List.getElem?_map,sr k hk,Option.map_some]
 have ND:(wy cd).length=ops.size:=by simp[wy,hl,hlen]
 simp only[List.nil_append,List.length_nil,Nat.zero_add]at oM
 have qy:eB (gw ops) (wy cd)=true:=by
  rcases oM with⟨_,h⟩|⟨v,wl,_,_,_,h,_⟩
  ·exact h.1
  ·exact h.1
 have Fm:∀k,k<ops.size->∀j∈bB ops k,j<k:=fun k hk j hj=>by
  have:=List.all_eq_true.1 hp k (by simpa[BJ]using hk)
  rw[sD k hk]at this
  simpa using List.all_eq_true.1 this j hj
 have Hb:∀k,k<(gw ops).length->∀j∈(gw ops).getD k [],j<k:=fun k hk j hj=>by
  rw[BJ]at hk;rw[sD k hk]at hj;exact Fm k hk j hj
 let po:Nat->Nat->Prop:=fun k j=>((ee (gw ops) []).getD k 0).testBit j=true
 have DB:∀E:Nat->Bool,(∀k,k<ops.size->E k=true->∀j∈bB ops k,E j=true)->∀k,k<ops.size->(∀j∈bB ops k,E j=true)->∀j,po k j->E j=true:=fun E hE k hk hj j hb=>
  pf Hb (fun k hk gG j hj=>by rw[BJ]at hk;rw[sD k hk]at hj;exact hE k hk gG j hj) k (by rw[BJ];exact hk) (by rw[sD k hk];exact hj) j hb
 have Ab:∀k,k<ops.size->∀j,po k j->j<k:=fun k hk j hb=>y0 Hb k (by rw[BJ];exact hk) j hb
 have xV:∀i j,i<j->j<ops.size-> ¬po j i->Compat (bX l) (fun i=>cd.getD i default) (fun i=>vw (cd.getD i default)) i j:=by
  intro i j RA hj hn
  have EU:=List.all_eq_true.1 (List.all_eq_true.1 ht j (by simpa[hlen]using hj)) i (by simpa using RA)
  have zN:=List.all_eq_true.1 (List.all_eq_true.1 qy j (by simpa[ND]using hj)) i (by simpa using RA)
  have WQ:((ee (gw ops) []).getD j 0).testBit i=false:=by simpa[po]using hn
  rw[WQ,Bool.false_or]at EU zN
  simp only[Bool.and_eq_true]at EU zN
  have gi:=Js i (by omega)
  have gj:=Js j hj
  simp only[List.getD_eq_getElem?_getD (l:=wy cd),gi,gj,Option.getD_some]at zN
  have dj:∀ {xs ys:List Nat},kD xs ys=true->∀x∈xs,x∉ys:=fun h x hx=>by simpa using List.all_eq_true.1 h x hx
  have fo:∀ {x y:cg},qo x y=true->∀d,x.dst=some d->d∉eY y:=fun h d hd=>by simpa[qo,hd]using h
  exact⟨fo EU.1,fo EU.2,fun id ax=>⟨dj zN.1.1 id ax,dj zN.1.2 id ax⟩,fun id ax=>dj zN.2 id ax⟩
 have LY:∀i,i<ops.size->LU P (eJ (bX l) (fun i=>cd.getD i default) (fun _=>true) s i) (s.nx+i) (bX l i) (cd.getD i default):=fun i hi=>by
  rw[rY i (by omega)];exact bA i _ _ (rL i hi) (sr i hi)
 have cK:∀i,i<ops.size->∀t,(bX l i).dst=some t->(dstsOf l).contains t=true:=fun i hi t ht=>by
  simp only[List.contains_iff_mem,dstsOf,List.mem_filterMap]
  exact⟨bX l i,List.mem_of_getElem? (rL i hi),ht⟩
 rcases oM with⟨aM,oM⟩|⟨v,wl,q1,q2,q3,q4,q5,q6⟩
 ·refine Aa (ac:=fun i=>cd.getD i default) (dl:=dstsOf l) (wl:=(cd.flatMap kI)) bc nS Fm hs LY (fun i hi hb=> ?_) DB Ab xV cK (fun i hi id ax=> ?_) (fun i v ws wm hi hb=> ?_) (fun _ φ a w iW=> ?_) (fun i v ws wm hi hb=> ?_)
  ·have:=aM _ (oG i hi);rw[hb]at this;cases this
  ·simp only[List.contains_iff_mem,List.mem_flatMap];exact⟨_,oG i hi,ax⟩
  ·have:=aM _ (oG i hi);rw[hb]at this;cases this
  ·rw[rY ops.size (by omega), <- hlen]at iW
   exact⟨.normal,_,φ,hQ _ _ oM.2,iW,trivial⟩
  ·have:=aM _ (oG i hi);rw[hb]at this;cases this
 ·refine Aa (ac:=fun i=>cd.getD i default) (dl:=dstsOf l) (wl:=wl) bc nS Fm hs LY (fun i hi hb=> ?_) DB Ab xV cK (fun i hi id ax=> ?_) (fun i v' ws wm hi hb=> ?_) (fun aM φ a w iW=> ?_) (fun i v' ws wm hi hb φ a w val iW hd=> ?_)
  ·obtain⟨j,j1,j',e,y,j3,j4⟩:=q3 i (by rw[sr i hi];exact congrArg some hb)
   rw[sD i hi,e]at j1
   refine⟨j',j1, ?_⟩
   simp only[List.getD_eq_getElem?_getD,j3,Option.getD_some,j4]
  ·simp only[List.contains_iff_mem];exact q5 _ (oG i hi) id ax
  ·intro id ax
   simp only[List.contains_iff_mem]
   exact(q1 i v' ws wm (by rw[sr i hi];exact congrArg some hb)).2 id ax
  ·obtain⟨x,x1,x2⟩:=q2
   obtain⟨i,Jn,Gq⟩:=List.getElem_of_mem x1
   have hi:i<ops.size:=by omega
   have:=aM i hi
   have e:cd.getD i default=x:=by simp[List.getD_eq_getElem?_getD,List.getElem?_eq_getElem Jn,Gq]
   rw[e,x2]at this;cases this
  ·have e:=(q1 i v' ws wm (by rw[sr i hi];exact congrArg some hb)).1
   subst e
   rw[<- hlen]at iW hd
   exact⟨.bG v',_,φ,hQ _ _ q4.2,iW,val,rfl,hd⟩
theorem wC{ops:Array Oper}:∀ (l:List Oper) (l':List cg) (m:Nat),kU n ops l=some l'->kU n ops (l.drop m)=some (l'.drop m)
 |l,l',0,h=>h
 |[],l',m+1,h=>by simp[kU]at h;subst h;simp[kU]
 |o::l,l',m+1,h=>by
  simp only[kU]at h
  split at h
  ·rename_i x xs hx Je
   injection h with h;subst h
   exact wC l xs m Je
  ·cases h
theorem Hc{l:List cg}{ac:Nat->fj}{E:Nat->Bool}{s:S}{m:Nat}:∀k,k<=m->eJ (bX l) ac E s k=eJ (bX (l.take m)) ac E s k:=by
 intro k
 induction k with
 |zero=>intro _;rfl
 |succ k ih=>
  intro hk
  have:bX l k=bX (l.take m) k:=by simp[bX,List.getD_eq_getElem?_getD,List.getElem?_take,(by omega:k<m)]
  simp only[eJ,ih (by omega),this]
theorem Cw(bc:P.follows .mixedOrders=true){id:Nat}{ops:Array Oper}{l:List cg}{Q Q':fy->S->Prop}{s:S}(hQ:∀e s,Q e s->Q' e s)(nS:kU n ops ops.toList=some l)(ht:xh l (gw ops)=true)
 (hp:Nf (gw ops)=true) (h:Ha P l (gw ops) Q s):jb P n b rd (.region id ops true) Q' s:=by
 intro M cA H0 w0 cx φ a w ro k hs
 obtain⟨m,Ju,hto,h⟩:=h
 obtain⟨cd,hl,bA,oM⟩:=tO (l.take m) _ _ _ h
 have PZ:(l.take m).length=m:=by rw[List.length_take];omega
 have hlen:l.length=ops.size:=by rw[mY _ _ nS];simp
 have oM:=oM.resolve_right (fun⟨_,_,_,_,_,q4,_,_⟩=>q4)
 obtain⟨aM,oM⟩:=oM
 have B7:cd.length=m:=by omega
 have sD:∀k,k<ops.size->(gw ops).getD k []=bB ops k:=by
  intro k hk;simp[gw,List.getD_eq_getElem?_getD,List.getElem?_map,List.getElem?_range hk]
 have BJ:(gw ops).length=ops.size:=by simp[gw]
 have rY:∀k,k<=m->eJ (bX l) (fun i=>cd.getD i default) (fun _=>true) s k=mX (l.take m) cd s k:=fun k hk=>by
  rw[Hc k hk];exact wz (l.take m) cd s hl k (by omega)
 have rL:∀k,k<m->(l.take m)[k]? =some (bX l k):=fun k hk=>by
  rw[List.getElem?_take,if_pos hk]
  simp[bX,List.getD_eq_getElem?_getD,List.getElem?_eq_getElem (by omega:k<l.length)]
 have sr:∀k,k<m->cd[k]? =some (cd.getD k default):=fun k hk=>by simp[List.getD_eq_getElem?_getD,List.getElem?_eq_getElem (by omega:k<cd.length)]
 have oG:∀k,k<m->cd.getD k default∈cd:=fun k hk=>List.mem_of_getElem? (sr k hk)
 have Js:∀k,k<m->(wy cd)[k]? =some (vw (cd.getD k default),kI (cd.getD k default)):=fun k hk=>by
  simp only[wy,List.getElem?_map,sr k hk,Option.map_some]
 have ND:(wy cd).length=m:=by simp[wy,B7]
 simp only[List.nil_append]at oM
 obtain⟨qy,JI⟩:=oM
 have Fm:∀k,k<ops.size->∀j∈bB ops k,j<k:=fun k hk j hj=>by
  have:=List.all_eq_true.1 hp k (by simpa[BJ]using hk)
  rw[sD k hk]at this
  simpa using List.all_eq_true.1 this j hj
 have Hb:∀k,k<(gw ops).length->∀j∈(gw ops).getD k [],j<k:=fun k hk j hj=>by
  rw[BJ]at hk;rw[sD k hk]at hj;exact Fm k hk j hj
 let po:Nat->Nat->Prop:=fun k j=>((ee (gw ops) []).getD k 0).testBit j=true
 have DB:∀E:Nat->Bool,(∀k,k<ops.size->E k=true->∀j∈bB ops k,E j=true)->∀k,k<ops.size->(∀j∈bB ops k,E j=true)->∀j,po k j->E j=true:=fun E hE k hk hj j hb=>
  pf Hb (fun k hk gG j hj=>by rw[BJ]at hk;rw[sD k hk]at hj;exact hE k hk gG j hj) k (by rw[BJ];exact hk) (by rw[sD k hk];exact hj) j hb
 have Ab:∀k,k<ops.size->∀j,po k j->j<k:=fun k hk j hb=>y0 Hb k (by rw[BJ];exact hk) j hb
 have xV:∀i j,i<j->j<m-> ¬po j i->Compat (bX l) (fun i=>cd.getD i default) (fun i=>vw (cd.getD i default)) i j:=by
  intro i j RA hj hn
  have EU:=List.all_eq_true.1 (List.all_eq_true.1 ht j (by simp;omega)) i (by simpa using RA)
  have zN:=List.all_eq_true.1 (List.all_eq_true.1 qy j (by simpa[ND]using hj)) i (by simpa using RA)
  have WQ:((ee (gw ops) []).getD j 0).testBit i=false:=by simpa[po]using hn
  rw[WQ,Bool.false_or]at EU zN
  simp only[Bool.and_eq_true]at EU zN
  have gi:=Js i (by omega)
  have gj:=Js j hj
  simp only[List.getD_eq_getElem?_getD (l:=wy cd),gi,gj,Option.getD_some]at zN
  have dj:∀ {xs ys:List Nat},kD xs ys=true->∀x∈xs,x∉ys:=fun h x hx=>by simpa using List.all_eq_true.1 h x hx
  have fo:∀ {x y:cg},qo x y=true->∀d,x.dst=some d->d∉eY y:=fun h d hd=>by simpa[qo,hd]using h
  exact⟨fo EU.1,fo EU.2,fun id ax=>⟨dj zN.1.1 id ax,dj zN.1.2 id ax⟩,fun id ax=>dj zN.2 id ax⟩
 have htl:∀k,m<=k->k<ops.size->∀j,j<k->po k j:=fun k hmk hk j hj=>by
  have:=List.all_eq_true.1 hto k (by simpa[BJ]using hk)
  simp only[Bool.or_eq_true]at this
  rcases this with this|this
  ·exact absurd (Nat.blt_eq.mp this) (by omega)
  ·show((ee (gw ops) []).getD k 0).testBit j=true
   rw[Nat.eq_of_beq_eq_true this,Nat.testBit_two_pow_sub_one]
   exact decide_eq_true hj
 refine Cu (ac:=fun i=>cd.getD i default) (m:=m) (X:=fun v s=>Q' (.bG v) s) (K:=Q' .normal) bc nS Fm (by omega) hs (fun i hi=> ?_) (fun i hi=>aM _ (oG i hi)) DB Ab xV htl ?_ (fun s φ a w hk iW=>⟨.normal,s,φ,hk,iW,trivial⟩) (fun v s' aC a' w' val hx iW hd=>⟨.bG v,s',aC,hx,iW,val,rfl,hd⟩)
 ·rw[rY i (by omega)];exact bA i _ _ (rL i hi) (sr i hi)
 ·rw[rY m (Nat.le_refl _)]
  rw[PZ]at JI
  exact jq (fun s hs=>hQ _ _ hs) (fun v s hs=>hQ _ _ hs) _ _ _ (wC _ _ m nS) JI
theorem wD{g:V}{ps:List Nat}{x y:IC}{Q Q':fy->S->Prop}{s:S}(hQ:∀e s,Q e s->Q' e s)(h:zM P n g ps x y Q s):zM P n g ps x y Q' s:=by
 obtain⟨env,h1,h2⟩:=h
 refine⟨env,h1, ?_⟩
 split at h2
 ·refine mQ.mono (fun v o n h=> ?_) (fun v o n h=>hQ _ _ h) h2
  obtain⟨nf,m,e,p,c,d,st,pd,k1,k2,k3⟩:=h
  refine⟨nf,m,e,p,c,d,st,pd,k1,k2, ?_⟩
  cases pd with
  |none=>exact hQ _ _ k3
  |some j=>cases j<;>exact hQ _ _ k3
 ·exact h2
theorem ik(bc:P.follows .mixedOrders=true):∀ (c:Code) (Q Q':fy->S->Prop) (s:S),(∀e s,Q e s->Q' e s)->sG P n b rd (low n c) Q s->jb P n b rd c Q' s:=by
 intro c
 induction c with
 |skip=>exact fun Q Q' s hQ h=>hQ _ _ h
 |scope x ih=>exact fun Q Q' s hQ h=>ih Q Q' s hQ h
 |label l=>exact fun Q Q' s hQ h=>hQ _ _ h
 |exit id=>exact fun Q Q' s hQ h=>hQ _ _ h
 |ret=>exact fun Q Q' s hQ h=>hQ _ _ h
 |goto l=>exact fun Q Q' s hQ h=>h.elim
 |refuse y=>exact fun Q Q' s hQ h=>h.elim
 |rangeFunc f p x y=>exact fun Q Q' s hQ h=>⟨h.1,wD hQ h.2⟩
 |region id ops draw=>
  intro Q Q' s hQ h
  cases draw with
  |true=>
   simp only[low]at h
   split at h
   ·rename_i l hl
    split at h
    ·rename_i hc
     simp only[Bool.and_eq_true]at hc
     rcases h with h|h
     ·exact Fl bc hQ hl hc.1 hc.2 h
     ·exact Cw bc hQ hl hc.1 hc.2 h
    ·exact h.elim
   ·exact h.elim
  |false=>
   simp only[low]at h
   split at h
   ·rename_i l hl;exact jq (fun s hs=>hQ _ _ hs) (fun v s hs=>hQ _ _ hs) _ l s hl h
   ·exact h.elim
 |seq x y JB JC=>
  intro Q Q' s hQ h
  refine JB _ _ s (fun e s he=> ?_) h
  cases e<;>first|exact JC Q Q' s hQ he|exact hQ _ _ he
 |cond c x y JB JC=>
  intro Q Q' s hQ h
  simp only[low,sG]at h
  simp only[jb]
  split at h
  ·rename_i t hc
   simp only[hc]
   exact⟨fun ht=>JB Q Q' s hQ (h.1 ht),fun ht=>JC Q Q' s hQ (h.2 ht)⟩
  ·rename_i hc
   simp only[hc]
   exact⟨JB Q Q' s hQ h.1,JC Q Q' s hQ h.2⟩
  ·exact h.elim
 |block id x ih=>
  intro Q Q' s hQ h
  refine ih _ _ s (fun e s he=> ?_) h
  cases e<;>simp only[ft]at he|- <;>first
   |exact hQ _ _ he
   |(split at he<;>rename_i e
     ·rw[if_pos e];exact hQ _ _ he
     ·rw[if_neg e];exact hQ _ _ he)
 |loop x ih=>
  intro Q Q' s hQ h
  obtain⟨J,h0,hr⟩:=h
  refine⟨J,h0,fun m s0 hJ=>ih _ _ s0 (fun e s he=> ?_) (hr m s0 hJ)⟩
  cases e<;>first|exact hQ _ _ he|exact he
structure aN (P:Program) (f:FuncId) (n:Nat) (ic:IC) (rs:List ResultVar):Prop where
 get:∃fn,P.funcs[f]? =some fn/\(fn.name== "runtime.NumGoroutine")=false/\fn.ntmps=n/\fn.results.toList=rs/\∃c,fn.body=some c/\low n c=ic
theorem dX.tQ (bc:P.follows .mixedOrders=true){f:FuncId}{ic:IC}{rs:List ResultVar}(hf:aN P f n ic rs){args:List V}{o:Nat->ae}{nx:Nat}{K X:V->(Nat->ae)->Nat->Prop}(hl:args.length<=n)(h:sG P n nx false ic (l5 P rs K X) ⟨cq args,o,nx⟩):dX P f args o nx K X:=by
 obtain⟨fn,h1,h2,rfl,rfl,c,h3,rfl⟩:=hf.get
 exact dX.Dv h1 h2 h3 hl (ik bc c _ _ _ (fun _ _ h=>h) h)
theorem bJ.tQ (bc:P.follows .mixedOrders=true){f:FuncId}{ic:IC}{rs:List ResultVar}(hf:aN P f n ic rs){ds:List D}{out:R}(hl:ds.length<=n)(h:sG P n 0 false ic (B9 P rs out) ⟨cq (ds.map .d),fun _=> .no,0⟩):bJ P f ds out:=by
 obtain⟨fn,h1,h2,rfl,rfl,c,h3,rfl⟩:=hf.get
 exact bJ.kG (dX.Dv h1 h2 h3 (by simpa using hl) (ik bc c _ _ _ (fun e s h=>E9 e s h) h))
end
end Go.Proofs.YtealblliddhgiaaGreat
