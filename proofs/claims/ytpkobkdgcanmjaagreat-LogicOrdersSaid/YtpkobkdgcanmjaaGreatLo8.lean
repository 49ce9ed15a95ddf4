/-
  A PART OF THE PROOF. Conditions: none.
-/
import Derived.Test.YtpkobkdgcanmjaaGreatLo7
set_option linter.unusedSimpArgs false
set_option linter.unusedVariables false
namespace Go.Proofs.YtpkobkdgcanmjaaGreat
def nn(P:Program)(g:FuncId)(ds:List D)(Kf Kb KX:V->Prop):Prop:=
 (∃rs,bU P g ds (.ret rs)/\(Kf (fY rs)\/(D.fX rs=true/\Kb (fY rs))))\/(∃x,bU P g ds (.ba x)/\x.flat=true/\KX (.d x))\/(∃v,He P g ds v/\Kf v)
def ft(P:Program)(g:FuncId)(args:List V)(o:Nat->aa)(nx fr:Nat)(K:V->List (Nat×aa)->List Nat->Prop)(KX:V->List Nat->List Nat->Prop):Prop:=
 ∃rd Δ,rd.all (fun id=>decide (id<nx))=true/\((∃rs,zx P g args rd o (.ret rs) Δ/\K (fY rs) Δ rd)\/(∃x,zx P g args rd o (.ba x) Δ/\KX (.d x) (Δ.map (·.1)) rd)\/(∃v,vk P g args rd o fr v Δ/\K v Δ rd))
def sx(P:Program)(s:S)(fr:Nat)(o:bE)(K:V->List (Nat×aa)->List Nat->Prop)(KX:V->List Nat->List Nat->Prop):Prop:=
 match o.op with
 | .call c=>match c.callee with
   | .value f=>match s.ev f with
     | .func (.func g) first cap=>match bA s.o (first++c.args.toList.map s.ev++cap)with
       |some ds=>nn P g ds (fun v=>K v (cg s.o (V.aQ (first++c.args.toList.map s.ev++cap))) (fL s o.op)) (fun v=>K v [] (fL s o.op)) (fun v=>KX v [] (fL s o.op))\/ft P g (first++c.args.toList.map s.ev++cap) s.o s.nx fr K KX
       |none=>ft P g (first++c.args.toList.map s.ev++cap) s.o s.nx fr K KX
     |_=>False
   |_=>match eF P s fr o.op with
    |some (v,Δ,_)=>K v Δ (fL s o.op)
    |none=>False
 |op=>match eF P s fr op with
  |some (v,Δ,_)=>K v Δ (fL s o.op)
  |none=>False
abbrev Fp:=List (List Nat×List Nat)
def e7(P:Program)(KB:List Nat->Fp->Prop)(pr:List (List Nat)):List bE->Nat->S->Fp->List Nat->List Nat->Prop
 |[],_,_,fp,_,ws=>KB ws fp
 |o::l,fr,s,fp,bad,ws=>if(pr.getD fp.length []).any (fun j=>bad.contains j)=true then e7 P KB pr l (fr+1) ⟨aN s.env o.dst .aw,s.o,s.nx⟩ (fp++[([],[])]) (bad++[fp.length]) ws
  else match o.gd with
  |none=>sx P s fr o (fun v Δ rd=>e7 P KB pr l (fr+1) ⟨aN s.env o.dst v,put s.o Δ,s.nx⟩ (fp++[(rd,Δ.map (·.1))]) bad (ws++Δ.map (·.1))) (fun _ _ _=>False)
  |some (d,want)=>match s.env d with
   | .d (.bool b)=>if b=want then sx P s fr o (fun v Δ rd=>e7 P KB pr l (fr+1) ⟨aN s.env o.dst v,put s.o Δ,s.nx⟩ (fp++[(rd,Δ.map (·.1))]) bad (ws++Δ.map (·.1))) (fun _ _ _=>False)
    else e7 P KB pr l (fr+1) ⟨aN s.env o.dst (.bM []),s.o,s.nx⟩ (fp++[([],[])]) bad ws
   | .bM []=>e7 P KB pr l (fr+1) ⟨aN s.env o.dst (.bM []),s.o,s.nx⟩ (fp++[([],[])]) bad ws
   |_=>False
def gQ(P:Program)(K:S->Fp->Prop)(KP:V->List Nat->Fp->Prop)(pr:List (List Nat)):List bE->Nat->S->Fp->Prop
 |[],_,s,fp=>K s fp
 |o::l,fr,s,fp=>match o.gd with
  |none=>sx P s fr o (fun v Δ rd=>gQ P K KP pr l (fr+1) ⟨aN s.env o.dst v,put s.o Δ,s.nx⟩ (fp++[(rd,Δ.map (·.1))]))
   (fun v ws rd=>e7 P (KP v) pr l (fr+1) ⟨aN s.env o.dst .aw,s.o,s.nx⟩ (fp++[(rd,[])]) [fp.length] (ws++fp.flatMap (·.2)))
  |some (d,want)=>match s.env d with
   | .d (.bool b)=>if b=want then sx P s fr o (fun v Δ rd=>gQ P K KP pr l (fr+1) ⟨aN s.env o.dst v,put s.o Δ,s.nx⟩ (fp++[(rd,Δ.map (·.1))]))
         (fun v ws rd=>e7 P (KP v) pr l (fr+1) ⟨aN s.env o.dst .aw,s.o,s.nx⟩ (fp++[(rd,[])]) [fp.length] (ws++fp.flatMap (·.2)))
    else gQ P K KP pr l (fr+1) ⟨aN s.env o.dst (.bM []),s.o,s.nx⟩ (fp++[([],[])])
   | .bM []=>gQ P K KP pr l (fr+1) ⟨aN s.env o.dst (.bM []),s.o,s.nx⟩ (fp++[([],[])])
   |_=>False
def vw(pr:List (List Nat))(nx:Nat)(Q:fl->S->Prop)(s:S)(fp:Fp):Prop:=iF pr fp=true/\Q .normal ⟨s.env,s.o,nx⟩
def dstsOf(l:List bE):List Nat:=l.filterMap (·.dst)
def tE(pr:List (List Nat))(l:List bE)(s0:S)(Q:fl->S->Prop)(v:V)(wl:List Nat)(fp:Fp):Prop:=iF pr fp=true/\Q (.ba v) (oN (dstsOf l) wl l.length s0)
def jB:List bE->List dQ->S->Nat->S
 |_,_,s,0=>s
 |o::l,x::xs,s,j+1=>jB l xs (pN o.dst x s) j
 |_,_,s,_=>s
def qv(bB:List dQ):Fp:=bB.map fun x=>(pX x,gO x)
section
variable {P:Program}{n b:Nat}
theorem tF{s:S}{fr:Nat}{o:bE}{K:V->List (Nat×aa)->List Nat->Prop}{KX:V->List Nat->List Nat->Prop}(h:sx P s fr o K KX):(∃v Δ rd,qq P s fr o.op v Δ rd/\K v Δ rd)\/(∃v ws rd,tu P s o.op v ws rd/\KX v ws rd):=by
 have hs:∀ {op:Op},o.op=op->(match eF P s fr op with|some (v,Δ,_)=>K v Δ (fL s o.op)|none=>False)->(∃v Δ rd,qq P s fr o.op v Δ rd/\K v Δ rd):=by
  intro op cO h
  split at h
  ·rename_i v Δ rd he;exact⟨v,Δ,_, .inl ⟨⟨rd,by rw[cO];exact he⟩,rfl⟩,h⟩
  ·exact h.elim
 unfold sx at h
 split at h
 ·rename_i c hc
  split at h
  ·rename_i f da
   split at h
   ·rename_i g first cap hf
    split at h
    ·rename_i ds dB
     rcases h with(⟨rs,hP,h|⟨lh,h⟩⟩|⟨x,hP,lh,h⟩|⟨v,hP,h⟩)|⟨rd,Δ,kn,⟨rs,hH,h⟩|⟨x,hH,h⟩|⟨v,hH,h⟩⟩
     ·exact .inl ⟨_,_,_, .inr ⟨c,f,g,first,cap,hc,da,hf, .inl ⟨ds,rs,dB,hP,rfl,rfl, .inl rfl⟩⟩,h⟩
     ·exact .inl ⟨_,_,_, .inr ⟨c,f,g,first,cap,hc,da,hf, .inl ⟨ds,rs,dB,hP,rfl,rfl, .inr ⟨lh,rfl⟩⟩⟩,h⟩
     ·exact .inr ⟨_,_,_,⟨c,f,g,first,cap,hc,da,hf, .inl ⟨ds,x,dB,hP,lh,rfl,rfl,rfl⟩⟩,h⟩
     ·exact .inl ⟨_,_,_, .inr ⟨c,f,g,first,cap,hc,da,hf, .inr (.inr (.inl ⟨ds,dB,hP,rfl,rfl⟩))⟩,h⟩
     ·exact .inl ⟨_,_,_, .inr ⟨c,f,g,first,cap,hc,da,hf, .inr (.inl ⟨rs,hH,rfl,fun id ag=>by simpa using List.all_eq_true.1 kn id ag⟩)⟩,h⟩
     ·exact .inr ⟨_,_,_,⟨c,f,g,first,cap,hc,da,hf, .inr ⟨x,Δ,hH,rfl,rfl,fun id ag=>by simpa using List.all_eq_true.1 kn id ag⟩⟩,h⟩
     ·exact .inl ⟨_,_,_, .inr ⟨c,f,g,first,cap,hc,da,hf, .inr (.inr (.inr ⟨hH,fun id ag=>by simpa using List.all_eq_true.1 kn id ag⟩))⟩,h⟩
    ·obtain⟨rd,Δ,kn,⟨rs,hH,h⟩|⟨x,hH,h⟩|⟨v,hH,h⟩⟩:=h
     ·exact .inl ⟨_,_,_, .inr ⟨c,f,g,first,cap,hc,da,hf, .inr (.inl ⟨rs,hH,rfl,fun id ag=>by simpa using List.all_eq_true.1 kn id ag⟩)⟩,h⟩
     ·exact .inr ⟨_,_,_,⟨c,f,g,first,cap,hc,da,hf, .inr ⟨x,Δ,hH,rfl,rfl,fun id ag=>by simpa using List.all_eq_true.1 kn id ag⟩⟩,h⟩
     ·exact .inl ⟨_,_,_, .inr ⟨c,f,g,first,cap,hc,da,hf, .inr (.inr (.inr ⟨hH,fun id ag=>by simpa using List.all_eq_true.1 kn id ag⟩))⟩,h⟩
   ·exact h.elim
  ·rw[hc]at h;exact .inl (hs hc (by rw[hc];exact h))
 ·exact .inl (hs rfl h)
def BA(P:Program)(KB:List Nat->Fp->Prop)(pr:List (List Nat))(l:List bE)(fr:Nat)(s:S)(fp:Fp)(bad ws:List Nat):Prop:=
    ∃bB:List dQ,bB.length=l.length/\(∀j o x,l[j]? =some o->bB[j]? =some x->CZ P (jB l bB s j) (fr+j) o x)/\
     (∀ (j:Nat),bB[j]? =some dQ.dA->∃i∈pr.getD (fp.length+j) [],i∈bad\/∃j',j'<j/\i=fp.length+j'/\bB[j']? =some .dA)/\(∀x∈bB,x= .dA\/x.ok=true)/\
     ∃wl,KB wl (fp++qv bB)/\(∀id∈ws,id∈wl)/\∀x∈bB,∀id∈gO x,id∈wl
theorem tG{KB:List Nat->Fp->Prop}{pr:List (List Nat)}:∀ (l:List bE) (fr:Nat) (s:S) (fp:Fp) (bad ws:List Nat),e7 P KB pr l fr s fp bad ws->BA P KB pr l fr s fp bad ws
 |[],fr,s,fp,bad,ws,h=>⟨[],rfl,fun j o x hj=>by simp at hj,fun j hj=>by simp at hj,fun x hx=>by simp at hx,ws,by simpa[qv,e7]using h,fun _ h=>h,fun x hx=>by simp at hx⟩
 |o::l,fr,s,fp,bad,ws,h=>by
  have step:∀ (x:dQ) (BB C3:List Nat),CZ P s fr o x->e7 P KB pr l (fr+1) (pN o.dst x s) (fp++[(pX x,gO x)]) BB C3->(x= .dA\/x.ok=true)->(x= .dA->∃i∈pr.getD fp.length [],i∈bad)->
   (∀i∈BB,i∈bad\/(i=fp.length/\x= .dA))->(∀id∈ws,id∈C3)->(∀id∈gO x,id∈C3)->
   BA P KB pr (o::l) fr s fp bad ws:=by
   intro x BB C3 a8 hr S3 DY D1 Bx hW
   obtain⟨bB,h1,h2,h3,h4,wl,h5,h6,h7⟩:=tG l (fr+1) _ _ BB C3 hr
   refine⟨x::bB,by simp[h1],fun j o' y hj hy=> ?_,fun j hj=> ?_,fun y hy=> ?_,wl,by simpa[qv]using h5,fun id ag=>h6 id (Bx id ag),fun y hy id ag=> ?_⟩
   ·cases j with
    |zero=>simp at hj hy;subst hj;subst hy;exact a8
    |succ j=>
     have:=h2 j o' y (by simpa using hj) (by simpa using hy)
     rw[show fr+(j+1)=fr+1+j by omega]
     exact this
   ·cases j with
    |zero=>
     simp at hj
     obtain⟨i,i1,i2⟩:=DY hj
     exact⟨i,by simpa using i1, .inl i2⟩
    |succ j=>
     obtain⟨i,i1,i2⟩:=h3 j (by simpa using hj)
     simp only[List.length_append,List.length_cons,List.length_nil]at i1 i2
     refine⟨i,by rw[show fp.length+(j+1)=fp.length+(0+1)+j by omega];exact i1, ?_⟩
     rcases i2 with i2|⟨j',j1,j2,j3⟩
     ·rcases D1 i i2 with hb|⟨e1,e2⟩
      ·exact .inl hb
      ·exact .inr ⟨0,by omega,by omega,by simp[e2]⟩
     ·exact .inr ⟨j'+1,by omega,by omega,by simpa using j3⟩
   ·rcases List.mem_cons.1 hy with rfl|hy
    ·exact S3
    ·exact h4 y hy
   ·rcases List.mem_cons.1 hy with rfl|hy
    ·exact h6 id (hW id ag)
    ·exact h7 y hy id ag
  simp only[e7]at h
  split at h
  ·rename_i hb
   obtain⟨j,S4,Bq⟩:=List.any_eq_true.1 hb
   exact step .dA _ _ trivial h (.inl rfl) (fun _=>⟨j,S4,by simpa using Bq⟩) (fun i hi=>by
    rcases List.mem_append.1 hi with hi|hi
    ·exact .inl hi
    ·exact .inr ⟨by simpa using hi,rfl⟩) (fun _ h=>h) (fun id ag=>by simp[gO]at ag)
  ·have oQ:cz s o.gd true->sx P s fr o (fun v Δ rd=>e7 P KB pr l (fr+1) ⟨aN s.env o.dst v,put s.o Δ,s.nx⟩ (fp++[(rd,Δ.map (·.1))]) bad (ws++Δ.map (·.1))) (fun _ _ _=>False)->BA P KB pr (o::l) fr s fp bad ws:=fun hg h=>by
    rcases tF h with⟨v,Δ,rd,lj,h⟩|⟨v,C3,rd,_,h⟩
    ·exact step (.val v Δ rd) bad (ws++Δ.map (·.1)) ⟨hg,lj⟩ h (.inr rfl) (fun h=>by cases h) (fun i hi=> .inl hi) (fun id ag=>List.mem_append.2 (.inl ag)) (fun id ag=>List.mem_append.2 (.inr ag))
    ·exact h.elim
   have skip:cz s o.gd false->e7 P KB pr l (fr+1) ⟨aN s.env o.dst (.bM []),s.o,s.nx⟩ (fp++[([],[])]) bad ws->BA P KB pr (o::l) fr s fp bad ws:=fun hg h=>
    step .skip bad ws hg h (.inr rfl) (fun h=>by cases h) (fun i hi=> .inl hi) (fun id ag=>ag) (fun id ag=>by simp[gO]at ag)
   split at h
   ·rename_i hg;exact oQ (by rw[hg];rfl) h
   ·rename_i d want hg
    split at h
    ·rename_i c hv
     split at h
     ·rename_i e;exact oQ (by rw[hg];simp[cz,hv,e]) h
     ·rename_i e;exact skip (by rw[hg];simp[cz,hv,e]) h
    ·rename_i hv;exact skip (by rw[hg];simp[cz,hv]) h
    ·exact h.elim
def zE(P:Program)(K:S->Fp->Prop)(KP:V->List Nat->Fp->Prop)(pr:List (List Nat))(l:List bE)(fr:Nat)(s:S)(fp:Fp):Prop:=
 ∃bB:List dQ,bB.length=l.length/\(∀j o x,l[j]? =some o->bB[j]? =some x->CZ P (jB l bB s j) (fr+j) o x)/\
  (((∀x∈bB,x.ok=true)/\K (jB l bB s l.length) (fp++qv bB))\/
   ∃v wl,(∀ (j:Nat) (v':V) (ws rd:List Nat),bB[j]? =some (dQ.ba v' ws rd)->v'=v/\∀id∈ws,id∈wl)/\(∃x∈bB,x.ok=false)/\
    (∀ (j:Nat),bB[j]? =some dQ.dA->∃i∈pr.getD (fp.length+j) [],∃j',i=fp.length+j'/\∃y,bB[j']? =some y/\y.ok=false)/\KP v wl (fp++qv bB)/\(∀x∈bB,∀id∈gO x,id∈wl)/\∀id∈fp.flatMap (·.2),id∈wl)
theorem oR{K:S->Fp->Prop}{KP:V->List Nat->Fp->Prop}{pr:List (List Nat)}:∀ (l:List bE) (fr:Nat) (s:S) (fp:Fp),gQ P K KP pr l fr s fp->zE P K KP pr l fr s fp
 |[],fr,s,fp,h=>⟨[],rfl,fun j o x hj=>by simp at hj, .inl ⟨fun x hx=>by simp at hx,by simpa[jB,qv,gQ]using h⟩⟩
 |o::l,fr,s,fp,h=>by
  have step:∀ (x:dQ),x.ok=true->CZ P s fr o x->gQ P K KP pr l (fr+1) (pN o.dst x s) (fp++[(pX x,gO x)])->zE P K KP pr (o::l) fr s fp:=by
   intro x Hj a8 hr
   obtain⟨bB,h1,h2,h3⟩:=oR l (fr+1) _ _ hr
   refine⟨x::bB,by simp[h1],fun j o' y hj hy=> ?_, ?_⟩
   ·cases j with
    |zero=>simp at hj hy;subst hj;subst hy;exact a8
    |succ j=>
     have:=h2 j o' y (by simpa using hj) (by simpa using hy)
     rw[show fr+(j+1)=fr+1+j by omega]
     exact this
   ·rcases h3 with⟨h3,h4⟩|⟨v,wl,g1,g2,g3,g4,g5,g6⟩
    ·left
     refine⟨fun y hy=> ?_,by simpa[jB,qv]using h4⟩
     rcases List.mem_cons.1 hy with rfl|hy
     ·exact Hj
     ·exact h3 y hy
    ·right
     refine⟨v,wl,fun j v' ws rd hj=> ?_, ?_,fun j hj=> ?_,by simpa[qv]using g4,fun y hy id ag=> ?_,fun id ag=>g6 id (by simp only[List.flatMap_append,List.mem_append];exact .inl ag)⟩
     ·cases j with
      |zero=>simp at hj;rw[hj]at Hj;cases Hj
      |succ j=>exact g1 j v' ws rd (by simpa using hj)
     ·obtain⟨y,y1,y2⟩:=g2;exact⟨y,by simp[y1],y2⟩
     ·cases j with
      |zero=>simp at hj;rw[hj]at Hj;cases Hj
      |succ j=>
       obtain⟨i,i1,j',i2,y,i3,i4⟩:=g3 j (by simpa using hj)
       simp only[List.length_append,List.length_cons,List.length_nil]at i1 i2
       exact⟨i,by rw[show fp.length+(j+1)=fp.length+(0+1)+j by omega];exact i1,j'+1,by omega,y,by simpa using i3,i4⟩
     ·rcases List.mem_cons.1 hy with rfl|hy
      ·exact g6 id (by simp only[List.flatMap_append,List.mem_append];exact .inr (by simpa using ag))
      ·exact g5 y hy id ag
  have ba:∀ (v:V) (ws rd:List Nat),CZ P s fr o (.ba v ws rd)->e7 P (KP v) pr l (fr+1) ⟨aN s.env o.dst .aw,s.o,s.nx⟩ (fp++[(rd,[])]) [fp.length] (ws++fp.flatMap (·.2))->zE P K KP pr (o::l) fr s fp:=by
   intro v ws rd a8 hr
   obtain⟨bB,h1,h2,h3,h4,wl,h5,h6,h7⟩:=tG l (fr+1) _ _ _ _ hr
   refine⟨dQ.ba v ws rd::bB,by simp[h1],fun j o' y hj hy=> ?_, .inr ⟨v,wl,fun j v' C3 qp hj=> ?_,⟨dQ.ba v ws rd,by simp,rfl⟩,fun j hj=> ?_,by simpa[qv,pX,gO]using h5,fun y hy id ag=> ?_,fun id ag=>h6 id (List.mem_append.2 (.inr ag))⟩⟩
   ·cases j with
    |zero=>simp at hj hy;subst hj;subst hy;exact a8
    |succ j=>
     have:=h2 j o' y (by simpa using hj) (by simpa using hy)
     rw[show fr+(j+1)=fr+1+j by omega]
     exact this
   ·cases j with
    |zero=>simp at hj;obtain⟨rfl,rfl,rfl⟩:=hj;exact⟨rfl,fun id ag=>h6 id (List.mem_append.2 (.inl ag))⟩
    |succ j=>
     have hm:=List.mem_of_getElem? (show bB[j]? =some (.ba v' C3 qp) by simpa using hj)
     rcases h4 _ hm with h|h<;>cases h
   ·cases j with
    |zero=>simp at hj
    |succ j=>
     obtain⟨i,i1,i2⟩:=h3 j (by simpa using hj)
     simp only[List.length_append,List.length_cons,List.length_nil]at i1 i2
     refine⟨i,by rw[show fp.length+(j+1)=fp.length+(0+1)+j by omega];exact i1, ?_⟩
     rcases i2 with i2|⟨j',j1,j2,j3⟩
     ·exact⟨0,by simpa using i2,_,rfl,rfl⟩
     ·exact⟨j'+1,by omega, .dA,by simpa using j3,rfl⟩
   ·rcases List.mem_cons.1 hy with rfl|hy
    ·simp[gO]at ag
    ·exact h7 y hy id ag
  have oQ:cz s o.gd true->sx P s fr o (fun v Δ rd=>gQ P K KP pr l (fr+1) ⟨aN s.env o.dst v,put s.o Δ,s.nx⟩ (fp++[(rd,Δ.map (·.1))]))
   (fun v ws rd=>e7 P (KP v) pr l (fr+1) ⟨aN s.env o.dst .aw,s.o,s.nx⟩ (fp++[(rd,[])]) [fp.length] (ws++fp.flatMap (·.2)))->zE P K KP pr (o::l) fr s fp:=fun hg h=>by
   rcases tF h with⟨v,Δ,rd,lj,h⟩|⟨v,ws,rd,lj,h⟩
   ·exact step (.val v Δ rd) rfl ⟨hg,lj⟩ h
   ·exact ba v ws rd ⟨hg,lj⟩ h
  have skip:cz s o.gd false->gQ P K KP pr l (fr+1) ⟨aN s.env o.dst (.bM []),s.o,s.nx⟩ (fp++[([],[])])->zE P K KP pr (o::l) fr s fp:=fun hg h=>step .skip rfl hg h
  simp only[gQ]at h
  split at h
  ·rename_i hg;exact oQ (by rw[hg];rfl) h
  ·rename_i d want hg
   split at h
   ·rename_i c hv
    split at h
    ·rename_i e;exact oQ (by rw[hg];simp[cz,hv,e]) h
    ·rename_i e;exact skip (by rw[hg];simp[cz,hv,e]) h
   ·rename_i hv;exact skip (by rw[hg];simp[cz,hv]) h
   ·exact h.elim
end
end Go.Proofs.YtpkobkdgcanmjaaGreat
namespace Go.Proofs.YtpkobkdgcanmjaaGreat
def vx(env:Nat->V):List Nat->List V->Nat->V
 |t::ps,v::vs=>vx (aV env t v) ps vs
 |_,_=>env
def zF(pr:List (List Nat))(m:Nat):Bool:=(List.range pr.length).all fun k=>Nat.blt k m||Nat.beq ((dx pr []).getD k 0) (2^k - 1)
def zG(P:Program)(l:List bE)(pr:List (List Nat))(Q:fl->S->Prop)(s:S):Prop:=
 ∃m,m<=l.length/\zF pr m=true/\gQ P (fun s' fp=>iF pr fp=true/\kS P (fun v s=>Q (.ba v) s) (Q .normal) (l.drop m) ⟨s'.env,s'.o,s.nx+m⟩) (fun _ _ _=>False) pr (l.take m) s.nx s []
def nQ(P:Program)(n b:Nat)(rd:Bool):IC->(fl->S->Prop)->S->Prop
 | .skip,Q,s=>Q .normal s
 | .ab l,Q,s=>kS P (fun v s=>Q (.ba v) s) (Q .normal) l s
 | .cc l pr,Q,s=>gQ P (vw pr (s.nx+l.length) Q) (tE pr l s Q) pr l s.nx s []\/zG P l pr Q s
 | .seq x y,Q,s=>nQ P n b rd x (lS (nQ P n b rd y Q) Q) s
 | .cond c x y,Q,s=>match s.ev c with
   | .d (.bool t)=>l6 t (nQ P n b rd x Q s) (nQ P n b rd y Q s)
   | .dC=>nQ P n b rd x Q s/\nQ P n b rd y Q s
   |_=>False
 | .block id x,Q,s=>nQ P n b rd x (dU id Q) s
 | .loop x,Q,s=>zw b (nQ P n b rd x) Q s
 | .exit id,Q,s=>Q (.exit id) s
 | .ret,Q,s=>Q .ret s
 | .xi g ps x y,Q,s=>rd=false/\u6 P n (s.ev g) ps x y Q s
 | .bad,_,_=>False
section
variable {P:Program}{n b:Nat}{rd:Bool}
theorem oS:∀ (l:List bE) (bB:List dQ) (s:S) (k:Nat) (o:bE) (x:dQ),l[k]? =some o->bB[k]? =some x->jB l bB s (k+1)=pN o.dst x (jB l bB s k)
 |[],_,_,_,_,_,h,_=>by simp at h
 |o::l,[],_,_,_,_,_,h=>by simp at h
 |o::l,x::xs,s,0,o',x',h,h'=>by simp at h h';subst h;subst h';cases l<;>cases xs<;>rfl
 |o::l,x::xs,s,k+1,o',x',h,h'=>by
  simp only[jB]
  exact oS l xs _ k o' x' (by simpa using h) (by simpa using h')
theorem qw(l:List bE)(bB:List dQ)(s:S)(hl:bB.length=l.length):∀k,k<=l.length->dy (bp l) (fun i=>bB.getD i default) (fun _=>true) s k=jB l bB s k:=by
 intro k
 induction k with
 |zero=>intro _;cases l<;>cases bB<;>rfl
 |succ k ih=>
  intro hk
  have h1:l[k]? =some (bp l k):=by simp[bp,List.getD_eq_getElem?_getD,List.getElem?_eq_getElem (by omega:k<l.length)]
  have h2:bB[k]? =some (bB.getD k default):=by simp[List.getD_eq_getElem?_getD,List.getElem?_eq_getElem (by omega:k<bB.length)]
  simp only[dy,if_true,ih (by omega)]
  rw[oS l bB s k _ _ h1 h2]
theorem jC{ops:Array Oper}:∀ (l:List Oper) (l':List bE),gX n ops l=some l'->l'.length=l.length
 |[],_,h=>by simp[gX]at h;subst h;rfl
 |o::l,l',h=>by
  simp only[gX]at h
  split at h
  ·rename_i hx;injection h with h;subst h;simp[jC l _ hx]
  ·cases h
theorem x9(aR:P.follows .mixedOrders=true){id:Nat}{ops:Array Oper}{l:List bE}{Q Q':fl->S->Prop}{s:S}(hQ:∀e s,Q e s->Q' e s)(ko:gX n ops ops.toList=some l)(ht:qT l (eH ops)=true)
 (hp:DH (eH ops)=true) (h:gQ P (vw (eH ops) (s.nx+l.length) Q) (tE (eH ops) l s Q) (eH ops) l s.nx s []):fw P n b rd (.region id ops true) Q' s:=by
 intro M bT H0 w0 cx φ a w ro k hs
 obtain⟨bB,hl,a8,nJ⟩:=oR l _ _ _ h
 have hlen:l.length=ops.size:=by rw[jC _ _ ko];simp
 have nO:∀k,k<ops.size->(eH ops).getD k []=aW ops k:=by
  intro k hk;simp[eH,List.getD_eq_getElem?_getD,List.getElem?_map,List.getElem?_range hk]
 have uE:(eH ops).length=ops.size:=by simp[eH]
 have lj:=qw l bB s hl
 have tH:∀k,k<ops.size->l[k]? =some (bp l k):=fun k hk=>by simp[bp,List.getD_eq_getElem?_getD,List.getElem?_eq_getElem (by omega:k<l.length)]
 have nI:∀k,k<ops.size->bB[k]? =some (bB.getD k default):=fun k hk=>by simp[List.getD_eq_getElem?_getD,List.getElem?_eq_getElem (by omega:k<bB.length)]
 have ox:∀k,k<ops.size->bB.getD k default∈bB:=fun k hk=>List.mem_of_getElem? (nI k hk)
 have Bj:∀k,k<ops.size->(qv bB)[k]? =some (pX (bB.getD k default),gO (bB.getD k default)):=fun k hk=>by
  simp only[qv,List.getElem?_map,nI k hk,Option.map_some]
 have D2:(qv bB).length=ops.size:=by simp[qv,hl,hlen]
 simp only[List.nil_append,List.length_nil,Nat.zero_add]at nJ
 have oi:iF (eH ops) (qv bB)=true:=by
  rcases nJ with⟨_,h⟩|⟨v,wl,_,_,_,h,_⟩
  ·exact h.1
  ·exact h.1
 have ya:∀k,k<ops.size->∀j∈aW ops k,j<k:=fun k hk j hj=>by
  have:=List.all_eq_true.1 hp k (by simpa[uE]using hk)
  rw[nO k hk]at this
  simpa using List.all_eq_true.1 this j hj
 have zH:∀k,k<(eH ops).length->∀j∈(eH ops).getD k [],j<k:=fun k hk j hj=>by
  rw[uE]at hk;rw[nO k hk]at hj;exact ya k hk j hj
 let po:Nat->Nat->Prop:=fun k j=>((dx (eH ops) []).getD k 0).testBit j=true
 have wx:∀E:Nat->Bool,(∀k,k<ops.size->E k=true->∀j∈aW ops k,E j=true)->∀k,k<ops.size->(∀j∈aW ops k,E j=true)->∀j,po k j->E j=true:=fun E hE k hk hj j hb=>
  lr zH (fun k hk eO j hj=>by rw[uE]at hk;rw[nO k hk]at hj;exact hE k hk eO j hj) k (by rw[uE];exact hk) (by rw[nO k hk];exact hj) j hb
 have tC:∀k,k<ops.size->∀j,po k j->j<k:=fun k hk j hb=>sA zH k (by rw[uE];exact hk) j hb
 have rL:∀i j,i<j->j<ops.size-> ¬po j i->Compat (bp l) (fun i=>bB.getD i default) (fun i=>pX (bB.getD i default)) i j:=by
  intro i j Hk hj hn
  have uS:=List.all_eq_true.1 (List.all_eq_true.1 ht j (by simpa[hlen]using hj)) i (by simpa using Hk)
  have tf:=List.all_eq_true.1 (List.all_eq_true.1 oi j (by simpa[D2]using hj)) i (by simpa using Hk)
  have Oh:((dx (eH ops) []).getD j 0).testBit i=false:=by simpa[po]using hn
  rw[Oh,Bool.false_or]at uS tf
  simp only[Bool.and_eq_true]at uS tf
  have gi:=Bj i (by omega)
  have gj:=Bj j hj
  simp only[List.getD_eq_getElem?_getD (l:=qv bB),gi,gj,Option.getD_some]at tf
  have dj:∀ {xs ys:List Nat},ke xs ys=true->∀x∈xs,x∉ys:=fun h x hx=>by simpa using List.all_eq_true.1 h x hx
  have fo:∀ {x y:bE},mq x y=true->∀d,x.dst=some d->d∉dH y:=fun h d hd=>by simpa[mq,hd]using h
  exact⟨fo uS.1,fo uS.2,fun id ag=>⟨dj tf.1.1 id ag,dj tf.1.2 id ag⟩,fun id ag=>dj tf.2 id ag⟩
 have C4:∀i,i<ops.size->CZ P (dy (bp l) (fun i=>bB.getD i default) (fun _=>true) s i) (s.nx+i) (bp l i) (bB.getD i default):=fun i hi=>by
  rw[lj i (by omega)];exact a8 i _ _ (tH i hi) (nI i hi)
 have b7:∀i,i<ops.size->∀t,(bp l i).dst=some t->(dstsOf l).contains t=true:=fun i hi t ht=>by
  simp only[List.contains_iff_mem,dstsOf,List.mem_filterMap]
  exact⟨bp l i,List.mem_of_getElem? (tH i hi),ht⟩
 rcases nJ with⟨aF,nJ⟩|⟨v,wl,q1,q2,q3,q4,q5,q6⟩
 ·refine tA (ac:=fun i=>bB.getD i default) (dl:=dstsOf l) (wl:=(bB.flatMap gO)) aR ko ya hs C4 (fun i hi hb=> ?_) wx tC rL b7 (fun i hi id ag=> ?_) (fun i v ws qp hi hb=> ?_) (fun _ φ a w gM=> ?_) (fun i v ws qp hi hb=> ?_)
  ·have:=aF _ (ox i hi);rw[hb]at this;cases this
  ·simp only[List.contains_iff_mem,List.mem_flatMap];exact⟨_,ox i hi,ag⟩
  ·have:=aF _ (ox i hi);rw[hb]at this;cases this
  ·rw[lj ops.size (by omega), <- hlen]at gM
   exact⟨.normal,_,φ,hQ _ _ nJ.2,gM,trivial⟩
  ·have:=aF _ (ox i hi);rw[hb]at this;cases this
 ·refine tA (ac:=fun i=>bB.getD i default) (dl:=dstsOf l) (wl:=wl) aR ko ya hs C4 (fun i hi hb=> ?_) wx tC rL b7 (fun i hi id ag=> ?_) (fun i v' ws qp hi hb=> ?_) (fun aF φ a w gM=> ?_) (fun i v' ws qp hi hb φ a w val gM hd=> ?_)
  ·obtain⟨j,j1,j',e,y,j3,j4⟩:=q3 i (by rw[nI i hi];exact congrArg some hb)
   rw[nO i hi,e]at j1
   refine⟨j',j1, ?_⟩
   simp only[List.getD_eq_getElem?_getD,j3,Option.getD_some,j4]
  ·simp only[List.contains_iff_mem];exact q5 _ (ox i hi) id ag
  ·intro id ag
   simp only[List.contains_iff_mem]
   exact(q1 i v' ws qp (by rw[nI i hi];exact congrArg some hb)).2 id ag
  ·obtain⟨x,x1,x2⟩:=q2
   obtain⟨i,Bd,yR⟩:=List.getElem_of_mem x1
   have hi:i<ops.size:=by omega
   have:=aF i hi
   have e:bB.getD i default=x:=by simp[List.getD_eq_getElem?_getD,List.getElem?_eq_getElem Bd,yR]
   rw[e,x2]at this;cases this
  ·have e:=(q1 i v' ws qp (by rw[nI i hi];exact congrArg some hb)).1
   subst e
   rw[<- hlen]at gM hd
   exact⟨.ba v',_,φ,hQ _ _ q4.2,gM,val,rfl,hd⟩
theorem qx{ops:Array Oper}:∀ (l:List Oper) (l':List bE) (m:Nat),gX n ops l=some l'->gX n ops (l.drop m)=some (l'.drop m)
 |l,l',0,h=>h
 |[],l',m+1,h=>by simp[gX]at h;subst h;simp[gX]
 |o::l,l',m+1,h=>by
  simp only[gX]at h
  split at h
  ·rename_i x xs hx Cz
   injection h with h;subst h
   exact qx l xs m Cz
  ·cases h
theorem zI{l:List bE}{ac:Nat->dQ}{E:Nat->Bool}{s:S}{m:Nat}:∀k,k<=m->dy (bp l) ac E s k=dy (bp (l.take m)) ac E s k:=by
 intro k
 induction k with
 |zero=>intro _;rfl
 |succ k ih=>
  intro hk
  have:bp l k=bp (l.take m) k:=by simp[bp,List.getD_eq_getElem?_getD,List.getElem?_take,(by omega:k<m)]
  simp only[dy,ih (by omega),this]
theorem vy(aR:P.follows .mixedOrders=true){id:Nat}{ops:Array Oper}{l:List bE}{Q Q':fl->S->Prop}{s:S}(hQ:∀e s,Q e s->Q' e s)(ko:gX n ops ops.toList=some l)(ht:qT l (eH ops)=true)
 (hp:DH (eH ops)=true) (h:zG P l (eH ops) Q s):fw P n b rd (.region id ops true) Q' s:=by
 intro M bT H0 w0 cx φ a w ro k hs
 obtain⟨m,Bl,S5,h⟩:=h
 obtain⟨bB,hl,a8,nJ⟩:=oR (l.take m) _ _ _ h
 have S6:(l.take m).length=m:=by rw[List.length_take];omega
 have hlen:l.length=ops.size:=by rw[jC _ _ ko];simp
 have nJ:=nJ.resolve_right (fun⟨_,_,_,_,_,q4,_,_⟩=>q4)
 obtain⟨aF,nJ⟩:=nJ
 have DN:bB.length=m:=by omega
 have nO:∀k,k<ops.size->(eH ops).getD k []=aW ops k:=by
  intro k hk;simp[eH,List.getD_eq_getElem?_getD,List.getElem?_map,List.getElem?_range hk]
 have uE:(eH ops).length=ops.size:=by simp[eH]
 have lj:∀k,k<=m->dy (bp l) (fun i=>bB.getD i default) (fun _=>true) s k=jB (l.take m) bB s k:=fun k hk=>by
  rw[zI k hk];exact qw (l.take m) bB s hl k (by omega)
 have tH:∀k,k<m->(l.take m)[k]? =some (bp l k):=fun k hk=>by
  rw[List.getElem?_take,if_pos hk]
  simp[bp,List.getD_eq_getElem?_getD,List.getElem?_eq_getElem (by omega:k<l.length)]
 have nI:∀k,k<m->bB[k]? =some (bB.getD k default):=fun k hk=>by simp[List.getD_eq_getElem?_getD,List.getElem?_eq_getElem (by omega:k<bB.length)]
 have ox:∀k,k<m->bB.getD k default∈bB:=fun k hk=>List.mem_of_getElem? (nI k hk)
 have Bj:∀k,k<m->(qv bB)[k]? =some (pX (bB.getD k default),gO (bB.getD k default)):=fun k hk=>by
  simp only[qv,List.getElem?_map,nI k hk,Option.map_some]
 have D2:(qv bB).length=m:=by simp[qv,DN]
 simp only[List.nil_append]at nJ
 obtain⟨oi,BC⟩:=nJ
 have ya:∀k,k<ops.size->∀j∈aW ops k,j<k:=fun k hk j hj=>by
  have:=List.all_eq_true.1 hp k (by simpa[uE]using hk)
  rw[nO k hk]at this
  simpa using List.all_eq_true.1 this j hj
 have zH:∀k,k<(eH ops).length->∀j∈(eH ops).getD k [],j<k:=fun k hk j hj=>by
  rw[uE]at hk;rw[nO k hk]at hj;exact ya k hk j hj
 let po:Nat->Nat->Prop:=fun k j=>((dx (eH ops) []).getD k 0).testBit j=true
 have wx:∀E:Nat->Bool,(∀k,k<ops.size->E k=true->∀j∈aW ops k,E j=true)->∀k,k<ops.size->(∀j∈aW ops k,E j=true)->∀j,po k j->E j=true:=fun E hE k hk hj j hb=>
  lr zH (fun k hk eO j hj=>by rw[uE]at hk;rw[nO k hk]at hj;exact hE k hk eO j hj) k (by rw[uE];exact hk) (by rw[nO k hk];exact hj) j hb
 have tC:∀k,k<ops.size->∀j,po k j->j<k:=fun k hk j hb=>sA zH k (by rw[uE];exact hk) j hb
 have rL:∀i j,i<j->j<m-> ¬po j i->Compat (bp l) (fun i=>bB.getD i default) (fun i=>pX (bB.getD i default)) i j:=by
  intro i j Hk hj hn
  have uS:=List.all_eq_true.1 (List.all_eq_true.1 ht j (by simp;omega)) i (by simpa using Hk)
  have tf:=List.all_eq_true.1 (List.all_eq_true.1 oi j (by simpa[D2]using hj)) i (by simpa using Hk)
  have Oh:((dx (eH ops) []).getD j 0).testBit i=false:=by simpa[po]using hn
  rw[Oh,Bool.false_or]at uS tf
  simp only[Bool.and_eq_true]at uS tf
  have gi:=Bj i (by omega)
  have gj:=Bj j hj
  simp only[List.getD_eq_getElem?_getD (l:=qv bB),gi,gj,Option.getD_some]at tf
  have dj:∀ {xs ys:List Nat},ke xs ys=true->∀x∈xs,x∉ys:=fun h x hx=>by simpa using List.all_eq_true.1 h x hx
  have fo:∀ {x y:bE},mq x y=true->∀d,x.dst=some d->d∉dH y:=fun h d hd=>by simpa[mq,hd]using h
  exact⟨fo uS.1,fo uS.2,fun id ag=>⟨dj tf.1.1 id ag,dj tf.1.2 id ag⟩,fun id ag=>dj tf.2 id ag⟩
 have S7:∀k,m<=k->k<ops.size->∀j,j<k->po k j:=fun k TR hk j hj=>by
  have:=List.all_eq_true.1 S5 k (by simpa[uE]using hk)
  simp only[Bool.or_eq_true]at this
  rcases this with this|this
  ·exact absurd (Nat.blt_eq.mp this) (by omega)
  ·show((dx (eH ops) []).getD k 0).testBit j=true
   rw[Nat.eq_of_beq_eq_true this,Nat.testBit_two_pow_sub_one]
   exact decide_eq_true hj
 refine vu (ac:=fun i=>bB.getD i default) (m:=m) (X:=fun v s=>Q' (.ba v) s) (K:=Q' .normal) aR ko ya (by omega) hs (fun i hi=> ?_) (fun i hi=>aF _ (ox i hi)) wx tC rL S7 ?_ (fun s φ a w hk gM=>⟨.normal,s,φ,hk,gM,trivial⟩) (fun v s' aj a' w' val hx gM hd=>⟨.ba v,s',aj,hx,gM,val,rfl,hd⟩)
 ·rw[lj i (by omega)];exact a8 i _ _ (tH i hi) (nI i hi)
 ·rw[lj m (Nat.le_refl _)]
  rw[S6]at BC
  exact fK (fun s hs=>hQ _ _ hs) (fun v s hs=>hQ _ _ hs) _ _ _ (qx _ _ m ko) BC
theorem qy{g:V}{ps:List Nat}{x y:IC}{Q Q':fl->S->Prop}{s:S}(hQ:∀e s,Q e s->Q' e s)(h:u6 P n g ps x y Q s):u6 P n g ps x y Q' s:=by
 obtain⟨env,h1,h2⟩:=h
 refine⟨env,h1, ?_⟩
 split at h2
 ·refine ju.mono (fun v o n h=> ?_) (fun v o n h=>hQ _ _ h) h2
  obtain⟨nf,m,e,p,c,d,st,pd,k1,k2,k3⟩:=h
  refine⟨nf,m,e,p,c,d,st,pd,k1,k2, ?_⟩
  cases pd with
  |none=>exact hQ _ _ k3
  |some j=>cases j<;>exact hQ _ _ k3
 ·exact h2
theorem e8(aR:P.follows .mixedOrders=true):∀ (c:Code) (Q Q':fl->S->Prop) (s:S),(∀e s,Q e s->Q' e s)->nQ P n b rd (low n c) Q s->fw P n b rd c Q' s:=by
 intro c
 induction c with
 |skip=>exact fun Q Q' s hQ h=>hQ _ _ h
 |scope x ih=>exact fun Q Q' s hQ h=>ih Q Q' s hQ h
 |label l=>exact fun Q Q' s hQ h=>hQ _ _ h
 |exit id=>exact fun Q Q' s hQ h=>hQ _ _ h
 |ret=>exact fun Q Q' s hQ h=>hQ _ _ h
 |goto l=>exact fun Q Q' s hQ h=>h.elim
 |refuse y=>exact fun Q Q' s hQ h=>h.elim
 |rangeFunc f p x y=>exact fun Q Q' s hQ h=>⟨h.1,qy hQ h.2⟩
 |region id ops draw=>
  intro Q Q' s hQ h
  cases draw with
  |true=>
   simp only[low]at h
   split at h
   ·rename_i l hl
    split at h
    ·rename_i hc
     simp only[Bool.and_eq_true]at hc
     rcases h with h|h
     ·exact x9 aR hQ hl hc.1 hc.2 h
     ·exact vy aR hQ hl hc.1 hc.2 h
    ·exact h.elim
   ·exact h.elim
  |false=>
   simp only[low]at h
   split at h
   ·rename_i l hl;exact fK (fun s hs=>hQ _ _ hs) (fun v s hs=>hQ _ _ hs) _ l s hl h
   ·exact h.elim
 |seq x y Bu Bv=>
  intro Q Q' s hQ h
  refine Bu _ _ s (fun e s he=> ?_) h
  cases e<;>first|exact Bv Q Q' s hQ he|exact hQ _ _ he
 |cond c x y Bu Bv=>
  intro Q Q' s hQ h
  simp only[low,nQ]at h
  simp only[fw]
  split at h
  ·rename_i t hc
   simp only[hc]
   exact⟨fun ht=>Bu Q Q' s hQ (h.1 ht),fun ht=>Bv Q Q' s hQ (h.2 ht)⟩
  ·rename_i hc
   simp only[hc]
   exact⟨Bu Q Q' s hQ h.1,Bv Q Q' s hQ h.2⟩
  ·exact h.elim
 |block id x ih=>
  intro Q Q' s hQ h
  refine ih _ _ s (fun e s he=> ?_) h
  cases e<;>simp only[dU]at he|- <;>first
   |exact hQ _ _ he
   |(split at he<;>rename_i e
     ·rw[if_pos e];exact hQ _ _ he
     ·rw[if_neg e];exact hQ _ _ he)
 |loop x ih=>
  intro Q Q' s hQ h
  obtain⟨J,h0,hr⟩:=h
  refine⟨J,h0,fun m s0 hJ=>ih _ _ s0 (fun e s he=> ?_) (hr m s0 hJ)⟩
  cases e<;>first|exact hQ _ _ he|exact he
structure ak (P:Program) (f:FuncId) (n:Nat) (ic:IC) (rs:List ResultVar):Prop where
 get:∃fn,P.funcs[f]? =some fn/\(fn.name== "runtime.NumGoroutine")=false/\fn.ntmps=n/\fn.results.toList=rs/\∃c,fn.body=some c/\low n c=ic
theorem fm.oT (aR:P.follows .mixedOrders=true){f:FuncId}{ic:IC}{rs:List ResultVar}(hf:ak P f n ic rs){args:List V}{o:Nat->aa}{nx:Nat}{K X:V->(Nat->aa)->Nat->Prop}(hl:args.length<=n)(h:nQ P n nx false ic (iS P rs K X) ⟨bW args,o,nx⟩):fm P f args o nx K X:=by
 obtain⟨fn,h1,h2,rfl,rfl,c,h3,rfl⟩:=hf.get
 exact fm.wm h1 h2 h3 hl (e8 aR c _ _ _ (fun _ _ h=>h) h)
theorem bU.oT (aR:P.follows .mixedOrders=true){f:FuncId}{ic:IC}{rs:List ResultVar}(hf:ak P f n ic rs){ds:List D}{out:R}(hl:ds.length<=n)(h:nQ P n 0 false ic (uY P rs out) ⟨bW (ds.map .d),fun _=> .no,0⟩):bU P f ds out:=by
 obtain⟨fn,h1,h2,rfl,rfl,c,h3,rfl⟩:=hf.get
 exact bU.kQ (fm.wm h1 h2 h3 (by simpa using hl) (e8 aR c _ _ _ (fun e s h=>xV e s h) h))
end
end Go.Proofs.YtpkobkdgcanmjaaGreat
namespace Go.Proofs.YtpkobkdgcanmjaaGreat
abbrev Fix(α:Type){β:Type}(_:β):Type:=α
def gG(K:V->List (Nat×aa)->Prop)(x:Fix (Option eP) K):Prop:=match x with|some (v,Δ,_)=>K v Δ|none=>False
@[go_sem] theorem D3 {v:V} {Δ:List (Nat×aa)} {rd:List Nat} {K}:gG K (some (v,Δ,rd))=K v Δ:=propext Iff.rfl
@[go_sem] theorem D4 {K}:gG K none=False:=propext Iff.rfl
def V.rM (c:Bool)(v:V):V:=if c=true then v else .bM []
@[go_sem] theorem Hl (b:Bool):(!!b)=b:=by simp
attribute [go_sem] true_or or_true false_or ne_eq not_false_eq_true decide_true decide_false Bool.not_true Bool.not_false Bool.and_true Bool.true_and Bool.and_false Bool.false_and Bool.or_true Bool.true_or Bool.or_false Bool.false_or beq_self_eq_true Bool.true_eq_false Bool.false_eq_true not_true_eq_false and_true true_and and_false false_and eq_self
@[go_sem] theorem V.Hm (v:V):V.rM true v=v:=rfl
@[go_sem] theorem V.FG (v:V):V.rM false v= .bM []:=rfl
def jd(c:Bool)(p:Prop):Prop:=c=true->p
@[congr] theorem C5 {c c':Bool} {p p':Prop} (h:c=c') (h2:c'=true->p=p'):jd c p=jd c' p':=by
  subst h;cases c
  ·simp[jd]
  ·simp[jd,h2 rfl]
@[go_sem] theorem D5 (p:Prop):jd true p=p:=by simp[jd]
@[go_sem] theorem C6 (p:Prop):jd false p=True:=by simp[jd]
@[go_sem] theorem D6 (a:Bool):jd a True=True:=by simp[jd]
def je(v:V)(want:Bool):Option Bool:=
 match v with
 | .d (.bool b)=>some (b==want)
 | .bM []=>some false
 |_=>none
@[go_sem] theorem D7 (b:Bool):je (.d (.bool b)) true=some b:=by simp[je]
@[go_sem] theorem C7 (b:Bool):je (.d (.bool b)) false=some (!b):=by simp[je]
@[go_sem] theorem Hn (want:Bool):je (.bM []) want=some false:=rfl
@[go_sem] theorem FH (c b want:Bool):je (V.rM c (.d (.bool b))) want=some (c&&(b==want)):=by cases c<;>simp[je,V.rM]
@[go_sem] theorem D8 (c b e want:Bool):je (V.rM c (V.rM e (.d (.bool b)))) want=some (c&&e&&(b==want)):=by cases c<;>cases e<;>simp[je,V.rM]
def gR(c:Bool)(x:Option eP):Option eP:=
 if c=true then(match x with|some (v,[],_)=>some (v,[],[])|_=>none)else some (.bM [],[],[])
@[congr] theorem BD {c c':Bool} {x x':Option eP} (h:c=c') (h2:c'=true->x=x'):gR c x=gR c' x':=by
  subst h;cases c
  ·rfl
  ·simp[gR,h2 rfl]
def FI(v:V)(rd:List Nat):Option eP:=some (v,[],rd)
@[go_sem] theorem Oi (v:V) (rd:List Nat):(some (v,[],rd):Option eP)=FI v rd:=by unfold FI;exact Eq.trans rfl rfl
@[go_sem] theorem D9 (c:Bool) (v:V) (rd:List Nat):gR c (FI v rd)=FI (V.rM c v) []:=by cases c<;>rfl
@[go_sem] theorem FJ {v:V} {rd:List Nat} {K}:gG K (FI v rd)=K v []:=propext Iff.rfl
@[go_sem] theorem C8 (c:Bool) (v:V) (rd:List Nat):gR c (some (v,[],rd))=some (V.rM c v,[],[]):=by cases c<;>rfl
@[go_sem] theorem BE (x:Option eP):gR false x=some (.bM [],[],[]):=rfl
@[go_sem] theorem Ho (b x:Bool):lY (.d (.bool b)) (V.rM b (.d (.bool x))) (.d (.bool false))=some (.d (.bool (b&&x))):=by cases b<;>rfl
@[go_sem] theorem M3 (b x:Bool):lY (.d (.bool b)) (.d (.bool true)) (V.rM (!b) (.d (.bool x)))=some (.d (.bool (b||x))):=by cases b<;>rfl
@[go_sem] theorem Hq (b x:Bool):lY (.d (.bool (!b))) (.d (.bool true)) (V.rM b (.d (.bool x)))=some (.d (.bool (!b||x))):=by cases b<;>rfl
@[go_sem] theorem FK (x y:V):lY (.d (.bool true)) x y=some x:=rfl
@[go_sem] theorem Ea (x y:V):lY (.d (.bool false)) x y=some y:=rfl
@[reducible] def gS:Op->Bool
  | .move _| .assign _| .pick .. | .load .. | .binOp .. | .unOp .. | .nilCheck _| .convert .. | .makeInterface .. | .makeFunc .. | .fieldAddr .. | .indexAddr .. | .extract .. | .build .. | .index .. | .field .. | .lookup .. =>true
  | .call c=>match c.callee with
    | .builtin .len=>true
    | .builtin .min=>true
    | .builtin .max=>true
    |_=>false
  |_=>false
def tI(P:Program)(f:V)(args:List V)(o:Nat->aa)(rs:List D):Prop:=
 match f with
 | .func (.func g) first cap=>match bA o (first++args++cap)with
   |some ds=>bU P g ds (.ret rs)/\D.fX rs=true
   |none=>False
 |_=>False
def wz(P:Program)(f:V)(args:List V)(o:Nat->aa)(K:V->Prop)(c:Fix Bool (f,args,o,K)):Prop:=
 ∃rs,jd c (tI P f args o rs)/\K (V.rM c (fY rs))
def tJ(P:Program)(g:FuncId)(nx:Nat)(K X:V->(Nat->aa)->Nat->Prop)(args:Fix (List V) (K,X))(o:Fix (Nat->aa) (K,X)):Prop:=ng P g args o nx K X
def oU(P:Program)(g:FuncId)(o:Nat->aa)(nx:Nat)(K X:V->(Nat->aa)->Nat->Prop)(ds:Fix (List D) (o,nx,K,X))(all:Fix (List V) (o,nx,K,X)):Prop:=
 oK P g ds o (put o (cg o (V.aQ all))) (put o (mz o (V.aQ all))) (fun v o'=>K v o' (nx+1)) (fun v o'=>X v o' (nx+1))\/ng P g all o nx K X
def jD(P:Program)(g:FuncId)(K X:V->(Nat->aa)->Nat->Prop)(s:S)(all:List V)(ds:Fix (Option (List D)) (K,X,s,all)):Prop:=
 match ds with
 |some ds=>oU P g s.o s.nx K X ds all
 |none=>tJ P g s.nx K X all s.o
@[go_sem] theorem C9 {P:Program} {s:S} {ds:List D} {g:FuncId} {all:List V} {K X}:
 jD P g K X s all (some ds)=oU P g s.o s.nx K X ds all:=propext Iff.rfl
def wA(P:Program)(id:Nat)(K X:V->(Nat->aa)->Nat->Prop)(s:S)(args:Fix (List V) (K,X,s)):Prop:=dT P id args s.o s.nx K X
@[go_sem] theorem Da {P:Program} {s:S} {g:FuncId} {all:List V} {K X}:jD P g K X s all none=tJ P g s.nx K X all s.o:=propext Iff.rfl
def np(P:Program)(K X:V->(Nat->aa)->Nat->Prop)(s:S)(f:Fix V (K,X,s))(args:Fix (List V) (K,X,s)):Prop:=
 match f with
 | .func (.func g) first cap=>jD P g K X s (first++args++cap) (bA s.o (first++args++cap))
 | .jT id=>wA P id K X s args
 |_=>False
@[go_sem] theorem FL {P:Program} {s:S} {id:Nat} {args:List V} {K X}:np P K X s (.jT id) args=wA P id K X s args:=propext Iff.rfl
@[go_sem] theorem Eb {P:Program} {s:S} {g:FuncId} {first cap args:List V} {K X}:np P K X s (.func (.func g) first cap) args=jD P g K X s (first++args++cap) (bA s.o (first++args++cap)):=propext Iff.rfl
def zJ(P:Program)(g:FuncId)(o:Nat->aa)(nx:Nat)(K X:V->(Nat->aa)->Nat->Prop)(ds:Fix (List D) (o,nx,K,X))(all:Fix (List V) (o,nx,K,X)):Prop:=
 oK P g ds o (put o (cg o (V.aQ all))) (put o (mz o (V.aQ all))) (fun v o'=>K v o' (nx+1)) (fun v o'=>X v o' (nx+1))
def tK(P:Program)(g:FuncId)(K X:V->(Nat->aa)->Nat->Prop)(s:S)(all:List V)(ds:Fix (Option (List D)) (K,X,s,all)):Prop:=
 match ds with
 |some ds=>zJ P g s.o s.nx K X ds all
 |none=>False
@[go_sem] theorem Ec {P:Program} {s:S} {ds:List D} {g:FuncId} {all:List V} {K X}:tK P g K X s all (some ds)=zJ P g s.o s.nx K X ds all:=propext Iff.rfl
def zK(P:Program)(K X:V->(Nat->aa)->Nat->Prop)(s:S)(args:Fix (List V) (K,X,s))(r:Fix (Option (FuncId×V)) (K,X,s)):Prop:=
 match r with
 |some (g,y)=>tK P g K X s (y::args) (bA s.o (y::args))
 |none=>False
@[go_sem] theorem FM {P:Program} {s:S} {g:FuncId} {y:V} {args:List V} {K X}:zK P K X s args (some (g,y))=tK P g K X s (y::args) (bA s.o (y::args)):=propext Iff.rfl
def yb(K:V->Prop)(v:Fix V K):Prop:=
 match v with
 | .d (.iface t y)=>K (.d (.iface t y))
 | .iface t y=>K (.iface t y)
 |_=>False
@[go_sem] theorem Oj {t:TypeId} {y:D} {K}:yb K (.d (.iface t y))=K (.d (.iface t y)):=propext Iff.rfl
@[go_sem] theorem Ol {t:TypeId} {y:V} {K}:yb K (.iface t y)=K (.iface t y):=propext Iff.rfl
def Db(K:V->List (Nat×aa)->Prop)(id:Nat)(l:Fix (List (D×D)) (K,id)):Prop:=vY id l fun v Δ _=>K v Δ
def zL(K:V->List (Nat×aa)->Prop)(str:Bool)(FN:Fix (Option eP) (K,str))(left:Fix (Option (Nat×List (D×D))) (K,str)):Prop:=
 match left with
 |some (id,l)=>str=false/\Db K id l
 |none=>gG K FN
@[go_sem] theorem FO {K} {FN:Option eP} {id:Nat} {l:List (D×D)}:zL K false FN (some (id,l))=Db K id l:=propext ⟨fun h=>h.2,fun h=>⟨rfl,h⟩⟩
@[go_sem] theorem FP {K} {str:Bool} {FN:Option eP}:zL K str FN none=gG K FN:=propext Iff.rfl
def uG(P:Program)(X:V->S->Prop)(K:S->Prop)(o:bE)(s:Fix S (X,K,o)):Prop:=
 match o.op with
 | .next x str=>zL (fun v Δ=>K ⟨aN s.env o.dst v,put s.o Δ,s.nx+1⟩) str (ky s.o (s.ev x) str) (kz s.o (s.ev x))
 | .call c=>match c.callee with
   | .value f=>np P (fun v o' nx'=>K ⟨aN s.env o.dst v,o',nx'⟩) (fun v o' nx'=>X v ⟨s.env,o',nx'⟩) s (s.ev f) (c.args.toList.map s.ev)
   | .invoke r m=>zK P (fun v o' nx'=>K ⟨aN s.env o.dst v,o',nx'⟩) (fun v o' nx'=>X v ⟨s.env,o',nx'⟩) s (c.args.toList.map s.ev) (oz P m (s.ev r))
   |_=>gG (fun v Δ=>K ⟨aN s.env o.dst v,put s.o Δ,s.nx+1⟩) (eF P s s.nx o.op)
 | .panic x=>yb (fun v=>X v s) (s.ev x)
 |op=>gG (fun v Δ=>K ⟨aN s.env o.dst v,put s.o Δ,s.nx+1⟩) (eF P s s.nx op)
@[reducible] def ed:Op->Option (Operand×List Operand)
  | .call c=>match c.callee with
    | .value f=>some (f,c.args.toList)
    |_=>none
  |_=>none
def fA(A B:Prop)(t:Fix Bool (A,B)):Prop:=l6 t A B
@[go_sem] theorem Ed (A B:Prop):fA A B true=A:=oL A B
@[go_sem] theorem Dc (A B:Prop):fA A B false=B:=nh A B
def yc(P:Program)(X:V->S->Prop)(K:S->Prop)(o:bE)(s:S)(f:Operand)(args:List Operand)(c:Fix Bool (X,K,o,s,f,args)):Prop:=
 wz P (s.ev f) (args.map s.ev) s.o (fun v=>K ⟨aN s.env o.dst v,s.o,s.nx+1⟩) c\/fA (uG P X K o s) (K ⟨aN s.env o.dst (.bM []),s.o,s.nx+1⟩) c
def rN(P:Program)(X:V->S->Prop)(K:S->Prop)(o:bE)(s:S)(c:Fix (Option Bool) (X,K,o,s)):Prop:=
 match c with
 |none=>False
 |some c=>match ed o.op with
  |some (f,args)=>yc P X K o s f args c
  |none=>if gS o.op=true then gG (fun v _=>K ⟨aN s.env o.dst v,s.o,s.nx+1⟩) (gR c (eF P s s.nx o.op))
   else fA (uG P X K o s) (K ⟨aN s.env o.dst (.bM []),s.o,s.nx+1⟩) c
def nK(P:Program)(X:V->S->Prop)(K:S->Prop)(l:List bE)(s:Fix S (X,K,l)):Prop:=
 match l with
 |[]=>K s
 |o::l=>match o.gd with
  |none=>uG P X (nK P X K l) o s
  |some (d,want)=>rN P X (nK P X K l) o s (je (s.env d) want)
def gk(want:Bool)(A B:Prop)(v:Fix V (A,B)):Prop:=
 match v with
 | .d (.bool b)=>l6 (b==want) A B
 | .bM []=>B
 |_=>False
@[go_sem] theorem Dd (b:Bool) (A B:Prop):gk true A B (.d (.bool b))=fA A B b:=by simp[gk,fA]
@[go_sem] theorem BF (b:Bool) (A B:Prop):gk false A B (.d (.bool b))=fA A B (!b):=by simp[gk,fA]
@[go_sem] theorem FQ (want:Bool) (A B:Prop):gk want A B (.bM [])=B:=propext Iff.rfl
@[go_sem] theorem Ee (c b want:Bool) (A B:Prop):gk want A B (V.rM c (.d (.bool b)))=fA A B (c&&(b==want)):=by cases c<;>simp[gk,V.rM,fA]
abbrev KD:=V->List (Nat×aa)->List Nat->Prop
abbrev XD:=V->List Nat->List Nat->Prop
def zM(P:Program)(g:FuncId)(K:KD)(X:XD)(o:Nat->aa)(rd:List Nat)(ds:Fix (List D) (K,X,o,rd))(all:Fix (List V) (K,X,o,rd)):Prop:=
 nn P g ds (fun v=>K v (cg o (V.aQ all)) rd) (fun v=>K v [] rd) (fun v=>X v [] rd)
def rO(P:Program)(g:FuncId)(K:KD)(X:XD)(o:Nat->aa)(nx fr:Nat)(all:Fix (List V) (K,X,o,nx)):Prop:=ft P g all o nx fr K X
def oV(P:Program)(g:FuncId)(K:KD)(X:XD)(o:Nat->aa)(nx fr:Nat)(rd:List Nat)(ds:Fix (List D) (K,X,o,nx,rd))(all:Fix (List V) (K,X,o,nx,rd)):Prop:=zM P g K X o rd ds all\/rO P g K X o nx fr all
def mP(P:Program)(K:KD)(X:XD)(o:Nat->aa)(nx fr:Nat)(rd:List Nat)(g:FuncId)(all:List V)(ds:Fix (Option (List D)) (K,X,o,nx,rd,all)):Prop:=
 match ds with
 |some ds=>oV P g K X o nx fr rd ds all
 |none=>rO P g K X o nx fr all
@[go_sem] theorem De {P:Program} {o:Nat->aa} {nx fr:Nat} {rd:List Nat} {ds:List D} {g:FuncId} {all:List V} {K X}:mP P K X o nx fr rd g all (some ds)=oV P g K X o nx fr rd ds all:=propext Iff.rfl
@[go_sem] theorem Df {P:Program} {o:Nat->aa} {nx fr:Nat} {rd:List Nat} {g:FuncId} {all:List V} {K X}:mP P K X o nx fr rd g all none=rO P g K X o nx fr all:=propext Iff.rfl
def tL(P:Program)(K:KD)(X:XD)(o:Nat->aa)(nx fr:Nat)(rd:Fix (List Nat) (K,X,o,nx))(f:Fix V (K,X,o,nx))(args:Fix (List V) (K,X,o,nx)):Prop:=
 match f with
 | .func (.func g) first cap=>mP P K X o nx fr rd g (first++args++cap) (bA o (first++args++cap))
 |_=>False
@[go_sem] theorem Eg {P:Program} {o:Nat->aa} {nx fr:Nat} {rd:List Nat} {g:FuncId} {first cap args:List V} {K X}:tL P K X o nx fr rd (.func (.func g) first cap) args=mP P K X o nx fr rd g (first++args++cap) (bA o (first++args++cap)):=propext Iff.rfl
def oW(K:KD)(rd:List Nat)(x:Fix (Option eP) (K,rd)):Prop:=match x with|some (v,Δ,_)=>K v Δ rd|none=>False
@[go_sem] theorem Eh {v:V} {Δ:List (Nat×aa)} {r rd:List Nat} {K}:oW K rd (some (v,Δ,r))=K v Δ rd:=propext Iff.rfl
@[go_sem] theorem FR {v:V} {r rd:List Nat} {K}:oW K rd (FI v r)=K v [] rd:=propext Iff.rfl
def A3(P:Program)(K:KD)(X:XD)(fr:Nat)(o:bE)(s:Fix S (K,X,o)):Prop:=
 match ed o.op with
 |some (f,args)=>tL P K X s.o s.nx fr (fL s o.op) (s.ev f) (args.map s.ev)
 |none=>oW K (fL s o.op) (eF P s fr o.op)
def yd(P:Program)(KB:List Nat->Fp->Prop)(pr:List (List Nat))(l:List bE)(fr:Nat)(fp:Fix Fp (KB,l))(bad ws:Fix (List Nat) (KB,l))(s:Fix S (KB,l)):Prop:=e7 P KB pr l fr s fp bad ws
def l7(P:Program)(K:S->Fp->Prop)(KP:V->List Nat->Fp->Prop)(pr:List (List Nat))(l:List bE)(fr:Nat)(s:Fix S (K,KP,l))(fp:Fix Fp (K,KP,l)):Prop:=
 match l with
 |[]=>K s fp
 |o::l=>match o.gd with
  |none=>A3 P (fun v Δ rd=>l7 P K KP pr l (fr+1) ⟨aN s.env o.dst v,put s.o Δ,s.nx⟩ (fp++[(rd,Δ.map (·.1))]))
   (fun v ws rd=>yd P (KP v) pr l (fr+1) (fp++[(rd,[])]) [fp.length] (ws++fp.flatMap (·.2)) ⟨aN s.env o.dst .aw,s.o,s.nx⟩) fr o s
  |some (d,want)=>gk want (A3 P (fun v Δ rd=>l7 P K KP pr l (fr+1) ⟨aN s.env o.dst v,put s.o Δ,s.nx⟩ (fp++[(rd,Δ.map (·.1))]))
   (fun v ws rd=>yd P (KP v) pr l (fr+1) (fp++[(rd,[])]) [fp.length] (ws++fp.flatMap (·.2)) ⟨aN s.env o.dst .aw,s.o,s.nx⟩) fr o s)
   (l7 P K KP pr l (fr+1) ⟨aN s.env o.dst (.bM []),s.o,s.nx⟩ (fp++[([],[])])) (s.env d)
def BG(pr:List (List Nat))(nx:Nat)(Q:fl->S->Prop)(s:Fix S Q)(fp:Fix Fp Q):Prop:=vw pr nx Q s fp
def qz(A B:Prop)(v:Fix V (A,B)):Prop:=
 match v with
 | .d (.bool t)=>fA A B t
 | .dC=>A/\B
 |_=>False
@[go_sem] theorem FT (A B:Prop):qz A B .dC=(A/\B):=propext Iff.rfl
@[go_sem] theorem Ei (t:Bool) (A B:Prop):qz A B (.d (.bool t))=fA A B t:=propext Iff.rfl
def wB{ι:Type}(b:Nat)(st:ι->S)(eG:ι->Prop)(kU:ι->Nat)(i:ι)(s:S):Prop:=∃j,eG j/\kU j<kU i/\dq b s (st j)
def oX(next:S->Prop)(Q:fl->S->Prop)(e:fl)(s:S):Prop:=match e with| .normal=>next s|e=>Q e s
section
variable {N:S->Prop}{Q:fl->S->Prop}{s:S}
@[go_sem ↓] theorem BH:oX N Q .normal s=N s:=propext Iff.rfl
@[go_sem ↓] theorem Ej {id:Nat}:oX N Q (.exit id) s=Q (.exit id) s:=propext Iff.rfl
@[go_sem ↓] theorem FU:oX N Q .ret s=Q .ret s:=propext Iff.rfl
@[go_sem ↓] theorem FV {v:V}:oX N Q (.ba v) s=Q (.ba v) s:=propext Iff.rfl
end
def wC(b:Nat)(body:(fl->S->Prop)->S->Prop)(Q:fl->S->Prop)(s:Fix S (body,Q)):Prop:=
 ∃ (ι:Type) (st:ι->S) (eG:ι->Prop) (kU:ι->Nat) (i0:ι),eG i0/\dq b s (st i0)/\∀i,eG i->body (oX (wB b st eG kU i) Q) (st i)
theorem cq{ι:Type}{b:Nat}{body:(fl->S->Prop)->S->Prop}{Q:fl->S->Prop}{s:S}(st:ι->S)(eG:ι->Prop)(kU:ι->Nat)(i0:ι)(h0:eG i0)(hle:dq b s (st i0))
 (h:∀i,eG i->body (oX (wB b st eG kU i) Q) (st i)):wC b body Q s:=⟨ι,st,eG,kU,i0,h0,hle,h⟩
def Ek(P:Program)(n:Nat)(rd:Bool)(ps:List Nat)(x y:IC)(Q:fl->S->Prop)(s:Fix S (x,y,Q))(g:Fix V (x,y,Q)):Prop:=rd=false/\u6 P n g ps x y Q s
def l8(P:Program)(n b:Nat)(rd:Bool)(c:IC)(Q:fl->S->Prop)(s:Fix S (c,Q)):Prop:=
 match c with
 | .skip=>Q .normal s
 | .ab l=>nK P (fun v s=>Q (.ba v) s) (Q .normal) l s
 | .cc l pr=>l7 P (BG pr (s.nx+l.length) Q) (tE pr l s Q) pr l s.nx s []
 | .seq x y=>l8 P n b rd x (lS (fun s=>l8 P n b rd y Q s) Q) s
 | .cond c x y=>qz (l8 P n b rd x Q s) (l8 P n b rd y Q s) (s.ev c)
 | .block id x=>l8 P n b rd x (dU id Q) s
 | .loop x=>wC b (fun Q s=>l8 P n b rd x Q s) Q s
 | .exit id=>Q (.exit id) s
 | .ret=>Q .ret s
 | .xi g ps x y=>Ek P n rd ps x y Q s (s.ev g)
 | .bad=>False
section
variable {P:Program}{n b:Nat}{rd:Bool}
theorem tM{s:S}{f:V}{args:List V}{K K':V->(Nat->aa)->Nat->Prop}{X X':V->(Nat->aa)->Nat->Prop}(hK:∀v o n,K v o n->K' v o n)(hX:∀v o n,X v o n->X' v o n)(h:np P K X s f args):
 match(generalizing:=false) f with
  | .func (.func g) first cap=>match bA s.o (first++args++cap)with
    |some ds=>oK P g ds s.o (put s.o (cg s.o (V.aQ (first++args++cap)))) (put s.o (mz s.o (V.aQ (first++args++cap)))) (fun v o'=>K' v o' (s.nx+1)) (fun v o'=>X' v o' (s.nx+1))\/ng P g (first++args++cap) s.o s.nx K' X'
    |none=>ng P g (first++args++cap) s.o s.nx K' X'
  | .jT id=>dT P id args s.o s.nx K' X'
  |_=>False:=by
 unfold np jD wA at h
 split at h
 ·rename_i g first cap
  cases dB:bA s.o (first++args++cap)with
  |some ds=>
   simp only[dB]at h|-
   rcases h with⟨out,h1,h2|⟨h3,h2⟩|⟨h3,h2⟩⟩|h
   ·exact .inl ⟨out,h1, .inl (by cases out<;>first|exact hK _ _ _ h2|exact hX _ _ _ h2)⟩
   ·exact .inl ⟨out,h1, .inr (.inl ⟨h3,by cases out<;>first|exact hK _ _ _ h2|exact hX _ _ _ h2⟩)⟩
   ·exact .inl ⟨out,h1, .inr (.inr ⟨h3,by cases out<;>first|exact hK _ _ _ h2|exact hX _ _ _ h2⟩)⟩
   ·exact .inr (ju.mono hK hX h)
  |none=>
   simp only[dB]at h|-
   exact ju.mono hK hX h
 ·exact dT.mono hK hX h
 ·exact h.elim
theorem qA{x:Option eP}{K:V->List (Nat×aa)->Prop}(h:gG K x):∃v Δ rd,x=some (v,Δ,rd)/\K v Δ:=by
 unfold gG at h;split at h
 ·exact⟨_,_,_,rfl,h⟩
 ·exact h.elim
theorem rP{s:S}{o:bE}{X X':V->S->Prop}{K K':S->Prop}(hK:∀s,K s->K' s)(hX:∀v s,X v s->X' v s)(h:uG P X K o s):yH P s o X' K':=by
 unfold uG at h
 unfold yH
 have hs:∀ {op:Op},(gG (fun v Δ=>K ⟨aN s.env o.dst v,put s.o Δ,s.nx+1⟩) (eF P s s.nx op))->(match eF P s s.nx op with|some (v,Δ,_)=>K' ⟨aN s.env o.dst v,put s.o Δ,s.nx+1⟩|none=>False):=by
  intro op h
  obtain⟨v,Δ,rd,he,h⟩:=qA h
  simp only[he];exact hK _ h
 split at h
 ·rename_i x str hx
  rw[hx]
  unfold zL at h
  simp only
  split at h
  ·rename_i id l hl
   simp only[hl]
   exact⟨h.1,fun e=>hK _ (h.2.1 e),fun i k x e=>hK _ (h.2.2 i k x e)⟩
  ·rename_i hl
   simp only[hl]
   exact hs (op:= .next x str) h
 ·rename_i c hc
  simp only[hc]
  split at h
  ·rename_i f hf
   simp only[hf]
   exact tM (K:=fun v o' nx'=>K ⟨aN s.env o.dst v,o',nx'⟩) (X:=fun v o' nx'=>X v ⟨s.env,o',nx'⟩) (fun v o n h=>hK _ h) (fun v o n h=>hX _ _ h) h
  ·rename_i r m hf
   simp only[hf]
   unfold zK at h
   split at h
   ·rename_i g y hr
    simp only[hr]
    unfold tK at h
    split at h
    ·rename_i ds dB
     obtain⟨out,h1,h2⟩:=h
     refine .inl ⟨ds,dB,out,h1, ?_⟩
     rcases h2 with h2|⟨h3,h2⟩|⟨h3,h2⟩
     ·exact .inl (by cases out<;>first|exact hK _ h2|exact hX _ _ h2)
     ·exact .inr (.inl ⟨h3,by cases out<;>first|exact hK _ h2|exact hX _ _ h2⟩)
     ·exact .inr (.inr ⟨h3,by cases out<;>first|exact hK _ h2|exact hX _ _ h2⟩)
    ·exact h.elim
   ·exact h.elim
  ·rename_i hf hi
   rw[hc]at h
   obtain⟨zf,args,ts⟩:=c
   cases zf with
   |value f=>exact absurd rfl (hf f)
   |invoke r m=>exact absurd rfl (hi r m)
   |_=>exact hs h
 ·rename_i x hx
  simp only[hx]
  unfold yb at h
  split at h
  ·rename_i hv;simp only[hv];exact hX _ _ h
  ·rename_i hv;simp only[hv];exact hX _ _ h
  ·exact h.elim
 ·rename_i pM hc hp
  have h2:=hs h
  cases hh:o.op<;>first
   |exact absurd hh (hc _)
   |exact absurd hh (hp _)
   |exact absurd hh (pM _ _)
   |(rw[hh]at h2;exact h2)
theorem zN{s:S}{o:bE}{X:V->S->Prop}{K:S->Prop}(hp:gS o.op=true){v:V}{Δ:List (Nat×aa)}{rd:List Nat}(he:eF P s s.nx o.op=some (v,Δ,rd))(h:K ⟨aN s.env o.dst v,put s.o Δ,s.nx+1⟩):yH P s o X K:=by
 unfold yH
 split
 ·rename_i c hc
  split
  ·rename_i f hf;rw[hc]at hp;simp[gS,hf]at hp
  ·rename_i r m hf;rw[hc]at hp;simp[gS,hf]at hp
  ·rw[he];exact h
 ·rename_i x hx;rw[hx]at hp;simp[gS]at hp
 ·rename_i x str hx;rw[hx]at hp;simp[gS]at hp
 ·rw[he];exact h
theorem qB{X X':V->S->Prop}{K K':S->Prop}(hK:∀s,K s->K' s)(hX:∀v s,X v s->X' v s):∀ (l:List bE) (s:S),nK P X K l s->kS P X' K' l s
 |[],s,h=>hK _ h
 |o::l,s,h=>by
  have ih:=qB hK hX l
  unfold nK at h
  unfold kS
  cases hg:o.gd with
  |none=>
   simp only[hg]at h|-
   exact rP ih hX h
  |some p=>
   obtain⟨d,want⟩:=p
   simp only[hg]at h|-
   unfold rN at h
   split at h
   ·exact h.elim
   ·rename_i c hc
    have M4:∀ {A B:Prop},(c=true->A)->(c=false->B)->(match s.env d with
     | .d (.bool b)=>if b=want then A else B
     | .bM []=>B
     |_=>False):=by
     intro A B hA hB
     generalize s.env d=v at hc
     unfold je at hc
     split at hc
     ·rename_i b
      injection hc with hc
      split
      ·rename_i e;exact hA (by rw[<- hc];simp[e])
      ·rename_i e;exact hB (by rw[<- hc];simp[e])
     ·injection hc with hc
      exact hB hc.symm
     ·cases hc
    split at h
    ·rename_i f args yI
     rcases h with h|h
     case inr=>exact M4 (fun Dg=>rP ih hX (h.1 Dg)) (fun El=>ih _ (h.2 El))
     obtain⟨rs,h1,h2⟩:=h
     refine M4 (fun Dg=> ?_) (fun El=> ?_)
     ·unfold ed at yI
      split at yI
      ·rename_i c' xL
       split at yI
       ·rename_i f' xC
        injection yI with yI;injection yI with e1 e2;subst e1;subst e2
        have lN:=h1 Dg
        unfold yH
        simp only[xL,xC]
        unfold tI at lN
        split at lN
        ·rename_i g first cap oB
         simp only[oB]
         split at lN
         ·rename_i ds dB
          simp only[dB]
          refine .inl ⟨.ret rs,lN.1, .inr (.inl ⟨lN.2, ?_⟩)⟩
          refine ih _ ?_
          rw[Dg]at h2
          exact h2
         ·exact lN.elim
        ·exact lN.elim
       ·cases yI
      ·cases yI
     ·refine ih _ ?_
      rw[El]at h2
      exact h2
    ·split at h
     ·rename_i hp
      obtain⟨v,Δ,rd,he,h⟩:=qA h
      refine M4 (fun Dg=> ?_) (fun El=> ?_)
      ·rw[Dg]at he
       simp only[gR,if_true]at he
       split at he
       ·rename_i v' qp dZ
        injection he with he;injection he with e1 e2;subst e1
        exact zN hp dZ (ih _ h)
       ·cases he
      ·rw[El]at he
       simp only[gR]at he
       injection he with he;injection he with e1 e2;subst e1
       exact ih _ h
     ·exact M4 (fun Dg=>rP ih hX (h.1 Dg)) (fun El=>ih _ (h.2 El))
theorem rQ{op:Op}{f:Operand}{args:List Operand}(h:ed op=some (f,args)):∃c,op= .call c/\c.callee= .value f/\c.args.toList=args:=by
 unfold ed at h
 split at h
 ·rename_i c
  split at h
  ·rename_i f' xC
   injection h with h;injection h with e1 e2;subst e1;subst e2
   exact⟨c,rfl,xC,rfl⟩
  ·cases h
 ·cases h
theorem ye{x:Option eP}{rd:List Nat}{K:KD}(h:oW K rd x):∃v Δ r,x=some (v,Δ,r)/\K v Δ rd:=by
 unfold oW at h;split at h
 ·exact⟨_,_,_,rfl,h⟩
 ·exact h.elim
theorem ft.mono {P:Program}{g:FuncId}{args:List V}{o:Nat->aa}{nx fr:Nat}{K K':KD}{X X':XD}(hK:∀v Δ r,K v Δ r->K' v Δ r)(hX:∀v w r,X v w r->X' v w r)(h:ft P g args o nx fr K X):ft P g args o nx fr K' X':=by
 obtain⟨rd,Δ,h1,⟨rs,h2,h3⟩|⟨x,h2,h3⟩|⟨v,h2,h3⟩⟩:=h
 ·exact⟨rd,Δ,h1, .inl ⟨rs,h2,hK _ _ _ h3⟩⟩
 ·exact⟨rd,Δ,h1, .inr (.inl ⟨x,h2,hX _ _ _ h3⟩)⟩
 ·exact⟨rd,Δ,h1, .inr (.inr ⟨v,h2,hK _ _ _ h3⟩)⟩
theorem nn.mono {P:Program}{g:FuncId}{ds:List D}{Kf Kb KX QW QX QY:V->Prop}(h1:∀v,Kf v->QW v)(h2:∀v,Kb v->QX v)(h3:∀v,KX v->QY v)(h:nn P g ds Kf Kb KX):nn P g ds QW QX QY:=by
 rcases h with⟨rs,a,b|⟨b,c⟩⟩|⟨x,a,b,c⟩|⟨v,a,b⟩
 ·exact .inl ⟨rs,a, .inl (h1 _ b)⟩
 ·exact .inl ⟨rs,a, .inr ⟨b,h2 _ c⟩⟩
 ·exact .inr (.inl ⟨x,a,b,h3 _ c⟩)
 ·exact .inr (.inr ⟨v,a,h1 _ b⟩)
theorem wD{s:S}{fr:Nat}{o:bE}{K K':KD}{X X':XD}(hK:∀v Δ r,K v Δ r->K' v Δ r)(hX:∀v w r,X v w r->X' v w r)(h:A3 P K X fr o s):sx P s fr o K' X':=by
 unfold A3 at h
 split at h
 ·rename_i f args yI
  obtain⟨c,h1,h2,h3⟩:=rQ yI
  subst h3
  unfold sx
  simp only[h1,h2]
  unfold tL mP at h
  split at h
  ·rename_i g first cap hf
   simp only[hf]
   split at h
   ·rename_i ds dB
    simp only[dB]
    refine h.elim (fun h=> .inl ?_) (fun h=> .inr (ft.mono hK hX h))
    refine nn.mono (fun v h=> ?_) (fun v h=> ?_) (fun v h=> ?_) h<;>(rw[h1]at h)
    ·exact hK _ _ _ h
    ·exact hK _ _ _ h
    ·exact hX _ _ _ h
   ·rename_i dB
    simp only[dB]
    exact ft.mono hK hX h
  ·exact h.elim
 ·rename_i yI
  obtain⟨v,Δ,rd,he,h⟩:=ye h
  unfold sx
  split
  ·rename_i c hc
   split
   ·rename_i f hf
    exact absurd yI (by simp[ed,hc,hf])
   ·simp only[he];exact hK _ _ _ h
  ·simp only[he];exact hK _ _ _ h
theorem tN{s:S}{fr:Nat}{o:bE}{K K':KD}{X X':XD}(hK:∀v Δ r,K v Δ r->K' v Δ r)(hX:∀v w r,X v w r->X' v w r)(h:sx P s fr o K X):sx P s fr o K' X':=by
 unfold sx at h|-
 split at h
 ·rename_i c hc
  rw[hc]at h|-
  split at h
  ·rename_i f hf
   (try simp only[hf])
   split at h
   ·rename_i oB
    (try simp only[oB])
    split at h
    ·exact h.elim (fun h=> .inl (nn.mono (fun v h=>hK _ _ _ h) (fun v h=>hK _ _ _ h) (fun v h=>hX _ _ _ h) h)) (fun h=> .inr (ft.mono hK hX h))
    ·exact ft.mono hK hX h
   ·exact h.elim
  ·rename_i hf
   split at h
   ·rename_i he
    (try simp only[he])
    exact hK _ _ _ h
   ·exact h.elim
 ·split at h
  ·rename_i he
   (try simp only[he]);exact hK _ _ _ h
  ·exact h.elim
theorem fM{KB QZ:List Nat->Fp->Prop}{pr:List (List Nat)}(hK:∀l fp,KB l fp->QZ l fp):∀ (l:List bE) (fr:Nat) (s:S) (fp:Fp) (bad ws:List Nat),e7 P KB pr l fr s fp bad ws->e7 P QZ pr l fr s fp bad ws
 |[],_,_,_,_,_,h=>hK _ _ h
 |o::l,fr,s,fp,bad,ws,h=>by
  unfold e7 at h|-
  split
  ·rename_i hb
   rw[if_pos hb]at h
   exact fM hK l _ _ _ _ _ h
  ·rename_i hb
   rw[if_neg hb]at h
   split at h
   ·exact tN (fun v Δ r h=>fM hK l _ _ _ _ _ h) (fun _ _ _ h=>h) h
   ·split at h
    ·split at h
     ·rename_i e;simp only[e,if_true]
      exact tN (fun v Δ r h=>fM hK l _ _ _ _ _ h) (fun _ _ _ h=>h) h
     ·rename_i e;simp only[e,if_false]
      exact fM hK l _ _ _ _ _ h
    ·exact fM hK l _ _ _ _ _ h
    ·exact h.elim
theorem il{K K':S->Fp->Prop}{KP Om:V->List Nat->Fp->Prop}{pr:List (List Nat)}(hK:∀s fp,K s fp->K' s fp)(hP:∀v l fp,KP v l fp->Om v l fp):∀ (l:List bE) (fr:Nat) (s:S) (fp:Fp),l7 P K KP pr l fr s fp->gQ P K' Om pr l fr s fp
 |[],_,_,_,h=>hK _ _ h
 |o::l,fr,s,fp,h=>by
  have hB:∀v ws (On:List Nat),yd P (KP v) pr l (fr+1) (fp++[(On,[])]) [fp.length] (ws++fp.flatMap (·.2)) ⟨aN s.env o.dst .aw,s.o,s.nx⟩->
   e7 P (Om v) pr l (fr+1) ⟨aN s.env o.dst .aw,s.o,s.nx⟩ (fp++[(On,[])]) [fp.length] (ws++fp.flatMap (·.2)):=fun v ws On h=>fM (fun a b h=>hP v a b h) l _ _ _ _ _ h
  unfold l7 at h
  unfold gQ
  split at h
  ·rename_i hg
   (try simp only[hg])
   exact wD (fun v Δ r h=>il hK hP l _ _ _ h) hB h
  ·rename_i d want hg
   (try simp only[hg])
   generalize s.env d=v at h
   unfold gk at h
   split at h
   ·rename_i bb
    by_cases e:bb=want
    ·subst e
     simp only[if_true]
     exact wD (fun v Δ r h=>il hK hP l _ _ _ h) hB (h.1 (by simp))
    ·simp only[if_neg e]
     exact il hK hP l _ _ _ (h.2 (by simpa using e))
   ·exact il hK hP l _ _ _ h
   ·exact h.elim
theorem ee:∀ (c:IC) (Q Q':fl->S->Prop) (s:S),(∀e s,Q e s->Q' e s)->l8 P n b rd c Q s->nQ P n b rd c Q' s
 | .skip,_,_,_,hQ,h=>hQ _ _ h
 | .ab l,_,_,_,hQ,h=>qB (fun s h=>hQ _ _ h) (fun v s h=>hQ _ _ h) l _ h
 | .cc l pr,_,_,_,hQ,h=> .inl (il (fun s fp h=>⟨h.1,hQ _ _ h.2⟩) (fun v l fp h=>⟨h.1,hQ _ _ h.2⟩) l _ _ _ h)
 | .seq x y,Q,Q',s,hQ,h=>ee x _ _ s (fun e s h=>by
  unfold lS at h|-
  cases e with
  |normal=>exact ee y _ _ s hQ h
  |_=>exact hQ _ _ h) h
 | .cond c x y,Q,Q',s,hQ,h=>by
   unfold l8 qz fA at h
   unfold nQ
   split at h
   ·rename_i t ht
    simp only[ht]
    exact⟨fun e=>ee x _ _ s hQ (h.1 e),fun e=>ee y _ _ s hQ (h.2 e)⟩
   ·rename_i ht
    simp only[ht]
    exact⟨ee x _ _ s hQ h.1,ee y _ _ s hQ h.2⟩
   ·exact h.elim
 | .block id x,Q,Q',s,hQ,h=>ee x _ _ s (fun e s h=>by
  unfold dU at h|-
  cases e with
  |exit j=>
   simp only at h|-
   split
   ·rename_i e;rw[if_pos e]at h;exact hQ _ _ h
   ·rename_i e;rw[if_neg e]at h;exact hQ _ _ h
  |_=>exact hQ _ _ h) h
 | .loop x,Q,Q',s,hQ,h=>by
   obtain⟨ι,st,eG,kU,i0,h0,hle,h2⟩:=h
   refine⟨fun m s=>∃i,eG i/\kU i=m/\s=st i,⟨kU i0,st i0,hle,i0,h0,rfl,rfl⟩, ?_⟩
   rintro m s0 ⟨i,hg,rfl,rfl⟩
   refine ee x _ _ _ (fun e s h=> ?_) (h2 i hg)
   cases e with
   |normal=>
    obtain⟨j,k1,k2,k3⟩:=h
    exact⟨kU j,st j,k2,k3,j,k1,rfl,rfl⟩
   |_=>exact hQ _ _ h
 | .exit id,_,_,_,hQ,h=>hQ _ _ h
 | .ret,_,_,_,hQ,h=>hQ _ _ h
 | .xi g ps x y,_,_,_,hQ,h=>⟨h.1,qy hQ h.2⟩
 | .bad,_,_,_,_,h=>h.elim
end
theorem bU.bD {P:Program}(aR:P.follows .mixedOrders=true){f:FuncId}{n:Nat}{ic:IC}{rs:List ResultVar}{ds:List D}{out:R}(hf:ak P f n ic rs)(hl:ds.length<=n)
 (h:l8 P n 0 false ic (uY P rs out) ⟨bW (ds.map .d),fun _=> .no,0⟩):bU P f ds out:=
 bU.oT aR hf hl (ee ic _ _ _ (fun _ _ h=>h) h)
def zO(P:Program)(rs:List ResultVar)(K X:V->(Nat->aa)->Nat->Prop)(e:fl)(s:S):Prop:=iS P rs K X e s
theorem fm.bD {P:Program}(aR:P.follows .mixedOrders=true){f:FuncId}{n:Nat}{ic:IC}{rs:List ResultVar}{args:List V}{o:Nat->aa}{nx:Nat}{K X:V->(Nat->aa)->Nat->Prop}(hf:ak P f n ic rs)(hl:args.length<=n)
 (h:l8 P n nx false ic (zO P rs K X) ⟨bW args,o,nx⟩):fm P f args o nx K X:=
 fm.oT aR hf hl (ee ic _ _ _ (fun _ _ h=>h) h)
section
variable {P:Program}{g:FuncId}{ds:List D}{o:Nat->aa}{nx:Nat}{K X:V->(Nat->aa)->Nat->Prop}{all:List V}
theorem ah{rs:List D}(h:bU P g ds (.ret rs))(hf:D.fX rs=true)(hk:K (fY rs) o (nx+1)):oU P g o nx K X ds all:= .inl ⟨.ret rs,h, .inr (.inl ⟨hf,hk⟩)⟩
theorem bH{rs:List D}(h:bU P g ds (.ret rs))(hk:K (fY rs) (put o (cg o (V.aQ all))) (nx+1)):oU P g o nx K X ds all:= .inl ⟨.ret rs,h, .inl hk⟩
theorem yf(h:fm P g all o nx K X):oU P g o nx K X ds all:= .inr (.inl h)
theorem jF{e:Nat->V}{ds:Option (List D)}(h:fm P g all o nx K X):jD P g K X ⟨e,o,nx⟩ all ds:=by
 cases ds with
 |some ds=>exact(.inr (.inl h):oU P g o nx K X ds all)
 |none=>exact(.inl h:tJ P g nx K X all o)
theorem db(h:fm P g all o nx K X):tJ P g nx K X all o:= .inl h
variable {K:KD}{X:XD}{rd:List Nat}{fr:Nat}
theorem iV{rs:List D}(h:bU P g ds (.ret rs))(hf:D.fX rs=true)(hk:K (fY rs) [] rd):oV P g K X o nx fr rd ds all:= .inl (.inl ⟨rs,h, .inr ⟨hf,hk⟩⟩)
theorem vz{rs:List D}(h:bU P g ds (.ret rs))(hk:K (fY rs) (cg o (V.aQ all)) rd):oV P g K X o nx fr rd ds all:= .inl (.inl ⟨rs,h, .inl hk⟩)
end
theorem nq{P:Program}{f:V}{args:List V}{o:Nat->aa}{K:V->Prop}{c:Bool}(rs:List D)(h:jd c (tI P f args o rs))(hk:K (V.rM c (fY rs))):wz P f args o K c:=⟨rs,h,hk⟩
theorem aJ{t:Bool}{A B:Prop}(h:t=true->A)(h2:t=false->B):fA A B t:=⟨h,h2⟩
theorem cS{pr:List (List Nat)}{nx:Nat}{Q:fl->S->Prop}{s:S}{fp:List (List Nat×List Nat)}(h:iF pr fp=true)(h2:Q .normal ⟨s.env,s.o,nx⟩):BG pr nx Q s fp:=⟨h,h2⟩
@[go_sem] theorem Hr (o:Nat->aa):put o []=o:=rfl
@[go_sem] theorem yg (o:Nat->aa) (x:Nat×aa) (l:List (Nat×aa)):put o (x::l)=put (aV o x.1 x.2) l:=rfl
@[go_sem] theorem aI {α:Type} (f:Nat->α) (i:Nat) (x:α):aV f i x i=x:=by simp
@[go_sem] theorem aH {α:Type} (f:Nat->α) (i j:Nat) (x:α) (h:j≠i):aV f i x j=f j:=by simp[h]
@[go_sem] theorem BI (v:V) (l:List V):bW (v::l) 0=v:=rfl
@[go_sem] theorem BJ (v:V) (l:List V) (i:Nat):bW (v::l) (i+1)=bW l i:=rfl
@[go_sem] theorem Dh (i:Nat):bW [] i= .bM []:=by simp[bW]
@[go_sem] theorem FW {P:Program} {o:Nat->aa} {t:TypeId} {id off:Nat}:jy P o t (.ptr id off)=match o id with
 | .row cs=>match dE P t cs off with
   |some v=>some (v,[],[id])
   |none=>none
 |_=>none:=by unfold jy;exact Eq.trans rfl rfl
@[go_sem] theorem Hs {P:Program} {o:Nat->aa} {t:TypeId} {cs:List D} {off:Nat}:jy P o t (.pp cs off)=match dE P t (cs.map .d) off with
 |some v=>some (v,[],[])
 |none=>none:=by unfold jy;exact Eq.trans rfl rfl
@[go_sem] theorem Ht {P:Program} {o:Nat->aa} {t:TypeId} {id ep i sz off:Nat}:jy P o t (.pe id ep i sz off)=match o id with
 | .arr eQ _ ki es=>if ep=eQ/\sz=ki then match es[i]? with
  |some e=>match dE P t (e.cells.map .d) off with
   |some v=>some (v,[],[id])
   |none=>none
  |none=>none
   else none
 |_=>none:=by unfold jy;exact Eq.trans rfl rfl
section
variable {P:Program}{o:Nat->aa}{t:TypeId}{op:BinOp}{kJ:Bool}
@[go_sem] theorem FX {k:IntKind} {a b:Int}:cp P o op t kJ (.d (.int k a)) (.d (.int k b))=match tj op k a b with
 |some v=>one v
 |none=>mE P o op t kJ (.d (.int k a)) (.d (.int k b)):=by
  simp only[cp,rv,if_true]
  cases tj op k a b<;>rfl
@[go_sem] theorem FY {a b:Bool} (h:aB P t=true):cp P o .eql t kJ (.d (.bool a)) (.d (.bool b))=one (.d (.bool (a==b))):=by simp only[cp,rv,zr,h,if_true]
@[go_sem] theorem FZ {a b:Bool} (h:aB P t=true):cp P o .neq t kJ (.d (.bool a)) (.d (.bool b))=one (.d (.bool (a !=b))):=by simp only[cp,rv,zr,h,if_true]
@[go_sem] theorem F0 {a b:List UInt8}:cp P o .eql t kJ (.d (.str a)) (.d (.str b))=one (.d (.bool (a==b))):=by unfold cp;exact Eq.trans rfl rfl
@[go_sem] theorem F1 {a b:List UInt8}:cp P o .neq t kJ (.d (.str a)) (.d (.str b))=one (.d (.bool (a !=b))):=by unfold cp;exact Eq.trans rfl rfl
@[go_sem] theorem F2 {a b:List D}:cp P o op t kJ (.d (.agg a)) (.d (.agg b))=mE P o op t kJ (.d (.agg a)) (.d (.agg b)):=by unfold cp;exact Eq.trans rfl rfl
theorem l9{x:V}{y:V}(h:match y with| .d (.int _ _)| .d (.bool _)| .d (.str _)=>False|_=>True):rv P op t x y=none:=by
 unfold rv
 split<;>first|exact h.elim|rfl
@[go_sem] theorem Em {x:V}:cp P o op t kJ x .aM=mE P o op t kJ x .aM:=by unfold cp;rw[l9 trivial]
@[go_sem] theorem En {x:V}:cp P o op t kJ x (.d .dI)=mE P o op t kJ x (.d .dI):=by unfold cp;rw[l9 trivial]
@[go_sem] theorem Eo {x:V}:cp P o op t kJ x (.d .gJ)=mE P o op t kJ x (.d .gJ):=by unfold cp;rw[l9 trivial]
@[go_sem] theorem Ep {x:V}:cp P o op t kJ x (.d .aD)=mE P o op t kJ x (.d .aD):=by unfold cp;rw[l9 trivial]
@[go_sem] theorem Er {x:V}:cp P o op t kJ x (.d .dt)=mE P o op t kJ x (.d .dt):=by unfold cp;rw[l9 trivial]
@[go_sem] theorem Hu {b:Bool}:tk .not (.d (.bool b))=some (.d (.bool !b)):=by unfold tk;exact Eq.trans rfl rfl
@[go_sem] theorem Hv:tk .not .dC=some .dC:=by unfold tk;exact Eq.trans rfl rfl
@[go_sem] theorem Hw {k:IntKind} {n:Int}:tk .neg (.d (.int k n))=some (.d (.int k (k.wrap (-n)))):=by unfold tk;exact Eq.trans rfl rfl
end
@[go_sem] theorem D.F3 (cs:List D):(D.agg cs).cells=cs:=rfl
@[go_sem] theorem D.F4 (k:IntKind) (n:Int):(D.int k n).cells=[.int k n]:=rfl
@[go_sem] theorem D.Es (b:Bool):(D.bool b).cells=[.bool b]:=rfl
@[go_sem] theorem D.F5 (b:List UInt8):(D.str b).cells=[.str b]:=rfl
@[go_sem] theorem D.Hx (b:List D):(D.sl b).cells=[.sl b]:=rfl
@[go_sem] theorem D.Hy (a b:List D):(D.mp a b).cells=[.mp a b]:=rfl
@[go_sem] theorem D.Di (t:TypeId) (x:D):(D.iface t x).cells=[.iface t x]:=rfl
@[go_sem] theorem D.Et:D.dI.cells=[.dI]:=rfl
@[go_sem] theorem D.Eu:D.gJ.cells=[.gJ]:=rfl
@[go_sem] theorem D.Ev:D.aD.cells=[.aD]:=rfl
@[go_sem] theorem D.Ew:D.dt.cells=[.dt]:=rfl
attribute [go_sem] V.ofConst V.cE tj zr lZ ve qo kC eX eY mM eA iT l0 l3 l4 ry fJ zt iO dn bA dE qV m4 dD V.cells D.put cg V.ids V.aQ fY D.fX D.flat R.flat
attribute [go_sem] uI List.take_succ_cons List.take_zero List.take_nil List.drop_zero List.drop_succ_cons List.drop_nil
attribute [go_sem] List.map_cons List.map_nil List.length_cons List.length_nil List.cons_append List.nil_append List.append_nil List.getElem?_cons_zero List.getElem?_cons_succ Option.bind_some Option.bind_none Option.map_some Option.map_none aa.bd aa.aO
section
variable {P:Program}{n b:Nat}{rd:Bool}{Q:fl->S->Prop}{s:S}
@[go_sem] theorem Hz:l8 P n b rd .skip Q s=Q .normal s:=propext Iff.rfl
@[go_sem] theorem M5 {l:List bE}:l8 P n b rd (.ab l) Q s=nK P (fun v s=>Q (.ba v) s) (Q .normal) l s:=propext Iff.rfl
@[go_sem] theorem M6 {l:List bE} {pr:List (List Nat)}:l8 P n b rd (.cc l pr) Q s=l7 P (BG pr (s.nx+l.length) Q) (tE pr l s Q) pr l s.nx s []:=propext Iff.rfl
@[go_sem] theorem M7 {x y:IC}:l8 P n b rd (.seq x y) Q s=l8 P n b rd x (lS (fun s=>l8 P n b rd y Q s) Q) s:=propext Iff.rfl
@[go_sem] theorem HA {c:Operand} {x y:IC}:l8 P n b rd (.cond c x y) Q s=qz (l8 P n b rd x Q s) (l8 P n b rd y Q s) (s.ev c):=propext Iff.rfl
@[go_sem] theorem F6 {id:Nat} {x:IC}:l8 P n b rd (.block id x) Q s=l8 P n b rd x (dU id Q) s:=propext Iff.rfl
@[go_sem] theorem HB {x:IC}:l8 P n b rd (.loop x) Q s=wC b (fun Q s=>l8 P n b rd x Q s) Q s:=propext Iff.rfl
@[go_sem] theorem HC {id:Nat}:l8 P n b rd (.exit id) Q s=Q (.exit id) s:=propext Iff.rfl
@[go_sem] theorem M8:l8 P n b rd .ret Q s=Q .ret s:=propext Iff.rfl
@[go_sem] theorem M9 {g:Operand} {ps:List Nat} {x y:IC}:l8 P n b rd (.xi g ps x y) Q s=Ek P n rd ps x y Q s (s.ev g):=propext Iff.rfl
@[go_sem] theorem HD {X:V->S->Prop} {K:S->Prop}:nK P X K [] s=K s:=propext Iff.rfl
@[go_sem] theorem F7 {X:V->S->Prop} {K:S->Prop} {d:Option Nat} {op:Op} {l:List bE}:nK P X K (⟨d,op,none⟩::l) s=uG P X (nK P X K l) ⟨d,op,none⟩ s:=propext Iff.rfl
@[go_sem] theorem F8 {X:V->S->Prop} {K:S->Prop} {d:Option Nat} {op:Op} {g:Nat} {w:Bool} {l:List bE}:nK P X K (⟨d,op,some (g,w)⟩::l) s=rN P X (nK P X K l) ⟨d,op,some (g,w)⟩ s (je (s.env g) w):=propext Iff.rfl
variable {X:V->S->Prop}{K:S->Prop}{d:Option Nat}{op:Op}{g:Option (Nat×Bool)}{f:Operand}{args:Array Operand}{ts:Array TypeId}{c:Bool}
@[reducible] def F9:Op->Bool
  | .call c=>match c.callee with
    | .value _=>true
    | .invoke .. =>true
    |_=>false
  | .panic _=>true
  | .next .. =>true
  |_=>false
@[go_sem] theorem Oo (h:F9 op=false):uG P X K ⟨d,op,g⟩ s=gG (fun v Δ=>K ⟨aN s.env d v,put s.o Δ,s.nx+1⟩) (eF P s s.nx op):=by
  unfold uG
  cases op with
  |call c=>
   obtain⟨zf,args,ts⟩:=c
   cases zf with
   |value f=>simp[F9]at h
   |invoke r m=>simp[F9]at h
   |_=>rfl
  |panic x=>simp[F9]at h
  |next x str=>simp[F9]at h
  |_=>rfl
@[go_sem] theorem HE {x:Operand} {str:Bool}:uG P X K ⟨d, .next x str,g⟩ s=zL (fun v Δ=>K ⟨aN s.env d v,put s.o Δ,s.nx+1⟩) str (ky s.o (s.ev x) str) (kz s.o (s.ev x)):=propext Iff.rfl
@[go_sem] theorem HG:uG P X K ⟨d, .call ⟨.value f,args,ts⟩,g⟩ s=np P (fun v o' nx'=>K ⟨aN s.env d v,o',nx'⟩) (fun v o' nx'=>X v ⟨s.env,o',nx'⟩) s (s.ev f) (args.toList.map s.ev):=propext Iff.rfl
@[go_sem] theorem Ex {m:String}:uG P X K ⟨d, .call ⟨.invoke f m,args,ts⟩,g⟩ s=zK P (fun v o' nx'=>K ⟨aN s.env d v,o',nx'⟩) (fun v o' nx'=>X v ⟨s.env,o',nx'⟩) s (args.toList.map s.ev) (oz P m (s.ev f)):=propext Iff.rfl
@[go_sem] theorem Ga:uG P X K ⟨d, .panic f,g⟩ s=yb (fun v=>X v s) (s.ev f):=propext Iff.rfl
@[go_sem] theorem Gb:rN P X K ⟨d, .call ⟨.value f,args,ts⟩,g⟩ s (some c)=yc P X K ⟨d, .call ⟨.value f,args,ts⟩,g⟩ s f args.toList c:=propext Iff.rfl
theorem oY{e:Nat->V}{ob:Nat->aa}{nx:Nat}(h:wz P ((⟨e,ob,nx⟩:S).ev f) (args.toList.map (⟨e,ob,nx⟩:S).ev) ob (fun v=>K ⟨aN e d v,ob,nx+1⟩) c):yc P X K ⟨d,op,g⟩ ⟨e,ob,nx⟩ f args.toList c:= .inl h
@[go_sem] theorem Gc (h:gS op=true):rN P X K ⟨d,op,g⟩ s (some c)=gG (fun v _=>K ⟨aN s.env d v,s.o,s.nx+1⟩) (gR c (eF P s s.nx op)):=by
  have h2:ed op=none:=by
   cases hc:ed op with
   |none=>rfl
   |some x=>
    exfalso
    unfold ed at hc
    split at hc
    ·split at hc
     ·rename_i hv;simp[gS,hv]at h
     ·cases hc
    ·cases hc
  simp only[rN,h2,h,if_true]
@[go_sem] theorem Gd (h:gS op=false) (h2:ed op=none):rN P X K ⟨d,op,g⟩ s (some c)=fA (uG P X K ⟨d,op,g⟩ s) (K ⟨aN s.env d (.bM []),s.o,s.nx+1⟩) c:=by
  simp[rN,h2,h]
@[go_sem] theorem Ey {l:List Operand}:yc P X K ⟨d,op,g⟩ s f l false=K ⟨aN s.env d (.bM []),s.o,s.nx+1⟩:=by
  refine propext ⟨fun h=> ?_,fun h=> .inr ⟨(fun e=>by cases e),fun _=>h⟩⟩
  rcases h with⟨rs,_,h⟩|h
  ·exact h
  ·exact h.2 rfl
@[go_sem] theorem Ge {l:List Operand} (hl:args.toList=l):yc P X K ⟨d, .call ⟨.value f,args,ts⟩,g⟩ s f l true=uG P X K ⟨d, .call ⟨.value f,args,ts⟩,g⟩ s:=by
  subst hl
  refine propext ⟨fun h=> ?_,fun h=> .inr ⟨fun _=>h,(fun e=>by cases e)⟩⟩
  rcases h with⟨rs,h1,h⟩|h
  ·have h1:=h1 rfl
   unfold tI at h1
   unfold uG np jD
   simp only
   split at h1
   ·rename_i fv gg first cap hf
    simp only[hf]
    split at h1
    ·rename_i ds dB
     simp only[dB]
     exact .inl ⟨.ret rs,h1.1, .inr (.inl ⟨h1.2,h⟩)⟩
    ·exact h1.elim
   ·exact h1.elim
  ·exact h.1 rfl
variable {KV:KD}{XV:XD}
@[go_sem] theorem HH {fr:Nat}:A3 P KV XV fr ⟨d, .call ⟨.value f,args,ts⟩,g⟩ s=tL P KV XV s.o s.nx fr (fL s (.call ⟨.value f,args,ts⟩)) (s.ev f) (args.toList.map s.ev):=propext Iff.rfl
@[go_sem] theorem Oq {fr:Nat} (h2:ed op=none):A3 P KV XV fr ⟨d,op,g⟩ s=oW KV (fL s op) (eF P s fr op):=by simp[A3,h2]
variable {KS:S->Prop}
@[go_sem ↓] theorem BK:lS KS Q .normal s=KS s:=propext Iff.rfl
@[go_sem ↓] theorem Ez {id:Nat}:lS KS Q (.exit id) s=Q (.exit id) s:=propext Iff.rfl
@[go_sem ↓] theorem Gf:lS KS Q .ret s=Q .ret s:=propext Iff.rfl
@[go_sem ↓] theorem Gg {v:V}:lS KS Q (.ba v) s=Q (.ba v) s:=propext Iff.rfl
@[go_sem ↓] theorem A4 {id:Nat}:dU id Q .normal s=Q .normal s:=propext Iff.rfl
@[go_sem ↓] theorem Dj {id:Nat}:dU id Q (.exit id) s=Q .normal s:=by simp[dU]
@[go_sem ↓] theorem BL {id j:Nat} (h:j≠id):dU id Q (.exit j) s=Q (.exit j) s:=by simp[dU,h]
@[go_sem ↓] theorem EA {id:Nat}:dU id Q .ret s=Q .ret s:=propext Iff.rfl
@[go_sem ↓] theorem EB {id:Nat} {v:V}:dU id Q (.ba v) s=Q (.ba v) s:=propext Iff.rfl
def BM(out:R)(x:Option (List D)):Prop:=match x with|some ds=>out= .ret ds|none=>False
@[go_sem] theorem Gh {out:R} {ds:List D}:BM out (some ds)=(out= .ret ds):=propext Iff.rfl
def EC(out:R)(x:Option D):Prop:=match x with|some d=>out= .ba d|none=>False
@[go_sem] theorem Gi {out:R} {d:D}:EC out (some d)=(out= .ba d):=propext Iff.rfl
def BN(out:R)(o:Nat->aa)(x:Option (List V)):Prop:=match x with|some vs=>BM out (bA o vs)|none=>False
@[go_sem] theorem Gj {out:R} {o:Nat->aa} {vs:List V}:BN out o (some vs)=BM out (bA o vs):=propext Iff.rfl
variable {rs:List ResultVar}{out:R}
@[go_sem ↓] theorem Gk:uY P rs out .ret s=BN out s.o (iO P s rs):=propext Iff.rfl
@[go_sem ↓] theorem BO:uY P rs out .normal s=BN out s.o (iO P s rs):=propext Iff.rfl
@[go_sem ↓] theorem Gl {v:V}:uY P rs out (.ba v) s=EC out (dn s.o v):=propext Iff.rfl
def tO(K:V->(Nat->aa)->Nat->Prop)(o:Nat->aa)(nx:Nat)(x:Fix (Option (List V)) (K,o,nx)):Prop:=match x with
 |some [v]=>K v o nx
 |some vs=>K (.bM vs) o nx
 |none=>False
@[go_sem] theorem HI {K:V->(Nat->aa)->Nat->Prop} {o:Nat->aa} {nx:Nat} {v:V}:tO K o nx (some [v])=K v o nx:=propext Iff.rfl
@[go_sem] theorem HJ {K:V->(Nat->aa)->Nat->Prop} {o:Nat->aa} {nx:Nat}:tO K o nx (some [])=K (.bM []) o nx:=propext Iff.rfl
@[go_sem] theorem HK {K:V->(Nat->aa)->Nat->Prop} {o:Nat->aa} {nx:Nat} {v u:V} {l:List V}:tO K o nx (some (v::u::l))=K (.bM (v::u::l)) o nx:=propext Iff.rfl
theorem wE{K X:V->(Nat->aa)->Nat->Prop}:iS P rs K X .ret s=tO K s.o s.nx (iO P s rs):=by
 unfold iS tO
 cases iO P s rs with
 |none=>rfl
 |some l=>match l with
  |[]=>rfl
  |[_]=>rfl
  |_::_::_=>rfl
@[go_sem ↓] theorem HL {K X:V->(Nat->aa)->Nat->Prop}:zO P rs K X .ret s=tO K s.o s.nx (iO P s rs):=wE
@[go_sem ↓] theorem Dk {K X:V->(Nat->aa)->Nat->Prop}:zO P rs K X .normal s=tO K s.o s.nx (iO P s rs):=(wE (X:=X):iS P rs K X .ret s=_)
@[go_sem ↓] theorem HM {K X:V->(Nat->aa)->Nat->Prop} {v:V}:zO P rs K X (.ba v) s=X v s.o s.nx:=propext Iff.rfl
variable {KE:S->Fp->Prop}{KP:V->List Nat->Fp->Prop}{pr:List (List Nat)}{fr:Nat}{fp:Fp}
@[go_sem] theorem HN:l7 P KE KP pr [] fr s fp=KE s fp:=propext Iff.rfl
@[go_sem] theorem Gm {d:Option Nat} {op:Op} {l:List bE}:l7 P KE KP pr (⟨d,op,none⟩::l) fr s fp=
 A3 P (fun v Δ rd=>l7 P KE KP pr l (fr+1) ⟨aN s.env d v,put s.o Δ,s.nx⟩ (fp++[(rd,Δ.map (·.1))]))
  (fun v ws rd=>yd P (KP v) pr l (fr+1) (fp++[(rd,[])]) [fp.length] (ws++fp.flatMap (·.2)) ⟨aN s.env d .aw,s.o,s.nx⟩) fr ⟨d,op,none⟩ s:=propext Iff.rfl
@[go_sem] theorem Gn {d:Option Nat} {op:Op} {g:Nat} {w:Bool} {l:List bE}:l7 P KE KP pr (⟨d,op,some (g,w)⟩::l) fr s fp=
 gk w (A3 P (fun v Δ rd=>l7 P KE KP pr l (fr+1) ⟨aN s.env d v,put s.o Δ,s.nx⟩ (fp++[(rd,Δ.map (·.1))]))
  (fun v ws rd=>yd P (KP v) pr l (fr+1) (fp++[(rd,[])]) [fp.length] (ws++fp.flatMap (·.2)) ⟨aN s.env d .aw,s.o,s.nx⟩) fr ⟨d,op,some (g,w)⟩ s)
   (l7 P KE KP pr l (fr+1) ⟨aN s.env d (.bM []),s.o,s.nx⟩ (fp++[([],[])])) (s.env g):=propext Iff.rfl
end
attribute [go_sem] F9 ed gS eF one iU aN S.ev tI
theorem bg{ι:Type}{b:Nat}{st:ι->S}{eG:ι->Prop}{kU:ι->Nat}{i:ι}{s:S}(j:ι)(h1:eG j)(h2:kU j<kU i)(h3:dq b s (st j)):wB b st eG kU i s:=⟨j,h1,h2,h3⟩
attribute [irreducible] l8 nK uG rN yc np jD tK zJ zK wz oU tJ gG yb fA gk zM oV rO mP tL oW A3 l7 yd Ek wA zO tO BG qz wC BM EC BN oX wB
end Go.Proofs.YtpkobkdgcanmjaaGreat
