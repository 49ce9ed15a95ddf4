/-
  A PART OF THE PROOF. Conditions: none.
-/
import Derived.Test.YtpkobkdgcanmjaaGreatLv7
set_option linter.unusedSimpArgs false
set_option linter.unusedVariables false
namespace Go.Proofs.YtpkobkdgcanmjaaGreat
def nz(P:Program)(g:FuncId)(ds:List D)(Kf Kb KX:V->Prop):Prop:=
 (∃rs,bJ P g ds (.ret rs)/\(Kf (gh rs)\/(D.gf rs=true/\Kb (gh rs))))\/(∃x,bJ P g ds (.bf x)/\x.flat=true/\KX (.d x))\/(∃v,Hi P g ds v/\Kf v)
def fw(P:Program)(g:FuncId)(args:List V)(o:Nat->aa)(nx fr:Nat)(K:V->List (Nat×aa)->List Nat->Prop)(KX:V->List Nat->List Nat->Prop):Prop:=
 ∃rd Δ,rd.all (fun id=>decide (id<nx))=true/\((∃rs,zC P g args rd o (.ret rs) Δ/\K (gh rs) Δ rd)\/(∃x,zC P g args rd o (.bf x) Δ/\KX (.d x) (Δ.map (·.1)) rd)\/(∃v,vA P g args rd o fr v Δ/\K v Δ rd))
def sL(P:Program)(s:S)(fr:Nat)(o:bK)(K:V->List (Nat×aa)->List Nat->Prop)(KX:V->List Nat->List Nat->Prop):Prop:=
 match o.op with
 | .call c=>match c.callee with
   | .value f=>match s.ev f with
     | .func (.func g) first cap=>match bG s.o (first++c.args.toList.map s.ev++cap)with
       |some ds=>nz P g ds (fun v=>K v (cn s.o (V.aR (first++c.args.toList.map s.ev++cap))) (fO s o.op)) (fun v=>K v [] (fO s o.op)) (fun v=>KX v [] (fO s o.op))\/fw P g (first++c.args.toList.map s.ev++cap) s.o s.nx fr K KX
       |none=>fw P g (first++c.args.toList.map s.ev++cap) s.o s.nx fr K KX
     |_=>False
   |_=>match eG P s fr o.op with
    |some (v,Δ,_)=>K v Δ (fO s o.op)
    |none=>False
 |op=>match eG P s fr op with
  |some (v,Δ,_)=>K v Δ (fO s o.op)
  |none=>False
abbrev Fp:=List (List Nat×List Nat)
def e8(P:Program)(KB:List Nat->Fp->Prop)(pr:List (List Nat)):List bK->Nat->S->Fp->List Nat->List Nat->Prop
 |[],_,_,fp,_,ws=>KB ws fp
 |o::l,fr,s,fp,bad,ws=>if(pr.getD fp.length []).any (fun j=>bad.contains j)=true then e8 P KB pr l (fr+1) ⟨aO s.env o.dst .ak,s.o,s.nx⟩ (fp++[([],[])]) (bad++[fp.length]) ws
  else match o.gd with
  |none=>sL P s fr o (fun v Δ rd=>e8 P KB pr l (fr+1) ⟨aO s.env o.dst v,put s.o Δ,s.nx⟩ (fp++[(rd,Δ.map (·.1))]) bad (ws++Δ.map (·.1))) (fun _ _ _=>False)
  |some (d,want)=>match s.env d with
   | .d (.bool b)=>if b=want then sL P s fr o (fun v Δ rd=>e8 P KB pr l (fr+1) ⟨aO s.env o.dst v,put s.o Δ,s.nx⟩ (fp++[(rd,Δ.map (·.1))]) bad (ws++Δ.map (·.1))) (fun _ _ _=>False)
    else e8 P KB pr l (fr+1) ⟨aO s.env o.dst (.bQ []),s.o,s.nx⟩ (fp++[([],[])]) bad ws
   | .bQ []=>e8 P KB pr l (fr+1) ⟨aO s.env o.dst (.bQ []),s.o,s.nx⟩ (fp++[([],[])]) bad ws
   |_=>False
def gW(P:Program)(K:S->Fp->Prop)(KP:V->List Nat->Fp->Prop)(pr:List (List Nat)):List bK->Nat->S->Fp->Prop
 |[],_,s,fp=>K s fp
 |o::l,fr,s,fp=>match o.gd with
  |none=>sL P s fr o (fun v Δ rd=>gW P K KP pr l (fr+1) ⟨aO s.env o.dst v,put s.o Δ,s.nx⟩ (fp++[(rd,Δ.map (·.1))]))
   (fun v ws rd=>e8 P (KP v) pr l (fr+1) ⟨aO s.env o.dst .ak,s.o,s.nx⟩ (fp++[(rd,[])]) [fp.length] (ws++fp.flatMap (·.2)))
  |some (d,want)=>match s.env d with
   | .d (.bool b)=>if b=want then sL P s fr o (fun v Δ rd=>gW P K KP pr l (fr+1) ⟨aO s.env o.dst v,put s.o Δ,s.nx⟩ (fp++[(rd,Δ.map (·.1))]))
         (fun v ws rd=>e8 P (KP v) pr l (fr+1) ⟨aO s.env o.dst .ak,s.o,s.nx⟩ (fp++[(rd,[])]) [fp.length] (ws++fp.flatMap (·.2)))
    else gW P K KP pr l (fr+1) ⟨aO s.env o.dst (.bQ []),s.o,s.nx⟩ (fp++[([],[])])
   | .bQ []=>gW P K KP pr l (fr+1) ⟨aO s.env o.dst (.bQ []),s.o,s.nx⟩ (fp++[([],[])])
   |_=>False
def vJ(pr:List (List Nat))(nx:Nat)(Q:fq->S->Prop)(s:S)(fp:Fp):Prop:=iK pr fp=true/\Q .normal ⟨s.env,s.o,nx⟩
def dstsOf(l:List bK):List Nat:=l.filterMap (·.dst)
def tW(pr:List (List Nat))(l:List bK)(s0:S)(Q:fq->S->Prop)(v:V)(wl:List Nat)(fp:Fp):Prop:=iK pr fp=true/\Q (.bf v) (oZ (dstsOf l) wl l.length s0)
def jJ:List bK->List dQ->S->Nat->S
 |_,_,s,0=>s
 |o::l,x::xs,s,j+1=>jJ l xs (p5 o.dst x s) j
 |_,_,s,_=>s
def qK(bH:List dQ):Fp:=bH.map fun x=>(qf x,gU x)
section
variable {P:Program}{n b:Nat}
theorem tX{s:S}{fr:Nat}{o:bK}{K:V->List (Nat×aa)->List Nat->Prop}{KX:V->List Nat->List Nat->Prop}(h:sL P s fr o K KX):(∃v Δ rd,qG P s fr o.op v Δ rd/\K v Δ rd)\/(∃v ws rd,tO P s o.op v ws rd/\KX v ws rd):=by
 have hs:∀ {op:Op},o.op=op->(match eG P s fr op with|some (v,Δ,_)=>K v Δ (fO s o.op)|none=>False)->(∃v Δ rd,qG P s fr o.op v Δ rd/\K v Δ rd):=by
  intro op cP h
  split at h
  ·rename_i v Δ rd he;exact⟨v,Δ,_, .inl ⟨⟨rd,by rw[cP];exact he⟩,rfl⟩,h⟩
  ·exact h.elim
 unfold sL at h
 split at h
 ·rename_i c hc
  split at h
  ·rename_i f db
   split at h
   ·rename_i g first cap hf
    split at h
    ·rename_i ds dA
     rcases h with(⟨rs,hP,h|⟨lA,h⟩⟩|⟨x,hP,lA,h⟩|⟨v,hP,h⟩)|⟨rd,Δ,kD,⟨rs,hH,h⟩|⟨x,hH,h⟩|⟨v,hH,h⟩⟩
     ·exact .inl ⟨_,_,_, .inr ⟨c,f,g,first,cap,hc,db,hf, .inl ⟨ds,rs,dA,hP,rfl,rfl, .inl rfl⟩⟩,h⟩
     ·exact .inl ⟨_,_,_, .inr ⟨c,f,g,first,cap,hc,db,hf, .inl ⟨ds,rs,dA,hP,rfl,rfl, .inr ⟨lA,rfl⟩⟩⟩,h⟩
     ·exact .inr ⟨_,_,_,⟨c,f,g,first,cap,hc,db,hf, .inl ⟨ds,x,dA,hP,lA,rfl,rfl,rfl⟩⟩,h⟩
     ·exact .inl ⟨_,_,_, .inr ⟨c,f,g,first,cap,hc,db,hf, .inr (.inr (.inl ⟨ds,dA,hP,rfl,rfl⟩))⟩,h⟩
     ·exact .inl ⟨_,_,_, .inr ⟨c,f,g,first,cap,hc,db,hf, .inr (.inl ⟨rs,hH,rfl,fun id ah=>by simpa using List.all_eq_true.1 kD id ah⟩)⟩,h⟩
     ·exact .inr ⟨_,_,_,⟨c,f,g,first,cap,hc,db,hf, .inr ⟨x,Δ,hH,rfl,rfl,fun id ah=>by simpa using List.all_eq_true.1 kD id ah⟩⟩,h⟩
     ·exact .inl ⟨_,_,_, .inr ⟨c,f,g,first,cap,hc,db,hf, .inr (.inr (.inr ⟨hH,fun id ah=>by simpa using List.all_eq_true.1 kD id ah⟩))⟩,h⟩
    ·obtain⟨rd,Δ,kD,⟨rs,hH,h⟩|⟨x,hH,h⟩|⟨v,hH,h⟩⟩:=h
     ·exact .inl ⟨_,_,_, .inr ⟨c,f,g,first,cap,hc,db,hf, .inr (.inl ⟨rs,hH,rfl,fun id ah=>by simpa using List.all_eq_true.1 kD id ah⟩)⟩,h⟩
     ·exact .inr ⟨_,_,_,⟨c,f,g,first,cap,hc,db,hf, .inr ⟨x,Δ,hH,rfl,rfl,fun id ah=>by simpa using List.all_eq_true.1 kD id ah⟩⟩,h⟩
     ·exact .inl ⟨_,_,_, .inr ⟨c,f,g,first,cap,hc,db,hf, .inr (.inr (.inr ⟨hH,fun id ah=>by simpa using List.all_eq_true.1 kD id ah⟩))⟩,h⟩
   ·exact h.elim
  ·rw[hc]at h;exact .inl (hs hc (by rw[hc];exact h))
 ·exact .inl (hs rfl h)
def BB(P:Program)(KB:List Nat->Fp->Prop)(pr:List (List Nat))(l:List bK)(fr:Nat)(s:S)(fp:Fp)(bad ws:List Nat):Prop:=
    ∃bH:List dQ,bH.length=l.length/\(∀j o x,l[j]? =some o->bH[j]? =some x->C3 P (jJ l bH s j) (fr+j) o x)/\
     (∀ (j:Nat),bH[j]? =some dQ.dz->∃i∈pr.getD (fp.length+j) [],i∈bad\/∃j',j'<j/\i=fp.length+j'/\bH[j']? =some .dz)/\(∀x∈bH,x= .dz\/x.ok=true)/\
     ∃wl,KB wl (fp++qK bH)/\(∀id∈ws,id∈wl)/\∀x∈bH,∀id∈gU x,id∈wl
theorem tY{KB:List Nat->Fp->Prop}{pr:List (List Nat)}:∀ (l:List bK) (fr:Nat) (s:S) (fp:Fp) (bad ws:List Nat),e8 P KB pr l fr s fp bad ws->BB P KB pr l fr s fp bad ws
 |[],fr,s,fp,bad,ws,h=>⟨[],rfl,fun j o x hj=>by simp at hj,fun j hj=>by simp at hj,fun x hx=>by simp at hx,ws,by simpa[qK,e8]using h,fun _ h=>h,fun x hx=>by simp at hx⟩
 |o::l,fr,s,fp,bad,ws,h=>by
  have step:∀ (x:dQ) (BC C7:List Nat),C3 P s fr o x->e8 P KB pr l (fr+1) (p5 o.dst x s) (fp++[(qf x,gU x)]) BC C7->(x= .dz\/x.ok=true)->(x= .dz->∃i∈pr.getD fp.length [],i∈bad)->
   (∀i∈BC,i∈bad\/(i=fp.length/\x= .dz))->(∀id∈ws,id∈C7)->(∀id∈gU x,id∈C7)->
   BB P KB pr (o::l) fr s fp bad ws:=by
   intro x BC C7 ba hr S8 D2 D5 Bz hW
   obtain⟨bH,h1,h2,h3,h4,wl,h5,h6,h7⟩:=tY l (fr+1) _ _ BC C7 hr
   refine⟨x::bH,by simp[h1],fun j o' y hj hy=> ?_,fun j hj=> ?_,fun y hy=> ?_,wl,by simpa[qK]using h5,fun id ah=>h6 id (Bz id ah),fun y hy id ah=> ?_⟩
   ·cases j with
    |zero=>simp at hj hy;subst hj;subst hy;exact ba
    |succ j=>
     have:=h2 j o' y (by simpa using hj) (by simpa using hy)
     rw[show fr+(j+1)=fr+1+j by omega]
     exact this
   ·cases j with
    |zero=>
     simp at hj
     obtain⟨i,i1,i2⟩:=D2 hj
     exact⟨i,by simpa using i1, .inl i2⟩
    |succ j=>
     obtain⟨i,i1,i2⟩:=h3 j (by simpa using hj)
     simp only[List.length_append,List.length_cons,List.length_nil]at i1 i2
     refine⟨i,by rw[show fp.length+(j+1)=fp.length+(0+1)+j by omega];exact i1, ?_⟩
     rcases i2 with i2|⟨j',j1,j2,j3⟩
     ·rcases D5 i i2 with hb|⟨e1,e2⟩
      ·exact .inl hb
      ·exact .inr ⟨0,by omega,by omega,by simp[e2]⟩
     ·exact .inr ⟨j'+1,by omega,by omega,by simpa using j3⟩
   ·rcases List.mem_cons.1 hy with rfl|hy
    ·exact S8
    ·exact h4 y hy
   ·rcases List.mem_cons.1 hy with rfl|hy
    ·exact h6 id (hW id ah)
    ·exact h7 y hy id ah
  simp only[e8]at h
  split at h
  ·rename_i hb
   obtain⟨j,S9,Br⟩:=List.any_eq_true.1 hb
   exact step .dz _ _ trivial h (.inl rfl) (fun _=>⟨j,S9,by simpa using Br⟩) (fun i hi=>by
    rcases List.mem_append.1 hi with hi|hi
    ·exact .inl hi
    ·exact .inr ⟨by simpa using hi,rfl⟩) (fun _ h=>h) (fun id ah=>by simp[gU]at ah)
  ·have o8:cD s o.gd true->sL P s fr o (fun v Δ rd=>e8 P KB pr l (fr+1) ⟨aO s.env o.dst v,put s.o Δ,s.nx⟩ (fp++[(rd,Δ.map (·.1))]) bad (ws++Δ.map (·.1))) (fun _ _ _=>False)->BB P KB pr (o::l) fr s fp bad ws:=fun hg h=>by
    rcases tX h with⟨v,Δ,rd,lB,h⟩|⟨v,C7,rd,_,h⟩
    ·exact step (.val v Δ rd) bad (ws++Δ.map (·.1)) ⟨hg,lB⟩ h (.inr rfl) (fun h=>by cases h) (fun i hi=> .inl hi) (fun id ah=>List.mem_append.2 (.inl ah)) (fun id ah=>List.mem_append.2 (.inr ah))
    ·exact h.elim
   have skip:cD s o.gd false->e8 P KB pr l (fr+1) ⟨aO s.env o.dst (.bQ []),s.o,s.nx⟩ (fp++[([],[])]) bad ws->BB P KB pr (o::l) fr s fp bad ws:=fun hg h=>
    step .skip bad ws hg h (.inr rfl) (fun h=>by cases h) (fun i hi=> .inl hi) (fun id ah=>ah) (fun id ah=>by simp[gU]at ah)
   split at h
   ·rename_i hg;exact o8 (by rw[hg];rfl) h
   ·rename_i d want hg
    split at h
    ·rename_i c hv
     split at h
     ·rename_i e;exact o8 (by rw[hg];simp[cD,hv,e]) h
     ·rename_i e;exact skip (by rw[hg];simp[cD,hv,e]) h
    ·rename_i hv;exact skip (by rw[hg];simp[cD,hv]) h
    ·exact h.elim
def zI(P:Program)(K:S->Fp->Prop)(KP:V->List Nat->Fp->Prop)(pr:List (List Nat))(l:List bK)(fr:Nat)(s:S)(fp:Fp):Prop:=
 ∃bH:List dQ,bH.length=l.length/\(∀j o x,l[j]? =some o->bH[j]? =some x->C3 P (jJ l bH s j) (fr+j) o x)/\
  (((∀x∈bH,x.ok=true)/\K (jJ l bH s l.length) (fp++qK bH))\/
   ∃v wl,(∀ (j:Nat) (v':V) (ws rd:List Nat),bH[j]? =some (dQ.bf v' ws rd)->v'=v/\∀id∈ws,id∈wl)/\(∃x∈bH,x.ok=false)/\
    (∀ (j:Nat),bH[j]? =some dQ.dz->∃i∈pr.getD (fp.length+j) [],∃j',i=fp.length+j'/\∃y,bH[j']? =some y/\y.ok=false)/\KP v wl (fp++qK bH)/\(∀x∈bH,∀id∈gU x,id∈wl)/\∀id∈fp.flatMap (·.2),id∈wl)
theorem o9{K:S->Fp->Prop}{KP:V->List Nat->Fp->Prop}{pr:List (List Nat)}:∀ (l:List bK) (fr:Nat) (s:S) (fp:Fp),gW P K KP pr l fr s fp->zI P K KP pr l fr s fp
 |[],fr,s,fp,h=>⟨[],rfl,fun j o x hj=>by simp at hj, .inl ⟨fun x hx=>by simp at hx,by simpa[jJ,qK,gW]using h⟩⟩
 |o::l,fr,s,fp,h=>by
  have step:∀ (x:dQ),x.ok=true->C3 P s fr o x->gW P K KP pr l (fr+1) (p5 o.dst x s) (fp++[(qf x,gU x)])->zI P K KP pr (o::l) fr s fp:=by
   intro x Hn ba hr
   obtain⟨bH,h1,h2,h3⟩:=o9 l (fr+1) _ _ hr
   refine⟨x::bH,by simp[h1],fun j o' y hj hy=> ?_, ?_⟩
   ·cases j with
    |zero=>simp at hj hy;subst hj;subst hy;exact ba
    |succ j=>
     have:=h2 j o' y (by simpa using hj) (by simpa using hy)
     rw[show fr+(j+1)=fr+1+j by omega]
     exact this
   ·rcases h3 with⟨h3,h4⟩|⟨v,wl,g1,g2,g3,g4,g5,g6⟩
    ·left
     refine⟨fun y hy=> ?_,by simpa[jJ,qK]using h4⟩
     rcases List.mem_cons.1 hy with rfl|hy
     ·exact Hn
     ·exact h3 y hy
    ·right
     refine⟨v,wl,fun j v' ws rd hj=> ?_, ?_,fun j hj=> ?_,by simpa[qK]using g4,fun y hy id ah=> ?_,fun id ah=>g6 id (by simp only[List.flatMap_append,List.mem_append];exact .inl ah)⟩
     ·cases j with
      |zero=>simp at hj;rw[hj]at Hn;cases Hn
      |succ j=>exact g1 j v' ws rd (by simpa using hj)
     ·obtain⟨y,y1,y2⟩:=g2;exact⟨y,by simp[y1],y2⟩
     ·cases j with
      |zero=>simp at hj;rw[hj]at Hn;cases Hn
      |succ j=>
       obtain⟨i,i1,j',i2,y,i3,i4⟩:=g3 j (by simpa using hj)
       simp only[List.length_append,List.length_cons,List.length_nil]at i1 i2
       exact⟨i,by rw[show fp.length+(j+1)=fp.length+(0+1)+j by omega];exact i1,j'+1,by omega,y,by simpa using i3,i4⟩
     ·rcases List.mem_cons.1 hy with rfl|hy
      ·exact g6 id (by simp only[List.flatMap_append,List.mem_append];exact .inr (by simpa using ah))
      ·exact g5 y hy id ah
  have bf:∀ (v:V) (ws rd:List Nat),C3 P s fr o (.bf v ws rd)->e8 P (KP v) pr l (fr+1) ⟨aO s.env o.dst .ak,s.o,s.nx⟩ (fp++[(rd,[])]) [fp.length] (ws++fp.flatMap (·.2))->zI P K KP pr (o::l) fr s fp:=by
   intro v ws rd ba hr
   obtain⟨bH,h1,h2,h3,h4,wl,h5,h6,h7⟩:=tY l (fr+1) _ _ _ _ hr
   refine⟨dQ.bf v ws rd::bH,by simp[h1],fun j o' y hj hy=> ?_, .inr ⟨v,wl,fun j v' C7 qF hj=> ?_,⟨dQ.bf v ws rd,by simp,rfl⟩,fun j hj=> ?_,by simpa[qK,qf,gU]using h5,fun y hy id ah=> ?_,fun id ah=>h6 id (List.mem_append.2 (.inr ah))⟩⟩
   ·cases j with
    |zero=>simp at hj hy;subst hj;subst hy;exact ba
    |succ j=>
     have:=h2 j o' y (by simpa using hj) (by simpa using hy)
     rw[show fr+(j+1)=fr+1+j by omega]
     exact this
   ·cases j with
    |zero=>simp at hj;obtain⟨rfl,rfl,rfl⟩:=hj;exact⟨rfl,fun id ah=>h6 id (List.mem_append.2 (.inl ah))⟩
    |succ j=>
     have hm:=List.mem_of_getElem? (show bH[j]? =some (.bf v' C7 qF) by simpa using hj)
     rcases h4 _ hm with h|h<;>cases h
   ·cases j with
    |zero=>simp at hj
    |succ j=>
     obtain⟨i,i1,i2⟩:=h3 j (by simpa using hj)
     simp only[List.length_append,List.length_cons,List.length_nil]at i1 i2
     refine⟨i,by rw[show fp.length+(j+1)=fp.length+(0+1)+j by omega];exact i1, ?_⟩
     rcases i2 with i2|⟨j',j1,j2,j3⟩
     ·exact⟨0,by simpa using i2,_,rfl,rfl⟩
     ·exact⟨j'+1,by omega, .dz,by simpa using j3,rfl⟩
   ·rcases List.mem_cons.1 hy with rfl|hy
    ·simp[gU]at ah
    ·exact h7 y hy id ah
  have o8:cD s o.gd true->sL P s fr o (fun v Δ rd=>gW P K KP pr l (fr+1) ⟨aO s.env o.dst v,put s.o Δ,s.nx⟩ (fp++[(rd,Δ.map (·.1))]))
   (fun v ws rd=>e8 P (KP v) pr l (fr+1) ⟨aO s.env o.dst .ak,s.o,s.nx⟩ (fp++[(rd,[])]) [fp.length] (ws++fp.flatMap (·.2)))->zI P K KP pr (o::l) fr s fp:=fun hg h=>by
   rcases tX h with⟨v,Δ,rd,lB,h⟩|⟨v,ws,rd,lB,h⟩
   ·exact step (.val v Δ rd) rfl ⟨hg,lB⟩ h
   ·exact bf v ws rd ⟨hg,lB⟩ h
  have skip:cD s o.gd false->gW P K KP pr l (fr+1) ⟨aO s.env o.dst (.bQ []),s.o,s.nx⟩ (fp++[([],[])])->zI P K KP pr (o::l) fr s fp:=fun hg h=>step .skip rfl hg h
  simp only[gW]at h
  split at h
  ·rename_i hg;exact o8 (by rw[hg];rfl) h
  ·rename_i d want hg
   split at h
   ·rename_i c hv
    split at h
    ·rename_i e;exact o8 (by rw[hg];simp[cD,hv,e]) h
    ·rename_i e;exact skip (by rw[hg];simp[cD,hv,e]) h
   ·rename_i hv;exact skip (by rw[hg];simp[cD,hv]) h
   ·exact h.elim
end
end Go.Proofs.YtpkobkdgcanmjaaGreat
namespace Go.Proofs.YtpkobkdgcanmjaaGreat
def vK(env:Nat->V):List Nat->List V->Nat->V
 |t::ps,v::vs=>vK (aQ env t v) ps vs
 |_,_=>env
def zJ(pr:List (List Nat))(m:Nat):Bool:=(List.range pr.length).all fun k=>Nat.blt k m||Nat.beq ((dw pr []).getD k 0) (2^k - 1)
def zK(P:Program)(l:List bK)(pr:List (List Nat))(Q:fq->S->Prop)(s:S):Prop:=
 ∃m,m<=l.length/\zJ pr m=true/\gW P (fun s' fp=>iK pr fp=true/\lg P (fun v s=>Q (.bf v) s) (Q .normal) (l.drop m) ⟨s'.env,s'.o,s.nx+m⟩) (fun _ _ _=>False) pr (l.take m) s.nx s []
def n5(P:Program)(n b:Nat)(rd:Bool):IC->(fq->S->Prop)->S->Prop
 | .skip,Q,s=>Q .normal s
 | .ab l,Q,s=>lg P (fun v s=>Q (.bf v) s) (Q .normal) l s
 | .ck l pr,Q,s=>gW P (vJ pr (s.nx+l.length) Q) (tW pr l s Q) pr l s.nx s []\/zK P l pr Q s
 | .seq x y,Q,s=>n5 P n b rd x (l3 (n5 P n b rd y Q) Q) s
 | .cond c x y,Q,s=>match s.ev c with
   | .d (.bool t)=>mg t (n5 P n b rd x Q s) (n5 P n b rd y Q s)
   | .dB=>n5 P n b rd x Q s/\n5 P n b rd y Q s
   |_=>False
 | .block id x,Q,s=>n5 P n b rd x (dT id Q) s
 | .loop x,Q,s=>zB b (n5 P n b rd x) Q s
 | .exit id,Q,s=>Q (.exit id) s
 | .ret,Q,s=>Q .ret s
 | .xo g ps x y,Q,s=>rd=false/\vn P n (s.ev g) ps x y Q s
 | .bad,_,_=>False
section
variable {P:Program}{n b:Nat}{rd:Bool}
theorem pc:∀ (l:List bK) (bH:List dQ) (s:S) (k:Nat) (o:bK) (x:dQ),l[k]? =some o->bH[k]? =some x->jJ l bH s (k+1)=p5 o.dst x (jJ l bH s k)
 |[],_,_,_,_,_,h,_=>by simp at h
 |o::l,[],_,_,_,_,_,h=>by simp at h
 |o::l,x::xs,s,0,o',x',h,h'=>by simp at h h';subst h;subst h';cases l<;>cases xs<;>rfl
 |o::l,x::xs,s,k+1,o',x',h,h'=>by
  simp only[jJ]
  exact pc l xs _ k o' x' (by simpa using h) (by simpa using h')
theorem qL(l:List bK)(bH:List dQ)(s:S)(hl:bH.length=l.length):∀k,k<=l.length->dx (bu l) (fun i=>bH.getD i default) (fun _=>true) s k=jJ l bH s k:=by
 intro k
 induction k with
 |zero=>intro _;cases l<;>cases bH<;>rfl
 |succ k ih=>
  intro hk
  have h1:l[k]? =some (bu l k):=by simp[bu,List.getD_eq_getElem?_getD,List.getElem?_eq_getElem (by omega:k<l.length)]
  have h2:bH[k]? =some (bH.getD k default):=by simp[List.getD_eq_getElem?_getD,List.getElem?_eq_getElem (by omega:k<bH.length)]
  simp only[dx,if_true,ih (by omega)]
  rw[pc l bH s k _ _ h1 h2]
theorem jK{ops:Array Oper}:∀ (l:List Oper) (l':List bK),hY n ops l=some l'->l'.length=l.length
 |[],_,h=>by simp[hY]at h;subst h;rfl
 |o::l,l',h=>by
  simp only[hY]at h
  split at h
  ·rename_i hx;injection h with h;subst h;simp[jK l _ hx]
  ·cases h
theorem yb(aS:P.follows .mixedOrders=true){id:Nat}{ops:Array Oper}{l:List bK}{Q Q':fq->S->Prop}{s:S}(hQ:∀e s,Q e s->Q' e s)(kE:hY n ops ops.toList=some l)(ht:ri l (eI ops)=true)
 (hp:DL (eI ops)=true) (h:gW P (vJ (eI ops) (s.nx+l.length) Q) (tW (eI ops) l s Q) (eI ops) l s.nx s []):fA P n b rd (.region id ops true) Q' s:=by
 intro M b7 H0 w0 cx φ a w ro k hs
 obtain⟨bH,hl,ba,nS⟩:=o9 l _ _ _ h
 have hlen:l.length=ops.size:=by rw[jK _ _ kE];simp
 have nY:∀k,k<ops.size->(eI ops).getD k []=aX ops k:=by
  intro k hk;simp[eI,List.getD_eq_getElem?_getD,List.getElem?_map,List.getElem?_range hk]
 have uW:(eI ops).length=ops.size:=by simp[eI]
 have lB:=qL l bH s hl
 have tZ:∀k,k<ops.size->l[k]? =some (bu l k):=fun k hk=>by simp[bu,List.getD_eq_getElem?_getD,List.getElem?_eq_getElem (by omega:k<l.length)]
 have nR:∀k,k<ops.size->bH[k]? =some (bH.getD k default):=fun k hk=>by simp[List.getD_eq_getElem?_getD,List.getElem?_eq_getElem (by omega:k<bH.length)]
 have oJ:∀k,k<ops.size->bH.getD k default∈bH:=fun k hk=>List.mem_of_getElem? (nR k hk)
 have Bk:∀k,k<ops.size->(qK bH)[k]? =some (qf (bH.getD k default),gU (bH.getD k default)):=fun k hk=>by
  simp only[qK,List.getElem?_map,nR k hk,Option.map_some]
 have D6:(qK bH).length=ops.size:=by simp[qK,hl,hlen]
 simp only[List.nil_append,List.length_nil,Nat.zero_add]at nS
 have oA:iK (eI ops) (qK bH)=true:=by
  rcases nS with⟨_,h⟩|⟨v,wl,_,_,_,h,_⟩
  ·exact h.1
  ·exact h.1
 have yc:∀k,k<ops.size->∀j∈aX ops k,j<k:=fun k hk j hj=>by
  have:=List.all_eq_true.1 hp k (by simpa[uW]using hk)
  rw[nY k hk]at this
  simpa using List.all_eq_true.1 this j hj
 have zL:∀k,k<(eI ops).length->∀j∈(eI ops).getD k [],j<k:=fun k hk j hj=>by
  rw[uW]at hk;rw[nY k hk]at hj;exact yc k hk j hj
 let po:Nat->Nat->Prop:=fun k j=>((dw (eI ops) []).getD k 0).testBit j=true
 have wF:∀E:Nat->Bool,(∀k,k<ops.size->E k=true->∀j∈aX ops k,E j=true)->∀k,k<ops.size->(∀j∈aX ops k,E j=true)->∀j,po k j->E j=true:=fun E hE k hk hj j hb=>
  lF zL (fun k hk eP j hj=>by rw[uW]at hk;rw[nY k hk]at hj;exact hE k hk eP j hj) k (by rw[uW];exact hk) (by rw[nY k hk];exact hj) j hb
 have tU:∀k,k<ops.size->∀j,po k j->j<k:=fun k hk j hb=>sO zL k (by rw[uW];exact hk) j hb
 have rZ:∀i j,i<j->j<ops.size-> ¬po j i->Compat (bu l) (fun i=>bH.getD i default) (fun i=>qf (bH.getD i default)) i j:=by
  intro i j Ho hj hn
  have tk:=List.all_eq_true.1 (List.all_eq_true.1 ht j (by simpa[hlen]using hj)) i (by simpa using Ho)
  have tE:=List.all_eq_true.1 (List.all_eq_true.1 oA j (by simpa[D6]using hj)) i (by simpa using Ho)
  have Ow:((dw (eI ops) []).getD j 0).testBit i=false:=by simpa[po]using hn
  rw[Ow,Bool.false_or]at tk tE
  simp only[Bool.and_eq_true]at tk tE
  have gi:=Bk i (by omega)
  have gj:=Bk j hj
  simp only[List.getD_eq_getElem?_getD (l:=qK bH),gi,gj,Option.getD_some]at tE
  have dj:∀ {xs ys:List Nat},kz xs ys=true->∀x∈xs,x∉ys:=fun h x hx=>by simpa using List.all_eq_true.1 h x hx
  have fo:∀ {x y:bK},mG x y=true->∀d,x.dst=some d->d∉dH y:=fun h d hd=>by simpa[mG,hd]using h
  exact⟨fo tk.1,fo tk.2,fun id ah=>⟨dj tE.1.1 id ah,dj tE.1.2 id ah⟩,fun id ah=>dj tE.2 id ah⟩
 have C8:∀i,i<ops.size->C3 P (dx (bu l) (fun i=>bH.getD i default) (fun _=>true) s i) (s.nx+i) (bu l i) (bH.getD i default):=fun i hi=>by
  rw[lB i (by omega)];exact ba i _ _ (tZ i hi) (nR i hi)
 have cf:∀i,i<ops.size->∀t,(bu l i).dst=some t->(dstsOf l).contains t=true:=fun i hi t ht=>by
  simp only[List.contains_iff_mem,dstsOf,List.mem_filterMap]
  exact⟨bu l i,List.mem_of_getElem? (tZ i hi),ht⟩
 rcases nS with⟨aJ,nS⟩|⟨v,wl,q1,q2,q3,q4,q5,q6⟩
 ·refine tT (ac:=fun i=>bH.getD i default) (dl:=dstsOf l) (wl:=(bH.flatMap gU)) aS kE yc hs C8 (fun i hi hb=> ?_) wF tU rZ cf (fun i hi id ah=> ?_) (fun i v ws qF hi hb=> ?_) (fun _ φ a w gR=> ?_) (fun i v ws qF hi hb=> ?_)
  ·have:=aJ _ (oJ i hi);rw[hb]at this;cases this
  ·simp only[List.contains_iff_mem,List.mem_flatMap];exact⟨_,oJ i hi,ah⟩
  ·have:=aJ _ (oJ i hi);rw[hb]at this;cases this
  ·rw[lB ops.size (by omega), <- hlen]at gR
   exact⟨.normal,_,φ,hQ _ _ nS.2,gR,trivial⟩
  ·have:=aJ _ (oJ i hi);rw[hb]at this;cases this
 ·refine tT (ac:=fun i=>bH.getD i default) (dl:=dstsOf l) (wl:=wl) aS kE yc hs C8 (fun i hi hb=> ?_) wF tU rZ cf (fun i hi id ah=> ?_) (fun i v' ws qF hi hb=> ?_) (fun aJ φ a w gR=> ?_) (fun i v' ws qF hi hb φ a w val gR hd=> ?_)
  ·obtain⟨j,j1,j',e,y,j3,j4⟩:=q3 i (by rw[nR i hi];exact congrArg some hb)
   rw[nY i hi,e]at j1
   refine⟨j',j1, ?_⟩
   simp only[List.getD_eq_getElem?_getD,j3,Option.getD_some,j4]
  ·simp only[List.contains_iff_mem];exact q5 _ (oJ i hi) id ah
  ·intro id ah
   simp only[List.contains_iff_mem]
   exact(q1 i v' ws qF (by rw[nR i hi];exact congrArg some hb)).2 id ah
  ·obtain⟨x,x1,x2⟩:=q2
   obtain⟨i,Be,yW⟩:=List.getElem_of_mem x1
   have hi:i<ops.size:=by omega
   have:=aJ i hi
   have e:bH.getD i default=x:=by simp[List.getD_eq_getElem?_getD,List.getElem?_eq_getElem Be,yW]
   rw[e,x2]at this;cases this
  ·have e:=(q1 i v' ws qF (by rw[nR i hi];exact congrArg some hb)).1
   subst e
   rw[<- hlen]at gR hd
   exact⟨.bf v',_,φ,hQ _ _ q4.2,gR,val,rfl,hd⟩
theorem qM{ops:Array Oper}:∀ (l:List Oper) (l':List bK) (m:Nat),hY n ops l=some l'->hY n ops (l.drop m)=some (l'.drop m)
 |l,l',0,h=>h
 |[],l',m+1,h=>by simp[hY]at h;subst h;simp[hY]
 |o::l,l',m+1,h=>by
  simp only[hY]at h
  split at h
  ·rename_i x xs hx CE
   injection h with h;subst h
   exact qM l xs m CE
  ·cases h
theorem zM{l:List bK}{ac:Nat->dQ}{E:Nat->Bool}{s:S}{m:Nat}:∀k,k<=m->dx (bu l) ac E s k=dx (bu (l.take m)) ac E s k:=by
 intro k
 induction k with
 |zero=>intro _;rfl
 |succ k ih=>
  intro hk
  have:bu l k=bu (l.take m) k:=by simp[bu,List.getD_eq_getElem?_getD,List.getElem?_take,(by omega:k<m)]
  simp only[dx,ih (by omega),this]
theorem vL(aS:P.follows .mixedOrders=true){id:Nat}{ops:Array Oper}{l:List bK}{Q Q':fq->S->Prop}{s:S}(hQ:∀e s,Q e s->Q' e s)(kE:hY n ops ops.toList=some l)(ht:ri l (eI ops)=true)
 (hp:DL (eI ops)=true) (h:zK P l (eI ops) Q s):fA P n b rd (.region id ops true) Q' s:=by
 intro M b7 H0 w0 cx φ a w ro k hs
 obtain⟨m,Bm,Ta,h⟩:=h
 obtain⟨bH,hl,ba,nS⟩:=o9 (l.take m) _ _ _ h
 have Tb:(l.take m).length=m:=by rw[List.length_take];omega
 have hlen:l.length=ops.size:=by rw[jK _ _ kE];simp
 have nS:=nS.resolve_right (fun⟨_,_,_,_,_,q4,_,_⟩=>q4)
 obtain⟨aJ,nS⟩:=nS
 have DT:bH.length=m:=by omega
 have nY:∀k,k<ops.size->(eI ops).getD k []=aX ops k:=by
  intro k hk;simp[eI,List.getD_eq_getElem?_getD,List.getElem?_map,List.getElem?_range hk]
 have uW:(eI ops).length=ops.size:=by simp[eI]
 have lB:∀k,k<=m->dx (bu l) (fun i=>bH.getD i default) (fun _=>true) s k=jJ (l.take m) bH s k:=fun k hk=>by
  rw[zM k hk];exact qL (l.take m) bH s hl k (by omega)
 have tZ:∀k,k<m->(l.take m)[k]? =some (bu l k):=fun k hk=>by
  rw[List.getElem?_take,if_pos hk]
  simp[bu,List.getD_eq_getElem?_getD,List.getElem?_eq_getElem (by omega:k<l.length)]
 have nR:∀k,k<m->bH[k]? =some (bH.getD k default):=fun k hk=>by simp[List.getD_eq_getElem?_getD,List.getElem?_eq_getElem (by omega:k<bH.length)]
 have oJ:∀k,k<m->bH.getD k default∈bH:=fun k hk=>List.mem_of_getElem? (nR k hk)
 have Bk:∀k,k<m->(qK bH)[k]? =some (qf (bH.getD k default),gU (bH.getD k default)):=fun k hk=>by
  simp only[qK,List.getElem?_map,nR k hk,Option.map_some]
 have D6:(qK bH).length=m:=by simp[qK,DT]
 simp only[List.nil_append]at nS
 obtain⟨oA,BD⟩:=nS
 have yc:∀k,k<ops.size->∀j∈aX ops k,j<k:=fun k hk j hj=>by
  have:=List.all_eq_true.1 hp k (by simpa[uW]using hk)
  rw[nY k hk]at this
  simpa using List.all_eq_true.1 this j hj
 have zL:∀k,k<(eI ops).length->∀j∈(eI ops).getD k [],j<k:=fun k hk j hj=>by
  rw[uW]at hk;rw[nY k hk]at hj;exact yc k hk j hj
 let po:Nat->Nat->Prop:=fun k j=>((dw (eI ops) []).getD k 0).testBit j=true
 have wF:∀E:Nat->Bool,(∀k,k<ops.size->E k=true->∀j∈aX ops k,E j=true)->∀k,k<ops.size->(∀j∈aX ops k,E j=true)->∀j,po k j->E j=true:=fun E hE k hk hj j hb=>
  lF zL (fun k hk eP j hj=>by rw[uW]at hk;rw[nY k hk]at hj;exact hE k hk eP j hj) k (by rw[uW];exact hk) (by rw[nY k hk];exact hj) j hb
 have tU:∀k,k<ops.size->∀j,po k j->j<k:=fun k hk j hb=>sO zL k (by rw[uW];exact hk) j hb
 have rZ:∀i j,i<j->j<m-> ¬po j i->Compat (bu l) (fun i=>bH.getD i default) (fun i=>qf (bH.getD i default)) i j:=by
  intro i j Ho hj hn
  have tk:=List.all_eq_true.1 (List.all_eq_true.1 ht j (by simp;omega)) i (by simpa using Ho)
  have tE:=List.all_eq_true.1 (List.all_eq_true.1 oA j (by simpa[D6]using hj)) i (by simpa using Ho)
  have Ow:((dw (eI ops) []).getD j 0).testBit i=false:=by simpa[po]using hn
  rw[Ow,Bool.false_or]at tk tE
  simp only[Bool.and_eq_true]at tk tE
  have gi:=Bk i (by omega)
  have gj:=Bk j hj
  simp only[List.getD_eq_getElem?_getD (l:=qK bH),gi,gj,Option.getD_some]at tE
  have dj:∀ {xs ys:List Nat},kz xs ys=true->∀x∈xs,x∉ys:=fun h x hx=>by simpa using List.all_eq_true.1 h x hx
  have fo:∀ {x y:bK},mG x y=true->∀d,x.dst=some d->d∉dH y:=fun h d hd=>by simpa[mG,hd]using h
  exact⟨fo tk.1,fo tk.2,fun id ah=>⟨dj tE.1.1 id ah,dj tE.1.2 id ah⟩,fun id ah=>dj tE.2 id ah⟩
 have Tc:∀k,m<=k->k<ops.size->∀j,j<k->po k j:=fun k TT hk j hj=>by
  have:=List.all_eq_true.1 Ta k (by simpa[uW]using hk)
  simp only[Bool.or_eq_true]at this
  rcases this with this|this
  ·exact absurd (Nat.blt_eq.mp this) (by omega)
  ·show((dw (eI ops) []).getD k 0).testBit j=true
   rw[Nat.eq_of_beq_eq_true this,Nat.testBit_two_pow_sub_one]
   exact decide_eq_true hj
 refine vI (ac:=fun i=>bH.getD i default) (m:=m) (X:=fun v s=>Q' (.bf v) s) (K:=Q' .normal) aS kE yc (by omega) hs (fun i hi=> ?_) (fun i hi=>aJ _ (oJ i hi)) wF tU rZ Tc ?_ (fun s φ a w hk gR=>⟨.normal,s,φ,hk,gR,trivial⟩) (fun v s' aj a' w' val hx gR hd=>⟨.bf v,s',aj,hx,gR,val,rfl,hd⟩)
 ·rw[lB i (by omega)];exact ba i _ _ (tZ i hi) (nR i hi)
 ·rw[lB m (Nat.le_refl _)]
  rw[Tb]at BD
  exact fN (fun s hs=>hQ _ _ hs) (fun v s hs=>hQ _ _ hs) _ _ _ (qM _ _ m kE) BD
theorem qN{g:V}{ps:List Nat}{x y:IC}{Q Q':fq->S->Prop}{s:S}(hQ:∀e s,Q e s->Q' e s)(h:vn P n g ps x y Q s):vn P n g ps x y Q' s:=by
 obtain⟨env,h1,h2⟩:=h
 refine⟨env,h1, ?_⟩
 split at h2
 ·refine jB.mono (fun v o n h=> ?_) (fun v o n h=>hQ _ _ h) h2
  obtain⟨nf,m,e,p,c,d,st,pd,k1,k2,k3⟩:=h
  refine⟨nf,m,e,p,c,d,st,pd,k1,k2, ?_⟩
  cases pd with
  |none=>exact hQ _ _ k3
  |some j=>cases j<;>exact hQ _ _ k3
 ·exact h2
theorem e9(aS:P.follows .mixedOrders=true):∀ (c:Code) (Q Q':fq->S->Prop) (s:S),(∀e s,Q e s->Q' e s)->n5 P n b rd (low n c) Q s->fA P n b rd c Q' s:=by
 intro c
 induction c with
 |skip=>exact fun Q Q' s hQ h=>hQ _ _ h
 |scope x ih=>exact fun Q Q' s hQ h=>ih Q Q' s hQ h
 |label l=>exact fun Q Q' s hQ h=>hQ _ _ h
 |exit id=>exact fun Q Q' s hQ h=>hQ _ _ h
 |ret=>exact fun Q Q' s hQ h=>hQ _ _ h
 |goto l=>exact fun Q Q' s hQ h=>h.elim
 |refuse y=>exact fun Q Q' s hQ h=>h.elim
 |rangeFunc f p x y=>exact fun Q Q' s hQ h=>⟨h.1,qN hQ h.2⟩
 |region id ops draw=>
  intro Q Q' s hQ h
  cases draw with
  |true=>
   simp only[low]at h
   split at h
   ·rename_i l hl
    split at h
    ·rename_i hc
     simp only[Bool.and_eq_true]at hc
     rcases h with h|h
     ·exact yb aS hQ hl hc.1 hc.2 h
     ·exact vL aS hQ hl hc.1 hc.2 h
    ·exact h.elim
   ·exact h.elim
  |false=>
   simp only[low]at h
   split at h
   ·rename_i l hl;exact fN (fun s hs=>hQ _ _ hs) (fun v s hs=>hQ _ _ hs) _ l s hl h
   ·exact h.elim
 |seq x y Bv Bw=>
  intro Q Q' s hQ h
  refine Bv _ _ s (fun e s he=> ?_) h
  cases e<;>first|exact Bw Q Q' s hQ he|exact hQ _ _ he
 |cond c x y Bv Bw=>
  intro Q Q' s hQ h
  simp only[low,n5]at h
  simp only[fA]
  split at h
  ·rename_i t hc
   simp only[hc]
   exact⟨fun ht=>Bv Q Q' s hQ (h.1 ht),fun ht=>Bw Q Q' s hQ (h.2 ht)⟩
  ·rename_i hc
   simp only[hc]
   exact⟨Bv Q Q' s hQ h.1,Bw Q Q' s hQ h.2⟩
  ·exact h.elim
 |block id x ih=>
  intro Q Q' s hQ h
  refine ih _ _ s (fun e s he=> ?_) h
  cases e<;>simp only[dT]at he|- <;>first
   |exact hQ _ _ he
   |(split at he<;>rename_i e
     ·rw[if_pos e];exact hQ _ _ he
     ·rw[if_neg e];exact hQ _ _ he)
 |loop x ih=>
  intro Q Q' s hQ h
  obtain⟨J,h0,hr⟩:=h
  refine⟨J,h0,fun m s0 hJ=>ih _ _ s0 (fun e s he=> ?_) (hr m s0 hJ)⟩
  cases e<;>first|exact hQ _ _ he|exact he
structure ao (P:Program) (f:FuncId) (n:Nat) (ic:IC) (rs:List ResultVar):Prop where
 get:∃fn,P.funcs[f]? =some fn/\(fn.name== "runtime.NumGoroutine")=false/\fn.ntmps=n/\fn.results.toList=rs/\∃c,fn.body=some c/\low n c=ic
theorem ft.pf (aS:P.follows .mixedOrders=true){f:FuncId}{ic:IC}{rs:List ResultVar}(hf:ao P f n ic rs){args:List V}{o:Nat->aa}{nx:Nat}{K X:V->(Nat->aa)->Nat->Prop}(hl:args.length<=n)(h:n5 P n nx false ic (iX P rs K X) ⟨b9 args,o,nx⟩):ft P f args o nx K X:=by
 obtain⟨fn,h1,h2,rfl,rfl,c,h3,rfl⟩:=hf.get
 exact ft.wA h1 h2 h3 hl (e9 aS c _ _ _ (fun _ _ h=>h) h)
theorem bJ.pf (aS:P.follows .mixedOrders=true){f:FuncId}{ic:IC}{rs:List ResultVar}(hf:ao P f n ic rs){ds:List D}{out:R}(hl:ds.length<=n)(h:n5 P n 0 false ic (vk P rs out) ⟨b9 (ds.map .d),fun _=> .no,0⟩):bJ P f ds out:=by
 obtain⟨fn,h1,h2,rfl,rfl,c,h3,rfl⟩:=hf.get
 exact bJ.la (ft.wA h1 h2 h3 (by simpa using hl) (e9 aS c _ _ _ (fun e s h=>xY e s h) h))
end
end Go.Proofs.YtpkobkdgcanmjaaGreat
namespace Go.Proofs.YtpkobkdgcanmjaaGreat
abbrev Fix(α:Type){β:Type}(_:β):Type:=α
def gM(K:V->List (Nat×aa)->Prop)(x:Fix (Option eQ) K):Prop:=match x with|some (v,Δ,_)=>K v Δ|none=>False
@[go_sem] theorem D7 {v:V} {Δ:List (Nat×aa)} {rd:List Nat} {K}:gM K (some (v,Δ,rd))=K v Δ:=propext Iff.rfl
@[go_sem] theorem D8 {K}:gM K none=False:=propext Iff.rfl
def V.r8 (c:Bool)(v:V):V:=if c=true then v else .bQ []
@[go_sem] theorem Hq (b:Bool):(!!b)=b:=by simp
attribute [go_sem] true_or or_true false_or ne_eq not_false_eq_true decide_true decide_false Bool.not_true Bool.not_false Bool.and_true Bool.true_and Bool.and_false Bool.false_and Bool.or_true Bool.true_or Bool.or_false Bool.false_or beq_self_eq_true Bool.true_eq_false Bool.false_eq_true not_true_eq_false and_true true_and and_false false_and eq_self
@[go_sem] theorem V.Hr (v:V):V.r8 true v=v:=rfl
@[go_sem] theorem V.FG (v:V):V.r8 false v= .bQ []:=rfl
def ji(c:Bool)(p:Prop):Prop:=c=true->p
@[congr] theorem C9 {c c':Bool} {p p':Prop} (h:c=c') (h2:c'=true->p=p'):ji c p=ji c' p':=by
  subst h;cases c
  ·simp[ji]
  ·simp[ji,h2 rfl]
@[go_sem] theorem D9 (p:Prop):ji true p=p:=by simp[ji]
@[go_sem] theorem Da (p:Prop):ji false p=True:=by simp[ji]
@[go_sem] theorem Ea (a:Bool):ji a True=True:=by simp[ji]
def jj(v:V)(want:Bool):Option Bool:=
 match v with
 | .d (.bool b)=>some (b==want)
 | .bQ []=>some false
 |_=>none
@[go_sem] theorem Eb (b:Bool):jj (.d (.bool b)) true=some b:=by simp[jj]
@[go_sem] theorem Db (b:Bool):jj (.d (.bool b)) false=some (!b):=by simp[jj]
@[go_sem] theorem Hs (want:Bool):jj (.bQ []) want=some false:=rfl
@[go_sem] theorem FH (c b want:Bool):jj (V.r8 c (.d (.bool b))) want=some (c&&(b==want)):=by cases c<;>simp[jj,V.r8]
@[go_sem] theorem Ec (c b e want:Bool):jj (V.r8 c (V.r8 e (.d (.bool b)))) want=some (c&&e&&(b==want)):=by cases c<;>cases e<;>simp[jj,V.r8]
def gX(c:Bool)(x:Option eQ):Option eQ:=
 if c=true then(match x with|some (v,[],_)=>some (v,[],[])|_=>none)else some (.bQ [],[],[])
@[congr] theorem BE {c c':Bool} {x x':Option eQ} (h:c=c') (h2:c'=true->x=x'):gX c x=gX c' x':=by
  subst h;cases c
  ·rfl
  ·simp[gX,h2 rfl]
def FI(v:V)(rd:List Nat):Option eQ:=some (v,[],rd)
@[go_sem] theorem Ox (v:V) (rd:List Nat):(some (v,[],rd):Option eQ)=FI v rd:=by unfold FI;exact Eq.trans rfl rfl
@[go_sem] theorem Ed (c:Bool) (v:V) (rd:List Nat):gX c (FI v rd)=FI (V.r8 c v) []:=by cases c<;>rfl
@[go_sem] theorem FJ {v:V} {rd:List Nat} {K}:gM K (FI v rd)=K v []:=propext Iff.rfl
@[go_sem] theorem Dc (c:Bool) (v:V) (rd:List Nat):gX c (some (v,[],rd))=some (V.r8 c v,[],[]):=by cases c<;>rfl
@[go_sem] theorem BF (x:Option eQ):gX false x=some (.bQ [],[],[]):=rfl
@[go_sem] theorem Ht (b x:Bool):l9 (.d (.bool b)) (V.r8 b (.d (.bool x))) (.d (.bool false))=some (.d (.bool (b&&x))):=by cases b<;>rfl
@[go_sem] theorem Ng (b x:Bool):l9 (.d (.bool b)) (.d (.bool true)) (V.r8 (!b) (.d (.bool x)))=some (.d (.bool (b||x))):=by cases b<;>rfl
@[go_sem] theorem Hu (b x:Bool):l9 (.d (.bool (!b))) (.d (.bool true)) (V.r8 b (.d (.bool x)))=some (.d (.bool (!b||x))):=by cases b<;>rfl
@[go_sem] theorem FK (x y:V):l9 (.d (.bool true)) x y=some x:=rfl
@[go_sem] theorem Ee (x y:V):l9 (.d (.bool false)) x y=some y:=rfl
@[reducible] def gY:Op->Bool
  | .move _| .assign _| .pick .. | .load .. | .binOp .. | .unOp .. | .nilCheck _| .convert .. | .makeInterface .. | .makeFunc .. | .fieldAddr .. | .indexAddr .. | .extract .. | .build .. | .index .. | .field .. | .lookup .. =>true
  | .call c=>match c.callee with
    | .builtin .len=>true
    | .builtin .min=>true
    | .builtin .max=>true
    |_=>false
  |_=>false
def ua(P:Program)(f:V)(args:List V)(o:Nat->aa)(rs:List D):Prop:=
 match f with
 | .func (.func g) first cap=>match bG o (first++args++cap)with
   |some ds=>bJ P g ds (.ret rs)/\D.gf rs=true
   |none=>False
 |_=>False
def wH(P:Program)(f:V)(args:List V)(o:Nat->aa)(K:V->Prop)(c:Fix Bool (f,args,o,K)):Prop:=
 ∃rs,ji c (ua P f args o rs)/\K (V.r8 c (gh rs))
def ub(P:Program)(g:FuncId)(nx:Nat)(K X:V->(Nat->aa)->Nat->Prop)(args:Fix (List V) (K,X))(o:Fix (Nat->aa) (K,X)):Prop:=nr P g args o nx K X
def pg(P:Program)(g:FuncId)(o:Nat->aa)(nx:Nat)(K X:V->(Nat->aa)->Nat->Prop)(ds:Fix (List D) (o,nx,K,X))(all:Fix (List V) (o,nx,K,X)):Prop:=
 oW P g ds o (put o (cn o (V.aR all))) (put o (mK o (V.aR all))) (fun v o'=>K v o' (nx+1)) (fun v o'=>X v o' (nx+1))\/nr P g all o nx K X
def jL(P:Program)(g:FuncId)(K X:V->(Nat->aa)->Nat->Prop)(s:S)(all:List V)(ds:Fix (Option (List D)) (K,X,s,all)):Prop:=
 match ds with
 |some ds=>pg P g s.o s.nx K X ds all
 |none=>ub P g s.nx K X all s.o
@[go_sem] theorem Dd {P:Program} {s:S} {ds:List D} {g:FuncId} {all:List V} {K X}:
 jL P g K X s all (some ds)=pg P g s.o s.nx K X ds all:=propext Iff.rfl
def wI(P:Program)(id:Nat)(K X:V->(Nat->aa)->Nat->Prop)(s:S)(args:Fix (List V) (K,X,s)):Prop:=dS P id args s.o s.nx K X
@[go_sem] theorem De {P:Program} {s:S} {g:FuncId} {all:List V} {K X}:jL P g K X s all none=ub P g s.nx K X all s.o:=propext Iff.rfl
def nA(P:Program)(K X:V->(Nat->aa)->Nat->Prop)(s:S)(f:Fix V (K,X,s))(args:Fix (List V) (K,X,s)):Prop:=
 match f with
 | .func (.func g) first cap=>jL P g K X s (first++args++cap) (bG s.o (first++args++cap))
 | .j7 id=>wI P id K X s args
 |_=>False
@[go_sem] theorem FL {P:Program} {s:S} {id:Nat} {args:List V} {K X}:nA P K X s (.j7 id) args=wI P id K X s args:=propext Iff.rfl
@[go_sem] theorem Eg {P:Program} {s:S} {g:FuncId} {first cap args:List V} {K X}:nA P K X s (.func (.func g) first cap) args=jL P g K X s (first++args++cap) (bG s.o (first++args++cap)):=propext Iff.rfl
def zN(P:Program)(g:FuncId)(o:Nat->aa)(nx:Nat)(K X:V->(Nat->aa)->Nat->Prop)(ds:Fix (List D) (o,nx,K,X))(all:Fix (List V) (o,nx,K,X)):Prop:=
 oW P g ds o (put o (cn o (V.aR all))) (put o (mK o (V.aR all))) (fun v o'=>K v o' (nx+1)) (fun v o'=>X v o' (nx+1))
def uc(P:Program)(g:FuncId)(K X:V->(Nat->aa)->Nat->Prop)(s:S)(all:List V)(ds:Fix (Option (List D)) (K,X,s,all)):Prop:=
 match ds with
 |some ds=>zN P g s.o s.nx K X ds all
 |none=>False
@[go_sem] theorem Eh {P:Program} {s:S} {ds:List D} {g:FuncId} {all:List V} {K X}:uc P g K X s all (some ds)=zN P g s.o s.nx K X ds all:=propext Iff.rfl
def zO(P:Program)(K X:V->(Nat->aa)->Nat->Prop)(s:S)(args:Fix (List V) (K,X,s))(r:Fix (Option (FuncId×V)) (K,X,s)):Prop:=
 match r with
 |some (g,y)=>uc P g K X s (y::args) (bG s.o (y::args))
 |none=>False
@[go_sem] theorem FM {P:Program} {s:S} {g:FuncId} {y:V} {args:List V} {K X}:zO P K X s args (some (g,y))=uc P g K X s (y::args) (bG s.o (y::args)):=propext Iff.rfl
def yd(K:V->Prop)(v:Fix V K):Prop:=
 match v with
 | .d (.iface t y)=>K (.d (.iface t y))
 | .iface t y=>K (.iface t y)
 |_=>False
@[go_sem] theorem Oy {t:TypeId} {y:D} {K}:yd K (.d (.iface t y))=K (.d (.iface t y)):=propext Iff.rfl
@[go_sem] theorem Oz {t:TypeId} {y:V} {K}:yd K (.iface t y)=K (.iface t y):=propext Iff.rfl
def Df(K:V->List (Nat×aa)->Prop)(id:Nat)(l:Fix (List (D×D)) (K,id)):Prop:=wb id l fun v Δ _=>K v Δ
def zP(K:V->List (Nat×aa)->Prop)(str:Bool)(FN:Fix (Option eQ) (K,str))(left:Fix (Option (Nat×List (D×D))) (K,str)):Prop:=
 match left with
 |some (id,l)=>str=false/\Df K id l
 |none=>gM K FN
@[go_sem] theorem FO {K} {FN:Option eQ} {id:Nat} {l:List (D×D)}:zP K false FN (some (id,l))=Df K id l:=propext ⟨fun h=>h.2,fun h=>⟨rfl,h⟩⟩
@[go_sem] theorem FP {K} {str:Bool} {FN:Option eQ}:zP K str FN none=gM K FN:=propext Iff.rfl
def uZ(P:Program)(X:V->S->Prop)(K:S->Prop)(o:bK)(s:Fix S (X,K,o)):Prop:=
 match o.op with
 | .next x str=>zP (fun v Δ=>K ⟨aO s.env o.dst v,put s.o Δ,s.nx+1⟩) str (kI s.o (s.ev x) str) (kJ s.o (s.ev x))
 | .call c=>match c.callee with
   | .value f=>nA P (fun v o' nx'=>K ⟨aO s.env o.dst v,o',nx'⟩) (fun v o' nx'=>X v ⟨s.env,o',nx'⟩) s (s.ev f) (c.args.toList.map s.ev)
   | .invoke r m=>zO P (fun v o' nx'=>K ⟨aO s.env o.dst v,o',nx'⟩) (fun v o' nx'=>X v ⟨s.env,o',nx'⟩) s (c.args.toList.map s.ev) (oL P m (s.ev r))
   |_=>gM (fun v Δ=>K ⟨aO s.env o.dst v,put s.o Δ,s.nx+1⟩) (eG P s s.nx o.op)
 | .panic x=>yd (fun v=>X v s) (s.ev x)
 |op=>gM (fun v Δ=>K ⟨aO s.env o.dst v,put s.o Δ,s.nx+1⟩) (eG P s s.nx op)
@[reducible] def ec:Op->Option (Operand×List Operand)
  | .call c=>match c.callee with
    | .value f=>some (f,c.args.toList)
    |_=>none
  |_=>none
def fC(A B:Prop)(t:Fix Bool (A,B)):Prop:=mg t A B
@[go_sem] theorem Ei (A B:Prop):fC A B true=A:=oX A B
@[go_sem] theorem Dg (A B:Prop):fC A B false=B:=ns A B
def ye(P:Program)(X:V->S->Prop)(K:S->Prop)(o:bK)(s:S)(f:Operand)(args:List Operand)(c:Fix Bool (X,K,o,s,f,args)):Prop:=
 wH P (s.ev f) (args.map s.ev) s.o (fun v=>K ⟨aO s.env o.dst v,s.o,s.nx+1⟩) c\/fC (uZ P X K o s) (K ⟨aO s.env o.dst (.bQ []),s.o,s.nx+1⟩) c
def r9(P:Program)(X:V->S->Prop)(K:S->Prop)(o:bK)(s:S)(c:Fix (Option Bool) (X,K,o,s)):Prop:=
 match c with
 |none=>False
 |some c=>match ec o.op with
  |some (f,args)=>ye P X K o s f args c
  |none=>if gY o.op=true then gM (fun v _=>K ⟨aO s.env o.dst v,s.o,s.nx+1⟩) (gX c (eG P s s.nx o.op))
   else fC (uZ P X K o s) (K ⟨aO s.env o.dst (.bQ []),s.o,s.nx+1⟩) c
def nT(P:Program)(X:V->S->Prop)(K:S->Prop)(l:List bK)(s:Fix S (X,K,l)):Prop:=
 match l with
 |[]=>K s
 |o::l=>match o.gd with
  |none=>uZ P X (nT P X K l) o s
  |some (d,want)=>r9 P X (nT P X K l) o s (jj (s.env d) want)
def gr(want:Bool)(A B:Prop)(v:Fix V (A,B)):Prop:=
 match v with
 | .d (.bool b)=>mg (b==want) A B
 | .bQ []=>B
 |_=>False
@[go_sem] theorem Dh (b:Bool) (A B:Prop):gr true A B (.d (.bool b))=fC A B b:=by simp[gr,fC]
@[go_sem] theorem BG (b:Bool) (A B:Prop):gr false A B (.d (.bool b))=fC A B (!b):=by simp[gr,fC]
@[go_sem] theorem FQ (want:Bool) (A B:Prop):gr want A B (.bQ [])=B:=propext Iff.rfl
@[go_sem] theorem Ej (c b want:Bool) (A B:Prop):gr want A B (V.r8 c (.d (.bool b)))=fC A B (c&&(b==want)):=by cases c<;>simp[gr,V.r8,fC]
abbrev KD:=V->List (Nat×aa)->List Nat->Prop
abbrev XD:=V->List Nat->List Nat->Prop
def zQ(P:Program)(g:FuncId)(K:KD)(X:XD)(o:Nat->aa)(rd:List Nat)(ds:Fix (List D) (K,X,o,rd))(all:Fix (List V) (K,X,o,rd)):Prop:=
 nz P g ds (fun v=>K v (cn o (V.aR all)) rd) (fun v=>K v [] rd) (fun v=>X v [] rd)
def sa(P:Program)(g:FuncId)(K:KD)(X:XD)(o:Nat->aa)(nx fr:Nat)(all:Fix (List V) (K,X,o,nx)):Prop:=fw P g all o nx fr K X
def ph(P:Program)(g:FuncId)(K:KD)(X:XD)(o:Nat->aa)(nx fr:Nat)(rd:List Nat)(ds:Fix (List D) (K,X,o,nx,rd))(all:Fix (List V) (K,X,o,nx,rd)):Prop:=zQ P g K X o rd ds all\/sa P g K X o nx fr all
def m4(P:Program)(K:KD)(X:XD)(o:Nat->aa)(nx fr:Nat)(rd:List Nat)(g:FuncId)(all:List V)(ds:Fix (Option (List D)) (K,X,o,nx,rd,all)):Prop:=
 match ds with
 |some ds=>ph P g K X o nx fr rd ds all
 |none=>sa P g K X o nx fr all
@[go_sem] theorem Di {P:Program} {o:Nat->aa} {nx fr:Nat} {rd:List Nat} {ds:List D} {g:FuncId} {all:List V} {K X}:m4 P K X o nx fr rd g all (some ds)=ph P g K X o nx fr rd ds all:=propext Iff.rfl
@[go_sem] theorem Dj {P:Program} {o:Nat->aa} {nx fr:Nat} {rd:List Nat} {g:FuncId} {all:List V} {K X}:m4 P K X o nx fr rd g all none=sa P g K X o nx fr all:=propext Iff.rfl
def ud(P:Program)(K:KD)(X:XD)(o:Nat->aa)(nx fr:Nat)(rd:Fix (List Nat) (K,X,o,nx))(f:Fix V (K,X,o,nx))(args:Fix (List V) (K,X,o,nx)):Prop:=
 match f with
 | .func (.func g) first cap=>m4 P K X o nx fr rd g (first++args++cap) (bG o (first++args++cap))
 |_=>False
@[go_sem] theorem Ek {P:Program} {o:Nat->aa} {nx fr:Nat} {rd:List Nat} {g:FuncId} {first cap args:List V} {K X}:ud P K X o nx fr rd (.func (.func g) first cap) args=m4 P K X o nx fr rd g (first++args++cap) (bG o (first++args++cap)):=propext Iff.rfl
def pj(K:KD)(rd:List Nat)(x:Fix (Option eQ) (K,rd)):Prop:=match x with|some (v,Δ,_)=>K v Δ rd|none=>False
@[go_sem] theorem El {v:V} {Δ:List (Nat×aa)} {r rd:List Nat} {K}:pj K rd (some (v,Δ,r))=K v Δ rd:=propext Iff.rfl
@[go_sem] theorem FR {v:V} {r rd:List Nat} {K}:pj K rd (FI v r)=K v [] rd:=propext Iff.rfl
def A6(P:Program)(K:KD)(X:XD)(fr:Nat)(o:bK)(s:Fix S (K,X,o)):Prop:=
 match ec o.op with
 |some (f,args)=>ud P K X s.o s.nx fr (fO s o.op) (s.ev f) (args.map s.ev)
 |none=>pj K (fO s o.op) (eG P s fr o.op)
def yf(P:Program)(KB:List Nat->Fp->Prop)(pr:List (List Nat))(l:List bK)(fr:Nat)(fp:Fix Fp (KB,l))(bad ws:Fix (List Nat) (KB,l))(s:Fix S (KB,l)):Prop:=e8 P KB pr l fr s fp bad ws
def mh(P:Program)(K:S->Fp->Prop)(KP:V->List Nat->Fp->Prop)(pr:List (List Nat))(l:List bK)(fr:Nat)(s:Fix S (K,KP,l))(fp:Fix Fp (K,KP,l)):Prop:=
 match l with
 |[]=>K s fp
 |o::l=>match o.gd with
  |none=>A6 P (fun v Δ rd=>mh P K KP pr l (fr+1) ⟨aO s.env o.dst v,put s.o Δ,s.nx⟩ (fp++[(rd,Δ.map (·.1))]))
   (fun v ws rd=>yf P (KP v) pr l (fr+1) (fp++[(rd,[])]) [fp.length] (ws++fp.flatMap (·.2)) ⟨aO s.env o.dst .ak,s.o,s.nx⟩) fr o s
  |some (d,want)=>gr want (A6 P (fun v Δ rd=>mh P K KP pr l (fr+1) ⟨aO s.env o.dst v,put s.o Δ,s.nx⟩ (fp++[(rd,Δ.map (·.1))]))
   (fun v ws rd=>yf P (KP v) pr l (fr+1) (fp++[(rd,[])]) [fp.length] (ws++fp.flatMap (·.2)) ⟨aO s.env o.dst .ak,s.o,s.nx⟩) fr o s)
   (mh P K KP pr l (fr+1) ⟨aO s.env o.dst (.bQ []),s.o,s.nx⟩ (fp++[([],[])])) (s.env d)
def BH(pr:List (List Nat))(nx:Nat)(Q:fq->S->Prop)(s:Fix S Q)(fp:Fix Fp Q):Prop:=vJ pr nx Q s fp
def qO(A B:Prop)(v:Fix V (A,B)):Prop:=
 match v with
 | .d (.bool t)=>fC A B t
 | .dB=>A/\B
 |_=>False
@[go_sem] theorem FT (A B:Prop):qO A B .dB=(A/\B):=propext Iff.rfl
@[go_sem] theorem Em (t:Bool) (A B:Prop):qO A B (.d (.bool t))=fC A B t:=propext Iff.rfl
def wJ{ι:Type}(b:Nat)(st:ι->S)(eH:ι->Prop)(lj:ι->Nat)(i:ι)(s:S):Prop:=∃j,eH j/\lj j<lj i/\cR b s (st j)
def pk(next:S->Prop)(Q:fq->S->Prop)(e:fq)(s:S):Prop:=match e with| .normal=>next s|e=>Q e s
section
variable {N:S->Prop}{Q:fq->S->Prop}{s:S}
@[go_sem ↓] theorem BI:pk N Q .normal s=N s:=propext Iff.rfl
@[go_sem ↓] theorem En {id:Nat}:pk N Q (.exit id) s=Q (.exit id) s:=propext Iff.rfl
@[go_sem ↓] theorem FU:pk N Q .ret s=Q .ret s:=propext Iff.rfl
@[go_sem ↓] theorem FV {v:V}:pk N Q (.bf v) s=Q (.bf v) s:=propext Iff.rfl
end
def wK(b:Nat)(body:(fq->S->Prop)->S->Prop)(Q:fq->S->Prop)(s:Fix S (body,Q)):Prop:=
 ∃ (ι:Type) (st:ι->S) (eH:ι->Prop) (lj:ι->Nat) (i0:ι),eH i0/\cR b s (st i0)/\∀i,eH i->body (pk (wJ b st eH lj i) Q) (st i)
theorem bN{ι:Type}{b:Nat}{body:(fq->S->Prop)->S->Prop}{Q:fq->S->Prop}{s:S}(st:ι->S)(eH:ι->Prop)(lj:ι->Nat)(i0:ι)(h0:eH i0)(hle:cR b s (st i0))
 (h:∀i,eH i->body (pk (wJ b st eH lj i) Q) (st i)):wK b body Q s:=⟨ι,st,eH,lj,i0,h0,hle,h⟩
def Eo(P:Program)(n:Nat)(rd:Bool)(ps:List Nat)(x y:IC)(Q:fq->S->Prop)(s:Fix S (x,y,Q))(g:Fix V (x,y,Q)):Prop:=rd=false/\vn P n g ps x y Q s
def mi(P:Program)(n b:Nat)(rd:Bool)(c:IC)(Q:fq->S->Prop)(s:Fix S (c,Q)):Prop:=
 match c with
 | .skip=>Q .normal s
 | .ab l=>nT P (fun v s=>Q (.bf v) s) (Q .normal) l s
 | .ck l pr=>mh P (BH pr (s.nx+l.length) Q) (tW pr l s Q) pr l s.nx s []
 | .seq x y=>mi P n b rd x (l3 (fun s=>mi P n b rd y Q s) Q) s
 | .cond c x y=>qO (mi P n b rd x Q s) (mi P n b rd y Q s) (s.ev c)
 | .block id x=>mi P n b rd x (dT id Q) s
 | .loop x=>wK b (fun Q s=>mi P n b rd x Q s) Q s
 | .exit id=>Q (.exit id) s
 | .ret=>Q .ret s
 | .xo g ps x y=>Eo P n rd ps x y Q s (s.ev g)
 | .bad=>False
section
variable {P:Program}{n b:Nat}{rd:Bool}
theorem ue{s:S}{f:V}{args:List V}{K K':V->(Nat->aa)->Nat->Prop}{X X':V->(Nat->aa)->Nat->Prop}(hK:∀v o n,K v o n->K' v o n)(hX:∀v o n,X v o n->X' v o n)(h:nA P K X s f args):
 match(generalizing:=false) f with
  | .func (.func g) first cap=>match bG s.o (first++args++cap)with
    |some ds=>oW P g ds s.o (put s.o (cn s.o (V.aR (first++args++cap)))) (put s.o (mK s.o (V.aR (first++args++cap)))) (fun v o'=>K' v o' (s.nx+1)) (fun v o'=>X' v o' (s.nx+1))\/nr P g (first++args++cap) s.o s.nx K' X'
    |none=>nr P g (first++args++cap) s.o s.nx K' X'
  | .j7 id=>dS P id args s.o s.nx K' X'
  |_=>False:=by
 unfold nA jL wI at h
 split at h
 ·rename_i g first cap
  cases dA:bG s.o (first++args++cap)with
  |some ds=>
   simp only[dA]at h|-
   rcases h with⟨out,h1,h2|⟨h3,h2⟩|⟨h3,h2⟩⟩|h
   ·exact .inl ⟨out,h1, .inl (by cases out<;>first|exact hK _ _ _ h2|exact hX _ _ _ h2)⟩
   ·exact .inl ⟨out,h1, .inr (.inl ⟨h3,by cases out<;>first|exact hK _ _ _ h2|exact hX _ _ _ h2⟩)⟩
   ·exact .inl ⟨out,h1, .inr (.inr ⟨h3,by cases out<;>first|exact hK _ _ _ h2|exact hX _ _ _ h2⟩)⟩
   ·exact .inr (jB.mono hK hX h)
  |none=>
   simp only[dA]at h|-
   exact jB.mono hK hX h
 ·exact dS.mono hK hX h
 ·exact h.elim
theorem qP{x:Option eQ}{K:V->List (Nat×aa)->Prop}(h:gM K x):∃v Δ rd,x=some (v,Δ,rd)/\K v Δ:=by
 unfold gM at h;split at h
 ·exact⟨_,_,_,rfl,h⟩
 ·exact h.elim
theorem sb{s:S}{o:bK}{X X':V->S->Prop}{K K':S->Prop}(hK:∀s,K s->K' s)(hX:∀v s,X v s->X' v s)(h:uZ P X K o s):yL P s o X' K':=by
 unfold uZ at h
 unfold yL
 have hs:∀ {op:Op},(gM (fun v Δ=>K ⟨aO s.env o.dst v,put s.o Δ,s.nx+1⟩) (eG P s s.nx op))->(match eG P s s.nx op with|some (v,Δ,_)=>K' ⟨aO s.env o.dst v,put s.o Δ,s.nx+1⟩|none=>False):=by
  intro op h
  obtain⟨v,Δ,rd,he,h⟩:=qP h
  simp only[he];exact hK _ h
 split at h
 ·rename_i x str hx
  rw[hx]
  unfold zP at h
  simp only
  split at h
  ·rename_i id l hl
   simp only[hl]
   exact⟨h.1,fun e=>hK _ (h.2.1 e),fun i k x e=>hK _ (h.2.2 i k x e)⟩
  ·rename_i hl
   simp only[hl]
   exact hs (op:= .next x str) h
 ·rename_i c hc
  simp only[hc]
  split at h
  ·rename_i f hf
   simp only[hf]
   exact ue (K:=fun v o' nx'=>K ⟨aO s.env o.dst v,o',nx'⟩) (X:=fun v o' nx'=>X v ⟨s.env,o',nx'⟩) (fun v o n h=>hK _ h) (fun v o n h=>hX _ _ h) h
  ·rename_i r m hf
   simp only[hf]
   unfold zO at h
   split at h
   ·rename_i g y hr
    simp only[hr]
    unfold uc at h
    split at h
    ·rename_i ds dA
     obtain⟨out,h1,h2⟩:=h
     refine .inl ⟨ds,dA,out,h1, ?_⟩
     rcases h2 with h2|⟨h3,h2⟩|⟨h3,h2⟩
     ·exact .inl (by cases out<;>first|exact hK _ h2|exact hX _ _ h2)
     ·exact .inr (.inl ⟨h3,by cases out<;>first|exact hK _ h2|exact hX _ _ h2⟩)
     ·exact .inr (.inr ⟨h3,by cases out<;>first|exact hK _ h2|exact hX _ _ h2⟩)
    ·exact h.elim
   ·exact h.elim
  ·rename_i hf hi
   rw[hc]at h
   obtain⟨zj,args,ts⟩:=c
   cases zj with
   |value f=>exact absurd rfl (hf f)
   |invoke r m=>exact absurd rfl (hi r m)
   |_=>exact hs h
 ·rename_i x hx
  simp only[hx]
  unfold yd at h
  split at h
  ·rename_i hv;simp only[hv];exact hX _ _ h
  ·rename_i hv;simp only[hv];exact hX _ _ h
  ·exact h.elim
 ·rename_i p4 hc hp
  have h2:=hs h
  cases hh:o.op<;>first
   |exact absurd hh (hc _)
   |exact absurd hh (hp _)
   |exact absurd hh (p4 _ _)
   |(rw[hh]at h2;exact h2)
theorem zR{s:S}{o:bK}{X:V->S->Prop}{K:S->Prop}(hp:gY o.op=true){v:V}{Δ:List (Nat×aa)}{rd:List Nat}(he:eG P s s.nx o.op=some (v,Δ,rd))(h:K ⟨aO s.env o.dst v,put s.o Δ,s.nx+1⟩):yL P s o X K:=by
 unfold yL
 split
 ·rename_i c hc
  split
  ·rename_i f hf;rw[hc]at hp;simp[gY,hf]at hp
  ·rename_i r m hf;rw[hc]at hp;simp[gY,hf]at hp
  ·rw[he];exact h
 ·rename_i x hx;rw[hx]at hp;simp[gY]at hp
 ·rename_i x str hx;rw[hx]at hp;simp[gY]at hp
 ·rw[he];exact h
theorem qQ{X X':V->S->Prop}{K K':S->Prop}(hK:∀s,K s->K' s)(hX:∀v s,X v s->X' v s):∀ (l:List bK) (s:S),nT P X K l s->lg P X' K' l s
 |[],s,h=>hK _ h
 |o::l,s,h=>by
  have ih:=qQ hK hX l
  unfold nT at h
  unfold lg
  cases hg:o.gd with
  |none=>
   simp only[hg]at h|-
   exact sb ih hX h
  |some p=>
   obtain⟨d,want⟩:=p
   simp only[hg]at h|-
   unfold r9 at h
   split at h
   ·exact h.elim
   ·rename_i c hc
    have Nh:∀ {A B:Prop},(c=true->A)->(c=false->B)->(match s.env d with
     | .d (.bool b)=>if b=want then A else B
     | .bQ []=>B
     |_=>False):=by
     intro A B hA hB
     generalize s.env d=v at hc
     unfold jj at hc
     split at hc
     ·rename_i b
      injection hc with hc
      split
      ·rename_i e;exact hA (by rw[<- hc];simp[e])
      ·rename_i e;exact hB (by rw[<- hc];simp[e])
     ·injection hc with hc
      exact hB hc.symm
     ·cases hc
    split at h
    ·rename_i f args yM
     rcases h with h|h
     case inr=>exact Nh (fun Dk=>sb ih hX (h.1 Dk)) (fun Ep=>ih _ (h.2 Ep))
     obtain⟨rs,h1,h2⟩:=h
     refine Nh (fun Dk=> ?_) (fun Ep=> ?_)
     ·unfold ec at yM
      split at yM
      ·rename_i c' xO
       split at yM
       ·rename_i f' th
        injection yM with yM;injection yM with e1 e2;subst e1;subst e2
        have jf:=h1 Dk
        unfold yL
        simp only[xO,th]
        unfold ua at jf
        split at jf
        ·rename_i g first cap oN
         simp only[oN]
         split at jf
         ·rename_i ds dA
          simp only[dA]
          refine .inl ⟨.ret rs,jf.1, .inr (.inl ⟨jf.2, ?_⟩)⟩
          refine ih _ ?_
          rw[Dk]at h2
          exact h2
         ·exact jf.elim
        ·exact jf.elim
       ·cases yM
      ·cases yM
     ·refine ih _ ?_
      rw[Ep]at h2
      exact h2
    ·split at h
     ·rename_i hp
      obtain⟨v,Δ,rd,he,h⟩:=qP h
      refine Nh (fun Dk=> ?_) (fun Ep=> ?_)
      ·rw[Dk]at he
       simp only[gX,if_true]at he
       split at he
       ·rename_i v' qF dY
        injection he with he;injection he with e1 e2;subst e1
        exact zR hp dY (ih _ h)
       ·cases he
      ·rw[Ep]at he
       simp only[gX]at he
       injection he with he;injection he with e1 e2;subst e1
       exact ih _ h
     ·exact Nh (fun Dk=>sb ih hX (h.1 Dk)) (fun Ep=>ih _ (h.2 Ep))
theorem sc{op:Op}{f:Operand}{args:List Operand}(h:ec op=some (f,args)):∃c,op= .call c/\c.callee= .value f/\c.args.toList=args:=by
 unfold ec at h
 split at h
 ·rename_i c
  split at h
  ·rename_i f' th
   injection h with h;injection h with e1 e2;subst e1;subst e2
   exact⟨c,rfl,th,rfl⟩
  ·cases h
 ·cases h
theorem yg{x:Option eQ}{rd:List Nat}{K:KD}(h:pj K rd x):∃v Δ r,x=some (v,Δ,r)/\K v Δ rd:=by
 unfold pj at h;split at h
 ·exact⟨_,_,_,rfl,h⟩
 ·exact h.elim
theorem fw.mono {P:Program}{g:FuncId}{args:List V}{o:Nat->aa}{nx fr:Nat}{K K':KD}{X X':XD}(hK:∀v Δ r,K v Δ r->K' v Δ r)(hX:∀v w r,X v w r->X' v w r)(h:fw P g args o nx fr K X):fw P g args o nx fr K' X':=by
 obtain⟨rd,Δ,h1,⟨rs,h2,h3⟩|⟨x,h2,h3⟩|⟨v,h2,h3⟩⟩:=h
 ·exact⟨rd,Δ,h1, .inl ⟨rs,h2,hK _ _ _ h3⟩⟩
 ·exact⟨rd,Δ,h1, .inr (.inl ⟨x,h2,hX _ _ _ h3⟩)⟩
 ·exact⟨rd,Δ,h1, .inr (.inr ⟨v,h2,hK _ _ _ h3⟩)⟩
theorem nz.mono {P:Program}{g:FuncId}{ds:List D}{Kf Kb KX Q8 Q9 Ra:V->Prop}(h1:∀v,Kf v->Q8 v)(h2:∀v,Kb v->Q9 v)(h3:∀v,KX v->Ra v)(h:nz P g ds Kf Kb KX):nz P g ds Q8 Q9 Ra:=by
 rcases h with⟨rs,a,b|⟨b,c⟩⟩|⟨x,a,b,c⟩|⟨v,a,b⟩
 ·exact .inl ⟨rs,a, .inl (h1 _ b)⟩
 ·exact .inl ⟨rs,a, .inr ⟨b,h2 _ c⟩⟩
 ·exact .inr (.inl ⟨x,a,b,h3 _ c⟩)
 ·exact .inr (.inr ⟨v,a,h1 _ b⟩)
theorem wL{s:S}{fr:Nat}{o:bK}{K K':KD}{X X':XD}(hK:∀v Δ r,K v Δ r->K' v Δ r)(hX:∀v w r,X v w r->X' v w r)(h:A6 P K X fr o s):sL P s fr o K' X':=by
 unfold A6 at h
 split at h
 ·rename_i f args yM
  obtain⟨c,h1,h2,h3⟩:=sc yM
  subst h3
  unfold sL
  simp only[h1,h2]
  unfold ud m4 at h
  split at h
  ·rename_i g first cap hf
   simp only[hf]
   split at h
   ·rename_i ds dA
    simp only[dA]
    refine h.elim (fun h=> .inl ?_) (fun h=> .inr (fw.mono hK hX h))
    refine nz.mono (fun v h=> ?_) (fun v h=> ?_) (fun v h=> ?_) h<;>(rw[h1]at h)
    ·exact hK _ _ _ h
    ·exact hK _ _ _ h
    ·exact hX _ _ _ h
   ·rename_i dA
    simp only[dA]
    exact fw.mono hK hX h
  ·exact h.elim
 ·rename_i yM
  obtain⟨v,Δ,rd,he,h⟩:=yg h
  unfold sL
  split
  ·rename_i c hc
   split
   ·rename_i f hf
    exact absurd yM (by simp[ec,hc,hf])
   ·simp only[he];exact hK _ _ _ h
  ·simp only[he];exact hK _ _ _ h
theorem uf{s:S}{fr:Nat}{o:bK}{K K':KD}{X X':XD}(hK:∀v Δ r,K v Δ r->K' v Δ r)(hX:∀v w r,X v w r->X' v w r)(h:sL P s fr o K X):sL P s fr o K' X':=by
 unfold sL at h|-
 split at h
 ·rename_i c hc
  rw[hc]at h|-
  split at h
  ·rename_i f hf
   (try simp only[hf])
   split at h
   ·rename_i oN
    (try simp only[oN])
    split at h
    ·exact h.elim (fun h=> .inl (nz.mono (fun v h=>hK _ _ _ h) (fun v h=>hK _ _ _ h) (fun v h=>hX _ _ _ h) h)) (fun h=> .inr (fw.mono hK hX h))
    ·exact fw.mono hK hX h
   ·exact h.elim
  ·rename_i hf
   split at h
   ·rename_i he
    (try simp only[he])
    exact hK _ _ _ h
   ·exact h.elim
 ·split at h
  ·rename_i he
   (try simp only[he]);exact hK _ _ _ h
  ·exact h.elim
theorem fP{KB Rb:List Nat->Fp->Prop}{pr:List (List Nat)}(hK:∀l fp,KB l fp->Rb l fp):∀ (l:List bK) (fr:Nat) (s:S) (fp:Fp) (bad ws:List Nat),e8 P KB pr l fr s fp bad ws->e8 P Rb pr l fr s fp bad ws
 |[],_,_,_,_,_,h=>hK _ _ h
 |o::l,fr,s,fp,bad,ws,h=>by
  unfold e8 at h|-
  split
  ·rename_i hb
   rw[if_pos hb]at h
   exact fP hK l _ _ _ _ _ h
  ·rename_i hb
   rw[if_neg hb]at h
   split at h
   ·exact uf (fun v Δ r h=>fP hK l _ _ _ _ _ h) (fun _ _ _ h=>h) h
   ·split at h
    ·split at h
     ·rename_i e;simp only[e,if_true]
      exact uf (fun v Δ r h=>fP hK l _ _ _ _ _ h) (fun _ _ _ h=>h) h
     ·rename_i e;simp only[e,if_false]
      exact fP hK l _ _ _ _ _ h
    ·exact fP hK l _ _ _ _ _ h
    ·exact h.elim
theorem iy{K K':S->Fp->Prop}{KP OA:V->List Nat->Fp->Prop}{pr:List (List Nat)}(hK:∀s fp,K s fp->K' s fp)(hP:∀v l fp,KP v l fp->OA v l fp):∀ (l:List bK) (fr:Nat) (s:S) (fp:Fp),mh P K KP pr l fr s fp->gW P K' OA pr l fr s fp
 |[],_,_,_,h=>hK _ _ h
 |o::l,fr,s,fp,h=>by
  have hB:∀v ws (OB:List Nat),yf P (KP v) pr l (fr+1) (fp++[(OB,[])]) [fp.length] (ws++fp.flatMap (·.2)) ⟨aO s.env o.dst .ak,s.o,s.nx⟩->
   e8 P (OA v) pr l (fr+1) ⟨aO s.env o.dst .ak,s.o,s.nx⟩ (fp++[(OB,[])]) [fp.length] (ws++fp.flatMap (·.2)):=fun v ws OB h=>fP (fun a b h=>hP v a b h) l _ _ _ _ _ h
  unfold mh at h
  unfold gW
  split at h
  ·rename_i hg
   (try simp only[hg])
   exact wL (fun v Δ r h=>iy hK hP l _ _ _ h) hB h
  ·rename_i d want hg
   (try simp only[hg])
   generalize s.env d=v at h
   unfold gr at h
   split at h
   ·rename_i bb
    by_cases e:bb=want
    ·subst e
     simp only[if_true]
     exact wL (fun v Δ r h=>iy hK hP l _ _ _ h) hB (h.1 (by simp))
    ·simp only[if_neg e]
     exact iy hK hP l _ _ _ (h.2 (by simpa using e))
   ·exact iy hK hP l _ _ _ h
   ·exact h.elim
theorem ed:∀ (c:IC) (Q Q':fq->S->Prop) (s:S),(∀e s,Q e s->Q' e s)->mi P n b rd c Q s->n5 P n b rd c Q' s
 | .skip,_,_,_,hQ,h=>hQ _ _ h
 | .ab l,_,_,_,hQ,h=>qQ (fun s h=>hQ _ _ h) (fun v s h=>hQ _ _ h) l _ h
 | .ck l pr,_,_,_,hQ,h=> .inl (iy (fun s fp h=>⟨h.1,hQ _ _ h.2⟩) (fun v l fp h=>⟨h.1,hQ _ _ h.2⟩) l _ _ _ h)
 | .seq x y,Q,Q',s,hQ,h=>ed x _ _ s (fun e s h=>by
  unfold l3 at h|-
  cases e with
  |normal=>exact ed y _ _ s hQ h
  |_=>exact hQ _ _ h) h
 | .cond c x y,Q,Q',s,hQ,h=>by
   unfold mi qO fC at h
   unfold n5
   split at h
   ·rename_i t ht
    simp only[ht]
    exact⟨fun e=>ed x _ _ s hQ (h.1 e),fun e=>ed y _ _ s hQ (h.2 e)⟩
   ·rename_i ht
    simp only[ht]
    exact⟨ed x _ _ s hQ h.1,ed y _ _ s hQ h.2⟩
   ·exact h.elim
 | .block id x,Q,Q',s,hQ,h=>ed x _ _ s (fun e s h=>by
  unfold dT at h|-
  cases e with
  |exit j=>
   simp only at h|-
   split
   ·rename_i e;rw[if_pos e]at h;exact hQ _ _ h
   ·rename_i e;rw[if_neg e]at h;exact hQ _ _ h
  |_=>exact hQ _ _ h) h
 | .loop x,Q,Q',s,hQ,h=>by
   obtain⟨ι,st,eH,lj,i0,h0,hle,h2⟩:=h
   refine⟨fun m s=>∃i,eH i/\lj i=m/\s=st i,⟨lj i0,st i0,hle,i0,h0,rfl,rfl⟩, ?_⟩
   rintro m s0 ⟨i,hg,rfl,rfl⟩
   refine ed x _ _ _ (fun e s h=> ?_) (h2 i hg)
   cases e with
   |normal=>
    obtain⟨j,k1,k2,k3⟩:=h
    exact⟨lj j,st j,k2,k3,j,k1,rfl,rfl⟩
   |_=>exact hQ _ _ h
 | .exit id,_,_,_,hQ,h=>hQ _ _ h
 | .ret,_,_,_,hQ,h=>hQ _ _ h
 | .xo g ps x y,_,_,_,hQ,h=>⟨h.1,qN hQ h.2⟩
 | .bad,_,_,_,_,h=>h.elim
end
theorem bJ.bg {P:Program}(aS:P.follows .mixedOrders=true){f:FuncId}{n:Nat}{ic:IC}{rs:List ResultVar}{ds:List D}{out:R}(hf:ao P f n ic rs)(hl:ds.length<=n)
 (h:mi P n 0 false ic (vk P rs out) ⟨b9 (ds.map .d),fun _=> .no,0⟩):bJ P f ds out:=
 bJ.pf aS hf hl (ed ic _ _ _ (fun _ _ h=>h) h)
def zS(P:Program)(rs:List ResultVar)(K X:V->(Nat->aa)->Nat->Prop)(e:fq)(s:S):Prop:=iX P rs K X e s
theorem ft.bg {P:Program}(aS:P.follows .mixedOrders=true){f:FuncId}{n:Nat}{ic:IC}{rs:List ResultVar}{args:List V}{o:Nat->aa}{nx:Nat}{K X:V->(Nat->aa)->Nat->Prop}(hf:ao P f n ic rs)(hl:args.length<=n)
 (h:mi P n nx false ic (zS P rs K X) ⟨b9 args,o,nx⟩):ft P f args o nx K X:=
 ft.pf aS hf hl (ed ic _ _ _ (fun _ _ h=>h) h)
section
variable {P:Program}{g:FuncId}{ds:List D}{o:Nat->aa}{nx:Nat}{K X:V->(Nat->aa)->Nat->Prop}{all:List V}
theorem ae{rs:List D}(h:bJ P g ds (.ret rs))(hf:D.gf rs=true)(hk:K (gh rs) o (nx+1)):pg P g o nx K X ds all:= .inl ⟨.ret rs,h, .inr (.inl ⟨hf,hk⟩)⟩
theorem br{rs:List D}(h:bJ P g ds (.ret rs))(hk:K (gh rs) (put o (cn o (V.aR all))) (nx+1)):pg P g o nx K X ds all:= .inl ⟨.ret rs,h, .inl hk⟩
theorem yh(h:ft P g all o nx K X):pg P g o nx K X ds all:= .inr (.inl h)
theorem jM{e:Nat->V}{ds:Option (List D)}(h:ft P g all o nx K X):jL P g K X ⟨e,o,nx⟩ all ds:=by
 cases ds with
 |some ds=>exact(.inr (.inl h):pg P g o nx K X ds all)
 |none=>exact(.inl h:ub P g nx K X all o)
theorem dc(h:ft P g all o nx K X):ub P g nx K X all o:= .inl h
variable {K:KD}{X:XD}{rd:List Nat}{fr:Nat}
theorem ej{rs:List D}(h:bJ P g ds (.ret rs))(hf:D.gf rs=true)(hk:K (gh rs) [] rd):ph P g K X o nx fr rd ds all:= .inl (.inl ⟨rs,h, .inr ⟨hf,hk⟩⟩)
theorem pn{rs:List D}(h:bJ P g ds (.ret rs))(hk:K (gh rs) (cn o (V.aR all)) rd):ph P g K X o nx fr rd ds all:= .inl (.inl ⟨rs,h, .inl hk⟩)
end
theorem nB{P:Program}{f:V}{args:List V}{o:Nat->aa}{K:V->Prop}{c:Bool}(rs:List D)(h:ji c (ua P f args o rs))(hk:K (V.r8 c (gh rs))):wH P f args o K c:=⟨rs,h,hk⟩
theorem aH{t:Bool}{A B:Prop}(h:t=true->A)(h2:t=false->B):fC A B t:=⟨h,h2⟩
theorem cc{pr:List (List Nat)}{nx:Nat}{Q:fq->S->Prop}{s:S}{fp:List (List Nat×List Nat)}(h:iK pr fp=true)(h2:Q .normal ⟨s.env,s.o,nx⟩):BH pr nx Q s fp:=⟨h,h2⟩
@[go_sem] theorem Hv (o:Nat->aa):put o []=o:=rfl
@[go_sem] theorem yi (o:Nat->aa) (x:Nat×aa) (l:List (Nat×aa)):put o (x::l)=put (aQ o x.1 x.2) l:=rfl
@[go_sem] theorem aG {α:Type} (f:Nat->α) (i:Nat) (x:α):aQ f i x i=x:=by simp
@[go_sem] theorem ay {α:Type} (f:Nat->α) (i j:Nat) (x:α) (h:j≠i):aQ f i x j=f j:=by simp[h]
@[go_sem] theorem BJ (v:V) (l:List V):b9 (v::l) 0=v:=rfl
@[go_sem] theorem BK (v:V) (l:List V) (i:Nat):b9 (v::l) (i+1)=b9 l i:=rfl
@[go_sem] theorem Dl (i:Nat):b9 [] i= .bQ []:=by simp[b9]
@[go_sem] theorem FW {P:Program} {o:Nat->aa} {t:TypeId} {id off:Nat}:jG P o t (.ptr id off)=match o id with
 | .row cs=>match dD P t cs off with
   |some v=>some (v,[],[id])
   |none=>none
 |_=>none:=by unfold jG;exact Eq.trans rfl rfl
@[go_sem] theorem Hw {P:Program} {o:Nat->aa} {t:TypeId} {cs:List D} {off:Nat}:jG P o t (.pp cs off)=match dD P t (cs.map .d) off with
 |some v=>some (v,[],[])
 |none=>none:=by unfold jG;exact Eq.trans rfl rfl
@[go_sem] theorem Hx {P:Program} {o:Nat->aa} {t:TypeId} {id ep i sz off:Nat}:jG P o t (.pe id ep i sz off)=match o id with
 | .arr eR _ kB es=>if ep=eR/\sz=kB then match es[i]? with
  |some e=>match dD P t (e.cells.map .d) off with
   |some v=>some (v,[],[id])
   |none=>none
  |none=>none
   else none
 |_=>none:=by unfold jG;exact Eq.trans rfl rfl
section
variable {P:Program}{o:Nat->aa}{t:TypeId}{op:BinOp}{kT:Bool}
@[go_sem] theorem FX {k:IntKind} {a b:Int}:cz P o op t kT (.d (.int k a)) (.d (.int k b))=match tH op k a b with
 |some v=>one v
 |none=>mP P o op t kT (.d (.int k a)) (.d (.int k b)):=by
  simp only[cz,rL,if_true]
  cases tH op k a b<;>rfl
@[go_sem] theorem FY {a b:Bool} (h:aD P t=true):cz P o .eql t kT (.d (.bool a)) (.d (.bool b))=one (.d (.bool (a==b))):=by simp only[cz,rL,zx,h,if_true]
@[go_sem] theorem FZ {a b:Bool} (h:aD P t=true):cz P o .neq t kT (.d (.bool a)) (.d (.bool b))=one (.d (.bool (a !=b))):=by simp only[cz,rL,zx,h,if_true]
@[go_sem] theorem F0 {a b:List UInt8}:cz P o .eql t kT (.d (.str a)) (.d (.str b))=one (.d (.bool (a==b))):=by unfold cz;exact Eq.trans rfl rfl
@[go_sem] theorem F1 {a b:List UInt8}:cz P o .neq t kT (.d (.str a)) (.d (.str b))=one (.d (.bool (a !=b))):=by unfold cz;exact Eq.trans rfl rfl
@[go_sem] theorem F2 {a b:List D}:cz P o op t kT (.d (.agg a)) (.d (.agg b))=mP P o op t kT (.d (.agg a)) (.d (.agg b)):=by unfold cz;exact Eq.trans rfl rfl
theorem mj{x:V}{y:V}(h:match y with| .d (.int _ _)| .d (.bool _)| .d (.str _)=>False|_=>True):rL P op t x y=none:=by
 unfold rL
 split<;>first|exact h.elim|rfl
@[go_sem] theorem Er {x:V}:cz P o op t kT x .aM=mP P o op t kT x .aM:=by unfold cz;rw[mj trivial]
@[go_sem] theorem Es {x:V}:cz P o op t kT x (.d .dI)=mP P o op t kT x (.d .dI):=by unfold cz;rw[mj trivial]
@[go_sem] theorem Et {x:V}:cz P o op t kT x (.d .gO)=mP P o op t kT x (.d .gO):=by unfold cz;rw[mj trivial]
@[go_sem] theorem Eu {x:V}:cz P o op t kT x (.d .aF)=mP P o op t kT x (.d .aF):=by unfold cz;rw[mj trivial]
@[go_sem] theorem Ev {x:V}:cz P o op t kT x (.d .dr)=mP P o op t kT x (.d .dr):=by unfold cz;rw[mj trivial]
@[go_sem] theorem Hy {b:Bool}:tI .not (.d (.bool b))=some (.d (.bool !b)):=by unfold tI;exact Eq.trans rfl rfl
@[go_sem] theorem Hz:tI .not .dB=some .dB:=by unfold tI;exact Eq.trans rfl rfl
@[go_sem] theorem HA {k:IntKind} {n:Int}:tI .neg (.d (.int k n))=some (.d (.int k (k.wrap (-n)))):=by unfold tI;exact Eq.trans rfl rfl
end
@[go_sem] theorem D.F3 (cs:List D):(D.agg cs).cells=cs:=rfl
@[go_sem] theorem D.F4 (k:IntKind) (n:Int):(D.int k n).cells=[.int k n]:=rfl
@[go_sem] theorem D.Ew (b:Bool):(D.bool b).cells=[.bool b]:=rfl
@[go_sem] theorem D.F5 (b:List UInt8):(D.str b).cells=[.str b]:=rfl
@[go_sem] theorem D.HB (b:List D):(D.sl b).cells=[.sl b]:=rfl
@[go_sem] theorem D.HC (a b:List D):(D.mp a b).cells=[.mp a b]:=rfl
@[go_sem] theorem D.Dm (t:TypeId) (x:D):(D.iface t x).cells=[.iface t x]:=rfl
@[go_sem] theorem D.Ex:D.dI.cells=[.dI]:=rfl
@[go_sem] theorem D.Ey:D.gO.cells=[.gO]:=rfl
@[go_sem] theorem D.Ez:D.aF.cells=[.aF]:=rfl
@[go_sem] theorem D.EA:D.dr.cells=[.dr]:=rfl
attribute [go_sem] V.ofConst V.cH tH zx ma vr qE kM eY eZ mX eA iY mb mc me rM fM zy iT dn bG dD rk ng dC V.cells D.put cn V.ids V.aR gh D.gf D.flat R.flat
attribute [go_sem] u3 List.take_succ_cons List.take_zero List.take_nil List.drop_zero List.drop_succ_cons List.drop_nil
attribute [go_sem] List.map_cons List.map_nil List.length_cons List.length_nil List.cons_append List.nil_append List.append_nil List.getElem?_cons_zero List.getElem?_cons_succ Option.bind_some Option.bind_none Option.map_some Option.map_none aa.bp aa.aP
section
variable {P:Program}{n b:Nat}{rd:Bool}{Q:fq->S->Prop}{s:S}
@[go_sem] theorem HD:mi P n b rd .skip Q s=Q .normal s:=propext Iff.rfl
@[go_sem] theorem Ni {l:List bK}:mi P n b rd (.ab l) Q s=nT P (fun v s=>Q (.bf v) s) (Q .normal) l s:=propext Iff.rfl
@[go_sem] theorem Nj {l:List bK} {pr:List (List Nat)}:mi P n b rd (.ck l pr) Q s=mh P (BH pr (s.nx+l.length) Q) (tW pr l s Q) pr l s.nx s []:=propext Iff.rfl
@[go_sem] theorem Nk {x y:IC}:mi P n b rd (.seq x y) Q s=mi P n b rd x (l3 (fun s=>mi P n b rd y Q s) Q) s:=propext Iff.rfl
@[go_sem] theorem HE {c:Operand} {x y:IC}:mi P n b rd (.cond c x y) Q s=qO (mi P n b rd x Q s) (mi P n b rd y Q s) (s.ev c):=propext Iff.rfl
@[go_sem] theorem F6 {id:Nat} {x:IC}:mi P n b rd (.block id x) Q s=mi P n b rd x (dT id Q) s:=propext Iff.rfl
@[go_sem] theorem HG {x:IC}:mi P n b rd (.loop x) Q s=wK b (fun Q s=>mi P n b rd x Q s) Q s:=propext Iff.rfl
@[go_sem] theorem HH {id:Nat}:mi P n b rd (.exit id) Q s=Q (.exit id) s:=propext Iff.rfl
@[go_sem] theorem Nl:mi P n b rd .ret Q s=Q .ret s:=propext Iff.rfl
@[go_sem] theorem Nm {g:Operand} {ps:List Nat} {x y:IC}:mi P n b rd (.xo g ps x y) Q s=Eo P n rd ps x y Q s (s.ev g):=propext Iff.rfl
@[go_sem] theorem HI {X:V->S->Prop} {K:S->Prop}:nT P X K [] s=K s:=propext Iff.rfl
@[go_sem] theorem F7 {X:V->S->Prop} {K:S->Prop} {d:Option Nat} {op:Op} {l:List bK}:nT P X K (⟨d,op,none⟩::l) s=uZ P X (nT P X K l) ⟨d,op,none⟩ s:=propext Iff.rfl
@[go_sem] theorem F8 {X:V->S->Prop} {K:S->Prop} {d:Option Nat} {op:Op} {g:Nat} {w:Bool} {l:List bK}:nT P X K (⟨d,op,some (g,w)⟩::l) s=r9 P X (nT P X K l) ⟨d,op,some (g,w)⟩ s (jj (s.env g) w):=propext Iff.rfl
variable {X:V->S->Prop}{K:S->Prop}{d:Option Nat}{op:Op}{g:Option (Nat×Bool)}{f:Operand}{args:Array Operand}{ts:Array TypeId}{c:Bool}
@[reducible] def F9:Op->Bool
  | .call c=>match c.callee with
    | .value _=>true
    | .invoke .. =>true
    |_=>false
  | .panic _=>true
  | .next .. =>true
  |_=>false
@[go_sem] theorem OC (h:F9 op=false):uZ P X K ⟨d,op,g⟩ s=gM (fun v Δ=>K ⟨aO s.env d v,put s.o Δ,s.nx+1⟩) (eG P s s.nx op):=by
  unfold uZ
  cases op with
  |call c=>
   obtain⟨zj,args,ts⟩:=c
   cases zj with
   |value f=>simp[F9]at h
   |invoke r m=>simp[F9]at h
   |_=>rfl
  |panic x=>simp[F9]at h
  |next x str=>simp[F9]at h
  |_=>rfl
@[go_sem] theorem HJ {x:Operand} {str:Bool}:uZ P X K ⟨d, .next x str,g⟩ s=zP (fun v Δ=>K ⟨aO s.env d v,put s.o Δ,s.nx+1⟩) str (kI s.o (s.ev x) str) (kJ s.o (s.ev x)):=propext Iff.rfl
@[go_sem] theorem HK:uZ P X K ⟨d, .call ⟨.value f,args,ts⟩,g⟩ s=nA P (fun v o' nx'=>K ⟨aO s.env d v,o',nx'⟩) (fun v o' nx'=>X v ⟨s.env,o',nx'⟩) s (s.ev f) (args.toList.map s.ev):=propext Iff.rfl
@[go_sem] theorem EB {m:String}:uZ P X K ⟨d, .call ⟨.invoke f m,args,ts⟩,g⟩ s=zO P (fun v o' nx'=>K ⟨aO s.env d v,o',nx'⟩) (fun v o' nx'=>X v ⟨s.env,o',nx'⟩) s (args.toList.map s.ev) (oL P m (s.ev f)):=propext Iff.rfl
@[go_sem] theorem Ga:uZ P X K ⟨d, .panic f,g⟩ s=yd (fun v=>X v s) (s.ev f):=propext Iff.rfl
@[go_sem] theorem Gb:r9 P X K ⟨d, .call ⟨.value f,args,ts⟩,g⟩ s (some c)=ye P X K ⟨d, .call ⟨.value f,args,ts⟩,g⟩ s f args.toList c:=propext Iff.rfl
theorem pq{e:Nat->V}{ob:Nat->aa}{nx:Nat}(h:wH P ((⟨e,ob,nx⟩:S).ev f) (args.toList.map (⟨e,ob,nx⟩:S).ev) ob (fun v=>K ⟨aO e d v,ob,nx+1⟩) c):ye P X K ⟨d,op,g⟩ ⟨e,ob,nx⟩ f args.toList c:= .inl h
@[go_sem] theorem Gc (h:gY op=true):r9 P X K ⟨d,op,g⟩ s (some c)=gM (fun v _=>K ⟨aO s.env d v,s.o,s.nx+1⟩) (gX c (eG P s s.nx op)):=by
  have h2:ec op=none:=by
   cases hc:ec op with
   |none=>rfl
   |some x=>
    exfalso
    unfold ec at hc
    split at hc
    ·split at hc
     ·rename_i hv;simp[gY,hv]at h
     ·cases hc
    ·cases hc
  simp only[r9,h2,h,if_true]
@[go_sem] theorem Gd (h:gY op=false) (h2:ec op=none):r9 P X K ⟨d,op,g⟩ s (some c)=fC (uZ P X K ⟨d,op,g⟩ s) (K ⟨aO s.env d (.bQ []),s.o,s.nx+1⟩) c:=by
  simp[r9,h2,h]
@[go_sem] theorem EC {l:List Operand}:ye P X K ⟨d,op,g⟩ s f l false=K ⟨aO s.env d (.bQ []),s.o,s.nx+1⟩:=by
  refine propext ⟨fun h=> ?_,fun h=> .inr ⟨(fun e=>by cases e),fun _=>h⟩⟩
  rcases h with⟨rs,_,h⟩|h
  ·exact h
  ·exact h.2 rfl
@[go_sem] theorem Ge {l:List Operand} (hl:args.toList=l):ye P X K ⟨d, .call ⟨.value f,args,ts⟩,g⟩ s f l true=uZ P X K ⟨d, .call ⟨.value f,args,ts⟩,g⟩ s:=by
  subst hl
  refine propext ⟨fun h=> ?_,fun h=> .inr ⟨fun _=>h,(fun e=>by cases e)⟩⟩
  rcases h with⟨rs,h1,h⟩|h
  ·have h1:=h1 rfl
   unfold ua at h1
   unfold uZ nA jL
   simp only
   split at h1
   ·rename_i fv gg first cap hf
    simp only[hf]
    split at h1
    ·rename_i ds dA
     simp only[dA]
     exact .inl ⟨.ret rs,h1.1, .inr (.inl ⟨h1.2,h⟩)⟩
    ·exact h1.elim
   ·exact h1.elim
  ·exact h.1 rfl
variable {KV:KD}{XV:XD}
@[go_sem] theorem HL {fr:Nat}:A6 P KV XV fr ⟨d, .call ⟨.value f,args,ts⟩,g⟩ s=ud P KV XV s.o s.nx fr (fO s (.call ⟨.value f,args,ts⟩)) (s.ev f) (args.toList.map s.ev):=propext Iff.rfl
@[go_sem] theorem OD {fr:Nat} (h2:ec op=none):A6 P KV XV fr ⟨d,op,g⟩ s=pj KV (fO s op) (eG P s fr op):=by simp[A6,h2]
variable {KS:S->Prop}
@[go_sem ↓] theorem BL:l3 KS Q .normal s=KS s:=propext Iff.rfl
@[go_sem ↓] theorem ED {id:Nat}:l3 KS Q (.exit id) s=Q (.exit id) s:=propext Iff.rfl
@[go_sem ↓] theorem Gf:l3 KS Q .ret s=Q .ret s:=propext Iff.rfl
@[go_sem ↓] theorem Gg {v:V}:l3 KS Q (.bf v) s=Q (.bf v) s:=propext Iff.rfl
@[go_sem ↓] theorem A7 {id:Nat}:dT id Q .normal s=Q .normal s:=propext Iff.rfl
@[go_sem ↓] theorem Dn {id:Nat}:dT id Q (.exit id) s=Q .normal s:=by simp[dT]
@[go_sem ↓] theorem BM {id j:Nat} (h:j≠id):dT id Q (.exit j) s=Q (.exit j) s:=by simp[dT,h]
@[go_sem ↓] theorem EE {id:Nat}:dT id Q .ret s=Q .ret s:=propext Iff.rfl
@[go_sem ↓] theorem EF {id:Nat} {v:V}:dT id Q (.bf v) s=Q (.bf v) s:=propext Iff.rfl
def BN(out:R)(x:Option (List D)):Prop:=match x with|some ds=>out= .ret ds|none=>False
@[go_sem] theorem Gh {out:R} {ds:List D}:BN out (some ds)=(out= .ret ds):=propext Iff.rfl
def EG(out:R)(x:Option D):Prop:=match x with|some d=>out= .bf d|none=>False
@[go_sem] theorem Gi {out:R} {d:D}:EG out (some d)=(out= .bf d):=propext Iff.rfl
def BO(out:R)(o:Nat->aa)(x:Option (List V)):Prop:=match x with|some vs=>BN out (bG o vs)|none=>False
@[go_sem] theorem Gj {out:R} {o:Nat->aa} {vs:List V}:BO out o (some vs)=BN out (bG o vs):=propext Iff.rfl
variable {rs:List ResultVar}{out:R}
@[go_sem ↓] theorem Gk:vk P rs out .ret s=BO out s.o (iT P s rs):=propext Iff.rfl
@[go_sem ↓] theorem BP:vk P rs out .normal s=BO out s.o (iT P s rs):=propext Iff.rfl
@[go_sem ↓] theorem Gl {v:V}:vk P rs out (.bf v) s=EG out (dn s.o v):=propext Iff.rfl
def ug(K:V->(Nat->aa)->Nat->Prop)(o:Nat->aa)(nx:Nat)(x:Fix (Option (List V)) (K,o,nx)):Prop:=match x with
 |some [v]=>K v o nx
 |some vs=>K (.bQ vs) o nx
 |none=>False
@[go_sem] theorem HM {K:V->(Nat->aa)->Nat->Prop} {o:Nat->aa} {nx:Nat} {v:V}:ug K o nx (some [v])=K v o nx:=propext Iff.rfl
@[go_sem] theorem HN {K:V->(Nat->aa)->Nat->Prop} {o:Nat->aa} {nx:Nat}:ug K o nx (some [])=K (.bQ []) o nx:=propext Iff.rfl
@[go_sem] theorem HO {K:V->(Nat->aa)->Nat->Prop} {o:Nat->aa} {nx:Nat} {v u:V} {l:List V}:ug K o nx (some (v::u::l))=K (.bQ (v::u::l)) o nx:=propext Iff.rfl
theorem wM{K X:V->(Nat->aa)->Nat->Prop}:iX P rs K X .ret s=ug K s.o s.nx (iT P s rs):=by
 unfold iX ug
 cases iT P s rs with
 |none=>rfl
 |some l=>match l with
  |[]=>rfl
  |[_]=>rfl
  |_::_::_=>rfl
@[go_sem ↓] theorem HP {K X:V->(Nat->aa)->Nat->Prop}:zS P rs K X .ret s=ug K s.o s.nx (iT P s rs):=wM
@[go_sem ↓] theorem Dp {K X:V->(Nat->aa)->Nat->Prop}:zS P rs K X .normal s=ug K s.o s.nx (iT P s rs):=(wM (X:=X):iX P rs K X .ret s=_)
@[go_sem ↓] theorem HQ {K X:V->(Nat->aa)->Nat->Prop} {v:V}:zS P rs K X (.bf v) s=X v s.o s.nx:=propext Iff.rfl
variable {KE:S->Fp->Prop}{KP:V->List Nat->Fp->Prop}{pr:List (List Nat)}{fr:Nat}{fp:Fp}
@[go_sem] theorem HS:mh P KE KP pr [] fr s fp=KE s fp:=propext Iff.rfl
@[go_sem] theorem Gm {d:Option Nat} {op:Op} {l:List bK}:mh P KE KP pr (⟨d,op,none⟩::l) fr s fp=
 A6 P (fun v Δ rd=>mh P KE KP pr l (fr+1) ⟨aO s.env d v,put s.o Δ,s.nx⟩ (fp++[(rd,Δ.map (·.1))]))
  (fun v ws rd=>yf P (KP v) pr l (fr+1) (fp++[(rd,[])]) [fp.length] (ws++fp.flatMap (·.2)) ⟨aO s.env d .ak,s.o,s.nx⟩) fr ⟨d,op,none⟩ s:=propext Iff.rfl
@[go_sem] theorem Gn {d:Option Nat} {op:Op} {g:Nat} {w:Bool} {l:List bK}:mh P KE KP pr (⟨d,op,some (g,w)⟩::l) fr s fp=
 gr w (A6 P (fun v Δ rd=>mh P KE KP pr l (fr+1) ⟨aO s.env d v,put s.o Δ,s.nx⟩ (fp++[(rd,Δ.map (·.1))]))
  (fun v ws rd=>yf P (KP v) pr l (fr+1) (fp++[(rd,[])]) [fp.length] (ws++fp.flatMap (·.2)) ⟨aO s.env d .ak,s.o,s.nx⟩) fr ⟨d,op,some (g,w)⟩ s)
   (mh P KE KP pr l (fr+1) ⟨aO s.env d (.bQ []),s.o,s.nx⟩ (fp++[([],[])])) (s.env g):=propext Iff.rfl
end
attribute [go_sem] F9 ec gY eG one iZ aO S.ev ua
theorem aW{ι:Type}{b:Nat}{st:ι->S}{eH:ι->Prop}{lj:ι->Nat}{i:ι}{s:S}(j:ι)(h1:eH j)(h2:lj j<lj i)(h3:cR b s (st j)):wJ b st eH lj i s:=⟨j,h1,h2,h3⟩
attribute [irreducible] mi nT uZ r9 ye nA jL uc zN zO wH pg ub gM yd fC gr zQ ph sa m4 ud pj A6 mh yf Eo wI zS ug BH qO wK BN EG BO pk wJ
end Go.Proofs.YtpkobkdgcanmjaaGreat
